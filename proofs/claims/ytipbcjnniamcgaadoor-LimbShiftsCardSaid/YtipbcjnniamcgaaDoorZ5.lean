/- The texts Lk Ll Lm Se Sf Va Vb Ne Vc Vd Al12 Ve Al4 Sh Al11 Vf Nc Vg Si Al10 Al8 Vh Re Rf Rg Ri Rj Rk Rl Rm Rn Ro Io FwW Rp Rq Rr Rs Ta Ua Ub Nd Tb Al14 Tc Al13 Vi, joined. -/
import Derived.Test.YtipbcjnniamcgaaDoorZ4
/- What package limb computes: shifts. -/
namespace Go.Proofs.YtipbcjnniamcgaaDoor.Fw
set_option linter.unusedSimpArgs false
set_option linter.unusedVariables false
open Go Go.Proofs.YtipbcjnniamcgaaDoor.Ma
set_option maxRecDepth 20000

theorem lz_fn {x : Nat} (hx : x < 4294967296) : PFn Tryd.prog 91 [.int .u32 (x : Int)] (.int .i64 ((32 - blen x : Nat) : Int)) := by
  intro H Q hq
  have hb : blen x ≤ 32 := blen_le.2 (by omega)
  refine enter91 (by simp) ?_
  simp (disch := first | assumption | (apply Ap.symm; assumption) | omega | decide | (simp only [U_len, List.length_append, List.length_replicate, List.length_cons, List.length_nil, List.length_set] <;> omega) | fail) only [ac91, ↓Xa, Xb, Xc, ↓reduceIte, Nat.reduceLT, Nat.reduceEqDiff, Nat.reduceBEq, Nat.reduceLeDiff, Nat.reduceAdd, Nat.reduceMul]
  refine (len32_fn hx).call ?_
  simp (disch := first | assumption | (apply Ap.symm; assumption) | omega | decide | (simp only [U_len, List.length_append, List.length_replicate, List.length_cons, List.length_nil, List.length_set] <;> omega) | fail) only [rs91, ↓Xa, Xb, Xc, ↓reduceIte, Nat.reduceLT, Nat.reduceEqDiff, Nat.reduceBEq, Nat.reduceLeDiff, Nat.reduceAdd, Nat.reduceMul]
  exact SetR.now hq

theorem shl_fn {a : List Nat} {s : Nat} (t : Bool) (ha : Lim 4294967296 a) (hs : s ≤ 65536) (hn : a.length ≤ 1099511627776) : PFn Tryd.prog 59 [LS a t, .int .i64 (s : Int)] (.tup [LS (digs 4294967296 (val 4294967296 a * 2 ^ s)) true, .int .i64 ((0 : Nat) : Int)]) := by
  intro H Q hq
  have hnl : ¬ 65536 < s := by omega
  refine enter59 (by simp) ?_
  simp (disch := first | assumption | (apply Ap.symm; assumption) | omega | decide | (simp only [U_len, List.length_append, List.length_replicate, List.length_cons, List.length_nil, List.length_set] <;> omega) | fail) only [ac59, lss_f, hnl, ne_eq, Nat.reduceEqDiff, ↓Xa, Xb, Xc, ↓reduceIte, Nat.reduceLT, Nat.reduceEqDiff, Nat.reduceBEq, Nat.reduceLeDiff, Nat.reduceAdd, Nat.reduceMul]
  refine newU_i fun o ho => ?_
  simp (disch := first | assumption | (apply Ap.symm; assumption) | omega | decide | (simp only [U_len, List.length_append, List.length_replicate, List.length_cons, List.length_nil, List.length_set] <;> omega) | fail) only [ne_eq, Nat.reduceEqDiff, ↓Xa, Xb, Xc, ↓reduceIte, Nat.reduceLT, Nat.reduceEqDiff, Nat.reduceBEq, Nat.reduceLeDiff, Nat.reduceAdd, Nat.reduceMul]
  have hr : s % 32 < 32 := Nat.mod_lt _ (by omega)
  have hse : 32 * (s / 32) + s % 32 = s := Nat.div_add_mod s 32
  generalize hq32 : s / 32 = q at *
  generalize hp32 : s % 32 = p at *
  refine W_loop (fun x : Nat × Nat × List Nat => ⟨[], [(1, .int .i64 s), (6, .own o (a.length + q + 1) 0 (a.length + q + 1) true), (7, .int .i64 p), (24, LS a t), (25, .int .i64 a.length), (26, .int .i64 x.1)],
      H.upd o (some (.row 45 1 (U (rowS q x.2.2 x.2.1 (a.length - x.1)))))⟩)
    (fun x => x.1 ≤ a.length ∧ ShlI a p x.1 x.2.1 x.2.2) (fun x => a.length - x.1) (0, 0, []) (Settle.now (by rw [Nat.sub_zero, rowS_zero, show q + (a.length + 1) = a.length + q + 1 by omega])) ⟨by simp, ShlI.zero a p⟩ ?_
  rintro ⟨i, c, done⟩ ⟨h1, h2⟩
  dsimp only at h1 h2 ⊢
  have hd := h2.1
  by_cases hi : i < a.length
  · have hx := ha.getD (by omega) i
    subst hd
    obtain ⟨k1, k2, k3⟩ := h2.step hr ha rfl
    have hc := h2.2.2.1
    obtain ⟨m, hm⟩ : ∃ m, a.length - done.length = m + 1 := ⟨a.length - done.length - 1, by omega⟩
    have hy : a.getD done.length 0 * 2 ^ p < 18446744073709551616 := by
      have : a.getD done.length 0 * 2 ^ p ≤ 4294967295 * 2 ^ 31 := Nat.mul_le_mul (by omega) (Nat.pow_le_pow_right (by omega) (by omega))
      omega
    have hp64 : p ≤ 64 := by omega
    have hpl : (2 : Nat) ^ p ≤ 2 ^ 31 := Nat.pow_le_pow_right (by omega) (by omega)
    have lo := or_low (m := a.getD done.length 0 * 2 ^ p % 4294967296) hc (shl_low hr)
    generalize hY : a.getD done.length 0 * 2 ^ p = y at *
    have len1 : ∀ c, (rowS q done c (m + 1)).length = a.length + q + 1 := fun c => by rw [rowS_len]; omega
    have len2 := len1 c
    have len3 := len1 (c + y % 4294967296)
    have or1 : ∀ K, binW .or (.int .u32 (c : Int)) (.int .u32 ((y % 4294967296 : Nat) : Int)) K ↔ K (.int .u32 ((c + y % 4294967296 : Nat) : Int)) := fun K => by
      rw [bin_or .u32 (by simp only [IntKind.bits]; omega) (by simp only [IntKind.bits]; omega), lo, wn_u32 k1]
    have or2 : ∀ K, binW .or (.int .u32 ((0 : Nat) : Int)) (.int .u32 ((y / 2 ^ 32 : Nat) : Int)) K ↔ K (.int .u32 ((y / 2 ^ 32 : Nat) : Int)) := fun K => by
      rw [bin_or .u32 (by simp [IntKind.bits]) (by simp only [IntKind.bits]; omega), Nat.zero_or, wn_u32 (by omega)]
    rw [hm]
    simp (disch := first | assumption | (apply Ap.symm; assumption) | omega | decide | (simp only [U_len, List.length_append, List.length_replicate, List.length_cons, List.length_nil, List.length_set] <;> omega) | fail) only [hi, hq32, hp32, hY, bin_shl64, rowS_get, rowS_set, rowS_get1, rowS_set1, or1, or2, ne_eq, Nat.reduceEqDiff, ↓Xa, Xb, Xc, ↓reduceIte, Nat.reduceLT, Nat.reduceEqDiff, Nat.reduceBEq, Nat.reduceLeDiff, Nat.reduceAdd, Nat.reduceMul]
    refine Settle.now ⟨(done.length + 1, _, _), by dsimp only; omega, ⟨by dsimp only; omega, k3⟩, ?_⟩
    rw [show a.length - (done.length + 1) = m by omega]
  · obtain rfl : i = a.length := by omega
    simp (disch := first | assumption | (apply Ap.symm; assumption) | omega | decide | (simp only [U_len, List.length_append, List.length_replicate, List.length_cons, List.length_nil, List.length_set] <;> omega) | fail) only [hi, Nat.sub_self, ↓Xa, Xb, Xc, ↓reduceIte, Nat.reduceLT, Nat.reduceEqDiff, Nat.reduceBEq, Nat.reduceLeDiff, Nat.reduceAdd, Nat.reduceMul]
    refine Settle.now ?_
    have len0 : (rowS q done c 0).length = a.length + q + 1 := by rw [rowS_len]; omega
    simp (disch := first | assumption | (apply Ap.symm; assumption) | omega | decide | (simp only [U_len, List.length_append, List.length_replicate, List.length_cons, List.length_nil, List.length_set] <;> omega) | fail) only [↓Xa, Xb, Xc, ↓reduceIte, Nat.reduceLT, Nat.reduceEqDiff, Nat.reduceBEq, Nat.reduceLeDiff, Nat.reduceAdd, Nat.reduceMul]
    refine trim_call (upd_same _ _ _) len0 ?_
    simp (disch := first | assumption | (apply Ap.symm; assumption) | omega | decide | (simp only [U_len, List.length_append, List.length_replicate, List.length_cons, List.length_nil, List.length_set] <;> omega) | fail) only [rs59, ↓Xa, Xb, Xc, ↓reduceIte, Nat.reduceLT, Nat.reduceEqDiff, Nat.reduceBEq, Nat.reduceLeDiff, Nat.reduceAdd, Nat.reduceMul]
    have e := h2.end (q := q) hr
    rw [hse] at e
    exact fin_tr2 ho len0 (by rw [e]; exact hq)

theorem shr_fn {a : List Nat} {s : Nat} (t : Bool) (ha : Lim 4294967296 a) (hs : s < 9223372036854775808) (hn : a.length ≤ 1099511627776) : PFn Tryd.prog 60 [LS a t, .int .i64 (s : Int)] (.tup [LS (digs 4294967296 (val 4294967296 a / 2 ^ s)) true, .int .i64 ((0 : Nat) : Int)]) := by
  intro H Q hq
  refine enter60 (by simp) ?_
  simp (disch := first | assumption | (apply Ap.symm; assumption) | omega | decide | (simp only [U_len, List.length_append, List.length_replicate, List.length_cons, List.length_nil, List.length_set] <;> omega) | fail) only [ac60, lss_f, ne_eq, Nat.reduceEqDiff, ↓Xa, Xb, Xc, ↓reduceIte, Nat.reduceLT, Nat.reduceEqDiff, Nat.reduceBEq, Nat.reduceLeDiff, Nat.reduceAdd, Nat.reduceMul]
  refine (trim_fn a t).call ?_
  have ht := tr_len a
  rw [tr_digs (by omega) ha] at ht ⊢
  generalize val 4294967296 a = N at *
  have hse : 32 * (s / 32) + s % 32 = s := Nat.div_add_mod s 32
  have hr : s % 32 < 32 := Nat.mod_lt _ (by omega)
  have hsq : s / 32 < 9223372036854775808 := by omega
  generalize hq32 : s / 32 = q at *
  generalize hp32 : s % 32 = p at *
  have hN := val_digs (B := 4294967296) (by omega) N
  have hX := lim_digs (B := 4294967296) (by omega) N
  have hpow : (2 : Nat) ^ s = 4294967296 ^ q * 2 ^ p := by rw [← hse, Nat.pow_add, Nat.pow_mul]
  by_cases hql : (digs 4294967296 N).length ≤ q
  · simp (disch := first | assumption | (apply Ap.symm; assumption) | omega | decide | (simp only [U_len, List.length_append, List.length_replicate, List.length_cons, List.length_nil, List.length_set] <;> omega) | fail) only [hq32, hql, ne_eq, Nat.reduceEqDiff, rs60, ↓Xa, Xb, Xc, ↓reduceIte, Nat.reduceLT, Nat.reduceEqDiff, Nat.reduceBEq, Nat.reduceLeDiff, Nat.reduceAdd, Nat.reduceMul]
    have h0 : N / 2 ^ s = 0 := by
      apply Nat.div_eq_of_lt
      have h1 := val_lt hX
      rw [hN] at h1
      have h2 : (4294967296 : Nat) ^ (digs 4294967296 N).length ≤ 4294967296 ^ q := Nat.pow_le_pow_right (by omega) hql
      have h3 : 4294967296 ^ q * 1 ≤ 4294967296 ^ q * 2 ^ p := Nat.mul_le_mul_left _ (Nat.pow_pos (by omega))
      omega
    rw [h0, digs_zero] at hq
    exact SetR.now hq
  · have hvd := val_drop_div (B := 4294967296) (by omega) hX (q := q) (by omega)
    rw [hN] at hvd
    have hXd := hX.drop q
    have hdl : ((digs 4294967296 N).drop q).length ≤ a.length := by rw [List.length_drop]; omega
    simp (disch := first | assumption | (apply Ap.symm; assumption) | omega | decide | (simp only [U_len, List.length_append, List.length_replicate, List.length_cons, List.length_nil, List.length_set] <;> omega) | fail) only [hq32, hql, ne_eq, Nat.reduceEqDiff, ↓Xa, Xb, Xc, ↓reduceIte, Nat.reduceLT, Nat.reduceEqDiff, Nat.reduceBEq, Nat.reduceLeDiff, Nat.reduceAdd, Nat.reduceMul]
    generalize (digs 4294967296 N).drop q = x at *
    simp (disch := first | assumption | (apply Ap.symm; assumption) | omega | decide | (simp only [U_len, List.length_append, List.length_replicate, List.length_cons, List.length_nil, List.length_set] <;> omega) | fail) only [hq32, hp32, ne_eq, Nat.reduceEqDiff, ↓Xa, Xb, Xc, ↓reduceIte, Nat.reduceLT, Nat.reduceEqDiff, Nat.reduceBEq, Nat.reduceLeDiff, Nat.reduceAdd, Nat.reduceMul]
    refine newU_i fun o ho => ?_
    simp (disch := first | assumption | (apply Ap.symm; assumption) | omega | decide | (simp only [U_len, List.length_append, List.length_replicate, List.length_cons, List.length_nil, List.length_set] <;> omega) | fail) only [↓Xa, Xb, Xc, ↓reduceIte, Nat.reduceLT, Nat.reduceEqDiff, Nat.reduceBEq, Nat.reduceLeDiff, Nat.reduceAdd, Nat.reduceMul]
    refine W_loop (fun z : Nat × List Nat => ⟨[], [(0, LS x true), (6, .int .i64 p), (7, .own o x.length 0 x.length true), (29, LS x true), (30, .int .i64 x.length), (31, .int .i64 z.1)],
        H.upd o (some (.row 45 1 (U (z.2 ++ List.replicate (x.length - z.1) 0))))⟩)
      (fun z => z.1 ≤ x.length ∧ ShrI (val 4294967296 x) p z.1 z.2) (fun z => x.length - z.1) (0, []) (Settle.now rfl) ⟨by simp, rfl, Lim.nil _, by simp [val, Nat.mod_one]⟩ ?_
    rintro ⟨i, done⟩ ⟨h1, h2⟩
    dsimp only at h1 h2 ⊢
    have hd := h2.1
    by_cases hi : i < x.length
    · have hx0 := hXd.getD (by omega) i
      have hx1 := hXd.getD (by omega) (i + 1)
      have hp64 : p ≤ 64 := by omega
      by_cases hj : i + 1 < x.length
      · have hyb : (x.getD i 0 + x.getD (i + 1) 0 * 2 ^ 32) / 2 ^ p < 18446744073709551616 := Nat.lt_of_le_of_lt (Nat.div_le_self _ _) (by omega)
        simp (disch := first | assumption | (apply Ap.symm; assumption) | omega | decide | (simp only [U_len, List.length_append, List.length_replicate, List.length_cons, List.length_nil, List.length_set] <;> omega) | fail) only [hi, hj, ↓Xa, Xb, Xc, ↓reduceIte, Nat.reduceLT, Nat.reduceEqDiff, Nat.reduceBEq, Nat.reduceLeDiff, Nat.reduceAdd, Nat.reduceMul]
        refine Settle.now ⟨(i + 1, done ++ [_]), by dsimp only; omega, ⟨by dsimp only; omega, h2.step hr hXd hi rfl⟩, ?_⟩
        rw [set_zeros' _ _ _ _ hd hi]
      · have h0 := getD_beyond (show x.length ≤ i + 1 by omega)
        have e0 : x.getD i 0 / 2 ^ p < 18446744073709551616 := Nat.lt_of_le_of_lt (Nat.div_le_self _ _) (by omega)
        simp (disch := first | assumption | (apply Ap.symm; assumption) | omega | decide | (simp only [U_len, List.length_append, List.length_replicate, List.length_cons, List.length_nil, List.length_set] <;> omega) | fail) only [hi, hj, ↓Xa, Xb, Xc, ↓reduceIte, Nat.reduceLT, Nat.reduceEqDiff, Nat.reduceBEq, Nat.reduceLeDiff, Nat.reduceAdd, Nat.reduceMul]
        refine Settle.now ⟨(i + 1, done ++ [_]), by dsimp only; omega, ⟨by dsimp only; omega, h2.step hr hXd hi (y := x.getD i 0) (by rw [h0]; omega)⟩, ?_⟩
        rw [set_zeros' _ _ _ _ hd hi]
    · obtain rfl : i = x.length := by omega
      simp (disch := first | assumption | (apply Ap.symm; assumption) | omega | decide | (simp only [U_len, List.length_append, List.length_replicate, List.length_cons, List.length_nil, List.length_set] <;> omega) | fail) only [hi, Nat.sub_self, List.replicate_zero, ↓Xa, Xb, Xc, ↓reduceIte, Nat.reduceLT, Nat.reduceEqDiff, Nat.reduceBEq, Nat.reduceLeDiff, Nat.reduceAdd, Nat.reduceMul]
      refine Settle.now ?_
      simp (disch := first | assumption | (apply Ap.symm; assumption) | omega | decide | (simp only [U_len, List.length_append, List.length_replicate, List.length_cons, List.length_nil, List.length_set] <;> omega) | fail) only [↓Xa, Xb, Xc, ↓reduceIte, Nat.reduceLT, Nat.reduceEqDiff, Nat.reduceBEq, Nat.reduceLeDiff, Nat.reduceAdd, Nat.reduceMul]
      refine trim_call (upd_same _ _ _) hd ?_
      simp (disch := first | assumption | (apply Ap.symm; assumption) | omega | decide | (simp only [U_len, List.length_append, List.length_replicate, List.length_cons, List.length_nil, List.length_set] <;> omega) | fail) only [rs60, ↓Xa, Xb, Xc, ↓reduceIte, Nat.reduceLT, Nat.reduceEqDiff, Nat.reduceBEq, Nat.reduceLeDiff, Nat.reduceAdd, Nat.reduceMul]
      refine fin_tr2 ho hd ?_
      rw [h2.end hXd, hvd, Nat.div_div_eq_div_mul, ← hpow]; exact hq
end Go.Proofs.YtipbcjnniamcgaaDoor.Fw

/- What package limb computes: a quotient's digit. -/
namespace Go.Proofs.YtipbcjnniamcgaaDoor.Fw
set_option linter.unusedSimpArgs false
set_option linter.unusedVariables false
open Go Go.Proofs.YtipbcjnniamcgaaDoor.Ma
set_option maxRecDepth 20000

section
variable {H : AHeap} {b ty off L n : Nat} {ti : Bool} {pre u post : List Nat}
theorem less_run {v : List Nat} {t : Nat} (tv : Bool) {Q : AV → AHeap → Prop} (hH : H b = some (.row ty 1 (U (pre ++ (u ++ post))))) (hL : L = pre.length + (u.length + post.length)) (ho : off = pre.length) (hn : n = u.length)
    (hu : Lim 4294967296 u) (hv : Lim 4294967296 v) (ht : t < 4294967296) (hvu : v.length < u.length) (hul : L ≤ 2199023255552)
    (hq : ∀ (w : List Nat) (bo : Nat), w.length = u.length → Lim 4294967296 w → bo ≤ 1 → val 4294967296 u + 4294967296 ^ u.length * bo = val 4294967296 w + t * val 4294967296 v → Q (.bool (decide (0 < bo))) (H.upd b (some (.row ty 1 (U (pre ++ (w ++ post))))))) :
    Run Tryd.prog 114 [.own b L off n ti, LS v tv, .int .u64 (t : Int)] H Q := by
  subst hL; subst ho; subst hn
  refine enter114 (by simp) ?_
  simp (disch := first | assumption | (apply Ap.symm; assumption) | omega | decide | (simp only [U_len, List.length_append, List.length_replicate, List.length_cons, List.length_nil, List.length_set] <;> omega) | fail) only [ac114, ↓Xa, Xb, Xc, ↓reduceIte, Nat.reduceLT, Nat.reduceEqDiff, Nat.reduceBEq, Nat.reduceLeDiff, Nat.reduceAdd, Nat.reduceMul]
  refine W_loop (fun s : Nat × Nat × Nat × List Nat => ⟨[], [(0, .own b (pre.length + (u.length + post.length)) pre.length u.length ti), (1, LS v tv), (2, .int .u64 t), (7, .int .u64 s.2.1), (8, .int .u64 s.2.2.1), (12, .int .i64 u.length), (13, .int .i64 s.1)],
      H.upd b (some (.row ty 1 (U (pre ++ ((s.2.2.2 ++ u.drop s.1) ++ post)))))⟩)
    (fun s => s.1 ≤ u.length ∧ LessI u v t s.1 s.2.1 s.2.2.1 s.2.2.2) (fun s => u.length - s.1) (0, 0, 0, []) (Settle.now (by simp [upd_back _ hH])) ⟨by simp, LessI.zero u v t⟩ ?_
  rintro ⟨i, c, bo, done⟩ ⟨h1, h2⟩
  dsimp only at h1 h2 ⊢
  have hd := h2.1
  have hc := h2.2.2.1
  have hbo := h2.2.2.2.1
  by_cases hi : i < u.length
  · have hx := hu.getD (by omega) i
    have hy := hv.getD (by omega) i
    have hm : v.getD i 0 * t ≤ 4294967295 * 4294967295 := Nat.mul_le_mul (by omega) (by omega)
    have hcl : (done ++ u.drop i).length = u.length := by simp [hd]; omega
    have len1 : (pre ++ ((done ++ u.drop i) ++ post)).length = pre.length + (u.length + post.length) := by simp only [List.length_append, hd, List.length_drop]; omega
    have g1 : (pre ++ ((done ++ u.drop i) ++ post)).getD (pre.length + i) 0 = u.getD i 0 := by rw [mid_get (by omega), part_get hd hi]
    have s1 : ∀ x, (pre ++ ((done ++ u.drop i) ++ post)).set (pre.length + i) x = pre ++ (((done ++ [x]) ++ u.drop (i + 1)) ++ post) := fun x => by rw [mid_set (by omega), part_set hd hi]
    generalize hrow : pre ++ ((done ++ u.drop i) ++ post) = row at *
    by_cases hj : i < v.length
    · simp (disch := first | assumption | (apply Ap.symm; assumption) | omega | decide | (simp only [U_len, List.length_append, List.length_replicate, List.length_cons, List.length_nil, List.length_set] <;> omega) | fail) only [hi, hj, g1, ↓Xa, Xb, Xc, ↓reduceIte, Nat.reduceLT, Nat.reduceEqDiff, Nat.reduceBEq, Nat.reduceLeDiff, Nat.reduceAdd, Nat.reduceMul]
      rw [s1]
      refine Settle.now ⟨(i + 1, _, _, _), by dsimp only; omega, ⟨by dsimp only; omega, h2.step hu hv ht rfl rfl⟩, rfl⟩
    · have h0 := getD_beyond (show v.length ≤ i by omega)
      simp (disch := first | assumption | (apply Ap.symm; assumption) | omega | decide | (simp only [U_len, List.length_append, List.length_replicate, List.length_cons, List.length_nil, List.length_set] <;> omega) | fail) only [hi, hj, g1, ↓Xa, Xb, Xc, ↓reduceIte, Nat.reduceLT, Nat.reduceEqDiff, Nat.reduceBEq, Nat.reduceLeDiff, Nat.reduceAdd, Nat.reduceMul]
      rw [s1]
      refine Settle.now ⟨(i + 1, _, _, _), by dsimp only; omega, ⟨by dsimp only; omega, h2.step hu hv ht (c1 := c) (by rw [h0]; omega) rfl⟩, rfl⟩
  · obtain rfl : i = u.length := by omega
    simp (disch := first | assumption | (apply Ap.symm; assumption) | omega | decide | (simp only [U_len, List.length_append, List.length_replicate, List.length_cons, List.length_nil, List.length_set] <;> omega) | fail) only [hi, ↓Xa, Xb, Xc, ↓reduceIte, Nat.reduceLT, Nat.reduceEqDiff, Nat.reduceBEq, Nat.reduceLeDiff, Nat.reduceAdd, Nat.reduceMul]
    refine Settle.now ?_
    simp (disch := first | assumption | (apply Ap.symm; assumption) | omega | decide | (simp only [U_len, List.length_append, List.length_replicate, List.length_cons, List.length_nil, List.length_set] <;> omega) | fail) only [rs114, ↓Xa, Xb, Xc, ↓reduceIte, Nat.reduceLT, Nat.reduceEqDiff, Nat.reduceBEq, Nat.reduceLeDiff, Nat.reduceAdd, Nat.reduceMul]
    refine SetR.now ?_
    rw [List.drop_of_length_le (Nat.le_refl _), List.append_nil]
    exact hq done bo hd h2.2.1 hbo (h2.end hvu)

def scC : ACode → ACode
  | .scope0 c => c
  | x => x
theorem digit_run {v : List Nat} {m : Nat} (tv : Bool) {Q : AV → AHeap → Prop} (h : DigI u v m) (hH : H b = some (.row ty 1 (U (pre ++ (u ++ post))))) (hL : L = pre.length + (u.length + post.length)) (ho : off = pre.length) (hn : n = u.length) (hul : L ≤ 2199023255552)
    (hq : ∀ (w : List Nat), w.length = u.length → Lim 4294967296 w → val 4294967296 w = val 4294967296 u % val 4294967296 v → Q (.int .u32 ((val 4294967296 u / val 4294967296 v : Nat) : Int)) (H.upd b (some (.row ty 1 (U (pre ++ (w ++ post))))))) :
    Run Tryd.prog 92 [.own b L off n ti, LS v tv] H Q := by
  subst hL; subst ho; subst hn
  have hlu := h.hu
  have hlv := h.hv
  have hq1 := h.q_lt
  have hl := h.lims
  have htop := h.top
  have hqm : val 4294967296 u / val 4294967296 v * val 4294967296 v + val 4294967296 u % val 4294967296 v = val 4294967296 u := Nat.div_add_mod' _ _
  have hml := Nat.mod_lt (val 4294967296 u) h.vpos
  have hvl := val_lt h.lu
  refine enter92 (by simp) ?_
  have fin : ∀ g, val 4294967296 u / val 4294967296 v ≤ g → g ≤ val 4294967296 u / val 4294967296 v + 1 → g < 4294967296 → W Tryd.prog (sndC (sndC (sndC (sndC (sndC (scC (sndC ac92))))))) (scopeA (retN rs92 Q)) ⟨[], [(0, .own b (pre.length + (u.length + post.length)) pre.length u.length ti), (1, LS v tv), (5, .int .i64 v.length), (7, .int .u64 g)], H⟩ := by
    intro g g1 g2 g3
    simp (disch := first | assumption | (apply Ap.symm; assumption) | omega | decide | (simp only [U_len, List.length_append, List.length_replicate, List.length_cons, List.length_nil, List.length_set] <;> omega) | fail) only [ac92, sndC, scC, ↓Xa, Xb, Xc, ↓reduceIte, Nat.reduceLT, Nat.reduceEqDiff, Nat.reduceBEq, Nat.reduceLeDiff, Nat.reduceAdd, Nat.reduceMul]
    refine run_call (less_run tv hH rfl rfl rfl h.lu h.lv g3 (by omega) hul fun w bo hw1 hw2 hb e => ?_)
    have hwl := val_lt hw2
    rw [hw1] at hwl
    generalize val 4294967296 u / val 4294967296 v = q at *
    have hgv : g = q ∨ g = q + 1 := by omega
    have hgm : g * val 4294967296 v = q * val 4294967296 v ∨ g * val 4294967296 v = q * val 4294967296 v + val 4294967296 v := by
      rcases hgv with e | e
      · left; rw [e]
      · right; rw [e, Nat.add_mul, Nat.one_mul]
    have hbc : bo = 0 ∨ bo = 1 := by omega
    rcases hbc with rfl | rfl
    · have hg : g = q := by
        rcases hgv with e1 | e1
        · exact e1
        · rw [e1, Nat.add_mul, Nat.one_mul] at e; omega
      simp (disch := first | assumption | (apply Ap.symm; assumption) | omega | decide | (simp only [U_len, List.length_append, List.length_replicate, List.length_cons, List.length_nil, List.length_set] <;> omega) | fail) only [rs92, ↓Xa, Xb, Xc, ↓reduceIte, Nat.reduceLT, Nat.reduceEqDiff, Nat.reduceBEq, Nat.reduceLeDiff, Nat.reduceAdd, Nat.reduceMul]
      refine SetR.now ?_
      rw [hg]
      exact hq w hw1 hw2 (by rw [hg] at e; omega)
    · have hg : g = q + 1 := by
        rcases hgv with e1 | e1
        · rw [e1] at e; omega
        · exact e1
      subst hg
      simp (disch := first | assumption | (apply Ap.symm; assumption) | omega | decide | (simp only [U_len, List.length_append, List.length_replicate, List.length_cons, List.length_nil, List.length_set] <;> omega) | fail) only [↓Xa, Xb, Xc, ↓reduceIte, Nat.reduceLT, Nat.reduceEqDiff, Nat.reduceBEq, Nat.reduceLeDiff, Nat.reduceAdd, Nat.reduceMul]
      refine W_loop (fun s : Nat × Nat × List Nat => ⟨[], [(0, .own b (pre.length + (u.length + post.length)) pre.length u.length ti), (1, LS v tv), (5, .int .i64 v.length), (7, .int .u64 q), (9, .int .u64 s.2.1), (88, .int .i64 u.length), (89, .int .i64 s.1)],
          H.upd b (some (.row ty 1 (U (pre ++ ((s.2.2 ++ w.drop s.1) ++ post)))))⟩)
        (fun s => s.1 ≤ u.length ∧ AddI w v s.1 s.2.1 s.2.2) (fun s => u.length - s.1) (0, 0, []) (Settle.now rfl) ⟨by simp, AddI.zero w v⟩ ?_
      rintro ⟨i, c, done⟩ ⟨h1, h2⟩
      dsimp only at h1 h2 ⊢
      have hd := h2.1
      have hc := h2.2.2.1
      by_cases hi : i < u.length
      · have hiw : i < w.length := by omega
        have hx := hw2.getD (by omega) i
        have hy := h.lv.getD (by omega) i
        have len1 : (pre ++ ((done ++ w.drop i) ++ post)).length = pre.length + (u.length + post.length) := by simp only [List.length_append, hd, List.length_drop]; omega
        have hcl : i < (done ++ w.drop i).length := by simp only [List.length_append, hd, List.length_drop]; omega
        have g1 : (pre ++ ((done ++ w.drop i) ++ post)).getD (pre.length + i) 0 = w.getD i 0 := by rw [mid_get hcl, part_get hd hiw]
        have s1 : ∀ x, (pre ++ ((done ++ w.drop i) ++ post)).set (pre.length + i) x = pre ++ (((done ++ [x]) ++ w.drop (i + 1)) ++ post) := fun x => by rw [mid_set hcl, part_set hd hiw]
        generalize hrow : pre ++ ((done ++ w.drop i) ++ post) = row at *
        by_cases hj : i < v.length
        · simp (disch := first | assumption | (apply Ap.symm; assumption) | omega | decide | (simp only [U_len, List.length_append, List.length_replicate, List.length_cons, List.length_nil, List.length_set] <;> omega) | fail) only [hi, hj, g1, ↓Xa, Xb, Xc, ↓reduceIte, Nat.reduceLT, Nat.reduceEqDiff, Nat.reduceBEq, Nat.reduceLeDiff, Nat.reduceAdd, Nat.reduceMul]
          rw [s1]
          refine Settle.now ⟨(i + 1, _, _), by dsimp only; omega, ⟨by dsimp only; omega, h2.step hw2 h.lv rfl⟩, rfl⟩
        · have h0 := getD_beyond (show v.length ≤ i by omega)
          simp (disch := first | assumption | (apply Ap.symm; assumption) | omega | decide | (simp only [U_len, List.length_append, List.length_replicate, List.length_cons, List.length_nil, List.length_set] <;> omega) | fail) only [hi, hj, g1, ↓Xa, Xb, Xc, ↓reduceIte, Nat.reduceLT, Nat.reduceEqDiff, Nat.reduceBEq, Nat.reduceLeDiff, Nat.reduceAdd, Nat.reduceMul]
          rw [s1]
          refine Settle.now ⟨(i + 1, _, _), by dsimp only; omega, ⟨by dsimp only; omega, h2.step hw2 h.lv (s := c + w.getD i 0) (by omega)⟩, rfl⟩
      · obtain rfl : i = u.length := by omega
        simp (disch := first | assumption | (apply Ap.symm; assumption) | omega | decide | (simp only [U_len, List.length_append, List.length_replicate, List.length_cons, List.length_nil, List.length_set] <;> omega) | fail) only [hi, ↓Xa, Xb, Xc, ↓reduceIte, Nat.reduceLT, Nat.reduceEqDiff, Nat.reduceBEq, Nat.reduceLeDiff, Nat.reduceAdd, Nat.reduceMul]
        refine Settle.now ?_
        simp (disch := first | assumption | (apply Ap.symm; assumption) | omega | decide | (simp only [U_len, List.length_append, List.length_replicate, List.length_cons, List.length_nil, List.length_set] <;> omega) | fail) only [rs92, ↓Xa, Xb, Xc, ↓reduceIte, Nat.reduceLT, Nat.reduceEqDiff, Nat.reduceBEq, Nat.reduceLeDiff, Nat.reduceAdd, Nat.reduceMul]
        refine SetR.now ?_
        rw [List.drop_of_length_le (by omega), List.append_nil]
        refine hq done hd h2.2.1 ?_
        have e2 := h2.2.2.2
        rw [List.take_of_length_le (by omega), List.take_of_length_le (by omega)] at e2
        have hdl := val_lt h2.2.1
        rw [hd] at hdl
        rw [Nat.add_mul, Nat.one_mul] at e
        have hcc : c = 0 ∨ c = 1 := by omega
        rcases hcc with rfl | rfl <;> omega
  have gl : ∀ i, i < u.length → (pre ++ (u ++ post)).getD (pre.length + i) 0 = u.getD i 0 := fun i hi => mid_get hi
  have hul2 : (pre ++ (u ++ post)).length = pre.length + (u.length + post.length) := by simp
  have g1 := gl (m + 2) (by omega)
  have g2 := gl (m + 1) (by omega)
  have g3 := gl m (by omega)
  have e1 : m + 2 - 1 = m + 1 := by omega
  have e2 : m + 2 - 2 = m := by omega
  have hst := h.start
  have hU2 : U2 u m = u.getD (m + 2) 0 * 2 ^ 32 + u.getD (m + 1) 0 := rfl
  have hne : (v.getD (m + 1) 0 = 0) = False := eq_false (by omega)
  have hrl : U2 u m % v.getD (m + 1) 0 < v.getD (m + 1) 0 := Nat.mod_lt _ (by omega)
  have hgl : U2 u m / v.getD (m + 1) 0 < 18446744073709551616 := Nat.lt_of_le_of_lt (Nat.div_le_self _ _) (by rw [hU2]; omega)
  generalize hrow : pre ++ (u ++ post) = row at *
  simp (disch := first | assumption | (apply Ap.symm; assumption) | omega | decide | (simp only [U_len, List.length_append, List.length_replicate, List.length_cons, List.length_nil, List.length_set] <;> omega) | fail) only [ac92, hH, hlv, e1, e2, g1, g2, ← hU2, hne, ne_eq, ↓Xa, Xb, Xc, ↓reduceIte, Nat.reduceLT, Nat.reduceEqDiff, Nat.reduceBEq, Nat.reduceLeDiff, Nat.reduceAdd, Nat.reduceMul]
  simp only [hlv] at fin
  refine W_loop (fun s : Nat × Nat => ⟨[], [(0, .own b (pre.length + (u.length + post.length)) pre.length u.length ti), (1, LS v tv), (5, .int .i64 ((m + 2 : Nat) : Int)), (7, .int .u64 s.1), (8, .int .u64 s.2)], H⟩)
    (fun s => GuessI u v m s.1 s.2 ∧ s.2 < 4294967296) (fun s => s.1) (U2 u m / v.getD (m + 1) 0, U2 u m % v.getD (m + 1) 0) (Settle.now rfl) ⟨hst, by dsimp only; omega⟩ ?_
  rintro ⟨g, r⟩ ⟨hg, hr⟩
  dsimp only at hg hr ⊢
  have hgm := hg.2.2
  have next : (4294967296 ≤ g ∨ r * 2 ^ 32 + u.getD m 0 < g * v.getD m 0) → 0 < g ∧ GuessI u v m (g - 1) (r + v.getD (m + 1) 0) := fun hc => hg.step h hc
  have leave : (4294967296 ≤ g ∨ r * 2 ^ 32 + u.getD m 0 < g * v.getD m 0) → 4294967296 ≤ r + v.getD (m + 1) 0 → val 4294967296 u / val 4294967296 v ≤ g - 1 ∧ g - 1 ≤ val 4294967296 u / val 4294967296 v + 1 ∧ g - 1 < 4294967296 := fun hc hr' => by
    have h1 := next hc
    have h2 := h1.2.endB h hr' (by omega)
    have h3 := h1.2.2.1
    exact ⟨h3, by omega, Nat.lt_of_le_of_lt h2 hq1⟩
  by_cases hgB : 4294967296 ≤ g
  · have c1 : 0 < g / 2 ^ 32 := by omega
    have hp := (next (.inl hgB)).1
    by_cases hr' : 4294967296 ≤ r + v.getD (m + 1) 0
    · have c2 : 0 < (r + v.getD (m + 1) 0) / 2 ^ 32 := by omega
      obtain ⟨f1, f2, f3⟩ := leave (.inl hgB) hr'
      simp (disch := first | assumption | (apply Ap.symm; assumption) | omega | decide | (simp only [U_len, List.length_append, List.length_replicate, List.length_cons, List.length_nil, List.length_set] <;> omega) | fail) only [hH, e1, e2, g1, g2, g3, c1, c2, ↓Xa, Xb, Xc, ↓reduceIte, Nat.reduceLT, Nat.reduceEqDiff, Nat.reduceBEq, Nat.reduceLeDiff, Nat.reduceAdd, Nat.reduceMul]
      exact Settle.keep [0, 1, 5, 7] (fin (g - 1) f1 f2 f3)
    · have c2 : ¬ 0 < (r + v.getD (m + 1) 0) / 2 ^ 32 := by omega
      simp (disch := first | assumption | (apply Ap.symm; assumption) | omega | decide | (simp only [U_len, List.length_append, List.length_replicate, List.length_cons, List.length_nil, List.length_set] <;> omega) | fail) only [hH, e1, e2, g1, g2, g3, c1, c2, ↓Xa, Xb, Xc, ↓reduceIte, Nat.reduceLT, Nat.reduceEqDiff, Nat.reduceBEq, Nat.reduceLeDiff, Nat.reduceAdd, Nat.reduceMul]
      exact Settle.keep [0, 1, 5, 7, 8] ⟨(g - 1, r + v.getD (m + 1) 0), by dsimp only; omega, ⟨(next (.inl hgB)).2, by dsimp only; omega⟩, rfl⟩
  · have c1 : ¬ 0 < g / 2 ^ 32 := by omega
    have hm2 : g * v.getD m 0 ≤ 4294967295 * 4294967295 := Nat.mul_le_mul (by omega) (by omega)
    by_cases hc : r * 2 ^ 32 + u.getD m 0 < g * v.getD m 0
    · have hp := (next (.inr hc)).1
      by_cases hr' : 4294967296 ≤ r + v.getD (m + 1) 0
      · have c2 : 0 < (r + v.getD (m + 1) 0) / 2 ^ 32 := by omega
        obtain ⟨f1, f2, f3⟩ := leave (.inr hc) hr'
        simp (disch := first | assumption | (apply Ap.symm; assumption) | omega | decide | (simp only [U_len, List.length_append, List.length_replicate, List.length_cons, List.length_nil, List.length_set] <;> omega) | fail) only [hH, e1, e2, g1, g2, g3, c1, c2, hc, ↓Xa, Xb, Xc, ↓reduceIte, Nat.reduceLT, Nat.reduceEqDiff, Nat.reduceBEq, Nat.reduceLeDiff, Nat.reduceAdd, Nat.reduceMul]
        exact Settle.keep [0, 1, 5, 7] (fin (g - 1) f1 f2 f3)
      · have c2 : ¬ 0 < (r + v.getD (m + 1) 0) / 2 ^ 32 := by omega
        simp (disch := first | assumption | (apply Ap.symm; assumption) | omega | decide | (simp only [U_len, List.length_append, List.length_replicate, List.length_cons, List.length_nil, List.length_set] <;> omega) | fail) only [hH, e1, e2, g1, g2, g3, c1, c2, hc, ↓Xa, Xb, Xc, ↓reduceIte, Nat.reduceLT, Nat.reduceEqDiff, Nat.reduceBEq, Nat.reduceLeDiff, Nat.reduceAdd, Nat.reduceMul]
        exact Settle.keep [0, 1, 5, 7, 8] ⟨(g - 1, r + v.getD (m + 1) 0), by dsimp only; omega, ⟨(next (.inr hc)).2, by dsimp only; omega⟩, rfl⟩
    · simp (disch := first | assumption | (apply Ap.symm; assumption) | omega | decide | (simp only [U_len, List.length_append, List.length_replicate, List.length_cons, List.length_nil, List.length_set] <;> omega) | fail) only [hH, e1, e2, g1, g2, g3, c1, hc, ↓Xa, Xb, Xc, ↓reduceIte, Nat.reduceLT, Nat.reduceEqDiff, Nat.reduceBEq, Nat.reduceLeDiff, Nat.reduceAdd, Nat.reduceMul]
      exact Settle.keep [0, 1, 5, 7] (fin g hg.2.1 (hg.endA h (by omega) (by omega)) (by omega))
end
end Go.Proofs.YtipbcjnniamcgaaDoor.Fw

/- What package limb computes: quotients and remainders. -/
namespace Go.Proofs.YtipbcjnniamcgaaDoor.Fw
set_option linter.unusedSimpArgs false
set_option linter.unusedVariables false
open Go Go.Proofs.YtipbcjnniamcgaaDoor.Ma
set_option maxRecDepth 20000

theorem LS_0 (B : Nat) : AV.seq 0 [] true = LS (digs B 0) true := by rw [digs_zero]; rfl
theorem lss_cmp {m n : Nat} {K : AV → Prop} : binW .lss (.int .i64 (cmpZ m n)) (.int .i64 ((0 : Nat) : Int)) K ↔ K (.bool (decide (m < n))) := by
  have : (cmpZ m n < ((0 : Nat) : Int)) ↔ m < n := by unfold cmpZ; split <;> simp_all; split <;> omega
  simp only [binW, binInt, true_and, this]
theorem fin_trL {l x : List Nat} {b ty n : Nat} {t : Bool} {H : AHeap} {Q : AV → AHeap → Prop} {k : IntKind} {m : Int} (hb : H b = none) (hn : l.length = n) (hq : Q (.tup [LS (tr l) true, LS x t, .int k m]) H) : SetR Q (.tup [.own b n 0 (tr l).length true, LS x t, .int k m]) (H.upd b (some (.row ty 1 (U l)))) := by
  refine SetR.frz b (upd_same _ _ _) ?_
  rw [upd_upd, upd_back _ hb, frz, List.map_cons, List.map_cons, List.map_cons, List.map_nil, frz2_tr hn, frz2_int]
  exact SetR.now hq

theorem app_LS {H : AHeap} {ty n : Nat} {l m : List Nat} {t : Bool} {K : AV → AHeap → Prop} (hn : n = m.length) (hm : m ≠ []) (hb : l.length + m.length ≤ 17592186044416)
    (k : ∀ b, H b = none → K (.own b (l.length + m.length) 0 (l.length + m.length) false) (H.upd b (some (.row ty 1 (U (l ++ m)))))) : appV H ty 1 4 (LS l true) (.seq n (U m) t) K := by
  subst hn
  have hpos : 0 < m.length := List.length_pos_iff.2 hm
  refine .inl ⟨by simp, U_cell m, rfl, by simp, by omega, by omega, fun e => absurd e (by omega), fun _ b hb' => ?_⟩
  have := k b hb'
  rw [U_app] at this
  simpa using this
theorem divmod_lt {a b : List Nat} (ta tb : Bool) (ha : Lim 4294967296 a) (hb : Lim 4294967296 b) (h0 : 0 < val 4294967296 b) (hla : a.length ≤ 549755813888) (hlb : b.length ≤ 549755813888) (hlt : val 4294967296 a < val 4294967296 b) :
    PFn Tryd.prog 34 [LS a ta, LS b tb] (.tup [LS (digs 4294967296 (val 4294967296 a / val 4294967296 b)) true, LS (digs 4294967296 (val 4294967296 a % val 4294967296 b)) true, .int .i64 ((0 : Nat) : Int)]) := by
  intro H Q hq
  refine enter34 (by simp) ?_
  simp (disch := first | assumption | (apply Ap.symm; assumption) | omega | decide | (simp only [U_len, List.length_append, List.length_replicate, List.length_cons, List.length_nil, List.length_set] <;> omega) | fail) only [ac34, ↓Xa, Xb, Xc, ↓reduceIte, Nat.reduceLT, Nat.reduceEqDiff, Nat.reduceBEq, Nat.reduceLeDiff, Nat.reduceAdd, Nat.reduceMul]
  refine (trim_fn b tb).call ?_
  have htb := tr_len b
  rw [tr_digs (by omega) hb] at htb ⊢
  generalize val 4294967296 b = Bv at *
  have hY := lim_digs (B := 4294967296) (by omega) Bv
  have hYv := val_digs (B := 4294967296) (by omega) Bv
  have hYp : 0 < (digs 4294967296 Bv).length := by rw [digs_pos (by omega) h0]; simp
  generalize digs 4294967296 Bv = Y at *
  have hY0 : (Y.length = 0) = False := eq_false (by omega)
  simp (disch := first | assumption | (apply Ap.symm; assumption) | omega | decide | (simp only [U_len, List.length_append, List.length_replicate, List.length_cons, List.length_nil, List.length_set] <;> omega) | fail) only [hY0, ↓Xa, Xb, Xc, ↓reduceIte, Nat.reduceLT, Nat.reduceEqDiff, Nat.reduceBEq, Nat.reduceLeDiff, Nat.reduceAdd, Nat.reduceMul]
  refine (cmp_fn ta true ha hY).call ?_
  rw [hYv]
  simp (disch := first | assumption | (apply Ap.symm; assumption) | omega | decide | (simp only [U_len, List.length_append, List.length_replicate, List.length_cons, List.length_nil, List.length_set] <;> omega) | fail) only [lss_cmp, hlt, ↓Xa, Xb, Xc, ↓reduceIte, Nat.reduceLT, Nat.reduceEqDiff, Nat.reduceBEq, Nat.reduceLeDiff, Nat.reduceAdd, Nat.reduceMul]
  refine (norm_fn ta (by omega)).call ?_
  rw [tr_digs (by omega) ha]
  simp (disch := first | assumption | (apply Ap.symm; assumption) | omega | decide | (simp only [U_len, List.length_append, List.length_replicate, List.length_cons, List.length_nil, List.length_set] <;> omega) | fail) only [rs34, ↓Xa, Xb, Xc, ↓reduceIte, Nat.reduceLT, Nat.reduceEqDiff, Nat.reduceBEq, Nat.reduceLeDiff, Nat.reduceAdd, Nat.reduceMul]
  rw [Nat.div_eq_of_lt hlt, Nat.mod_eq_of_lt hlt, ← LS_0 4294967296] at hq
  exact SetR.now hq

theorem divmod_one {a b : List Nat} (ta tb : Bool) (ha : Lim 4294967296 a) (hb : Lim 4294967296 b) (h0 : 0 < val 4294967296 b) (hla : a.length ≤ 549755813888) (hlb : b.length ≤ 549755813888) (hlt : ¬ val 4294967296 a < val 4294967296 b) (h1 : (digs 4294967296 (val 4294967296 b)).length = 1) :
    PFn Tryd.prog 34 [LS a ta, LS b tb] (.tup [LS (digs 4294967296 (val 4294967296 a / val 4294967296 b)) true, LS (digs 4294967296 (val 4294967296 a % val 4294967296 b)) true, .int .i64 ((0 : Nat) : Int)]) := by
  intro H Q hq
  refine enter34 (by simp) ?_
  simp (disch := first | assumption | (apply Ap.symm; assumption) | omega | decide | (simp only [U_len, List.length_append, List.length_replicate, List.length_cons, List.length_nil, List.length_set] <;> omega) | fail) only [ac34, ↓Xa, Xb, Xc, ↓reduceIte, Nat.reduceLT, Nat.reduceEqDiff, Nat.reduceBEq, Nat.reduceLeDiff, Nat.reduceAdd, Nat.reduceMul]
  refine (trim_fn b tb).call ?_
  rw [tr_digs (by omega) hb]
  generalize val 4294967296 b = Bv at *
  have hY := lim_digs (B := 4294967296) (by omega) Bv
  have hYv := val_digs (B := 4294967296) (by omega) Bv
  generalize digs 4294967296 Bv = Y at *
  simp (disch := first | assumption | (apply Ap.symm; assumption) | omega | decide | (simp only [U_len, List.length_append, List.length_replicate, List.length_cons, List.length_nil, List.length_set] <;> omega) | fail) only [h1, ↓Xa, Xb, Xc, ↓reduceIte, Nat.reduceLT, Nat.reduceEqDiff, Nat.reduceBEq, Nat.reduceLeDiff, Nat.reduceAdd, Nat.reduceMul]
  refine (cmp_fn ta true ha hY).call ?_
  rw [hYv]
  have hd : val 4294967296 Y = Y.getD 0 0 := by
    have := val_take_all 4294967296 Y (0 + 1) (by omega)
    rw [← this, val_take]; simp [val]
  rw [hYv] at hd
  have hBl : Bv < 4294967296 := by rw [hd]; exact hY.getD (by omega) 0
  simp (disch := first | assumption | (apply Ap.symm; assumption) | omega | decide | (simp only [U_len, List.length_append, List.length_replicate, List.length_cons, List.length_nil, List.length_set] <;> omega) | fail) only [lss_cmp, hlt, h1, load_LS0, ← hd, ↓Xa, Xb, Xc, ↓reduceIte, Nat.reduceLT, Nat.reduceEqDiff, Nat.reduceBEq, Nat.reduceLeDiff, Nat.reduceAdd, Nat.reduceMul]
  refine (divsmall_fn ta ha h0 hBl (by omega)).call ?_
  simp (disch := first | assumption | (apply Ap.symm; assumption) | omega | decide | (simp only [U_len, List.length_append, List.length_replicate, List.length_cons, List.length_nil, List.length_set] <;> omega) | fail) only [↓Xa, Xb, Xc, ↓reduceIte, Nat.reduceLT, Nat.reduceEqDiff, Nat.reduceBEq, Nat.reduceLeDiff, Nat.reduceAdd, Nat.reduceMul]
  have hm : val 4294967296 a % Bv < 4294967296 := Nat.lt_trans (Nat.mod_lt _ h0) hBl
  refine (norm_fn (l := [val 4294967296 a % Bv]) true (by simp)).call ?_
  rw [tr_digs (by omega) (Lim.one hm), val_one]
  simp (disch := first | assumption | (apply Ap.symm; assumption) | omega | decide | (simp only [U_len, List.length_append, List.length_replicate, List.length_cons, List.length_nil, List.length_set] <;> omega) | fail) only [rs34, ↓Xa, Xb, Xc, ↓reduceIte, Nat.reduceLT, Nat.reduceEqDiff, Nat.reduceBEq, Nat.reduceLeDiff, Nat.reduceAdd, Nat.reduceMul]
  exact SetR.now hq

theorem divmod_many {a b : List Nat} (ta tb : Bool) (ha : Lim 4294967296 a) (hb : Lim 4294967296 b) (h0 : 0 < val 4294967296 b) (hla : a.length ≤ 549755813888) (hlb : b.length ≤ 549755813888) (hlt : ¬ val 4294967296 a < val 4294967296 b) (h1 : ¬ (digs 4294967296 (val 4294967296 b)).length = 1) :
    PFn Tryd.prog 34 [LS a ta, LS b tb] (.tup [LS (digs 4294967296 (val 4294967296 a / val 4294967296 b)) true, LS (digs 4294967296 (val 4294967296 a % val 4294967296 b)) true, .int .i64 ((0 : Nat) : Int)]) := by
  intro H Q hq
  refine enter34 (by simp) ?_
  simp (disch := first | assumption | (apply Ap.symm; assumption) | omega | decide | (simp only [U_len, List.length_append, List.length_replicate, List.length_cons, List.length_nil, List.length_set] <;> omega) | fail) only [ac34, ↓Xa, Xb, Xc, ↓reduceIte, Nat.reduceLT, Nat.reduceEqDiff, Nat.reduceBEq, Nat.reduceLeDiff, Nat.reduceAdd, Nat.reduceMul]
  refine (trim_fn b tb).call ?_
  have htb := tr_len b
  rw [tr_digs (by omega) hb] at htb ⊢
  generalize val 4294967296 b = Bv at *
  have hY := lim_digs (B := 4294967296) (by omega) Bv
  have hYv := val_digs (B := 4294967296) (by omega) Bv
  have hYp : 0 < (digs 4294967296 Bv).length := by rw [digs_pos (by omega) h0]; simp
  have hY0 : ((digs 4294967296 Bv).length = 0) = False := eq_false (by omega)
  simp (disch := first | assumption | (apply Ap.symm; assumption) | omega | decide | (simp only [U_len, List.length_append, List.length_replicate, List.length_cons, List.length_nil, List.length_set] <;> omega) | fail) only [hY0, ↓Xa, Xb, Xc, ↓reduceIte, Nat.reduceLT, Nat.reduceEqDiff, Nat.reduceBEq, Nat.reduceLeDiff, Nat.reduceAdd, Nat.reduceMul]
  refine (cmp_fn ta true ha hY).call ?_
  rw [hYv]
  -- many limbs
  have hn2 : 2 ≤ (digs 4294967296 Bv).length := by omega
  have htop := hY.getD (by omega) ((digs 4294967296 Bv).length - 1)
  have htl : blen ((digs 4294967296 Bv).getD ((digs 4294967296 Bv).length - 1) 0) ≤ 32 := blen_le.2 (by omega)
  simp (disch := first | assumption | (apply Ap.symm; assumption) | omega | decide | (simp only [U_len, List.length_append, List.length_replicate, List.length_cons, List.length_nil, List.length_set] <;> omega) | fail) only [lss_cmp, hlt, h1, ↓Xa, Xb, Xc, ↓reduceIte, Nat.reduceLT, Nat.reduceEqDiff, Nat.reduceBEq, Nat.reduceLeDiff, Nat.reduceAdd, Nat.reduceMul]
  refine (lz_fn htop).call ?_
  generalize hs : 32 - blen ((digs 4294967296 Bv).getD ((digs 4294967296 Bv).length - 1) 0) = s at *
  have hs32 : s ≤ 32 := by omega
  obtain ⟨w1, w2, w3⟩ := shifted h0 hs.symm
  simp (disch := first | assumption | (apply Ap.symm; assumption) | omega | decide | (simp only [U_len, List.length_append, List.length_replicate, List.length_cons, List.length_nil, List.length_set] <;> omega) | fail) only [↓Xa, Xb, Xc, ↓reduceIte, Nat.reduceLT, Nat.reduceEqDiff, Nat.reduceBEq, Nat.reduceLeDiff, Nat.reduceAdd, Nat.reduceMul]
  refine (shl_fn true hY (by omega) (by omega)).call ?_
  rw [hYv]
  simp (disch := first | assumption | (apply Ap.symm; assumption) | omega | decide | (simp only [U_len, List.length_append, List.length_replicate, List.length_cons, List.length_nil, List.length_set] <;> omega) | fail) only [↓Xa, Xb, Xc, ↓reduceIte, Nat.reduceLT, Nat.reduceEqDiff, Nat.reduceBEq, Nat.reduceLeDiff, Nat.reduceAdd, Nat.reduceMul]
  refine (shl_fn ta ha (by omega) (by omega)).call ?_
  have hV0 : 0 < Bv * 2 ^ s := Nat.mul_pos h0 (Nat.pow_pos (by omega))
  have hlv := lim_digs (B := 4294967296) (by omega) (Bv * 2 ^ s)
  have hvv := val_digs (B := 4294967296) (by omega) (Bv * 2 ^ s)
  have hlu := lim_digs (B := 4294967296) (by omega) (val 4294967296 a * 2 ^ s)
  have hvu := val_digs (B := 4294967296) (by omega) (val 4294967296 a * 2 ^ s)
  have hAB : Bv * 2 ^ s ≤ val 4294967296 a * 2 ^ s := Nat.mul_le_mul_right _ (by omega)
  have hll : (digs 4294967296 (Bv * 2 ^ s)).length ≤ (digs 4294967296 (val 4294967296 a * 2 ^ s)).length := by
    rcases Nat.lt_or_ge (digs 4294967296 (val 4294967296 a * 2 ^ s)).length (digs 4294967296 (Bv * 2 ^ s)).length with h | h
    · have := digs_lt_len (by omega) h; omega
    · exact h
  have hul : (digs 4294967296 (val 4294967296 a * 2 ^ s)).length ≤ a.length + 1 := digs_len (by omega) _ _ (by
    have h1 := val_lt ha
    have h2 : (2 : Nat) ^ s ≤ 2 ^ 32 := Nat.pow_le_pow_right (by omega) hs32
    rw [Nat.pow_succ]
    exact Nat.mul_lt_mul_of_lt_of_le h1 h2 (by omega))
  rw [w1] at hll
  have hdiv : val 4294967296 a * 2 ^ s / (Bv * 2 ^ s) = val 4294967296 a / Bv := Nat.mul_div_mul_right _ _ (Nat.pow_pos (by omega))
  have hmod : val 4294967296 a * 2 ^ s % (Bv * 2 ^ s) / 2 ^ s = val 4294967296 a % Bv := by
    rw [Nat.mul_mod_mul_right, Nat.mul_div_cancel _ (Nat.pow_pos (by omega))]
  generalize val 4294967296 a * 2 ^ s = T at *
  generalize Bv * 2 ^ s = V at *
  generalize digs 4294967296 V = v at *
  generalize hn : (digs 4294967296 Bv).length = n at *
  generalize digs 4294967296 T = u0 at *
  simp (disch := first | assumption | (apply Ap.symm; assumption) | omega | decide | (simp only [U_len, List.length_append, List.length_replicate, List.length_cons, List.length_nil, List.length_set] <;> omega) | fail) only [↓Xa, Xb, Xc, ↓reduceIte, Nat.reduceLT, Nat.reduceEqDiff, Nat.reduceBEq, Nat.reduceLeDiff, Nat.reduceAdd, Nat.reduceMul]
  refine app_LS (l := u0) (m := [0]) rfl (by simp) (by simp; omega) fun bu hbu => ?_
  obtain ⟨k0, hk0⟩ : ∃ k0, u0.length = n + k0 := ⟨u0.length - n, by omega⟩
  have hum : u0.length + [0].length = n + k0 + 1 := by simp [hk0]
  rw [hum]
  have hdn : n + k0 + 1 - n = k0 + 1 := by omega
  simp (disch := first | assumption | (apply Ap.symm; assumption) | omega | decide | (simp only [U_len, List.length_append, List.length_replicate, List.length_cons, List.length_nil, List.length_set] <;> omega) | fail) only [w1, hdn, ↓Xa, Xb, Xc, ↓reduceIte, Nat.reduceLT, Nat.reduceEqDiff, Nat.reduceBEq, Nat.reduceLeDiff, Nat.reduceAdd, Nat.reduceMul]
  refine newU_i fun bq hbq => ?_
  have nb := hbq
  simp only [upd_none] at nb
  obtain ⟨nbA, nbq⟩ := nb
  simp (disch := first | assumption | (apply Ap.symm; assumption) | omega | decide | (simp only [U_len, List.length_append, List.length_replicate, List.length_cons, List.length_nil, List.length_set] <;> omega) | fail) only [hdn, Nat.add_sub_cancel, ↓Xa, Xb, Xc, ↓reduceIte, Nat.reduceLT, Nat.reduceEqDiff, Nat.reduceBEq, Nat.reduceLeDiff, Nat.reduceAdd, Nat.reduceMul]
  have hlz : (u0 ++ [0]).length = n + k0 + 1 := by simp [hk0]
  refine W_loop (fun z : Nat × List Nat × List Nat => ⟨[], [(10, .int .i64 s), (11, LS v true), (13, .own bu (n + k0 + 1) 0 (n + k0 + 1) false), (15, .int .i64 n), (16, .own bq (k0 + 1) 0 (k0 + 1) true), (17, .int .i64 (dn z.1))],
      (H.upd bu (some (.row 45 1 (U z.2.1)))).upd bq (some (.row 45 1 (U z.2.2)))⟩)
    (fun z => DivK T V n k0 z.1 z.2.1 z.2.2) (fun z => z.1) (k0 + 1, u0 ++ [0], List.replicate (k0 + 1) 0) (Settle.now rfl) ?_ ?_
  · refine ⟨Nat.le_refl _, hlz, lim_snoc hlu (by omega), by simp, lim_zeros (by omega) _, ?_, ?_⟩
    · -- the highest limbs, a nought on top
      have e := val_append 4294967296 (u0.drop (k0 + 1)) [0]
      have h1 := val_lt (hlu.drop (k0 + 1))
      rw [List.length_drop] at h1
      have h2 : (u0 ++ [0]).drop (k0 + 1) = u0.drop (k0 + 1) ++ [0] := by rw [List.drop_append_of_le_length (by omega)]
      rw [h2, e, val_one, Nat.mul_zero, Nat.add_zero]
      have h3 := val_top1 (B := 4294967296) (l := v) (n := n - 1) (by omega)
      rw [hvv] at h3
      have h4 : 4294967296 ^ (n - 1) * 1 ≤ 4294967296 ^ (n - 1) * v.getD (n - 1) 0 := Nat.mul_le_mul_left _ (by omega)
      rw [show u0.length - (k0 + 1) = n - 1 by omega] at h1
      omega
    · have z : val 4294967296 [] = 0 := rfl
      show T = V * (4294967296 ^ (k0 + 1) * val 4294967296 ((List.replicate (k0 + 1) 0).drop (k0 + 1))) + val 4294967296 (u0 ++ [0])
      rw [List.drop_of_length_le (Nat.le_of_eq List.length_replicate), val_snoc, hvu, z, Nat.mul_zero, Nat.mul_zero, Nat.mul_zero, Nat.zero_add, Nat.add_zero]
  rintro ⟨M, ul, ql⟩ hk
  dsimp only at hk ⊢
  have hu1 := hk.ulen
  have hq1 := hk.qlen
  cases M with
  | zero =>
    obtain ⟨d1, d2⟩ := hk.end
    simp (disch := first | assumption | (apply Ap.symm; assumption) | omega | decide | (simp only [U_len, List.length_append, List.length_replicate, List.length_cons, List.length_nil, List.length_set] <;> omega) | fail) only [↓Xa, Xb, Xc, ↓reduceIte, Nat.reduceLT, Nat.reduceEqDiff, Nat.reduceBEq, Nat.reduceLeDiff, Nat.reduceAdd, Nat.reduceMul]
    refine Settle.freeze 13 rfl (by rw [upd_otherA nbA.symm, upd_same]) (by simp [hu1]) (.inr (by simp)) ?_
    have e1 : AV.seq (n + k0 + 1) (((U ul).drop 0).take ((n + k0 + 1) * 1)) false = LS ul false := by
      rw [List.drop_zero, Nat.mul_one, ← hu1, List.take_of_length_le (by simp)]; rfl
    rw [e1, upd_over nbA, upd_back H hbu]
    refine Settle.now ?_
    simp (disch := first | assumption | (apply Ap.symm; assumption) | omega | decide | (simp only [U_len, List.length_append, List.length_replicate, List.length_cons, List.length_nil, List.length_set] <;> omega) | fail) only [↓Xa, Xb, Xc, ↓reduceIte, Nat.reduceLT, Nat.reduceEqDiff, Nat.reduceBEq, Nat.reduceLeDiff, Nat.reduceAdd, Nat.reduceMul]
    refine (shr_fn false hk.ulim (by omega) (by omega)).call ?_
    rw [d2, hmod]
    simp (disch := first | assumption | (apply Ap.symm; assumption) | omega | decide | (simp only [U_len, List.length_append, List.length_replicate, List.length_cons, List.length_nil, List.length_set] <;> omega) | fail) only [↓Xa, Xb, Xc, ↓reduceIte, Nat.reduceLT, Nat.reduceEqDiff, Nat.reduceBEq, Nat.reduceLeDiff, Nat.reduceAdd, Nat.reduceMul]
    refine trim_call (upd_same _ _ _) hq1 ?_
    simp (disch := first | assumption | (apply Ap.symm; assumption) | omega | decide | (simp only [U_len, List.length_append, List.length_replicate, List.length_cons, List.length_nil, List.length_set] <;> omega) | fail) only [rs34, ↓Xa, Xb, Xc, ↓reduceIte, Nat.reduceLT, Nat.reduceEqDiff, Nat.reduceBEq, Nat.reduceLeDiff, Nat.reduceAdd, Nat.reduceMul]
    refine fin_trL nbq hq1 ?_
    rw [tr_digs (by omega) hk.qlim, d1, hdiv]
    exact hq
  | succ k =>
    have hM := hk.hM
    have hkl : k ≤ k0 := by omega
    obtain ⟨s1, s2, s3⟩ := hk.seg w2
    have hseg : ((ul.drop k).take (n + 1)).length = n + 1 := by rw [List.length_take, List.length_drop]; omega
    have hparts : ul = ul.take k ++ ((ul.drop k).take (n + 1) ++ ul.drop (k + (n + 1))) := by
      rw [← List.drop_drop, List.take_append_drop, List.take_append_drop]
    have hD : DigI ((ul.drop k).take (n + 1)) v (n - 2) := by
      refine ⟨by omega, by omega, (hk.ulim.drop k).take _, hlv, ?_, ?_⟩
      · rw [show n - 2 + 1 = n - 1 by omega]; exact w3
      · rw [s1, hvv]; exact s2
    have hkn : k + n + 1 - k = n + 1 := by omega
    have hpre : (ul.take k).length = k := by rw [List.length_take]; omega
    simp (disch := first | assumption | (apply Ap.symm; assumption) | omega | decide | (simp only [U_len, List.length_append, List.length_replicate, List.length_cons, List.length_nil, List.length_set] <;> omega) | fail) only [hkn, ↓Xa, Xb, Xc, ↓reduceIte, Nat.reduceLT, Nat.reduceEqDiff, Nat.reduceBEq, Nat.reduceLeDiff, Nat.reduceAdd, Nat.reduceMul]
    refine run_call (digit_run (pre := ul.take k) (u := (ul.drop k).take (n + 1)) (post := ul.drop (k + (n + 1))) true hD (by rw [upd_otherA nbA.symm, upd_same, ← hparts]) (by rw [hpre, hseg, List.length_drop]; omega) hpre.symm hseg.symm (by omega) fun w g1 g2 g3 => ?_)
    rw [hseg] at g1
    rw [hvv] at g3 ⊢
    have hqd : val 4294967296 ((ul.drop k).take (n + 1)) / V < 4294967296 := Nat.div_lt_of_lt_mul (by rw [s1, Nat.mul_comm]; exact s2)
    have stp := hk.step w2 hV0 g1 g2 g3 rfl
    rw [Nat.mod_eq_of_lt hqd] at stp
    generalize val 4294967296 ((ul.drop k).take (n + 1)) / V = qd at *
    simp (disch := first | assumption | (apply Ap.symm; assumption) | omega | decide | (simp only [U_len, List.length_append, List.length_replicate, List.length_cons, List.length_nil, List.length_set] <;> omega) | fail) only [↓Xa, Xb, Xc, ↓reduceIte, Nat.reduceLT, Nat.reduceEqDiff, Nat.reduceBEq, Nat.reduceLeDiff, Nat.reduceAdd, Nat.reduceMul]
    exact Settle.keep [10, 11, 13, 15, 16, 17] ⟨(k, _, _), by dsimp only; omega, stp, rfl⟩

theorem divmod_fn {a b : List Nat} (ta tb : Bool) (ha : Lim 4294967296 a) (hb : Lim 4294967296 b) (h0 : 0 < val 4294967296 b) (hla : a.length ≤ 549755813888) (hlb : b.length ≤ 549755813888) :
    PFn Tryd.prog 34 [LS a ta, LS b tb] (.tup [LS (digs 4294967296 (val 4294967296 a / val 4294967296 b)) true, LS (digs 4294967296 (val 4294967296 a % val 4294967296 b)) true, .int .i64 ((0 : Nat) : Int)]) := by
  by_cases hlt : val 4294967296 a < val 4294967296 b
  · exact divmod_lt ta tb ha hb h0 hla hlb hlt
  · by_cases h1 : (digs 4294967296 (val 4294967296 b)).length = 1
    · exact divmod_one ta tb ha hb h0 hla hlb hlt h1
    · exact divmod_many ta tb ha hb h0 hla hlb hlt h1
end Go.Proofs.YtipbcjnniamcgaaDoor.Fw

/- The laws' first question: are numbers added, multiplied, divided, told? -/
namespace Go.Proofs.YtipbcjnniamcgaaDoor.Fw
set_option linter.unusedSimpArgs false
set_option linter.unusedVariables false
open Go Go.Proofs.YtipbcjnniamcgaaDoor.Ma
set_option maxRecDepth 20000

theorem digs_is {l : List Nat} (n : Nat) (h : Lim 4294967296 l) (h0 : l = [] ∨ l.getD (l.length - 1) 0 ≠ 0) (hv : val 4294967296 l = n) : digs 4294967296 n = l := by
  rw [← hv]; exact (digs_of (by omega) h h0).symm
theorem works_fn : PFn Tryd.prog 33 [] (.bool true) := by
  intro H Q hq
  refine enter33 (by simp) ?_
  simp (disch := first | assumption | (apply Ap.symm; assumption) | omega | decide | (simp only [U_len, List.length_append, List.length_replicate, List.length_cons, List.length_nil, List.length_set] <;> omega) | fail) only [ac33, str_Sx, ↓Xa, Xb, Xc, ↓reduceIte, Nat.reduceLT, Nat.reduceEqDiff, Nat.reduceBEq, Nat.reduceLeDiff, Nat.reduceAdd, Nat.reduceMul]
  have l1 : Lim 4294967296 [4294967295] := Lim.one (by omega)
  have l2 : Lim 4294967296 [4294967295, 0] := Lim.cons (by omega) (Lim.one (by omega))
  have l3 : Lim 4294967296 [5] := Lim.one (by omega)
  have l4 : Lim 4294967296 [1, 4294967294] := Lim.cons (by omega) (Lim.one (by omega))
  have d1 : digs 4294967296 18446744065119617025 = [1, 4294967294] := digs_is _ l4 (.inr (by decide)) (by decide)
  have d2 : digs 4294967296 4294967295 = [4294967295] := digs_is _ l1 (.inr (by decide)) (by decide)
  have d3 : digs 4294967296 5 = [5] := digs_is _ l3 (.inr (by decide)) (by decide)
  have m1 := mul_fn (a := [4294967295]) (b := [4294967295, 0]) true true l1 l2 (by simp) (by simp)
  rw [show val 4294967296 [4294967295] * val 4294967296 [4294967295, 0] = 18446744065119617025 by decide, d1] at m1
  refine m1.call ?_
  simp (disch := first | assumption | (apply Ap.symm; assumption) | omega | decide | (simp only [U_len, List.length_append, List.length_replicate, List.length_cons, List.length_nil, List.length_set] <;> omega) | fail) only [↓Xa, Xb, Xc, ↓reduceIte, Nat.reduceLT, Nat.reduceEqDiff, Nat.reduceBEq, Nat.reduceLeDiff, Nat.reduceAdd, Nat.reduceMul]
  have m2 := add_fn (a := [1, 4294967294]) (b := [5]) true true l4 l3 (by simp) (by simp)
  refine m2.call ?_
  rw [show val 4294967296 [1, 4294967294] + val 4294967296 [5] = 18446744065119617030 by decide]
  simp (disch := first | assumption | (apply Ap.symm; assumption) | omega | decide | (simp only [U_len, List.length_append, List.length_replicate, List.length_cons, List.length_nil, List.length_set] <;> omega) | fail) only [↓Xa, Xb, Xc, ↓reduceIte, Nat.reduceLT, Nat.reduceEqDiff, Nat.reduceBEq, Nat.reduceLeDiff, Nat.reduceAdd, Nat.reduceMul]
  have m3 := divmod_fn (a := digs 4294967296 18446744065119617030) (b := [4294967295]) true true (lim_digs (by omega) _) l1 (by decide) (Nat.le_trans (digs_len (k := 3) (by omega) _ (by decide)) (by omega)) (by simp)
  rw [val_digs (by omega), show 18446744065119617030 / val 4294967296 [4294967295] = 4294967295 by decide, show 18446744065119617030 % val 4294967296 [4294967295] = 5 by decide, d2, d3] at m3
  refine m3.call ?_
  simp (disch := first | assumption | (apply Ap.symm; assumption) | omega | decide | (simp only [U_len, List.length_append, List.length_replicate, List.length_cons, List.length_nil, List.length_set] <;> omega) | fail) only [↓Xa, Xb, Xc, ↓reduceIte, Nat.reduceLT, Nat.reduceEqDiff, Nat.reduceBEq, Nat.reduceLeDiff, Nat.reduceAdd, Nat.reduceMul]
  refine (equal_fn (a := [1, 4294967294]) (b := [1, 4294967294]) true true (by simp) (by simp)).call ?_
  rw [decide_eq_true rfl]
  simp (disch := first | assumption | (apply Ap.symm; assumption) | omega | decide | (simp only [U_len, List.length_append, List.length_replicate, List.length_cons, List.length_nil, List.length_set] <;> omega) | fail) only [↓Xa, Xb, Xc, ↓reduceIte, Nat.reduceLT, Nat.reduceEqDiff, Nat.reduceBEq, Nat.reduceLeDiff, Nat.reduceAdd, Nat.reduceMul]
  refine (equal_fn (a := [4294967295]) (b := [4294967295]) true true (by simp) (by simp)).call ?_
  rw [decide_eq_true rfl]
  simp (disch := first | assumption | (apply Ap.symm; assumption) | omega | decide | (simp only [U_len, List.length_append, List.length_replicate, List.length_cons, List.length_nil, List.length_set] <;> omega) | fail) only [↓Xa, Xb, Xc, ↓reduceIte, Nat.reduceLT, Nat.reduceEqDiff, Nat.reduceBEq, Nat.reduceLeDiff, Nat.reduceAdd, Nat.reduceMul]
  refine (equal_fn (a := [5]) (b := [5]) true true (by simp) (by simp)).call ?_
  rw [decide_eq_true rfl]
  simp (disch := first | assumption | (apply Ap.symm; assumption) | omega | decide | (simp only [U_len, List.length_append, List.length_replicate, List.length_cons, List.length_nil, List.length_set] <;> omega) | fail) only [↓Xa, Xb, Xc, ↓reduceIte, Nat.reduceLT, Nat.reduceEqDiff, Nat.reduceBEq, Nat.reduceLeDiff, Nat.reduceAdd, Nat.reduceMul]
  have m4 := text_fn (l := [1, 4294967294]) true l4 (by simp)
  refine m4.call ?_
  have d4 : decT (val 4294967296 [1, 4294967294]) = [49, 56, 52, 52, 54, 55, 52, 52, 48, 54, 53, 49, 49, 57, 54, 49, 55, 48, 50, 53] := by
    have l10 : Lim 10 [5, 2, 0, 7, 1, 6, 9, 1, 1, 5, 6, 0, 4, 4, 7, 6, 4, 4, 8, 1] := by
      intro x hx
      simp only [List.mem_cons, List.not_mem_nil, or_false] at hx
      omega
    have e10 : digs 10 18446744065119617025 = [5, 2, 0, 7, 1, 6, 9, 1, 1, 5, 6, 0, 4, 4, 7, 6, 4, 4, 8, 1] := by
      have := digs_of (by omega) l10 (.inr (by decide))
      rw [this]; congr 1
    rw [show val 4294967296 [1, 4294967294] = 18446744065119617025 by decide]
    unfold decT dec
    rw [if_neg (by decide), e10]
    rfl
  rw [d4]
  simp (disch := first | assumption | (apply Ap.symm; assumption) | omega | decide | (simp only [U_len, List.length_append, List.length_replicate, List.length_cons, List.length_nil, List.length_set] <;> omega) | fail) only [eql_Sx, rs33, ↓Xa, Xb, Xc, ↓reduceIte, Nat.reduceLT, Nat.reduceEqDiff, Nat.reduceBEq, Nat.reduceLeDiff, Nat.reduceAdd, Nat.reduceMul]
  exact SetR.now hq
end Go.Proofs.YtipbcjnniamcgaaDoor.Fw

/- What package limb computes, in terms of numbers. -/
namespace Go.Proofs.YtipbcjnniamcgaaDoor.Fw
set_option linter.unusedSimpArgs false
set_option linter.unusedVariables false
open Go Go.Proofs.YtipbcjnniamcgaaDoor.Ma
set_option maxRecDepth 20000

/-- A row of limbs, what it is worth, how long it is at most. -/
structure Nm (l : List Nat) (n k : Nat) : Prop where
  lim : Lim 4294967296 l
  val : val 4294967296 l = n
  len : l.length ≤ k
theorem Nm.lt {l : List Nat} {n k : Nat} (h : Nm l n k) : n < 4294967296 ^ k := by
  rw [← h.val]; exact Nat.lt_of_lt_of_le (val_lt h.lim) (Nat.pow_le_pow_right (by omega) h.len)
theorem Nm.digs {n k : Nat} (h : n < 4294967296 ^ k) : Nm (digs 4294967296 n) n k := ⟨lim_digs (by omega) n, val_digs (by omega) n, digs_len (by omega) k n h⟩
theorem Nm.raw {l : List Nat} {k : Nat} (h : Lim 4294967296 l) (hk : l.length ≤ k) : Nm l (Ma.val 4294967296 l) k := ⟨h, rfl, hk⟩
theorem Nm.mono {l : List Nat} {n k k' : Nat} (h : Nm l n k) (hk : k ≤ k') : Nm l n k' := ⟨h.lim, h.val, Nat.le_trans h.len hk⟩
theorem lt_mul {m n k k' : Nat} (h : m < 4294967296 ^ k) (h' : n < 4294967296 ^ k') : m * n < 4294967296 ^ (k + k') := by
  rw [Nat.pow_add]; exact Nat.mul_lt_mul_of_lt_of_lt h h'
theorem eq_n {m n k k' : Nat} (ta tb : Bool) (hm : m < 4294967296 ^ k) (hn : n < 4294967296 ^ k') (hk : k ≤ 1000000) (hk' : k' ≤ 1000000) : PFn Tryd.prog 37 [LS (Ma.digs 4294967296 m) ta, LS (Ma.digs 4294967296 n) tb] (.bool (decide (m = n))) := by
  have := equal_fn (a := Ma.digs 4294967296 m) (b := Ma.digs 4294967296 n) ta tb (Nat.lt_of_le_of_lt (Nm.digs hm).len (by omega)) (Nat.lt_of_le_of_lt (Nm.digs hn).len (by omega))
  have e : decide (Ma.digs 4294967296 m = Ma.digs 4294967296 n) = decide (m = n) := by
    apply decide_eq_decide.2
    constructor
    · intro h
      have h2 := congrArg (Ma.val 4294967296) h
      rwa [val_digs (by omega), val_digs (by omega)] at h2
    · rintro rfl; rfl
  rwa [e] at this
theorem eq_same {m n k : Nat} (ta tb : Bool) (h : m = n) (hm : m < 4294967296 ^ k) (hk : k ≤ 1000000) : PFn Tryd.prog 37 [LS (Ma.digs 4294967296 m) ta, LS (Ma.digs 4294967296 n) tb] (.bool true) := by
  subst h
  have := eq_n ta tb hm hm hk hk
  rwa [decide_eq_true rfl] at this
theorem cmpZ_geq {a b : Nat} {K : AV → Prop} : binW .geq (.int .i64 (cmpZ a b)) (.int .i64 ((0 : Nat) : Int)) K ↔ K (.bool (decide (b ≤ a))) := by
  have : (((0 : Nat) : Int) ≤ cmpZ a b) ↔ b ≤ a := by unfold cmpZ; (repeat' split) <;> omega
  simp only [binW, binInt, true_and, ge_iff_le, this]

end Go.Proofs.YtipbcjnniamcgaaDoor.Fw

/- What package swagelaw01 does to what it hands over: room behind it, and whether it was kept. -/
namespace Go.Proofs.YtipbcjnniamcgaaDoor.Fw
set_option linter.unusedSimpArgs false
set_option linter.unusedVariables false
open Go Go.Proofs.YtipbcjnniamcgaaDoor.Ma
set_option maxRecDepth 20000

/-- A row behind which two limbs more stand. -/
def Xr (l : List Nat) : AV := .ext l.length (U (l ++ [77, 78]))
theorem Wk.Xr {l : List Nat} : Wk (Xr l) (LS l false) := Wk.X
theorem PFn.wk {P : Program} {f : FuncId} {args args' : List AV} {r : AV} (h : PFn P f args' r) (w : Wks args args') : PFn P f args r := fun H Q hq => (h H Q hq).wk w
theorem PFn.x {P : Program} {f : FuncId} {l : List Nat} {r : AV} (h : PFn P f [LS l false] r) : PFn P f [Xr l] r := h.wk (.cons Wk.Xr .nil)
theorem PFn.x1 {P : Program} {f : FuncId} {l : List Nat} {y r : AV} (h : PFn P f [LS l false, y] r) : PFn P f [Xr l, y] r := h.wk (.cons Wk.Xr (.cons Wk.refl .nil))
theorem PFn.x2 {P : Program} {f : FuncId} {l : List Nat} {y r : AV} (h : PFn P f [y, LS l false] r) : PFn P f [y, Xr l] r := h.wk (.cons Wk.refl (.cons Wk.Xr .nil))
theorem liveE_X {es : Nat} {l : List Nat} {H : AHeap} : liveE es H (Xr l) = True := id rfl

theorem clone_run {H : AHeap} {K : AV → AHeap → Prop} {l : List Nat} (t : Bool) (hl : l.length ≤ 1099511627776) (k : ∀ x H', grow H 45 l x H' → K x H') : Run Tryd.prog 96 [LS l t] H K := by
  refine enter96 (by simp) ?_
  cases l with
  | nil =>
    simp (disch := first | assumption | (apply Ap.symm; assumption) | omega | decide | (simp only [U_len, List.length_append, List.length_replicate, List.length_cons, List.length_nil, List.length_set] <;> omega) | fail) only [ac96, nilW_nil, ↓Xa, Xb, Xc, ↓reduceIte, Nat.reduceLT, Nat.reduceEqDiff, Nat.reduceBEq, Nat.reduceLeDiff, Nat.reduceAdd, Nat.reduceMul]
    refine ⟨?_, ?_⟩
    · simp (disch := first | assumption | (apply Ap.symm; assumption) | omega | decide | (simp only [U_len, List.length_append, List.length_replicate, List.length_cons, List.length_nil, List.length_set] <;> omega) | fail) only [rs96, ↓Xa, Xb, Xc, ↓reduceIte, Nat.reduceLT, Nat.reduceEqDiff, Nat.reduceBEq, Nat.reduceLeDiff, Nat.reduceAdd, Nat.reduceMul]
      exact SetR.now (k _ _ grow_nil)
    · refine .inl ⟨rfl, rfl, ?_⟩
      refine ⟨rfl, rfl, by simp, by simp, fun _ => ?_, fun e => absurd e (by simp)⟩
      simp (disch := first | assumption | (apply Ap.symm; assumption) | omega | decide | (simp only [U_len, List.length_append, List.length_replicate, List.length_cons, List.length_nil, List.length_set] <;> omega) | fail) only [rs96, ↓Xa, Xb, Xc, ↓reduceIte, Nat.reduceLT, Nat.reduceEqDiff, Nat.reduceBEq, Nat.reduceLeDiff, Nat.reduceAdd, Nat.reduceMul]
      exact SetR.now (k _ _ grow_nil)
  | cons x l =>
    simp (disch := first | assumption | (apply Ap.symm; assumption) | omega | decide | (simp only [U_len, List.length_append, List.length_replicate, List.length_cons, List.length_nil, List.length_set] <;> omega) | fail) only [ac96, nilW_cons, ↓Xa, Xb, Xc, ↓reduceIte, Nat.reduceLT, Nat.reduceEqDiff, Nat.reduceBEq, Nat.reduceLeDiff, Nat.reduceAdd, Nat.reduceMul]
    refine app_grow (m := x :: l) (t := t) grow_nil rfl (by simp) (by simp at hl ⊢; omega) fun y H' hg => ?_
    simp (disch := first | assumption | (apply Ap.symm; assumption) | omega | decide | (simp only [U_len, List.length_append, List.length_replicate, List.length_cons, List.length_nil, List.length_set] <;> omega) | fail) only [rs96, ↓Xa, Xb, Xc, ↓reduceIte, Nat.reduceLT, Nat.reduceEqDiff, Nat.reduceBEq, Nat.reduceLeDiff, Nat.reduceAdd, Nat.reduceMul]
    exact SetR.now (k _ _ hg)
theorem room_fn {l : List Nat} (t : Bool) (hl : l.length ≤ 1000000) : PFn Tryd.prog 47 [LS l t] (Xr l) := by
  intro H Q hq
  refine enter47 (by simp) ?_
  simp (disch := first | assumption | (apply Ap.symm; assumption) | omega | decide | (simp only [U_len, List.length_append, List.length_replicate, List.length_cons, List.length_nil, List.length_set] <;> omega) | fail) only [ac47, ↓Xa, Xb, Xc, ↓reduceIte, Nat.reduceLT, Nat.reduceEqDiff, Nat.reduceBEq, Nat.reduceLeDiff, Nat.reduceAdd, Nat.reduceMul]
  refine run_call (clone_run t (by omega) fun x H' hg => ?_)
  simp (disch := first | assumption | (apply Ap.symm; assumption) | omega | decide | (simp only [U_len, List.length_append, List.length_replicate, List.length_cons, List.length_nil, List.length_set] <;> omega) | fail) only [rep2, ↓Xa, Xb, Xc, ↓reduceIte, Nat.reduceLT, Nat.reduceEqDiff, Nat.reduceBEq, Nat.reduceLeDiff, Nat.reduceAdd, Nat.reduceMul]
  refine app_ext (m := [77, 78]) hg rfl (by simp) (by simp; omega) ?_
  simp (disch := first | assumption | (apply Ap.symm; assumption) | omega | decide | (simp only [U_len, List.length_append, List.length_replicate, List.length_cons, List.length_nil, List.length_set] <;> omega) | fail) only [liveE_ext, slc_ext1, rs47, ↓Xa, Xb, Xc, ↓reduceIte, Nat.reduceLT, Nat.reduceEqDiff, Nat.reduceBEq, Nat.reduceLeDiff, Nat.reduceAdd, Nat.reduceMul]
  exact SetR.now hq
theorem slc_X {l : List Nat} {k : IntKind} {K : AV → Prop} : slcW 1 (Xr l) none (some (.int k ((l.length + 2 : Nat) : Int))) none K = K (.ext (l.length + 2) (U (l ++ [77, 78]))) :=
  slc_ext1 (by simp)
theorem slc_X2 {l : List Nat} {k : IntKind} {K : AV → Prop} : slcW 1 (.ext (l.length + 2) (U (l ++ [77, 78]))) (some (.int k ((l.length : Nat) : Int))) none none K = K (.ext 2 (U [77, 78])) := by
  rw [slc_ext2 (by omega) (by simp), ← U_drop, List.drop_left]
  congr 2; omega
theorem Wk.two : Wk (.ext 2 (U [77, 78])) (LS [77, 78] false) := Wk.X (l := [77, 78]) (m := [])
/-- What was handed over stands as it stood, and the room behind it. -/
theorem kept_fn {l : List Nat} (t : Bool) (hl : l.length ≤ 1000000) : PFn Tryd.prog 49 [Xr l, LS l t] (.bool true) := by
  intro H Q hq
  refine enter49 (by simp) ?_
  simp (disch := first | assumption | (apply Ap.symm; assumption) | omega | decide | (simp only [U_len, List.length_append, List.length_replicate, List.length_cons, List.length_nil, List.length_set] <;> omega) | fail) only [ac49, ↓Xa, Xb, Xc, ↓reduceIte, Nat.reduceLT, Nat.reduceEqDiff, Nat.reduceBEq, Nat.reduceLeDiff, Nat.reduceAdd, Nat.reduceMul]
  refine (PFn.x1 (equal_fn false t (by omega) (by omega))).call ?_
  simp (disch := first | assumption | (apply Ap.symm; assumption) | omega | decide | (simp only [U_len, List.length_append, List.length_replicate, List.length_cons, List.length_nil, List.length_set] <;> omega) | fail) only [decide_true, liveE_X, slc_X, liveE_ext, slc_X2, rep2, ↓Xa, Xb, Xc, ↓reduceIte, Nat.reduceLT, Nat.reduceEqDiff, Nat.reduceBEq, Nat.reduceLeDiff, Nat.reduceAdd, Nat.reduceMul]
  refine ((equal_fn (a := [77, 78]) (b := [77, 78]) false true (by decide) (by decide)).wk (.cons Wk.two (.cons Wk.refl .nil))).call ?_
  simp (disch := first | assumption | (apply Ap.symm; assumption) | omega | decide | (simp only [U_len, List.length_append, List.length_replicate, List.length_cons, List.length_nil, List.length_set] <;> omega) | fail) only [decide_true, rs49, ↓Xa, Xb, Xc, ↓reduceIte, Nat.reduceLT, Nat.reduceEqDiff, Nat.reduceBEq, Nat.reduceLeDiff, Nat.reduceAdd, Nat.reduceMul]
  exact SetR.now hq
end Go.Proofs.YtipbcjnniamcgaaDoor.Fw

/- The reference for limbs: a limb, what is normal, held against each other, sums. -/
namespace Go.Proofs.YtipbcjnniamcgaaDoor.Fw
set_option linter.unusedSimpArgs false
set_option linter.unusedVariables false
open Go Go.Proofs.YtipbcjnniamcgaaDoor.Ma
set_option maxRecDepth 20000

theorem lat_fn {l : List Nat} {i : Nat} (t : Bool) (hn : l.length < 9223372036854775808) : PFn Tryd.prog 100 [LS l t, .int .i64 (i : Int)] (.int .u32 ((l.getD i 0 : Nat) : Int)) := by
  intro H Q hq
  refine enter100 (by simp) ?_
  by_cases h : i < l.length
  · simp (disch := first | assumption | (apply Ap.symm; assumption) | omega | decide | (simp only [U_len, List.length_append, List.length_replicate, List.length_cons, List.length_nil, List.length_set] <;> omega) | fail) only [ac100, h, rs100, ↓Xa, Xb, Xc, ↓reduceIte, Nat.reduceLT, Nat.reduceEqDiff, Nat.reduceBEq, Nat.reduceLeDiff, Nat.reduceAdd, Nat.reduceMul]
    exact SetR.now hq
  · rw [getD_beyond (by omega)] at hq
    simp (disch := first | assumption | (apply Ap.symm; assumption) | omega | decide | (simp only [U_len, List.length_append, List.length_replicate, List.length_cons, List.length_nil, List.length_set] <;> omega) | fail) only [ac100, h, rs100, ↓Xa, Xb, Xc, ↓reduceIte, Nat.reduceLT, Nat.reduceEqDiff, Nat.reduceBEq, Nat.reduceLeDiff, Nat.reduceAdd, Nat.reduceMul]
    exact SetR.now hq
theorem lnorm_fn {l : List Nat} (t : Bool) (hn : l.length ≤ 1099511627776) : PFn Tryd.prog 53 [LS l t] (LS (tr l) false) := by
  intro H Q hq
  refine enter53 (by simp) ?_
  simp (disch := first | assumption | (apply Ap.symm; assumption) | omega | decide | (simp only [U_len, List.length_append, List.length_replicate, List.length_cons, List.length_nil, List.length_set] <;> omega) | fail) only [ac53, ↓Xa, Xb, Xc, ↓reduceIte, Nat.reduceLT, Nat.reduceEqDiff, Nat.reduceBEq, Nat.reduceLeDiff, Nat.reduceAdd, Nat.reduceMul]
  refine W_loop (fun n : Nat => ⟨[], [(0, LS l t), (3, .int .i64 (n : Nat))], H⟩) (fun n => n ≤ l.length ∧ ∀ i, n ≤ i → i < l.length → l.getD i 0 = 0) id l.length (Settle.now rfl) ⟨Nat.le_refl _, fun i h1 h2 => absurd h1 (by omega)⟩ ?_
  rintro n ⟨h1, hz⟩
  have last : (n = 0 ∨ l.getD (n - 1) 0 ≠ 0) → W Tryd.prog (sndC (sndC (sndC ac53))) (retN rs53 Q) ⟨[], [(0, LS l t), (3, .int .i64 (n : Nat)), (17, .bool false)], H⟩ := by
    intro h
    have e := tr_take h1 hz h
    simp (disch := first | assumption | (apply Ap.symm; assumption) | omega | decide | (simp only [U_len, List.length_append, List.length_replicate, List.length_cons, List.length_nil, List.length_set] <;> omega) | fail) only [sndC, ac53, ↓Xa, Xb, Xc, ↓reduceIte, Nat.reduceLT, Nat.reduceEqDiff, Nat.reduceBEq, Nat.reduceLeDiff, Nat.reduceAdd, Nat.reduceMul]
    refine W_loop (fun s : Nat × AV × AHeap => ⟨[], [(0, LS l t), (3, .int .i64 (n : Nat)), (4, s.2.1), (5, .int .i64 (s.1 : Nat))], s.2.2⟩) (fun s => s.1 ≤ n ∧ grow H 45 (l.take s.1) s.2.1 s.2.2) (fun s => n - s.1) (0, _, _) (Settle.now rfl) ⟨Nat.zero_le _, grow_nil⟩ ?_
    rintro ⟨i, z, H'⟩ ⟨hi, hg⟩
    dsimp only at hi hg ⊢
    by_cases hlt : i < n
    · have hil : i < l.length := by omega
      simp (disch := first | assumption | (apply Ap.symm; assumption) | omega | decide | (simp only [U_len, List.length_append, List.length_replicate, List.length_cons, List.length_nil, List.length_set] <;> omega) | fail) only [hlt, rep1, ↓Xa, Xb, Xc, ↓reduceIte, Nat.reduceLT, Nat.reduceEqDiff, Nat.reduceBEq, Nat.reduceLeDiff, Nat.reduceAdd, Nat.reduceMul]
      refine app_grow (m := [l.getD i 0]) hg rfl (by simp) (by simp; omega) fun z' H2 hg2 => ?_
      simp (disch := first | assumption | (apply Ap.symm; assumption) | omega | decide | (simp only [U_len, List.length_append, List.length_replicate, List.length_cons, List.length_nil, List.length_set] <;> omega) | fail) only [↓Xa, Xb, Xc, ↓reduceIte, Nat.reduceLT, Nat.reduceEqDiff, Nat.reduceBEq, Nat.reduceLeDiff, Nat.reduceAdd, Nat.reduceMul]
      refine Settle.now ⟨(i + 1, _, _), by dsimp only; omega, ⟨by dsimp only; omega, ?_⟩, rfl⟩
      have e2 : l.take (i + 1) = l.take i ++ [l.getD i 0] := by
        rw [List.take_add_one, List.getElem?_eq_getElem hil, List.getD_eq_getElem?_getD, List.getElem?_eq_getElem hil]; rfl
      rw [e2]; exact hg2
    · obtain rfl : i = n := by omega
      simp (disch := first | assumption | (apply Ap.symm; assumption) | omega | decide | (simp only [U_len, List.length_append, List.length_replicate, List.length_cons, List.length_nil, List.length_set] <;> omega) | fail) only [hlt, ↓Xa, Xb, Xc, ↓reduceIte, Nat.reduceLT, Nat.reduceEqDiff, Nat.reduceBEq, Nat.reduceLeDiff, Nat.reduceAdd, Nat.reduceMul]
      refine Settle.now ?_
      simp (disch := first | assumption | (apply Ap.symm; assumption) | omega | decide | (simp only [U_len, List.length_append, List.length_replicate, List.length_cons, List.length_nil, List.length_set] <;> omega) | fail) only [rs53, ↓Xa, Xb, Xc, ↓reduceIte, Nat.reduceLT, Nat.reduceEqDiff, Nat.reduceBEq, Nat.reduceLeDiff, Nat.reduceAdd, Nat.reduceMul]
      rw [e] at hg
      exact grow_fin hg hq
  by_cases h0 : 0 < n
  · by_cases h2 : l.getD (n - 1) 0 = 0
    · simp (disch := first | assumption | (apply Ap.symm; assumption) | omega | decide | (simp only [U_len, List.length_append, List.length_replicate, List.length_cons, List.length_nil, List.length_set] <;> omega) | fail) only [h0, h2, ↓Xa, Xb, Xc, ↓reduceIte, Nat.reduceLT, Nat.reduceEqDiff, Nat.reduceBEq, Nat.reduceLeDiff, Nat.reduceAdd, Nat.reduceMul]
      refine Settle.now ⟨n - 1, ?_, ⟨by omega, fun i hi hl' => ?_⟩, rfl⟩
      · show n - 1 < n; omega
      · rcases Nat.lt_or_ge i n with h | h
        · rw [show i = n - 1 by omega]; exact h2
        · exact hz i h hl'
    · simp (disch := first | assumption | (apply Ap.symm; assumption) | omega | decide | (simp only [U_len, List.length_append, List.length_replicate, List.length_cons, List.length_nil, List.length_set] <;> omega) | fail) only [h0, h2, ↓Xa, Xb, Xc, ↓reduceIte, Nat.reduceLT, Nat.reduceEqDiff, Nat.reduceBEq, Nat.reduceLeDiff, Nat.reduceAdd, Nat.reduceMul]
      exact Settle.now (last (.inr h2))
  · simp (disch := first | assumption | (apply Ap.symm; assumption) | omega | decide | (simp only [U_len, List.length_append, List.length_replicate, List.length_cons, List.length_nil, List.length_set] <;> omega) | fail) only [h0, ↓Xa, Xb, Xc, ↓reduceIte, Nat.reduceLT, Nat.reduceEqDiff, Nat.reduceBEq, Nat.reduceLeDiff, Nat.reduceAdd, Nat.reduceMul]
    exact Settle.now (last (.inl (by omega)))
end Go.Proofs.YtipbcjnniamcgaaDoor.Fw

/- Plain facts of limbs: held against each other, added, subtracted, from the lowest up. -/
namespace Go.Proofs.YtipbcjnniamcgaaDoor.Ma
set_option linter.unusedSimpArgs false
set_option linter.unusedVariables false

theorem val_cut {B : Nat} (l : List Nat) (i : Nat) : val B l = val B (l.take i) + B ^ i * val B (l.drop i) := by
  by_cases h : i ≤ l.length
  · have e := val_append B (l.take i) (l.drop i)
    rw [List.take_append_drop, List.length_take, Nat.min_eq_left h] at e
    exact e
  · rw [List.take_of_length_le (by omega), List.drop_of_length_le (by omega)]
    simp [val]
theorem take_lt {B : Nat} (hB : 1 ≤ B) {l : List Nat} (h : Lim B l) (i : Nat) : val B (l.take i) < B ^ i :=
  Nat.lt_of_lt_of_le (val_lt (h.take i)) (Nat.pow_le_pow_right hB (by rw [List.length_take]; omega))
theorem val_dropC {B : Nat} (l : List Nat) (i : Nat) : val B (l.drop i) = l.getD i 0 + B * val B (l.drop (i + 1)) := by
  by_cases h : i < l.length
  · exact val_drop B h
  · rw [List.drop_of_length_le (by omega), List.drop_of_length_le (by omega), getD_beyond (by omega)]
    simp [val]
theorem cmp_at {B : Nat} (hB : 1 ≤ B) {a b : List Nat} {i : Nat} (ha : Lim B a) (hd : val B (a.drop (i + 1)) = val B (b.drop (i + 1))) (h : a.getD i 0 < b.getD i 0) : val B a < val B b := by
  have h1 := val_cut (B := B) a i
  have h2 := val_cut (B := B) b i
  have h3 := take_lt hB ha i
  rw [val_dropC] at h1 h2
  rw [h1, h2, hd]
  generalize val B (b.drop (i + 1)) = T
  have h4 : B ^ i * (a.getD i 0 + B * T) + B ^ i ≤ B ^ i * (b.getD i 0 + B * T) := by
    rw [← Nat.mul_succ]
    exact Nat.mul_le_mul_left _ (by omega)
  omega

/-- Sums, limb by limb. -/
def SumI (a b : List Nat) (i c : Nat) (done : List Nat) : Prop := done.length = i ∧ Lim 4294967296 done ∧ c ≤ 1 ∧ val 4294967296 done + 4294967296 ^ i * c = val 4294967296 (a.take i) + val 4294967296 (b.take i)
theorem SumI.zero (a b : List Nat) : SumI a b 0 0 [] := ⟨rfl, Lim.nil _, by omega, by simp [val]⟩
theorem SumI.step {a b done : List Nat} {i c s : Nat} (h : SumI a b i c done) (ha : Lim 4294967296 a) (hb : Lim 4294967296 b) (hs : s = c + (a.getD i 0 + b.getD i 0)) : SumI a b (i + 1) (s / 4294967296) (done ++ [s % 4294967296]) := by
  obtain ⟨h1, h2, h3, h4⟩ := h
  have ga := ha.getD (by omega) i
  have gb := hb.getD (by omega) i
  refine ⟨by simp [h1], lim_snoc h2 (Nat.mod_lt _ (by omega)), by omega, ?_⟩
  rw [val_snoc, val_take, val_take, h1, Nat.pow_succ]
  have e := Nat.mod_add_div s 4294967296
  have : 4294967296 ^ i * (s % 4294967296) + 4294967296 ^ i * 4294967296 * (s / 4294967296) = 4294967296 ^ i * s := by rw [Nat.mul_assoc, ← Nat.mul_add, e]
  rw [Nat.add_assoc, this, hs]
  simp only [Nat.mul_add]
  omega
theorem SumI.end {a b done : List Nat} {i : Nat} (h : SumI a b i 0 done) (ha : a.length ≤ i) (hb : b.length ≤ i) : val 4294967296 done = val 4294967296 a + val 4294967296 b := by
  have h4 := h.2.2.2
  rw [List.take_of_length_le ha, List.take_of_length_le hb] at h4
  omega
/-- Differences, limb by limb. -/
def DifI (a b : List Nat) (i c : Nat) (done : List Nat) : Prop := done.length = i ∧ Lim 4294967296 done ∧ c ≤ 1 ∧ val 4294967296 (a.take i) + 4294967296 ^ i * c = val 4294967296 done + val 4294967296 (b.take i)
theorem DifI.zero (a b : List Nat) : DifI a b 0 0 [] := ⟨rfl, Lim.nil _, by omega, by simp [val]⟩
theorem DifI.step {a b done : List Nat} {i c x c' : Nat} (h : DifI a b i c done) (hx : x < 4294967296) (hc' : c' ≤ 1) (hs : a.getD i 0 + 4294967296 * c' = x + (b.getD i 0 + c)) : DifI a b (i + 1) c' (done ++ [x]) := by
  obtain ⟨h1, h2, h3, h4⟩ := h
  refine ⟨by simp [h1], lim_snoc h2 hx, hc', ?_⟩
  rw [val_snoc, val_take, val_take, h1, Nat.pow_succ]
  have e : 4294967296 ^ i * (a.getD i 0 + 4294967296 * c') = 4294967296 ^ i * (x + (b.getD i 0 + c)) := by rw [hs]
  simp only [Nat.mul_add] at e
  rw [Nat.mul_assoc]
  omega
theorem DifI.end {a b done : List Nat} {c : Nat} (h : DifI a b a.length c done) (ha : Lim 4294967296 a) (hab : val 4294967296 b ≤ val 4294967296 a) : val 4294967296 done = val 4294967296 a - val 4294967296 b := by
  obtain ⟨h1, h2, h3, h4⟩ := h
  have l1 := val_lt ha
  have l2 := val_lt h2
  rw [h1] at l2
  have hb := val_cut (B := 4294967296) b a.length
  rw [List.take_of_length_le (Nat.le_refl _)] at h4
  have hz : val 4294967296 (b.drop a.length) = 0 := by
    rcases Nat.eq_zero_or_pos (val 4294967296 (b.drop a.length)) with e | e
    · exact e
    · have : 4294967296 ^ a.length * 1 ≤ 4294967296 ^ a.length * val 4294967296 (b.drop a.length) := Nat.mul_le_mul_left _ e
      omega
  rw [hz] at hb
  have hc : c = 0 := by
    rcases Nat.eq_zero_or_pos c with e | e
    · exact e
    · obtain rfl : c = 1 := by omega
      omega
  subst hc
  omega
end Go.Proofs.YtipbcjnniamcgaaDoor.Ma

/- The reference for limbs: held against each other, added, subtracted. -/
namespace Go.Proofs.YtipbcjnniamcgaaDoor.Fw
set_option linter.unusedSimpArgs false
set_option linter.unusedVariables false
open Go Go.Proofs.YtipbcjnniamcgaaDoor.Ma
set_option maxRecDepth 20000

theorem max_k {a b : Nat} {K : AV → Prop} : maxW true (.int .i64 (a : Int)) (.int .i64 (b : Int)) K ↔ K (.int .i64 ((max a b : Nat) : Int)) := by
  have : (if (a : Int) < (b : Int) then (b : Int) else (a : Int)) = ((max a b : Nat) : Int) := by split <;> omega
  simp only [maxW, true_and, if_true, this]
theorem lcmp_fn {a b : List Nat} (ta tb : Bool) (ha : Lim 4294967296 a) (hb : Lim 4294967296 b) (la : a.length ≤ 1099511627776) (lb : b.length ≤ 1099511627776) : PFn Tryd.prog 56 [LS a ta, LS b tb] (.int .i64 (cmpZ (val 4294967296 a) (val 4294967296 b))) := by
  intro H Q hq
  refine enter56 (by simp) ?_
  simp (disch := first | assumption | (apply Ap.symm; assumption) | omega | decide | (simp only [U_len, List.length_append, List.length_replicate, List.length_cons, List.length_nil, List.length_set] <;> omega) | fail) only [ac56, max_k, ↓Xa, Xb, Xc, ↓reduceIte, Nat.reduceLT, Nat.reduceEqDiff, Nat.reduceBEq, Nat.reduceLeDiff, Nat.reduceAdd, Nat.reduceMul]
  refine W_loop (fun s : Nat => ⟨[], [(0, LS a ta), (1, LS b tb), (5, .int .i64 (dn s))], H⟩) (fun s => s ≤ max a.length b.length ∧ val 4294967296 (a.drop s) = val 4294967296 (b.drop s)) id (max a.length b.length) (Settle.now rfl)
    ⟨Nat.le_refl _, by rw [List.drop_of_length_le (by omega), List.drop_of_length_le (by omega)]⟩ ?_
  rintro s ⟨hs, hd⟩
  cases s with
  | zero =>
    rw [List.drop_zero, List.drop_zero] at hd
    rw [show cmpZ (val 4294967296 a) (val 4294967296 b) = ((0 : Nat) : Int) by unfold cmpZ; rw [if_neg (by omega), if_neg (by omega)]] at hq
    simp (disch := first | assumption | (apply Ap.symm; assumption) | omega | decide | (simp only [U_len, List.length_append, List.length_replicate, List.length_cons, List.length_nil, List.length_set] <;> omega) | fail) only [↓Xa, Xb, Xc, ↓reduceIte, Nat.reduceLT, Nat.reduceEqDiff, Nat.reduceBEq, Nat.reduceLeDiff, Nat.reduceAdd, Nat.reduceMul]
    refine Settle.now ?_
    simp (disch := first | assumption | (apply Ap.symm; assumption) | omega | decide | (simp only [U_len, List.length_append, List.length_replicate, List.length_cons, List.length_nil, List.length_set] <;> omega) | fail) only [rs56, ↓Xa, Xb, Xc, ↓reduceIte, Nat.reduceLT, Nat.reduceEqDiff, Nat.reduceBEq, Nat.reduceLeDiff, Nat.reduceAdd, Nat.reduceMul]
    exact SetR.now hq
  | succ i =>
    have hx := ha.getD (by omega) i
    have hy := hb.getD (by omega) i
    simp (disch := first | assumption | (apply Ap.symm; assumption) | omega | decide | (simp only [U_len, List.length_append, List.length_replicate, List.length_cons, List.length_nil, List.length_set] <;> omega) | fail) only [↓Xa, Xb, Xc, ↓reduceIte, Nat.reduceLT, Nat.reduceEqDiff, Nat.reduceBEq, Nat.reduceLeDiff, Nat.reduceAdd, Nat.reduceMul]
    refine (lat_fn ta (by omega)).call ?_
    simp (disch := first | assumption | (apply Ap.symm; assumption) | omega | decide | (simp only [U_len, List.length_append, List.length_replicate, List.length_cons, List.length_nil, List.length_set] <;> omega) | fail) only [↓Xa, Xb, Xc, ↓reduceIte, Nat.reduceLT, Nat.reduceEqDiff, Nat.reduceBEq, Nat.reduceLeDiff, Nat.reduceAdd, Nat.reduceMul]
    refine (lat_fn tb (by omega)).call ?_
    rcases Nat.lt_trichotomy (a.getD i 0) (b.getD i 0) with h | h | h
    · have := cmp_at (by omega) ha hd h
      rw [show cmpZ (val 4294967296 a) (val 4294967296 b) = -1 by unfold cmpZ; rw [if_pos this]] at hq
      simp (disch := first | assumption | (apply Ap.symm; assumption) | omega | decide | (simp only [U_len, List.length_append, List.length_replicate, List.length_cons, List.length_nil, List.length_set] <;> omega) | fail) only [h, rs56, ↓Xa, Xb, Xc, ↓reduceIte, Nat.reduceLT, Nat.reduceEqDiff, Nat.reduceBEq, Nat.reduceLeDiff, Nat.reduceAdd, Nat.reduceMul]
      exact SetR.now hq
    · have h1 : ¬ a.getD i 0 < b.getD i 0 := by omega
      have h2 : ¬ b.getD i 0 < a.getD i 0 := by omega
      simp (disch := first | assumption | (apply Ap.symm; assumption) | omega | decide | (simp only [U_len, List.length_append, List.length_replicate, List.length_cons, List.length_nil, List.length_set] <;> omega) | fail) only [h1, h2, ↓Xa, Xb, Xc, ↓reduceIte, Nat.reduceLT, Nat.reduceEqDiff, Nat.reduceBEq, Nat.reduceLeDiff, Nat.reduceAdd, Nat.reduceMul]
      refine Settle.now ⟨i, by simp, ⟨by omega, ?_⟩, rfl⟩
      rw [val_dropC a i, val_dropC b i, hd, h]
    · have h1 : ¬ a.getD i 0 < b.getD i 0 := by omega
      have := cmp_at (by omega) hb hd.symm h
      rw [show cmpZ (val 4294967296 a) (val 4294967296 b) = ((1 : Nat) : Int) by unfold cmpZ; rw [if_neg (by omega), if_pos this]] at hq
      simp (disch := first | assumption | (apply Ap.symm; assumption) | omega | decide | (simp only [U_len, List.length_append, List.length_replicate, List.length_cons, List.length_nil, List.length_set] <;> omega) | fail) only [h1, h, rs56, ↓Xa, Xb, Xc, ↓reduceIte, Nat.reduceLT, Nat.reduceEqDiff, Nat.reduceBEq, Nat.reduceLeDiff, Nat.reduceAdd, Nat.reduceMul]
      exact SetR.now hq
theorem lsub_fn {a b : List Nat} (ta tb : Bool) (ha : Lim 4294967296 a) (hb : Lim 4294967296 b) (la : a.length ≤ 274877906944) (lb : b.length ≤ 274877906944) (hab : val 4294967296 b ≤ val 4294967296 a) : PFn Tryd.prog 58 [LS a ta, LS b tb] (LS (digs 4294967296 (val 4294967296 a - val 4294967296 b)) false) := by
  intro H Q hq
  refine enter58 (by simp) ?_
  simp (disch := first | assumption | (apply Ap.symm; assumption) | omega | decide | (simp only [U_len, List.length_append, List.length_replicate, List.length_cons, List.length_nil, List.length_set] <;> omega) | fail) only [ac58, ↓Xa, Xb, Xc, ↓reduceIte, Nat.reduceLT, Nat.reduceEqDiff, Nat.reduceBEq, Nat.reduceLeDiff, Nat.reduceAdd, Nat.reduceMul]
  refine W_loop (fun s : Nat × Nat × List Nat × AV × AHeap => ⟨[], [(0, LS a ta), (1, LS b tb), (5, s.2.2.2.1), (6, .int .u64 (s.2.1 : Nat)), (7, .int .i64 (s.1 : Nat))], s.2.2.2.2⟩)
    (fun s => s.1 ≤ a.length ∧ DifI a b s.1 s.2.1 s.2.2.1 ∧ grow H 45 s.2.2.1 s.2.2.2.1 s.2.2.2.2) (fun s => a.length - s.1) (0, 0, [], _, _) (Settle.now rfl) ⟨Nat.zero_le _, DifI.zero a b, grow_nil⟩ ?_
  rintro ⟨i, c, done, x, H'⟩ ⟨hi, hI, hg⟩
  dsimp only at hi hI hg ⊢
  have hx := ha.getD (by omega) i
  have hy := hb.getD (by omega) i
  have hc := hI.2.2.1
  have hdl := hI.1
  by_cases h1 : i < a.length
  · simp (disch := first | assumption | (apply Ap.symm; assumption) | omega | decide | (simp only [U_len, List.length_append, List.length_replicate, List.length_cons, List.length_nil, List.length_set] <;> omega) | fail) only [h1, ↓Xa, Xb, Xc, ↓reduceIte, Nat.reduceLT, Nat.reduceEqDiff, Nat.reduceBEq, Nat.reduceLeDiff, Nat.reduceAdd, Nat.reduceMul]
    refine (lat_fn ta (by omega)).call ?_
    simp (disch := first | assumption | (apply Ap.symm; assumption) | omega | decide | (simp only [U_len, List.length_append, List.length_replicate, List.length_cons, List.length_nil, List.length_set] <;> omega) | fail) only [↓Xa, Xb, Xc, ↓reduceIte, Nat.reduceLT, Nat.reduceEqDiff, Nat.reduceBEq, Nat.reduceLeDiff, Nat.reduceAdd, Nat.reduceMul]
    refine (lat_fn tb (by omega)).call ?_
    by_cases h2 : a.getD i 0 < b.getD i 0 + c
    · have st := hI.step (x := a.getD i 0 + 4294967296 - (b.getD i 0 + c)) (c' := 1) (by omega) (by omega) (by omega)
      simp (disch := first | assumption | (apply Ap.symm; assumption) | omega | decide | (simp only [U_len, List.length_append, List.length_replicate, List.length_cons, List.length_nil, List.length_set] <;> omega) | fail) only [h2, rep1, ↓Xa, Xb, Xc, ↓reduceIte, Nat.reduceLT, Nat.reduceEqDiff, Nat.reduceBEq, Nat.reduceLeDiff, Nat.reduceAdd, Nat.reduceMul]
      refine app_grow (m := [a.getD i 0 + 4294967296 - (b.getD i 0 + c)]) hg rfl (by simp) (by simp; omega) fun z' H2 hg2 => ?_
      simp (disch := first | assumption | (apply Ap.symm; assumption) | omega | decide | (simp only [U_len, List.length_append, List.length_replicate, List.length_cons, List.length_nil, List.length_set] <;> omega) | fail) only [↓Xa, Xb, Xc, ↓reduceIte, Nat.reduceLT, Nat.reduceEqDiff, Nat.reduceBEq, Nat.reduceLeDiff, Nat.reduceAdd, Nat.reduceMul]
      exact Settle.now ⟨(i + 1, 1, done ++ [_], _, _), by dsimp only; omega, ⟨by dsimp only; omega, st, hg2⟩, rfl⟩
    · have st := hI.step (x := a.getD i 0 - (b.getD i 0 + c)) (c' := 0) (by omega) (by omega) (by omega)
      simp (disch := first | assumption | (apply Ap.symm; assumption) | omega | decide | (simp only [U_len, List.length_append, List.length_replicate, List.length_cons, List.length_nil, List.length_set] <;> omega) | fail) only [h2, rep1, ↓Xa, Xb, Xc, ↓reduceIte, Nat.reduceLT, Nat.reduceEqDiff, Nat.reduceBEq, Nat.reduceLeDiff, Nat.reduceAdd, Nat.reduceMul]
      refine app_grow (m := [a.getD i 0 - (b.getD i 0 + c)]) hg rfl (by simp) (by simp; omega) fun z' H2 hg2 => ?_
      simp (disch := first | assumption | (apply Ap.symm; assumption) | omega | decide | (simp only [U_len, List.length_append, List.length_replicate, List.length_cons, List.length_nil, List.length_set] <;> omega) | fail) only [↓Xa, Xb, Xc, ↓reduceIte, Nat.reduceLT, Nat.reduceEqDiff, Nat.reduceBEq, Nat.reduceLeDiff, Nat.reduceAdd, Nat.reduceMul]
      exact Settle.now ⟨(i + 1, 0, done ++ [_], _, _), by dsimp only; omega, ⟨by dsimp only; omega, st, hg2⟩, rfl⟩
  · obtain rfl : i = a.length := by omega
    have hv := hI.end ha hab
    simp (disch := first | assumption | (apply Ap.symm; assumption) | omega | decide | (simp only [U_len, List.length_append, List.length_replicate, List.length_cons, List.length_nil, List.length_set] <;> omega) | fail) only [h1, ↓Xa, Xb, Xc, ↓reduceIte, Nat.reduceLT, Nat.reduceEqDiff, Nat.reduceBEq, Nat.reduceLeDiff, Nat.reduceAdd, Nat.reduceMul]
    refine Settle.grown 5 rfl hg (Settle.now ?_)
    simp (disch := first | assumption | (apply Ap.symm; assumption) | omega | decide | (simp only [U_len, List.length_append, List.length_replicate, List.length_cons, List.length_nil, List.length_set] <;> omega) | fail) only [↓Xa, Xb, Xc, ↓reduceIte, Nat.reduceLT, Nat.reduceEqDiff, Nat.reduceBEq, Nat.reduceLeDiff, Nat.reduceAdd, Nat.reduceMul]
    refine (lnorm_fn false (by omega)).call ?_
    rw [tr_digs (by omega) hI.2.1, hv]
    simp (disch := first | assumption | (apply Ap.symm; assumption) | omega | decide | (simp only [U_len, List.length_append, List.length_replicate, List.length_cons, List.length_nil, List.length_set] <;> omega) | fail) only [rs58, ↓Xa, Xb, Xc, ↓reduceIte, Nat.reduceLT, Nat.reduceEqDiff, Nat.reduceBEq, Nat.reduceLeDiff, Nat.reduceAdd, Nat.reduceMul]
    exact SetR.now hq
end Go.Proofs.YtipbcjnniamcgaaDoor.Fw

/- Whether rows are long, as package swagelaw01 asks it. -/
namespace Go.Proofs.YtipbcjnniamcgaaDoor.Fw
set_option linter.unusedSimpArgs false
set_option linter.unusedVariables false
open Go Go.Proofs.YtipbcjnniamcgaaDoor.Ma
set_option maxRecDepth 20000

/-- Rows of limbs, one behind the other. -/
def RowC (l : List (List Nat × Bool)) : List AV := l.map fun q => LS q.1 q.2
theorem RowC_len {l : List (List Nat × Bool)} : (RowC l).length = l.length := by simp [RowC]
def lngA (l : List (List Nat × Bool)) : Bool := l.any fun q => decide (160 < q.1.length)
theorem long1_fn {l : List Nat} (t : Bool) (hl : l.length < 9223372036854775808) : PFn Tryd.prog 98 [LS l t] (.bool (decide (160 < l.length))) := by
  intro H Q hq
  refine enter98 (by simp) ?_
  simp (disch := first | assumption | (apply Ap.symm; assumption) | omega | decide | (simp only [U_len, List.length_append, List.length_replicate, List.length_cons, List.length_nil, List.length_set] <;> omega) | fail) only [ac98, rs98, ↓Xa, Xb, Xc, ↓reduceIte, Nat.reduceLT, Nat.reduceEqDiff, Nat.reduceBEq, Nat.reduceLeDiff, Nat.reduceAdd, Nat.reduceMul]
  exact SetR.now hq
theorem index_run {H : AHeap} {Q : AV → AHeap → Prop} (l : List (List Nat × Bool)) (t : Bool) (hl : l.length < 1000) (hb : ∀ q, q ∈ l → q.1.length < 9223372036854775808) (hq : ∀ r : Int, decide (((0 : Nat) : Int) ≤ r) = lngA l → Q (.int .i64 r) H) :
    Run Tryd.prog 118 [.seq l.length (RowC l) t, .fn (.func 98) [] []] H Q := by
  have len9 : ∀ {n : Nat} {c : List AV} {t : Bool} {K : AV → Prop} (_ : n < 2 ^ 63), lenW false (.seq n c t) K = K (.int .i64 ((n : Nat) : Int)) := fun h => by simp [lenW, h]
  have idx9 : ∀ {i : Nat} {K : AV → Prop} (_ : i < l.length), idxAW 1 (.seq l.length (RowC l) t) (.int .i64 (i : Int)) K = K (.cptr ((RowC l).drop i)) := fun {i K} h => by simp [idxAW, RowC_len, h]
  have ld9 : ∀ {i : Nat} {K : AV → Prop} (h : i < l.length), loadW H none (.cptr ((RowC l).drop i)) K = K (LS (l[i]).1 (l[i]).2) := fun {i K} h => by
    have e : (RowC l).drop i = LS (l[i]).1 (l[i]).2 :: (RowC l).drop (i + 1) := by
      rw [List.drop_eq_getElem_cons (by rw [RowC_len]; exact h)]; simp [RowC]
    simp only [loadW, cellsAt, e]
    simp
  refine enter118 (by simp) ?_
  simp (disch := first | assumption | (apply Ap.symm; assumption) | omega | decide | (simp only [U_len, List.length_append, List.length_replicate, List.length_cons, List.length_nil, List.length_set] <;> omega) | fail) only [ac118, len9, ↓Xa, Xb, Xc, ↓reduceIte, Nat.reduceLT, Nat.reduceEqDiff, Nat.reduceBEq, Nat.reduceLeDiff, Nat.reduceAdd, Nat.reduceMul]
  refine W_loop (fun i : Nat => ⟨[], [(0, .seq l.length (RowC l) t), (1, .fn (.func 98) [] []), (7, .int .i64 (l.length : Nat)), (8, .int .i64 (i : Nat))], H⟩) (fun i => i ≤ l.length ∧ ∀ q, q ∈ l.take i → ¬ 160 < q.1.length) (fun i => l.length - i) 0 (Settle.now rfl) ⟨by simp, by simp⟩ ?_
  rintro i ⟨h1, h2⟩
  by_cases hi : i < l.length
  · have hbi := hb (l[i]) (List.getElem_mem hi)
    simp (disch := first | assumption | (apply Ap.symm; assumption) | omega | decide | (simp only [U_len, List.length_append, List.length_replicate, List.length_cons, List.length_nil, List.length_set] <;> omega) | fail) only [hi, idx9, ld9, ↓Xa, Xb, Xc, ↓reduceIte, Nat.reduceLT, Nat.reduceEqDiff, Nat.reduceBEq, Nat.reduceLeDiff, Nat.reduceAdd, Nat.reduceMul]
    refine (long1_fn _ hbi).call ?_
    by_cases hv : 160 < (l[i]).1.length
    · simp (disch := first | assumption | (apply Ap.symm; assumption) | omega | decide | (simp only [U_len, List.length_append, List.length_replicate, List.length_cons, List.length_nil, List.length_set] <;> omega) | fail) only [hv, rs118, ↓Xa, Xb, Xc, ↓reduceIte, Nat.reduceLT, Nat.reduceEqDiff, Nat.reduceBEq, Nat.reduceLeDiff, Nat.reduceAdd, Nat.reduceMul]
      have e : lngA l = true := List.any_eq_true.2 ⟨_, List.getElem_mem hi, by simpa using hv⟩
      exact SetR.now (hq _ (by rw [e]; simp))
    · simp (disch := first | assumption | (apply Ap.symm; assumption) | omega | decide | (simp only [U_len, List.length_append, List.length_replicate, List.length_cons, List.length_nil, List.length_set] <;> omega) | fail) only [hv, ↓Xa, Xb, Xc, ↓reduceIte, Nat.reduceLT, Nat.reduceEqDiff, Nat.reduceBEq, Nat.reduceLeDiff, Nat.reduceAdd, Nat.reduceMul]
      refine Settle.now ⟨i + 1, by omega, ⟨by omega, fun q hq => ?_⟩, rfl⟩
      rw [List.take_add_one, List.getElem?_eq_getElem hi, List.mem_append] at hq
      rcases hq with hq | hq
      · exact h2 q hq
      · rw [List.mem_singleton.1 hq]; exact hv
  · simp (disch := first | assumption | (apply Ap.symm; assumption) | omega | decide | (simp only [U_len, List.length_append, List.length_replicate, List.length_cons, List.length_nil, List.length_set] <;> omega) | fail) only [hi, ↓Xa, Xb, Xc, ↓reduceIte, Nat.reduceLT, Nat.reduceEqDiff, Nat.reduceBEq, Nat.reduceLeDiff, Nat.reduceAdd, Nat.reduceMul]
    refine Settle.now ?_
    simp (disch := first | assumption | (apply Ap.symm; assumption) | omega | decide | (simp only [U_len, List.length_append, List.length_replicate, List.length_cons, List.length_nil, List.length_set] <;> omega) | fail) only [rs118, ↓Xa, Xb, Xc, ↓reduceIte, Nat.reduceLT, Nat.reduceEqDiff, Nat.reduceBEq, Nat.reduceLeDiff, Nat.reduceAdd, Nat.reduceMul]
    have e : lngA l = false := by
      rw [List.take_of_length_le (by omega)] at h2
      exact List.any_eq_false.2 fun q hq => by simpa using h2 q hq
    exact SetR.now (hq _ (by rw [e]; simp))
theorem llong_fn (l : List (List Nat × Bool)) (t : Bool) (hl : l.length < 1000) (hb : ∀ q, q ∈ l → q.1.length < 9223372036854775808) : PFn Tryd.prog 51 [.seq l.length (RowC l) t] (.bool (lngA l)) := by
  intro H Q hq
  refine enter51 (by simp) ?_
  simp (disch := first | assumption | (apply Ap.symm; assumption) | omega | decide | (simp only [U_len, List.length_append, List.length_replicate, List.length_cons, List.length_nil, List.length_set] <;> omega) | fail) only [ac51, ↓Xa, Xb, Xc, ↓reduceIte, Nat.reduceLT, Nat.reduceEqDiff, Nat.reduceBEq, Nat.reduceLeDiff, Nat.reduceAdd, Nat.reduceMul]
  refine PFn.call (r := .bool (lngA l)) (fun H Q hq => ?_) ?_
  · refine enter97 (by simp) ?_
    simp (disch := first | assumption | (apply Ap.symm; assumption) | omega | decide | (simp only [U_len, List.length_append, List.length_replicate, List.length_cons, List.length_nil, List.length_set] <;> omega) | fail) only [ac97, ↓Xa, Xb, Xc, ↓reduceIte, Nat.reduceLT, Nat.reduceEqDiff, Nat.reduceBEq, Nat.reduceLeDiff, Nat.reduceAdd, Nat.reduceMul]
    refine run_call (index_run l t hl hb fun r hr => ?_)
    have c : ∀ K, binW .geq (.int .i64 r) (.int .i64 ((0 : Nat) : Int)) K ↔ K (.bool (lngA l)) := fun K => by
      rw [← hr]; simp only [binW, binInt, true_and]
    simp (disch := first | assumption | (apply Ap.symm; assumption) | omega | decide | (simp only [U_len, List.length_append, List.length_replicate, List.length_cons, List.length_nil, List.length_set] <;> omega) | fail) only [c, rs97, ↓Xa, Xb, Xc, ↓reduceIte, Nat.reduceLT, Nat.reduceEqDiff, Nat.reduceBEq, Nat.reduceLeDiff, Nat.reduceAdd, Nat.reduceMul]
    exact SetR.now hq
  · simp (disch := first | assumption | (apply Ap.symm; assumption) | omega | decide | (simp only [U_len, List.length_append, List.length_replicate, List.length_cons, List.length_nil, List.length_set] <;> omega) | fail) only [rs51, ↓Xa, Xb, Xc, ↓reduceIte, Nat.reduceLT, Nat.reduceEqDiff, Nat.reduceBEq, Nat.reduceLeDiff, Nat.reduceAdd, Nat.reduceMul]
    exact SetR.now hq
end Go.Proofs.YtipbcjnniamcgaaDoor.Fw

/- The looked-up code of one function, and that it is: by a program (wip/tools/ac.py); Lean checks it. -/
namespace Go.Proofs.YtipbcjnniamcgaaDoor.Fw
open Go
set_option maxRecDepth 100000
end Go.Proofs.YtipbcjnniamcgaaDoor.Fw

/- The law of sums of limbs, as what its code computes: true. -/
namespace Go.Proofs.YtipbcjnniamcgaaDoor.Fw
set_option linter.unusedSimpArgs false
set_option linter.unusedVariables false
open Go Go.Proofs.YtipbcjnniamcgaaDoor.Ma
set_option maxRecDepth 20000

theorem neq_intL {k : IntKind} {a b : Int} {K : AV → Prop} : binW .neq (.int k a) (.int k b) K ↔ K (.bool (!decide (a = b))) := by
  simp only [binW, binInt, true_and]
/-- The reference's functions, by what the rows stand for. -/
theorem lnorm_n {a : List Nat} {m k : Nat} (ta : Bool) (ha : Nm a m k) (hk : k ≤ 1000000) : PFn Tryd.prog 53 [LS a ta] (LS (Ma.digs 4294967296 m) false) := by
  have h := lnorm_fn (l := a) ta (by have := ha.len; omega)
  rw [tr_digs (by omega) ha.lim, ha.val] at h; exact h
end Go.Proofs.YtipbcjnniamcgaaDoor.Fw

/- The looked-up code of one function, and that it is: by a program (wip/tools/ac.py); Lean checks it. -/
namespace Go.Proofs.YtipbcjnniamcgaaDoor.Fw
open Go
set_option maxRecDepth 100000
end Go.Proofs.YtipbcjnniamcgaaDoor.Fw

/- The law of quotients and remainders of limbs, without the reference, as what its code computes: true. -/
namespace Go.Proofs.YtipbcjnniamcgaaDoor.Fw
set_option linter.unusedSimpArgs false
set_option linter.unusedVariables false
open Go Go.Proofs.YtipbcjnniamcgaaDoor.Ma
set_option maxRecDepth 20000

theorem Nm.one {c : Nat} (h : c < 4294967296) : Nm [c] c 1 := ⟨Lim.one h, val_one _ _, Nat.le_refl _⟩
theorem Nm.two {c : Nat} (h : c < 4294967296) : Nm [c, 0] c 2 := ⟨Lim.cons h (Lim.one (by omega)), by simp [Ma.val], Nat.le_refl _⟩
end Go.Proofs.YtipbcjnniamcgaaDoor.Fw

/- The looked-up code of one function, and that it is: by a program (wip/tools/ac.py); Lean checks it. -/
namespace Go.Proofs.YtipbcjnniamcgaaDoor.Fw
open Go
set_option maxRecDepth 100000
end Go.Proofs.YtipbcjnniamcgaaDoor.Fw

/- The reference for limbs: products; the law of products of limbs, as what its code computes: true. -/
namespace Go.Proofs.YtipbcjnniamcgaaDoor.Fw
set_option linter.unusedSimpArgs false
set_option linter.unusedVariables false
open Go Go.Proofs.YtipbcjnniamcgaaDoor.Ma
set_option maxRecDepth 20000

/-- A row times one limb, from the lowest up. -/
def MuI (a : List Nat) (m i c : Nat) (done : List Nat) : Prop := done.length = i ∧ Lim 4294967296 done ∧ c < 4294967296 ∧ val 4294967296 done + 4294967296 ^ i * c = val 4294967296 (a.take i) * m
theorem MuI.zero (a : List Nat) (m : Nat) : MuI a m 0 0 [] := ⟨rfl, Lim.nil _, by omega, by simp [val]⟩
theorem mul_fit {x m c : Nat} (hx : x < 4294967296) (hm : m < 4294967296) (hc : c < 4294967296) : c + x * m < 4294967296 * 4294967296 ∧ (c + x * m) / 4294967296 < 4294967296 := by
  have h : x * m ≤ (4294967296 - 1) * (4294967296 - 1) := Nat.mul_le_mul (by omega) (by omega)
  have h2 : c + x * m < 4294967296 * 4294967296 := by omega
  exact ⟨h2, Nat.div_lt_of_lt_mul h2⟩
theorem MuI.step {a done : List Nat} {m i c s : Nat} (h : MuI a m i c done) (ha : Lim 4294967296 a) (hm : m < 4294967296) (hs : s = c + a.getD i 0 * m) : MuI a m (i + 1) (s / 4294967296) (done ++ [s % 4294967296]) := by
  obtain ⟨h1, h2, h3, h4⟩ := h
  have ga := ha.getD (by omega) i
  refine ⟨by simp [h1], lim_snoc h2 (Nat.mod_lt _ (by omega)), by rw [hs]; exact (mul_fit ga hm h3).2, ?_⟩
  rw [val_snoc, val_take, h1, Nat.pow_succ]
  have e := Nat.mod_add_div s 4294967296
  have e1 : 4294967296 ^ i * (s % 4294967296) + 4294967296 ^ i * 4294967296 * (s / 4294967296) = 4294967296 ^ i * s := by rw [Nat.mul_assoc, ← Nat.mul_add, e]
  rw [Nat.add_assoc, e1, hs, Nat.mul_add, ← Nat.add_assoc, h4, Nat.add_mul, Nat.mul_assoc]
theorem lmuls_fn {a : List Nat} {m : Nat} (ta : Bool) (ha : Lim 4294967296 a) (hm : m < 4294967296) (la : a.length ≤ 274877906944) : PFn Tryd.prog 55 [LS a ta, .int .u32 (m : Int)] (LS (digs 4294967296 (val 4294967296 a * m)) false) := by
  intro H Q hq
  refine enter55 (by simp) ?_
  simp (disch := first | assumption | (apply Ap.symm; assumption) | omega | decide | (simp only [U_len, List.length_append, List.length_replicate, List.length_cons, List.length_nil, List.length_set] <;> omega) | fail) only [ac55, ↓Xa, Xb, Xc, ↓reduceIte, Nat.reduceLT, Nat.reduceEqDiff, Nat.reduceBEq, Nat.reduceLeDiff, Nat.reduceAdd, Nat.reduceMul]
  refine W_loop (fun s : Nat × Nat × List Nat × AV × AHeap => ⟨[], [(0, LS a ta), (1, .int .u32 (m : Int)), (5, s.2.2.2.1), (6, .int .u64 (s.2.1 : Nat)), (7, .int .i64 (s.1 : Nat))], s.2.2.2.2⟩)
    (fun s => (s.1 ≤ a.length + 1 ∧ (a.length < s.1 → s.2.1 = 0)) ∧ MuI a m s.1 s.2.1 s.2.2.1 ∧ grow H 45 s.2.2.1 s.2.2.2.1 s.2.2.2.2) (fun s => 2 * (a.length - s.1) + min s.2.1 1) (0, 0, [], _, _) (Settle.now rfl) ⟨⟨Nat.zero_le _, fun _ => rfl⟩, MuI.zero a m, grow_nil⟩ ?_
  rintro ⟨i, c, done, x, H'⟩ ⟨⟨hi, hi2⟩, hI, hg⟩
  dsimp only at hi hi2 hI hg ⊢
  have hx := ha.getD (by omega) i
  have hc := hI.2.2.1
  have hdl := hI.1
  obtain ⟨f1, f2⟩ := mul_fit hx hm hc
  have f3 : a.getD i 0 * m < 18446744073709551616 := by omega
  have beyond : a.length ≤ i → (c + a.getD i 0 * m) / 4294967296 = 0 := fun h => by
    rw [getD_beyond h, Nat.zero_mul]; omega
  by_cases hw : i < a.length ∨ 0 < c
  · have himax : i ≤ a.length := by
      apply Nat.le_of_not_lt; intro h
      have := hi2 h
      omega
    have meas : 2 * (a.length - (i + 1)) + min ((c + a.getD i 0 * m) / 4294967296) 1 < 2 * (a.length - i) + min c 1 := by
      rcases Nat.lt_or_ge i a.length with h | h
      · omega
      · have := beyond h; omega
    have inv : i + 1 ≤ a.length + 1 ∧ (a.length < i + 1 → (c + a.getD i 0 * m) / 4294967296 = 0) := ⟨by omega, fun h => beyond (by omega)⟩
    have hdn : done.length + 1 ≤ 17592186044416 := by omega
    have st := hI.step ha hm rfl
    by_cases h1 : i < a.length
    · simp (disch := first | assumption | (apply Ap.symm; assumption) | omega | decide | (simp only [U_len, List.length_append, List.length_replicate, List.length_cons, List.length_nil, List.length_set] <;> omega) | fail) only [h1, ↓Xa, Xb, Xc, ↓reduceIte, Nat.reduceLT, Nat.reduceEqDiff, Nat.reduceBEq, Nat.reduceLeDiff, Nat.reduceAdd, Nat.reduceMul]
      refine (lat_fn ta (by omega)).call ?_
      simp (disch := first | assumption | (apply Ap.symm; assumption) | omega | decide | (simp only [U_len, List.length_append, List.length_replicate, List.length_cons, List.length_nil, List.length_set] <;> omega) | fail) only [rep1, ne_eq, Nat.reduceEqDiff, ↓Xa, Xb, Xc, ↓reduceIte, Nat.reduceLT, Nat.reduceEqDiff, Nat.reduceBEq, Nat.reduceLeDiff, Nat.reduceAdd, Nat.reduceMul]
      refine app_grow (m := [(c + a.getD i 0 * m) % 4294967296]) hg rfl (by simp) (by simp; omega) fun z' H2 hg2 => ?_
      simp (disch := first | assumption | (apply Ap.symm; assumption) | omega | decide | (simp only [U_len, List.length_append, List.length_replicate, List.length_cons, List.length_nil, List.length_set] <;> omega) | fail) only [ne_eq, Nat.reduceEqDiff, ↓Xa, Xb, Xc, ↓reduceIte, Nat.reduceLT, Nat.reduceEqDiff, Nat.reduceBEq, Nat.reduceLeDiff, Nat.reduceAdd, Nat.reduceMul]
      exact Settle.now ⟨(i + 1, _, done ++ [_], _, _), meas, ⟨inv, st, hg2⟩, rfl⟩
    · have h3 : 0 < c := by omega
      simp (disch := first | assumption | (apply Ap.symm; assumption) | omega | decide | (simp only [U_len, List.length_append, List.length_replicate, List.length_cons, List.length_nil, List.length_set] <;> omega) | fail) only [h1, h3, ↓Xa, Xb, Xc, ↓reduceIte, Nat.reduceLT, Nat.reduceEqDiff, Nat.reduceBEq, Nat.reduceLeDiff, Nat.reduceAdd, Nat.reduceMul]
      refine (lat_fn ta (by omega)).call ?_
      simp (disch := first | assumption | (apply Ap.symm; assumption) | omega | decide | (simp only [U_len, List.length_append, List.length_replicate, List.length_cons, List.length_nil, List.length_set] <;> omega) | fail) only [rep1, ne_eq, Nat.reduceEqDiff, ↓Xa, Xb, Xc, ↓reduceIte, Nat.reduceLT, Nat.reduceEqDiff, Nat.reduceBEq, Nat.reduceLeDiff, Nat.reduceAdd, Nat.reduceMul]
      refine app_grow (m := [(c + a.getD i 0 * m) % 4294967296]) hg rfl (by simp) (by simp; omega) fun z' H2 hg2 => ?_
      simp (disch := first | assumption | (apply Ap.symm; assumption) | omega | decide | (simp only [U_len, List.length_append, List.length_replicate, List.length_cons, List.length_nil, List.length_set] <;> omega) | fail) only [ne_eq, Nat.reduceEqDiff, ↓Xa, Xb, Xc, ↓reduceIte, Nat.reduceLT, Nat.reduceEqDiff, Nat.reduceBEq, Nat.reduceLeDiff, Nat.reduceAdd, Nat.reduceMul]
      exact Settle.now ⟨(i + 1, _, done ++ [_], _, _), meas, ⟨inv, st, hg2⟩, rfl⟩
  · have h1 : ¬ i < a.length := by omega
    obtain rfl : c = 0 := by omega
    have hv := hI.2.2.2
    rw [Nat.mul_zero, Nat.add_zero, List.take_of_length_le (by omega)] at hv
    simp (disch := first | assumption | (apply Ap.symm; assumption) | omega | decide | (simp only [U_len, List.length_append, List.length_replicate, List.length_cons, List.length_nil, List.length_set] <;> omega) | fail) only [h1, ↓Xa, Xb, Xc, ↓reduceIte, Nat.reduceLT, Nat.reduceEqDiff, Nat.reduceBEq, Nat.reduceLeDiff, Nat.reduceAdd, Nat.reduceMul]
    refine Settle.grown 5 rfl hg (Settle.now ?_)
    simp (disch := first | assumption | (apply Ap.symm; assumption) | omega | decide | (simp only [U_len, List.length_append, List.length_replicate, List.length_cons, List.length_nil, List.length_set] <;> omega) | fail) only [↓Xa, Xb, Xc, ↓reduceIte, Nat.reduceLT, Nat.reduceEqDiff, Nat.reduceBEq, Nat.reduceLeDiff, Nat.reduceAdd, Nat.reduceMul]
    refine (lnorm_fn false (by omega)).call ?_
    rw [tr_digs (by omega) hI.2.1, hv]
    simp (disch := first | assumption | (apply Ap.symm; assumption) | omega | decide | (simp only [U_len, List.length_append, List.length_replicate, List.length_cons, List.length_nil, List.length_set] <;> omega) | fail) only [rs55, ↓Xa, Xb, Xc, ↓reduceIte, Nat.reduceLT, Nat.reduceEqDiff, Nat.reduceBEq, Nat.reduceLeDiff, Nat.reduceAdd, Nat.reduceMul]
    exact SetR.now hq

end Go.Proofs.YtipbcjnniamcgaaDoor.Fw

/- How often two divides a number. -/
namespace Go.Proofs.YtipbcjnniamcgaaDoor.Ma
set_option linter.unusedSimpArgs false
set_option linter.unusedVariables false

def tz (n : Nat) : Nat := if h : n = 0 ∨ n % 2 = 1 then 0 else tz (n / 2) + 1
termination_by n
decreasing_by omega
theorem tz_odd {n : Nat} (h : n % 2 = 1) : tz n = 0 := by rw [tz]; simp [h]
theorem tz_zero : tz 0 = 0 := by rw [tz]; simp
theorem tz_two {n : Nat} (h : 0 < n) : tz (2 * n) = tz n + 1 := by
  rw [tz, dif_neg (by omega), Nat.mul_div_cancel_left _ (by omega)]
theorem tz_eq (k m : Nat) : tz (2 ^ k * (2 * m + 1)) = k := by
  induction k with
  | zero => rw [Nat.pow_zero, Nat.one_mul]; exact tz_odd (by omega)
  | succ k ih =>
    have e : 2 ^ (k + 1) * (2 * m + 1) = 2 * (2 ^ k * (2 * m + 1)) := by rw [Nat.pow_succ, Nat.mul_comm (2 ^ k) 2, Nat.mul_assoc]
    rw [e, tz_two (Nat.mul_pos (Nat.pow_pos (by omega)) (by omega)), ih]
theorem tz_spec (n : Nat) : 0 < n → ∃ m, n = 2 ^ tz n * (2 * m + 1) := by
  induction n using Nat.strongRecOn with
  | _ n ih =>
    intro h
    by_cases ho : n % 2 = 1
    · exact ⟨n / 2, by rw [tz_odd ho, Nat.pow_zero, Nat.one_mul]; omega⟩
    · obtain ⟨m, hm⟩ := ih (n / 2) (by omega) (by omega)
      have e : n = 2 * (n / 2) := by omega
      refine ⟨m, ?_⟩
      have e2 : tz n = tz (n / 2) + 1 := by
        conv => lhs; rw [e]
        exact tz_two (by omega)
      rw [e2, Nat.pow_succ, Nat.mul_comm (2 ^ _) 2, Nat.mul_assoc, ← hm]
      exact e
theorem tz_lt {n k : Nat} (h : 0 < n) (hn : n < 2 ^ k) : tz n < k := by
  obtain ⟨m, hm⟩ := tz_spec n h
  have h1 : 2 ^ tz n ≤ n := by
    conv => rhs; rw [hm]
    exact Nat.le_mul_of_pos_right _ (by omega)
  exact (Nat.pow_lt_pow_iff_right (by omega)).1 (Nat.lt_of_le_of_lt h1 hn)
/-- The bits below are noughts; the next one is a one. -/
theorem tz_bit {n k : Nat} (h : 0 < n) (hk : k ≤ tz n) : n / 2 ^ k % 2 = if k = tz n then 1 else 0 := by
  obtain ⟨m, hm⟩ := tz_spec n h
  generalize tz n = t at *
  have e : n / 2 ^ k = 2 ^ (t - k) * (2 * m + 1) := by
    rw [hm, show 2 ^ t = 2 ^ k * 2 ^ (t - k) by rw [← Nat.pow_add]; congr 1; omega, Nat.mul_assoc, Nat.mul_div_cancel_left _ (Nat.pow_pos (by omega))]
  rw [e]
  by_cases hkt : k = t
  · subst hkt; rw [Nat.sub_self, Nat.pow_zero, if_pos rfl]; omega
  · rw [if_neg hkt]
    obtain ⟨j, hj⟩ : ∃ j, t - k = j + 1 := ⟨t - k - 1, by omega⟩
    rw [hj, Nat.pow_succ, Nat.mul_assoc, Nat.mul_comm (2 ^ j), Nat.mul_assoc, Nat.mul_mod_right]
/-- A number and its negation have just the lowest one in common. -/
theorem and_neg {x : Nat} (h : 0 < x) (hx : x < 4294967296) : x &&& (4294967296 - x) = 2 ^ tz x := by
  obtain ⟨m, hm⟩ := tz_spec x h
  have hk := tz_lt (k := 32) h hx
  generalize tz x = k at *
  have hp : (4294967296 : Nat) = 2 ^ k * 2 ^ (32 - k) := by rw [← Nat.pow_add, show k + (32 - k) = 32 by omega]
  have hlt : 2 * m + 1 < 2 ^ (32 - k) := by
    rw [hm, hp] at hx
    exact Nat.lt_of_mul_lt_mul_left hx
  obtain ⟨j, hj⟩ : ∃ j, 32 - k = j + 1 := ⟨31 - k, by omega⟩
  rw [hj] at hlt hp
  have hm2 : m < 2 ^ j := by rw [Nat.pow_succ] at hlt; omega
  have e1 : x = (2 * m + 1) <<< k := by rw [Nat.shiftLeft_eq, hm, Nat.mul_comm]
  have e2 : 4294967296 - x = (2 * (2 ^ j - (m + 1)) + 1) <<< k := by
    rw [Nat.shiftLeft_eq, hm, hp, ← Nat.mul_sub, Nat.mul_comm]
    congr 1
    rw [Nat.pow_succ]; omega
  rw [e2]
  conv => lhs; lhs; rw [e1]
  rw [← Nat.shiftLeft_and_distrib, Nat.shiftLeft_eq]
  have e3 : (2 * m + 1) &&& (2 * (2 ^ j - (m + 1)) + 1) = 1 := by
    apply Nat.eq_of_testBit_eq
    intro i
    rw [Nat.testBit_and]
    cases i with
    | zero => simp
    | succ i =>
      have a1 : (2 * m + 1).testBit (i + 1) = m.testBit i := by rw [Nat.testBit_succ]; congr 1; omega
      have a2 : (2 * (2 ^ j - (m + 1)) + 1).testBit (i + 1) = (2 ^ j - (m + 1)).testBit i := by rw [Nat.testBit_succ]; congr 1; omega
      rw [a1, a2, Nat.testBit_two_pow_sub_succ hm2]
      cases m.testBit i <;> simp [Nat.testBit_succ]
  rw [e3, Nat.one_mul]
def deB : List Nat := [0, 1, 28, 2, 29, 14, 24, 3, 30, 22, 20, 15, 25, 17, 4, 8, 31, 27, 13, 23, 21, 19, 16, 7, 26, 12, 18, 6, 11, 5, 10, 9]
theorem deB_at {k : Nat} (h : k < 32) : deB.getD (2 ^ k * 125613361 % 4294967296 / 134217728) 0 = k := by
  have : ∀ k, k < 32 → deB.getD (2 ^ k * 125613361 % 4294967296 / 134217728) 0 = k := by decide
  exact this k h
theorem deB_lt {k : Nat} (h : k < 32) : 2 ^ k * 125613361 % 4294967296 / 134217728 < 32 := by omega
/-- The first limb that is not nought. -/
theorem tz_limbs {a : List Nat} {i : Nat} (ha : Lim 4294967296 a) (hi : i < a.length) (h0 : val 4294967296 (a.take i) = 0) (hx : 0 < a.getD i 0) : tz (val 4294967296 a) = 32 * i + tz (a.getD i 0) ∧ 0 < val 4294967296 a := by
  have hxl := ha.getD (by omega) i
  have hk := tz_lt (k := 32) hx hxl
  obtain ⟨m, hm⟩ := tz_spec _ hx
  have e := val_split 4294967296 a i (by omega)
  rw [h0, Nat.zero_add, val_drop 4294967296 hi] at e
  generalize a.getD i 0 = x at *
  generalize val 4294967296 (a.drop (i + 1)) = r at *
  generalize tz x = k at *
  obtain ⟨j, hj⟩ : ∃ j, 32 = k + (j + 1) := ⟨31 - k, by omega⟩
  have e2 : val 4294967296 a = 2 ^ (32 * i + k) * (2 * (m + 2 ^ j * r) + 1) := by
    rw [e, hm, show (4294967296 : Nat) = 2 ^ 32 from rfl, ← Nat.pow_mul, Nat.pow_add, Nat.mul_assoc]
    congr 1
    conv => lhs; rw [hj]
    rw [Nat.pow_add, Nat.pow_succ, Nat.mul_assoc, ← Nat.mul_add]
    congr 1
    rw [Nat.mul_add 2, ← Nat.mul_assoc 2, Nat.mul_comm 2 (2 ^ j)]
    omega
  exact ⟨by rw [e2, tz_eq], by rw [e2]; exact Nat.mul_pos (Nat.pow_pos (by omega)) (by omega)⟩
theorem val_get {a : List Nat} (ha : Lim 4294967296 a) (j : Nat) : a.getD j 0 = val 4294967296 a / 4294967296 ^ j % 4294967296 := by
  by_cases hj : j < a.length
  · have h1 := val_drop_div (B := 4294967296) (by omega) ha (q := j) (by omega)
    rw [← h1, val_drop 4294967296 hj]
    have := ha.getD (by omega) j
    omega
  · have h1 := val_lt ha
    have h2 : (4294967296 : Nat) ^ a.length ≤ 4294967296 ^ j := Nat.pow_le_pow_right (by omega) (by omega)
    rw [getD_beyond (by omega), Nat.div_eq_of_lt (by omega)]
theorem bit_val {a : List Nat} (ha : Lim 4294967296 a) (k : Nat) : a.getD (k / 32) 0 / 2 ^ (k % 32) % 2 = val 4294967296 a / 2 ^ k % 2 := by
  rw [val_get ha]
  have e : 2 ^ k = 4294967296 ^ (k / 32) * 2 ^ (k % 32) := by
    conv => lhs; rw [← Nat.div_add_mod k 32, Nat.pow_add, Nat.pow_mul]
  rw [e, ← Nat.div_div_eq_div_mul]
  generalize val 4294967296 a / 4294967296 ^ (k / 32) = x
  have ht : k % 32 < 32 := Nat.mod_lt _ (by omega)
  generalize k % 32 = t at *
  have h32 : (4294967296 : Nat) = 2 ^ t * (2 * 2 ^ (31 - t)) := by
    rw [Nat.mul_comm 2, ← Nat.pow_succ, ← Nat.pow_add, show t + (31 - t + 1) = 32 by omega]
  rw [h32, Nat.mod_mul_right_div_self, Nat.mod_mul_right_mod]
theorem bit_high {a : List Nat} (ha : Lim 4294967296 a) {k : Nat} (h : a.length ≤ k / 32) : val 4294967296 a / 2 ^ k = 0 := by
  refine Nat.div_eq_of_lt (Nat.lt_of_lt_of_le (val_lt ha) ?_)
  rw [show (4294967296 : Nat) = 2 ^ 32 from rfl, ← Nat.pow_mul]
  exact Nat.pow_le_pow_right (by omega) (by omega)
end Go.Proofs.YtipbcjnniamcgaaDoor.Ma

/- The reference for limbs: binary digits; a row twice over; division bit by bit. -/
namespace Go.Proofs.YtipbcjnniamcgaaDoor.Fw
set_option linter.unusedSimpArgs false
set_option linter.unusedVariables false
open Go Go.Proofs.YtipbcjnniamcgaaDoor.Ma
set_option maxRecDepth 20000

theorem lbits_n {a : List Nat} {n k : Nat} (t : Bool) (ha : Nm a n k) (hk : k ≤ 1000000) : PFn Tryd.prog 62 [LS a t] (.int .i64 ((blen n : Nat) : Int)) := by
  intro H Q hq
  have hdn := (Nm.digs ha.lt).len
  refine enter62 (by simp) ?_
  simp (disch := first | assumption | (apply Ap.symm; assumption) | omega | decide | (simp only [U_len, List.length_append, List.length_replicate, List.length_cons, List.length_nil, List.length_set] <;> omega) | fail) only [ac62, ↓Xa, Xb, Xc, ↓reduceIte, Nat.reduceLT, Nat.reduceEqDiff, Nat.reduceBEq, Nat.reduceLeDiff, Nat.reduceAdd, Nat.reduceMul]
  refine (lnorm_n t ha hk).call ?_
  rcases Nat.eq_zero_or_pos n with e | e
  · subst e
    rw [digs_zero] at *
    simp (disch := first | assumption | (apply Ap.symm; assumption) | omega | decide | (simp only [U_len, List.length_append, List.length_replicate, List.length_cons, List.length_nil, List.length_set] <;> omega) | fail) only [List.length_nil, rs62, ↓Xa, Xb, Xc, ↓reduceIte, Nat.reduceLT, Nat.reduceEqDiff, Nat.reduceBEq, Nat.reduceLeDiff, Nat.reduceAdd, Nat.reduceMul]
    exact SetR.now hq
  · have hp : 0 < (Ma.digs 4294967296 n).length := by rw [digs_pos (by omega) e]; simp
    have hne : ((Ma.digs 4294967296 n).length = 0) = False := eq_false (by omega)
    have hb := blen_digs (w := 32) (by omega) e
    have hlim := (lim_digs (B := 4294967296) (by omega) n).getD (by omega) ((Ma.digs 4294967296 n).length - 1)
    have hb32 : blen ((Ma.digs 4294967296 n).getD ((Ma.digs 4294967296 n).length - 1) 0) ≤ 32 := blen_le.2 (by omega)
    change blen n = 32 * ((Ma.digs 4294967296 n).length - 1) + blen ((Ma.digs 4294967296 n).getD ((Ma.digs 4294967296 n).length - 1) 0) at hb
    simp (disch := first | assumption | (apply Ap.symm; assumption) | omega | decide | (simp only [U_len, List.length_append, List.length_replicate, List.length_cons, List.length_nil, List.length_set] <;> omega) | fail) only [hne, ↓Xa, Xb, Xc, ↓reduceIte, Nat.reduceLT, Nat.reduceEqDiff, Nat.reduceBEq, Nat.reduceLeDiff, Nat.reduceAdd, Nat.reduceMul]
    refine W_loop (fun s : Nat × Nat => ⟨[], [(4, .int .i64 (s.1 : Nat)), (5, .int .u32 (s.2 : Nat))], H⟩) (fun s => s.1 + blen s.2 = blen n ∧ s.2 < 4294967296) (fun s => s.2)
      (32 * ((Ma.digs 4294967296 n).length - 1), (Ma.digs 4294967296 n).getD ((Ma.digs 4294967296 n).length - 1) 0) (Settle.now rfl) ⟨hb.symm, hlim⟩ ?_
    rintro ⟨m, u⟩ ⟨h1, h2⟩
    dsimp only at h1 h2 ⊢
    have hbn : blen n ≤ 32 * 1000000 + 32 := by omega
    by_cases h0 : 0 < u
    · have hh := blen_half h0
      simp (disch := first | assumption | (apply Ap.symm; assumption) | omega | decide | (simp only [U_len, List.length_append, List.length_replicate, List.length_cons, List.length_nil, List.length_set] <;> omega) | fail) only [h0, ne_eq, Nat.reduceEqDiff, ↓Xa, Xb, Xc, ↓reduceIte, Nat.reduceLT, Nat.reduceEqDiff, Nat.reduceBEq, Nat.reduceLeDiff, Nat.reduceAdd, Nat.reduceMul]
      refine Settle.now ⟨(m + 1, u / 2), by dsimp only; omega, ⟨by dsimp only; omega, by dsimp only; omega⟩, rfl⟩
    · obtain rfl : u = 0 := by omega
      rw [blen_zero, Nat.add_zero] at h1
      simp (disch := first | assumption | (apply Ap.symm; assumption) | omega | decide | (simp only [U_len, List.length_append, List.length_replicate, List.length_cons, List.length_nil, List.length_set] <;> omega) | fail) only [h0, ↓Xa, Xb, Xc, ↓reduceIte, Nat.reduceLT, Nat.reduceEqDiff, Nat.reduceBEq, Nat.reduceLeDiff, Nat.reduceAdd, Nat.reduceMul]
      refine Settle.now ?_
      simp (disch := first | assumption | (apply Ap.symm; assumption) | omega | decide | (simp only [U_len, List.length_append, List.length_replicate, List.length_cons, List.length_nil, List.length_set] <;> omega) | fail) only [rs62, ↓Xa, Xb, Xc, ↓reduceIte, Nat.reduceLT, Nat.reduceEqDiff, Nat.reduceBEq, Nat.reduceLeDiff, Nat.reduceAdd, Nat.reduceMul]
      rw [h1]
      exact SetR.now hq
theorem rlbit_fn {l : List Nat} {k : Nat} (t : Bool) (hl : Lim 4294967296 l) (hn : l.length < 9223372036854775808) (hk : k < 9223372036854775808) : PFn Tryd.prog 64 [LS l t, .int .i64 (k : Int)] (.bool (decide (val 4294967296 l / 2 ^ k % 2 = 1))) := by
  intro H Q hq
  refine enter64 (by simp) ?_
  by_cases h : k / 32 < l.length
  · have hx := hl.getD (by omega) (k / 32)
    have hs : l.getD (k / 32) 0 / 2 ^ (k % 32) < 4294967296 := Nat.lt_of_le_of_lt (Nat.div_le_self _ _) hx
    have c2 : ∀ K, binW .and (.int .u32 ((l.getD (k / 32) 0 / 2 ^ (k % 32) : Nat) : Int)) (.int .u32 ((1 : Nat) : Int)) K ↔ K (.int .u32 ((l.getD (k / 32) 0 / 2 ^ (k % 32) % 2 : Nat) : Int)) := fun K => by
      rw [bin_and .u32 (by simp only [IntKind.bits]; omega) (by simp [IntKind.bits]), Nat.and_one_is_mod, wn_u32 (by omega)]
    simp (disch := first | assumption | (apply Ap.symm; assumption) | omega | decide | (simp only [U_len, List.length_append, List.length_replicate, List.length_cons, List.length_nil, List.length_set] <;> omega) | fail) only [ac64, h, c2, bit_val hl, rs64, ↓Xa, Xb, Xc, ↓reduceIte, Nat.reduceLT, Nat.reduceEqDiff, Nat.reduceBEq, Nat.reduceLeDiff, Nat.reduceAdd, Nat.reduceMul]
    exact ⟨by decide, by decide, by decide, SetR.now hq⟩
  · rw [bit_high hl (by omega)] at hq
    simp (disch := first | assumption | (apply Ap.symm; assumption) | omega | decide | (simp only [U_len, List.length_append, List.length_replicate, List.length_cons, List.length_nil, List.length_set] <;> omega) | fail) only [ac64, h, rs64, ↓Xa, Xb, Xc, ↓reduceIte, Nat.reduceLT, Nat.reduceEqDiff, Nat.reduceBEq, Nat.reduceLeDiff, Nat.reduceAdd, Nat.reduceMul]
    exact ⟨by decide, SetR.now hq⟩

/-- A row twice over, from the lowest up. -/
def DbI (a : List Nat) (c0 i c : Nat) (done : List Nat) : Prop := done.length = i ∧ Lim 4294967296 done ∧ c ≤ 1 ∧ val 4294967296 done + 4294967296 ^ i * c = 2 * val 4294967296 (a.take i) + c0
theorem DbI.zero (a : List Nat) {c0 : Nat} (h : c0 ≤ 1) : DbI a c0 0 c0 [] := ⟨rfl, Lim.nil _, h, by simp [val]⟩
theorem DbI.step {a done : List Nat} {c0 i c : Nat} (h : DbI a c0 i c done) (ha : Lim 4294967296 a) : DbI a c0 (i + 1) (a.getD i 0 / 2147483648) (done ++ [(a.getD i 0 * 2 % 4294967296 + c) % 4294967296]) := by
  obtain ⟨h1, h2, h3, h4⟩ := h
  have ga := ha.getD (by omega) i
  refine ⟨by simp [h1], lim_snoc h2 (Nat.mod_lt _ (by omega)), by omega, ?_⟩
  rw [val_snoc, val_take, h1, Nat.pow_succ, Nat.mul_assoc]
  have e : (a.getD i 0 * 2 % 4294967296 + c) % 4294967296 + 4294967296 * (a.getD i 0 / 2147483648) = c + 2 * a.getD i 0 := by omega
  have e1 : 4294967296 ^ i * ((a.getD i 0 * 2 % 4294967296 + c) % 4294967296) + 4294967296 ^ i * (4294967296 * (a.getD i 0 / 2147483648)) = 4294967296 ^ i * c + 2 * (4294967296 ^ i * a.getD i 0) := by
    rw [← Nat.mul_add, e, Nat.mul_add, Nat.mul_left_comm]
  omega
theorem double_run {H : AHeap} {Q : AV → AHeap → Prop} {a : List Nat} {bit : Bool} (t : Bool) (ha : Lim 4294967296 a) (hl : a.length ≤ 1099511627776) (hq : ∀ y, Lim 4294967296 y → val 4294967296 y = 2 * val 4294967296 a + (if bit then 1 else 0) → y.length ≤ a.length + 1 → Q (LS y false) H) :
    Run Tryd.prog 99 [LS a t, .bool bit] H Q := by
  refine enter99 (by simp) ?_
  have tail : ∀ c0, c0 ≤ 1 → c0 = (if bit then 1 else 0) → ∀ v : Env, (v = [] ∨ v = [(8, .bool false)]) → W Tryd.prog (sndC (sndC (sndC (sndC ac99)))) (retN rs99 Q) ⟨[], [(0, LS a t), (5, .seq 0 [] true), (6, .int .u32 (c0 : Nat))] ++ v, H⟩ := by
    intro c0 hc0 hcb v hv
    rw [← hcb] at hq
    rcases hv with rfl | rfl
    all_goals
      simp (disch := first | assumption | (apply Ap.symm; assumption) | omega | decide | (simp only [U_len, List.length_append, List.length_replicate, List.length_cons, List.length_nil, List.length_set] <;> omega) | fail) only [sndC, ac99, ↓Xa, Xb, Xc, ↓reduceIte, Nat.reduceLT, Nat.reduceEqDiff, Nat.reduceBEq, Nat.reduceLeDiff, Nat.reduceAdd, Nat.reduceMul]
      refine W_loop (fun s : Nat × Nat × List Nat × AV × AHeap => ⟨[], [(0, LS a t), (5, s.2.2.2.1), (6, .int .u32 (s.2.1 : Nat)), (7, .int .i64 (s.1 : Nat))], s.2.2.2.2⟩)
        (fun s => s.1 ≤ a.length ∧ DbI a c0 s.1 s.2.1 s.2.2.1 ∧ grow H 45 s.2.2.1 s.2.2.2.1 s.2.2.2.2) (fun s => a.length - s.1) (0, c0, [], _, _) (Settle.now rfl) ⟨Nat.zero_le _, DbI.zero a hc0, grow_nil⟩ ?_
      rintro ⟨i, c, done, x, H'⟩ ⟨hi, hI, hg⟩
      dsimp only at hi hI hg ⊢
      have hdl := hI.1
      have hc1 := hI.2.2.1
      by_cases h : i < a.length
      · have hx := ha.getD (by omega) i
        have st := hI.step ha
        rw [Nat.mod_eq_of_lt (show a.getD i 0 * 2 % 4294967296 + c < 4294967296 by omega)] at st
        simp (disch := first | assumption | (apply Ap.symm; assumption) | omega | decide | (simp only [U_len, List.length_append, List.length_replicate, List.length_cons, List.length_nil, List.length_set] <;> omega) | fail) only [h, rep1, ↓Xa, Xb, Xc, ↓reduceIte, Nat.reduceLT, Nat.reduceEqDiff, Nat.reduceBEq, Nat.reduceLeDiff, Nat.reduceAdd, Nat.reduceMul]
        refine app_grow (m := [a.getD i 0 * 2 % 4294967296 + c]) hg rfl (by simp) (by simp; omega) fun z' H2 hg2 => ?_
        simp (disch := first | assumption | (apply Ap.symm; assumption) | omega | decide | (simp only [U_len, List.length_append, List.length_replicate, List.length_cons, List.length_nil, List.length_set] <;> omega) | fail) only [ne_eq, Nat.reduceEqDiff, ↓Xa, Xb, Xc, ↓reduceIte, Nat.reduceLT, Nat.reduceEqDiff, Nat.reduceBEq, Nat.reduceLeDiff, Nat.reduceAdd, Nat.reduceMul]
        first
          | exact Settle.now ⟨(i + 1, _, done ++ [_], _, _), by dsimp only; omega, ⟨by dsimp only; omega, st, hg2⟩, rfl⟩
          | exact ⟨by decide, Settle.now ⟨(i + 1, _, done ++ [_], _, _), by dsimp only; omega, ⟨by dsimp only; omega, st, hg2⟩, rfl⟩⟩
      · obtain rfl : i = a.length := by omega
        obtain ⟨h1, h2, h3, h4⟩ := hI
        rw [List.take_of_length_le (Nat.le_refl _)] at h4
        simp (disch := first | assumption | (apply Ap.symm; assumption) | omega | decide | (simp only [U_len, List.length_append, List.length_replicate, List.length_cons, List.length_nil, List.length_set] <;> omega) | fail) only [h, ↓Xa, Xb, Xc, ↓reduceIte, Nat.reduceLT, Nat.reduceEqDiff, Nat.reduceBEq, Nat.reduceLeDiff, Nat.reduceAdd, Nat.reduceMul]
        refine Settle.now ?_
        by_cases hc : 0 < c
        · obtain rfl : c = 1 := by omega
          simp (disch := first | assumption | (apply Ap.symm; assumption) | omega | decide | (simp only [U_len, List.length_append, List.length_replicate, List.length_cons, List.length_nil, List.length_set] <;> omega) | fail) only [rep1, ↓Xa, Xb, Xc, ↓reduceIte, Nat.reduceLT, Nat.reduceEqDiff, Nat.reduceBEq, Nat.reduceLeDiff, Nat.reduceAdd, Nat.reduceMul]
          refine app_grow (m := [1]) hg rfl (by simp) (by simp; omega) fun z' H2 hg2 => ?_
          simp (disch := first | assumption | (apply Ap.symm; assumption) | omega | decide | (simp only [U_len, List.length_append, List.length_replicate, List.length_cons, List.length_nil, List.length_set] <;> omega) | fail) only [rs99, ↓Xa, Xb, Xc, ↓reduceIte, Nat.reduceLT, Nat.reduceEqDiff, Nat.reduceBEq, Nat.reduceLeDiff, Nat.reduceAdd, Nat.reduceMul]
          exact grow_fin hg2 (hq _ (lim_snoc h2 (by omega)) (by rw [val_snoc, h1]; exact h4) (by simp; omega))
        · obtain rfl : c = 0 := by omega
          simp (disch := first | assumption | (apply Ap.symm; assumption) | omega | decide | (simp only [U_len, List.length_append, List.length_replicate, List.length_cons, List.length_nil, List.length_set] <;> omega) | fail) only [rs99, ↓Xa, Xb, Xc, ↓reduceIte, Nat.reduceLT, Nat.reduceEqDiff, Nat.reduceBEq, Nat.reduceLeDiff, Nat.reduceAdd, Nat.reduceMul]
          exact grow_fin hg (hq _ h2 (by simpa using h4) (by omega))
  cases bit with
  | true =>
    have tl := tail 1 (by omega) rfl [] (.inl rfl)
    simp (disch := first | assumption | (apply Ap.symm; assumption) | omega | decide | (simp only [U_len, List.length_append, List.length_replicate, List.length_cons, List.length_nil, List.length_set] <;> omega) | fail) only [sndC, ac99, ↓Xa, Xb, Xc, ↓reduceIte, Nat.reduceLT, Nat.reduceEqDiff, Nat.reduceBEq, Nat.reduceLeDiff, Nat.reduceAdd, Nat.reduceMul] at tl
    simp (disch := first | assumption | (apply Ap.symm; assumption) | omega | decide | (simp only [U_len, List.length_append, List.length_replicate, List.length_cons, List.length_nil, List.length_set] <;> omega) | fail) only [ac99, ↓Xa, Xb, Xc, ↓reduceIte, Nat.reduceLT, Nat.reduceEqDiff, Nat.reduceBEq, Nat.reduceLeDiff, Nat.reduceAdd, Nat.reduceMul]
    exact tl
  | false =>
    have tl := tail 0 (by omega) rfl _ (.inr rfl)
    simp (disch := first | assumption | (apply Ap.symm; assumption) | omega | decide | (simp only [U_len, List.length_append, List.length_replicate, List.length_cons, List.length_nil, List.length_set] <;> omega) | fail) only [sndC, ac99, ↓Xa, Xb, Xc, ↓reduceIte, Nat.reduceLT, Nat.reduceEqDiff, Nat.reduceBEq, Nat.reduceLeDiff, Nat.reduceAdd, Nat.reduceMul] at tl
    simp (disch := first | assumption | (apply Ap.symm; assumption) | omega | decide | (simp only [U_len, List.length_append, List.length_replicate, List.length_cons, List.length_nil, List.length_set] <;> omega) | fail) only [ac99, ↓Xa, Xb, Xc, ↓reduceIte, Nat.reduceLT, Nat.reduceEqDiff, Nat.reduceBEq, Nat.reduceLeDiff, Nat.reduceAdd, Nat.reduceMul]
    exact tl
/-- The remainder's next bit. -/
theorem div_bit {m n s : Nat} (h : 0 < n) : 2 * ((m / 2 ^ (s + 1)) % n) + (if m / 2 ^ s % 2 = 1 then 1 else 0) < 2 * n ∧
    2 * (m / 2 ^ (s + 1) / n) * n + (2 * ((m / 2 ^ (s + 1)) % n) + (if m / 2 ^ s % 2 = 1 then 1 else 0)) = m / 2 ^ s := by
  have e : m / 2 ^ (s + 1) = m / 2 ^ s / 2 := by rw [Nat.pow_succ, Nat.div_div_eq_div_mul]
  rw [e]
  generalize m / 2 ^ s = x
  have h1 := Nat.mod_lt (x / 2) h
  have h2 := Nat.div_add_mod (x / 2) n
  have h3 : (if x % 2 = 1 then 1 else 0) = x % 2 := by split <;> omega
  rw [h3]
  refine ⟨by omega, ?_⟩
  have e2 : 2 * (x / 2 / n) * n = 2 * (n * (x / 2 / n)) := by rw [Nat.mul_assoc, Nat.mul_comm (x / 2 / n) n]
  rw [e2]; omega
theorem div_res {x n q r : Nat} (h : q * n + r = x) (hr : r < n) : x / n = q ∧ x % n = r := by
  have hn : 0 < n := by omega
  subst h
  rw [Nat.mul_comm q n, Nat.mul_add_div hn, Nat.div_eq_of_lt hr, Nat.mul_add_mod, Nat.mod_eq_of_lt hr]; simp
theorem ldivmod_n {a b : List Nat} {m n k k' : Nat} (ta tb : Bool) (ha : Nm a m k) (hb : Nm b n k') (hk : k ≤ 1000000) (hk' : k' ≤ 1000000) (h0 : 0 < n) :
    PFn Tryd.prog 52 [LS a ta, LS b tb] (.tup [LS (Ma.digs 4294967296 (m / n)) false, LS (Ma.digs 4294967296 (m % n)) false]) := by
  intro H Q hq
  have hbm : blen m ≤ 32 * k := blen_le.2 (by
    have := ha.lt
    rwa [show (4294967296 : Nat) = 2 ^ 32 from rfl, ← Nat.pow_mul] at this)
  refine enter52 (by simp) ?_
  simp (disch := first | assumption | (apply Ap.symm; assumption) | omega | decide | (simp only [U_len, List.length_append, List.length_replicate, List.length_cons, List.length_nil, List.length_set] <;> omega) | fail) only [ac52, ↓Xa, Xb, Xc, ↓reduceIte, Nat.reduceLT, Nat.reduceEqDiff, Nat.reduceBEq, Nat.reduceLeDiff, Nat.reduceAdd, Nat.reduceMul]
  refine (lnorm_n tb hb hk').call ?_
  simp (disch := first | assumption | (apply Ap.symm; assumption) | omega | decide | (simp only [U_len, List.length_append, List.length_replicate, List.length_cons, List.length_nil, List.length_set] <;> omega) | fail) only [↓Xa, Xb, Xc, ↓reduceIte, Nat.reduceLT, Nat.reduceEqDiff, Nat.reduceBEq, Nat.reduceLeDiff, Nat.reduceAdd, Nat.reduceMul]
  refine (lbits_n ta ha hk).call ?_
  simp (disch := first | assumption | (apply Ap.symm; assumption) | omega | decide | (simp only [U_len, List.length_append, List.length_replicate, List.length_cons, List.length_nil, List.length_set] <;> omega) | fail) only [↓Xa, Xb, Xc, ↓reduceIte, Nat.reduceLT, Nat.reduceEqDiff, Nat.reduceBEq, Nat.reduceLeDiff, Nat.reduceAdd, Nat.reduceMul]
  have nb := Nm.digs hb.lt
  refine W_loop (fun s : Nat × List Nat × Bool × List Nat × Bool => ⟨[], [(0, LS a ta), (1, LS (Ma.digs 4294967296 n) false), (6, LS s.2.1 s.2.2.1), (7, LS s.2.2.2.1 s.2.2.2.2), (8, .int .i64 (dn s.1))], H⟩)
    (fun s => s.1 ≤ blen m ∧ (Lim 4294967296 s.2.1 ∧ val 4294967296 s.2.1 = m / 2 ^ s.1 / n ∧ s.2.1.length ≤ blen m - s.1) ∧ (Lim 4294967296 s.2.2.2.1 ∧ val 4294967296 s.2.2.2.1 = m / 2 ^ s.1 % n ∧ s.2.2.2.1.length ≤ blen m - s.1 + 1000001)) (fun s => s.1) (blen m, [], true, [], true) (Settle.now rfl) ?_ ?_
  · have e : m / 2 ^ blen m = 0 := Nat.div_eq_of_lt (blen_le.1 (Nat.le_refl _))
    dsimp only
    rw [e]
    exact ⟨Nat.le_refl _, ⟨Lim.nil _, by simp [val], by simp⟩, Lim.nil _, by simp [val], by simp⟩
  rintro ⟨s, ql, tq, rl, tr⟩ ⟨hs, ⟨q1, q2, q3⟩, r1, r2, r3⟩
  dsimp only at hs q1 q2 q3 r1 r2 r3 ⊢
  cases s with
  | zero =>
    rw [Nat.pow_zero, Nat.div_one] at q2 r2
    simp (disch := first | assumption | (apply Ap.symm; assumption) | omega | decide | (simp only [U_len, List.length_append, List.length_replicate, List.length_cons, List.length_nil, List.length_set] <;> omega) | fail) only [↓Xa, Xb, Xc, ↓reduceIte, Nat.reduceLT, Nat.reduceEqDiff, Nat.reduceBEq, Nat.reduceLeDiff, Nat.reduceAdd, Nat.reduceMul]
    refine Settle.now ?_
    simp (disch := first | assumption | (apply Ap.symm; assumption) | omega | decide | (simp only [U_len, List.length_append, List.length_replicate, List.length_cons, List.length_nil, List.length_set] <;> omega) | fail) only [↓Xa, Xb, Xc, ↓reduceIte, Nat.reduceLT, Nat.reduceEqDiff, Nat.reduceBEq, Nat.reduceLeDiff, Nat.reduceAdd, Nat.reduceMul]
    refine (lnorm_fn tq (by omega)).call ?_
    rw [tr_digs (by omega) q1, q2]
    simp (disch := first | assumption | (apply Ap.symm; assumption) | omega | decide | (simp only [U_len, List.length_append, List.length_replicate, List.length_cons, List.length_nil, List.length_set] <;> omega) | fail) only [↓Xa, Xb, Xc, ↓reduceIte, Nat.reduceLT, Nat.reduceEqDiff, Nat.reduceBEq, Nat.reduceLeDiff, Nat.reduceAdd, Nat.reduceMul]
    refine (lnorm_fn tr (by omega)).call ?_
    rw [tr_digs (by omega) r1, r2]
    simp (disch := first | assumption | (apply Ap.symm; assumption) | omega | decide | (simp only [U_len, List.length_append, List.length_replicate, List.length_cons, List.length_nil, List.length_set] <;> omega) | fail) only [rs52, ↓Xa, Xb, Xc, ↓reduceIte, Nat.reduceLT, Nat.reduceEqDiff, Nat.reduceBEq, Nat.reduceLeDiff, Nat.reduceAdd, Nat.reduceMul]
    exact SetR.now hq
  | succ s =>
    obtain ⟨d1, d2⟩ := div_bit (m := m) (s := s) h0
    simp (disch := first | assumption | (apply Ap.symm; assumption) | omega | decide | (simp only [U_len, List.length_append, List.length_replicate, List.length_cons, List.length_nil, List.length_set] <;> omega) | fail) only [↓Xa, Xb, Xc, ↓reduceIte, Nat.reduceLT, Nat.reduceEqDiff, Nat.reduceBEq, Nat.reduceLeDiff, Nat.reduceAdd, Nat.reduceMul]
    refine (rlbit_fn ta ha.lim (by have := ha.len; omega) (by omega)).call ?_
    rw [ha.val]
    simp (disch := first | assumption | (apply Ap.symm; assumption) | omega | decide | (simp only [U_len, List.length_append, List.length_replicate, List.length_cons, List.length_nil, List.length_set] <;> omega) | fail) only [↓Xa, Xb, Xc, ↓reduceIte, Nat.reduceLT, Nat.reduceEqDiff, Nat.reduceBEq, Nat.reduceLeDiff, Nat.reduceAdd, Nat.reduceMul]
    refine run_call (double_run tr r1 (by omega) fun y y1 y2 y3 => ?_)
    have hif : (if decide (m / 2 ^ s % 2 = 1) = true then 1 else 0) = (if m / 2 ^ s % 2 = 1 then 1 else 0) := by simp
    rw [r2, hif] at y2
    rw [← y2] at d1 d2
    simp (disch := first | assumption | (apply Ap.symm; assumption) | omega | decide | (simp only [U_len, List.length_append, List.length_replicate, List.length_cons, List.length_nil, List.length_set] <;> omega) | fail) only [↓Xa, Xb, Xc, ↓reduceIte, Nat.reduceLT, Nat.reduceEqDiff, Nat.reduceBEq, Nat.reduceLeDiff, Nat.reduceAdd, Nat.reduceMul]
    refine (lcmp_fn false false y1 nb.lim (by omega) (by have := nb.len; omega)).call ?_
    rw [nb.val]
    by_cases hge : n ≤ val 4294967296 y
    · obtain ⟨e1, e2⟩ := div_res (x := m / 2 ^ s) (n := n) (q := 2 * (m / 2 ^ (s + 1) / n) + 1) (r := val 4294967296 y - n) (by rw [Nat.add_mul]; omega) (by omega)
      simp (disch := first | assumption | (apply Ap.symm; assumption) | omega | decide | (simp only [U_len, List.length_append, List.length_replicate, List.length_cons, List.length_nil, List.length_set] <;> omega) | fail) only [cmpZ_geq, hge, ↓Xa, Xb, Xc, ↓reduceIte, Nat.reduceLT, Nat.reduceEqDiff, Nat.reduceBEq, Nat.reduceLeDiff, Nat.reduceAdd, Nat.reduceMul]
      refine (lsub_fn false false y1 nb.lim (by omega) (by have := nb.len; omega) (by rw [nb.val]; exact hge)).call ?_
      rw [nb.val]
      simp (disch := first | assumption | (apply Ap.symm; assumption) | omega | decide | (simp only [U_len, List.length_append, List.length_replicate, List.length_cons, List.length_nil, List.length_set] <;> omega) | fail) only [↓Xa, Xb, Xc, ↓reduceIte, Nat.reduceLT, Nat.reduceEqDiff, Nat.reduceBEq, Nat.reduceLeDiff, Nat.reduceAdd, Nat.reduceMul]
      refine run_call (double_run tq q1 (by omega) fun z z1 z2 z3 => ?_)
      simp (disch := first | assumption | (apply Ap.symm; assumption) | omega | decide | (simp only [U_len, List.length_append, List.length_replicate, List.length_cons, List.length_nil, List.length_set] <;> omega) | fail) only [↓Xa, Xb, Xc, ↓reduceIte, Nat.reduceLT, Nat.reduceEqDiff, Nat.reduceBEq, Nat.reduceLeDiff, Nat.reduceAdd, Nat.reduceMul]
      have nr := Nm.digs (n := val 4294967296 y - n) (k := k') (Nat.lt_of_lt_of_le (show val 4294967296 y - n < n by omega) (Nat.le_of_lt hb.lt))
      refine Settle.now ⟨(s, z, false, Ma.digs 4294967296 (val 4294967296 y - n), false), Nat.lt_succ_self s, ⟨by dsimp only; omega, ⟨z1, by dsimp only; rw [z2, q2, e1]; simp, by dsimp only; omega⟩, nr.lim, by dsimp only; rw [nr.val, e2], by dsimp only; have := nr.len; omega⟩, rfl⟩
    · obtain ⟨e1, e2⟩ := div_res (x := m / 2 ^ s) (n := n) (q := 2 * (m / 2 ^ (s + 1) / n)) (r := val 4294967296 y) (by omega) (by omega)
      simp (disch := first | assumption | (apply Ap.symm; assumption) | omega | decide | (simp only [U_len, List.length_append, List.length_replicate, List.length_cons, List.length_nil, List.length_set] <;> omega) | fail) only [cmpZ_geq, hge, ↓Xa, Xb, Xc, ↓reduceIte, Nat.reduceLT, Nat.reduceEqDiff, Nat.reduceBEq, Nat.reduceLeDiff, Nat.reduceAdd, Nat.reduceMul]
      refine run_call (double_run tq q1 (by omega) fun z z1 z2 z3 => ?_)
      simp (disch := first | assumption | (apply Ap.symm; assumption) | omega | decide | (simp only [U_len, List.length_append, List.length_replicate, List.length_cons, List.length_nil, List.length_set] <;> omega) | fail) only [↓Xa, Xb, Xc, ↓reduceIte, Nat.reduceLT, Nat.reduceEqDiff, Nat.reduceBEq, Nat.reduceLeDiff, Nat.reduceAdd, Nat.reduceMul]
      refine Settle.now ⟨(s, z, false, y, false), Nat.lt_succ_self s, ⟨by dsimp only; omega, ⟨z1, by dsimp only; rw [z2, q2, e1]; simp, by dsimp only; omega⟩, y1, by dsimp only; rw [e2], by dsimp only; omega⟩, rfl⟩
end Go.Proofs.YtipbcjnniamcgaaDoor.Fw

/- The greatest common divisor of limbs. -/
namespace Go.Proofs.YtipbcjnniamcgaaDoor.Fw
set_option linter.unusedSimpArgs false
set_option linter.unusedVariables false
open Go Go.Proofs.YtipbcjnniamcgaaDoor.Ma
set_option maxRecDepth 20000

end Go.Proofs.YtipbcjnniamcgaaDoor.Fw

/- The looked-up code of one function, and that it is: by a program (wip/tools/ac.py); Lean checks it. -/
namespace Go.Proofs.YtipbcjnniamcgaaDoor.Fw
open Go
set_option maxRecDepth 100000
end Go.Proofs.YtipbcjnniamcgaaDoor.Fw

/- The looked-up code of one function, and that it is: by a program (wip/tools/ac.py); Lean checks it. -/
namespace Go.Proofs.YtipbcjnniamcgaaDoor.Fw
open Go
set_option maxRecDepth 100000
end Go.Proofs.YtipbcjnniamcgaaDoor.Fw

/- The reference for limbs: common divisors, shifts. The laws of limbs divided, of common divisors. -/
namespace Go.Proofs.YtipbcjnniamcgaaDoor.Fw
set_option linter.unusedSimpArgs false
set_option linter.unusedVariables false
open Go Go.Proofs.YtipbcjnniamcgaaDoor.Ma
set_option maxRecDepth 20000

end Go.Proofs.YtipbcjnniamcgaaDoor.Fw

/- What the reference computes of whole numbers: digits to the base 65536. -/
namespace Go.Proofs.YtipbcjnniamcgaaDoor.Fw
set_option linter.unusedSimpArgs false
set_option linter.unusedVariables false
open Go Go.Proofs.YtipbcjnniamcgaaDoor.Ma
set_option maxRecDepth 20000

/-- A whole number of the reference. -/
def RefA (z : Int) (t : Bool) : AV := .agg [.bool (decide (z < 0)), LS (digs 65536 z.natAbs) t]
theorem lss_neg {n : Int} {K : AV → Prop} : binW .lss (.int .i64 n) (.int .i64 ((0 : Nat) : Int)) K ↔ K (.bool (decide (n < 0))) := by
  simp only [binW, binInt, true_and]; exact Iff.rfl
end Go.Proofs.YtipbcjnniamcgaaDoor.Fw

/- What the reference computes of whole numbers: signs, comparing, sums, products. -/
namespace Go.Proofs.YtipbcjnniamcgaaDoor.Fw
set_option linter.unusedSimpArgs false
set_option linter.unusedVariables false
open Go Go.Proofs.YtipbcjnniamcgaaDoor.Ma
set_option maxRecDepth 20000

end Go.Proofs.YtipbcjnniamcgaaDoor.Fw

/- What the reference computes of whole numbers: sums, differences, products. -/
namespace Go.Proofs.YtipbcjnniamcgaaDoor.Fw
set_option linter.unusedSimpArgs false
set_option linter.unusedVariables false
open Go Go.Proofs.YtipbcjnniamcgaaDoor.Ma
set_option maxRecDepth 20000

end Go.Proofs.YtipbcjnniamcgaaDoor.Fw

/- The laws' own helpers: one number in both, numbers that are too long, one answer that is fixed. -/
namespace Go.Proofs.YtipbcjnniamcgaaDoor.Fw
set_option linter.unusedSimpArgs false
set_option linter.unusedVariables false
open Go Go.Proofs.YtipbcjnniamcgaaDoor.Ma
set_option maxRecDepth 20000

/-- Numbers as they are handed in. -/
def NumA (q : Bool × List Nat × Bool) : AV := .agg [.bool q.1, LS q.2.1 q.2.2]
def NumC : List (Bool × List Nat × Bool) → List AV
  | [] => []
  | q :: r => .bool q.1 :: LS q.2.1 q.2.2 :: NumC r
def fits (x : Int) : Bool := decide (-9223372036854775808 ≤ x ∧ x < 9223372036854775808)
def smallV (x : Int) : Int := if fits x then x else ((0 : Nat) : Int)
end Go.Proofs.YtipbcjnniamcgaaDoor.Fw

/- The law of sums, as what its code computes: true. -/
namespace Go.Proofs.YtipbcjnniamcgaaDoor.Fw
set_option linter.unusedSimpArgs false
set_option linter.unusedVariables false
open Go Go.Proofs.YtipbcjnniamcgaaDoor.Ma
set_option maxRecDepth 20000

end Go.Proofs.YtipbcjnniamcgaaDoor.Fw

/- Sums and products of rows of whole numbers. -/
namespace Go.Proofs.YtipbcjnniamcgaaDoor.Fw
set_option linter.unusedSimpArgs false
set_option linter.unusedVariables false
open Go Go.Proofs.YtipbcjnniamcgaaDoor.Ma
set_option maxRecDepth 20000

/-- Whole numbers in a row. -/
def IntC : List Int → List AV
  | [] => []
  | z :: r => .bool (decide (z < 0)) :: LS (digs 4294967296 z.natAbs) true :: IntC r
section
variable {l : List Int} {t : Bool} {H : AHeap} {K : AV → Prop}
end
end Go.Proofs.YtipbcjnniamcgaaDoor.Fw

/- The ring's law, as what its code computes: true. -/
namespace Go.Proofs.YtipbcjnniamcgaaDoor.Fw
set_option linter.unusedSimpArgs false
set_option linter.unusedVariables false
open Go Go.Proofs.YtipbcjnniamcgaaDoor.Ma
set_option maxRecDepth 20000

end Go.Proofs.YtipbcjnniamcgaaDoor.Fw

/- Binary digits; powers. -/
namespace Go.Proofs.YtipbcjnniamcgaaDoor.Fw
set_option linter.unusedSimpArgs false
set_option linter.unusedVariables false
open Go Go.Proofs.YtipbcjnniamcgaaDoor.Ma
set_option maxRecDepth 20000

end Go.Proofs.YtipbcjnniamcgaaDoor.Fw

/- Powers, as the program and the reference have them. -/
namespace Go.Proofs.YtipbcjnniamcgaaDoor.Fw
set_option linter.unusedSimpArgs false
set_option linter.unusedVariables false
open Go Go.Proofs.YtipbcjnniamcgaaDoor.Ma
set_option maxRecDepth 20000

end Go.Proofs.YtipbcjnniamcgaaDoor.Fw

/- The law of powers, as what its code computes: true. -/
namespace Go.Proofs.YtipbcjnniamcgaaDoor.Fw
set_option linter.unusedSimpArgs false
set_option linter.unusedVariables false
open Go Go.Proofs.YtipbcjnniamcgaaDoor.Ma
set_option maxRecDepth 20000

/-- The reference's numbers in memory. -/
def RefB (z : Int) : AV := .bool (decide (z < 0))
def RefD (z : Int) : AV := LS (digs 65536 z.natAbs) false
theorem Bd.blen {z : Int} {k : Nat} (h : Bd k z) : Ma.blen z.natAbs ≤ 32 * k := by rw [blen_le, Nat.pow_mul]; exact h
end Go.Proofs.YtipbcjnniamcgaaDoor.Fw

/- Quotients and remainders of whole numbers, as the program has them. -/
namespace Go.Proofs.YtipbcjnniamcgaaDoor.Fw
set_option linter.unusedSimpArgs false
set_option linter.unusedVariables false
open Go Go.Proofs.YtipbcjnniamcgaaDoor.Ma
set_option maxRecDepth 20000

end Go.Proofs.YtipbcjnniamcgaaDoor.Fw

/- The framework, part W: a row of one's own, taken up anew at its shorter length; rows that grow, also from nothing of one's own. -/
namespace Go.Proofs.YtipbcjnniamcgaaDoor.Fw
set_option linter.unusedSimpArgs false
set_option linter.unusedVariables false
open Go Go.Proofs.YtipbcjnniamcgaaDoor.Ma

/-- The context in which a block has a new number and is followed at a shorter length. -/
def Ctx.renew (c : Ctx) (b b' : Nat) (x : ABlk) : Ctx := { c with μ := fun i => if i = b' then c.μ b else c.μ i, U := fun i => c.U i ∨ i = b', H := (c.H.upd b none).upd b' (some x) }

theorem Ctx.renew_H {c : Ctx} {b b' i : Nat} {x y : ABlk} (h : (c.renew b b' x).H i = some y) : (i = b' ∧ y = x) ∨ (i ≠ b' ∧ i ≠ b ∧ c.H i = some y) := by
  have h2 : ((c.H.upd b none).upd b' (some x)) i = some y := h
  rcases upd_some h2 with ⟨e, e2⟩ | ⟨e, e2⟩
  · injection e2 with e2; exact .inl ⟨e, e2.symm⟩
  · rcases upd_some e2 with ⟨_, e4⟩ | ⟨e3, e4⟩
    · cases e4
    · exact .inr ⟨e, e3, e4⟩

theorem Ctx.renew_later {c : Ctx} {b b' : Nat} {x : ABlk} (hb : ABlk.mut (c.H b)) (hU : ¬ c.U b') (hR : ¬ c.R b') : Later c (c.renew b b' x) := by
  refine ⟨⟨Nat.le_refl _, rfl, rfl, rfl, fun _ h => .inl h, ?_, ?_⟩, fun i h => ⟨h, fun k => k.resolve_right fun e => hR (e ▸ h)⟩⟩
  · intro i x' hi hx
    rcases Ctx.renew_H hx with ⟨e, _⟩ | ⟨e, _, e2⟩
    · exact absurd (e ▸ hi) hU
    · refine ⟨x', e2, Nat.le_refl _, fun _ => ⟨if_neg e, fun _ _ cells e' => ⟨cells, e', fun arr h => ⟨arr, ?_, rfl⟩⟩⟩⟩
      show c.w.heap[if i = b' then c.μ b else c.μ i]? = _
      rw [if_neg e]; exact h
  · rintro k _ hm
    refine ⟨rfl, fun ⟨i, hi, e⟩ => hm ?_⟩
    have e' : (if i = b' then c.μ b else c.μ i) = k := e
    cases hy : (c.renew b b' x).H i with
    | none => rw [hy] at hi; exact hi.elim
    | some y =>
      rw [hy] at hi
      rcases Ctx.renew_H hy with ⟨e1, _⟩ | ⟨e1, _, e2⟩
      · rw [if_pos e1] at e'; exact ⟨b, hb, e'⟩
      · rw [if_neg e1] at e'; exact ⟨i, by rw [e2]; exact hi, e'⟩

theorem Ctx.renew_ok {c : Ctx} (hok : Ok c) {b b' ty es m : Nat} {cells : List AV} (hb : c.H b = some (.row ty es cells)) (hU : ¬ c.U b') (hR : ¬ c.R b') : Ok (c.renew b b' (.row ty es (cells.take m))) := by
  have hbn : c.H b ≠ none := by rw [hb]; simp
  have later := Ctx.renew_later (x := .row ty es (cells.take m)) (mut_row hb) hU hR
  have get : ∀ i, (c.renew b b' (.row ty es (cells.take m))).H i ≠ none → i = b' ∨ (i ≠ b' ∧ i ≠ b ∧ c.H i ≠ none) := by
    intro i hi
    obtain ⟨y, hy⟩ := Option.ne_none_iff_exists'.1 hi
    rcases Ctx.renew_H hy with ⟨e1, _⟩ | ⟨e1, e2, e3⟩
    · exact .inl e1
    · exact .inr ⟨e1, e2, by rw [e3]; simp⟩
  refine ⟨?_, ?_, ?_, ?_⟩
  · intro i hi
    rcases get i hi with e | ⟨_, _, e⟩
    · exact .inr e
    · exact .inl (hok.used i e)
  · obtain ⟨M, hM⟩ := hok.fin
    refine ⟨M + b' + 1, fun i hi => ?_⟩
    rcases hi with (h | h) | h
    · have := hM i (.inl h); omega
    · omega
    · have := hM i (.inr h); omega
  · intro i j hi hj e
    have e' : (if i = b' then c.μ b else c.μ i) = (if j = b' then c.μ b else c.μ j) := e
    rcases get i hi with e1 | ⟨e1, e2, e3⟩ <;> rcases get j hj with f1 | ⟨f1, f2, f3⟩
    · rw [e1, f1]
    · rw [if_pos e1, if_neg f1] at e'
      exact absurd (hok.inj j b f3 hbn e'.symm) f2
    · rw [if_neg e1, if_pos f1] at e'
      exact absurd (hok.inj i b e3 hbn e') e2
    · rw [if_neg e1, if_neg f1] at e'
      exact hok.inj i j e3 f3 e'
  · intro i y hy
    rcases Ctx.renew_H hy with ⟨rfl, rfl⟩ | ⟨e1, _, e3⟩
    · obtain ⟨arr, g1, g2, g3⟩ := hok.blk b _ hb
      refine ⟨arr, ?_, by rw [List.length_take]; omega, fun k hk hk' => ?_⟩
      · show c.w.heap[if i = i then c.μ b else c.μ i]? = _
        rw [if_pos rfl]; exact g1
      · have hk2 : k < cells.length := by rw [List.length_take] at hk; omega
        have := (g3 k hk2 hk').later later
        rw [List.getElem_take]; exact this
    · exact (hok.blk i y e3).later later (if_neg e1) rfl

/-- A row of one's own, cut at its end, is followed from now on as far as it reaches. -/
theorem Settle.renew {K : St → Prop} {D : List Nat} {E : Env} {H : AHeap} (t : Nat) {b L n ty : Nat} {ti : Bool} {l : List Nat} (he : E.get t = .own b L 0 n ti) (hH : H b = some (.row ty 1 (U l))) (hL : l.length = L) (hn : n ≤ L)
    (h : ∀ b', (H.upd b none) b' = none → Settle K ⟨D, E.set t (.own b' n 0 n false), (H.upd b none).upd b' (some (.row ty 1 (U (l.take n))))⟩) : Settle K ⟨D, E, H⟩ := by
  refine Settle.join ?_
  intro N c a hc hok hr
  have hc' : c.H = H := hc
  subst hc'
  obtain ⟨M, hM⟩ := hok.fin
  have hU : ¬ c.U M := fun k => by have := hM M (.inl k); omega
  have hR : ¬ c.R M := fun k => by have := hM M (.inr k); omega
  have hbn : c.H b ≠ none := by rw [hH]; simp
  have hbM : M ≠ b := fun e => hU (e ▸ hok.used b hbn)
  have later := Ctx.renew_later (b' := M) (x := .row ty 1 ((U l).take n)) (mut_row hH) hU hR
  have hfree : (c.H.upd b none) M = none := by
    rw [upd_other _ _ hbM]
    cases e : c.H M with
    | none => rfl
    | some x => exact absurd (hok.used M (by rw [e]; simp)) hU
  have hk := h M hfree
  rw [U_take] at hk
  refine ⟨c.renew b M (.row ty 1 ((U l).take n)), _, rfl, rfl, Ctx.renew_ok hok hH hU hR, ?_, later, hk⟩
  have hr' := hr.later later
  refine ⟨hr'.size, fun u => ?_, hr'.dlen, hr'.dmark⟩
  show Enc _ (Env.get (E.set t (.own M n 0 n false)) u) _
  rw [Env.get_set]
  split
  · rename_i e; subst e
    have := hr.tmp u
    rw [show E.get u = _ from he] at this
    generalize a.tmps.getD u undef = v at this
    cases this with
    | own _ _ _ _ _ _ hs hb0 hL0 hv =>
      refine .own M n 0 n false v hs (.inr rfl) (fun x hx => ?_) (fun ty' es' cells' hx _ => ?_)
      · have hx2 : ((c.H.upd b none).upd M (some (.row ty 1 ((U l).take n)))) M = some x := hx
        rw [upd_same] at hx2
        injection hx2 with hx2
        subst hx2
        show n ≤ ((U l).take n).length
        rw [List.length_take, U_len]; omega
      · have hx2 : ((c.H.upd b none).upd M (some (.row ty 1 ((U l).take n)))) M = some (.row ty' es' cells') := hx
        rw [upd_same] at hx2
        injection hx2 with hx2
        injection hx2 with q1 q2 q3
        subst q1; subst q2
        obtain ⟨base, cap, arr, g1, g2, g3, g4, _, g6, g7⟩ := hv ty 1 (U l) hH (by rw [U_len]; exact hL)
        refine ⟨base, cap, arr, g1, ?_, g3, g4, (fun e => absurd e (by simp)), ?_, g7⟩
        · show cap = 0 ∨ base = some ⟨if M = M then c.μ b else c.μ M, 0, none⟩
          rw [if_pos rfl]; exact g2
        · show c.w.heap[if M = M then c.μ b else c.μ M]? = _
          rw [if_pos rfl]; exact g6
  · exact hr'.tmp u

/-- A row that grows, or one of one's own that may be empty. -/
def growO (H0 : AHeap) (ty : Nat) (l : List Nat) (x : AV) (H : AHeap) : Prop :=
  (l = [] ∧ x = .seq 0 [] true ∧ H = H0) ∨ (∃ b, H0 b = none ∧ x = .own b l.length 0 l.length false ∧ H = H0.upd b (some (.row ty 1 (U l))))
end Go.Proofs.YtipbcjnniamcgaaDoor.Fw

/- What the reference computes on rows of one's own: comparing, taking away, striking high noughts. -/
namespace Go.Proofs.YtipbcjnniamcgaaDoor.Fw
set_option linter.unusedSimpArgs false
set_option linter.unusedVariables false
open Go Go.Proofs.YtipbcjnniamcgaaDoor.Ma
set_option maxRecDepth 20000

end Go.Proofs.YtipbcjnniamcgaaDoor.Fw

/- The reference's division: a bit of a number; division by one digit. -/
namespace Go.Proofs.YtipbcjnniamcgaaDoor.Fw
set_option linter.unusedSimpArgs false
set_option linter.unusedVariables false
open Go Go.Proofs.YtipbcjnniamcgaaDoor.Ma
set_option maxRecDepth 20000

end Go.Proofs.YtipbcjnniamcgaaDoor.Fw

/- The reference's division, bit by bit. -/
namespace Go.Proofs.YtipbcjnniamcgaaDoor.Fw
set_option linter.unusedSimpArgs false
set_option linter.unusedVariables false
open Go Go.Proofs.YtipbcjnniamcgaaDoor.Ma
set_option maxRecDepth 20000

/-- What stands when the bits from M on are done. -/
structure LongK (A V M : Nat) (ql : List Nat) : Prop where
  hM : M ≤ blen A
  qlen : ql.length = (digs 65536 A).length
  qlim : Lim 65536 ql
  qval : val 65536 ql = A / 2 ^ M / V * 2 ^ M

end Go.Proofs.YtipbcjnniamcgaaDoor.Fw

/- Quotients and remainders of whole numbers, as the reference has them. -/
namespace Go.Proofs.YtipbcjnniamcgaaDoor.Fw
set_option linter.unusedSimpArgs false
set_option linter.unusedVariables false
open Go Go.Proofs.YtipbcjnniamcgaaDoor.Ma
set_option maxRecDepth 20000

end Go.Proofs.YtipbcjnniamcgaaDoor.Fw

/- How often two divides a row of limbs: the library's table read. -/
namespace Go.Proofs.YtipbcjnniamcgaaDoor.Fw
set_option linter.unusedSimpArgs false
set_option linter.unusedVariables false
open Go Go.Proofs.YtipbcjnniamcgaaDoor.Ma
set_option maxRecDepth 20000

/-- The table stands in memory. -/
def tabC : List AV := deB.map fun (n : Nat) => AV.int .u8 (n : Int)
def TzH (H : AHeap) : Prop := H 0 = some (.glob 0 tabC)
theorem tab_get {i : Nat} (h : i < 32) : (tabC.drop i).take 1 = [.int .u8 ((deB.getD i 0 : Nat) : Int)] := by
  have hl : tabC.length = 32 := rfl
  rw [List.drop_eq_getElem_cons (by omega), List.take_succ_cons, List.take_zero]
  simp only [tabC, List.getElem_map]
  rw [List.getD_eq_getElem?_getD, List.getElem?_eq_getElem (show i < deB.length from h), Option.getD_some]
theorem gixP_k {g n es i : Nat} {K : AV → Prop} {cells : List AV} (h : i < n) : gixP g n es K (i : Int) (some (.glob g cells)) = K (.ptr g cells.length (i * es)) := by
  simp [gixP, h]
theorem tz32_run {H : AHeap} {x : Nat} {K : AV → AHeap → Prop} (hH : TzH H) (h0 : 0 < x) (hx : x < 4294967296) (k : K (.int .i64 ((tz x : Nat) : Int)) H) : Run Tryd.prog 102 [.int .u32 (x : Int)] H K := by
  refine enter102 (by simp) ?_
  have hH' : H 0 = some (.glob 0 tabC) := hH
  have hk := tz_lt (k := 32) h0 hx
  have hlt := deB_lt hk
  have hat := deB_at hk
  have han := and_neg h0 hx
  generalize tz x = t at *
  have hne : ¬ x = 0 := by omega
  have c1 : ∀ K, unW .neg (.int .u32 (x : Int)) K ↔ K (.int .u32 ((4294967296 - x : Nat) : Int)) := fun K => by
    simp only [unW, wmod_u32]; rw [show (0 - (x : Int)) % 4294967296 = ((4294967296 - x : Nat) : Int) by omega]
  have c2 : ∀ K, binW .and (.int .u32 (x : Int)) (.int .u32 ((4294967296 - x : Nat) : Int)) K ↔ K (.int .u32 ((2 ^ t : Nat) : Int)) := fun K => by
    rw [bin_and .u32 (by simp [IntKind.bits]; omega) (by simp [IntKind.bits]; omega), han, wn_u32 (by
      have : 2 ^ t < 2 ^ 32 := Nat.pow_lt_pow_right (by omega) hk
      omega)]
  simp (disch := first | assumption | (apply Ap.symm; assumption) | omega | decide | (simp only [U_len, List.length_append, List.length_replicate, List.length_cons, List.length_nil, List.length_set] <;> omega) | fail) only [ac102, hne, c1, c2, hH', gixP_k, ldP_glob, ↓Xa, Xb, Xc, ↓reduceIte, Nat.reduceLT, Nat.reduceEqDiff, Nat.reduceBEq, Nat.reduceLeDiff, Nat.reduceAdd, Nat.reduceMul]
  have e27 : (2 : Nat) ^ 27 = 134217728 := by decide
  rw [e27]
  have hl : tabC.length = 32 := rfl
  refine ⟨by omega, ?_⟩
  rw [tab_get hlt, hat]
  simp (disch := first | assumption | (apply Ap.symm; assumption) | omega | decide | (simp only [U_len, List.length_append, List.length_replicate, List.length_cons, List.length_nil, List.length_set] <;> omega) | fail) only [rs102, ↓Xa, Xb, Xc, ↓reduceIte, Nat.reduceLT, Nat.reduceEqDiff, Nat.reduceBEq, Nat.reduceLeDiff, Nat.reduceAdd, Nat.reduceMul]
  exact SetR.now k

theorem val_take_zeros {a : List Nat} {i : Nat} (h : val 4294967296 (a.take i) = 0) (h0 : a.getD i 0 = 0) : val 4294967296 (a.take (i + 1)) = 0 := by
  rw [val_take, h, h0]; omega
theorem twos_run {H : AHeap} {a : List Nat} {t : Bool} {K : AV → AHeap → Prop} (hH : TzH H) (ha : Lim 4294967296 a) (hl : a.length ≤ 1099511627776) (k : K (.int .i64 ((tz (val 4294967296 a) : Nat) : Int)) H) : Run Tryd.prog 65 [LS a t] H K := by
  refine enter65 (by simp) ?_
  simp (disch := first | assumption | (apply Ap.symm; assumption) | omega | decide | (simp only [U_len, List.length_append, List.length_replicate, List.length_cons, List.length_nil, List.length_set] <;> omega) | fail) only [ac65, ↓Xa, Xb, Xc, ↓reduceIte, Nat.reduceLT, Nat.reduceEqDiff, Nat.reduceBEq, Nat.reduceLeDiff, Nat.reduceAdd, Nat.reduceMul]
  refine W_loop (fun i : Nat => ⟨[], [(5, LS a t), (6, .int .i64 (a.length : Nat)), (7, .int .i64 (i : Nat))], H⟩) (fun i => i ≤ a.length ∧ val 4294967296 (a.take i) = 0) (fun i => a.length - i) 0 (Settle.now rfl) ⟨by simp, by simp [val]⟩ ?_
  rintro i ⟨h1, h2⟩
  by_cases hi : i < a.length
  · have hxl := ha.getD (by omega) i
    by_cases hx : 0 < a.getD i 0
    · obtain ⟨e1, e2⟩ := tz_limbs ha hi h2 hx
      have hk := tz_lt (k := 32) hx hxl
      simp (disch := first | assumption | (apply Ap.symm; assumption) | omega | decide | (simp only [U_len, List.length_append, List.length_replicate, List.length_cons, List.length_nil, List.length_set] <;> omega) | fail) only [hi, hx, ↓Xa, Xb, Xc, ↓reduceIte, Nat.reduceLT, Nat.reduceEqDiff, Nat.reduceBEq, Nat.reduceLeDiff, Nat.reduceAdd, Nat.reduceMul]
      refine run_call (tz32_run hH hx hxl ?_)
      rw [e1] at k
      simp (disch := first | assumption | (apply Ap.symm; assumption) | omega | decide | (simp only [U_len, List.length_append, List.length_replicate, List.length_cons, List.length_nil, List.length_set] <;> omega) | fail) only [rs65, ↓Xa, Xb, Xc, ↓reduceIte, Nat.reduceLT, Nat.reduceEqDiff, Nat.reduceBEq, Nat.reduceLeDiff, Nat.reduceAdd, Nat.reduceMul]
      exact SetR.now k
    · have hx0 : a.getD i 0 = 0 := by omega
      simp (disch := first | assumption | (apply Ap.symm; assumption) | omega | decide | (simp only [U_len, List.length_append, List.length_replicate, List.length_cons, List.length_nil, List.length_set] <;> omega) | fail) only [hi, hx, ↓Xa, Xb, Xc, ↓reduceIte, Nat.reduceLT, Nat.reduceEqDiff, Nat.reduceBEq, Nat.reduceLeDiff, Nat.reduceAdd, Nat.reduceMul]
      exact Settle.now ⟨i + 1, by omega, ⟨by omega, val_take_zeros h2 hx0⟩, rfl⟩
  · rw [List.take_of_length_le (by omega)] at h2
    rw [h2, tz_zero] at k
    simp (disch := first | assumption | (apply Ap.symm; assumption) | omega | decide | (simp only [U_len, List.length_append, List.length_replicate, List.length_cons, List.length_nil, List.length_set] <;> omega) | fail) only [hi, ↓Xa, Xb, Xc, ↓reduceIte, Nat.reduceLT, Nat.reduceEqDiff, Nat.reduceBEq, Nat.reduceLeDiff, Nat.reduceAdd, Nat.reduceMul]
    refine Settle.now ?_
    simp (disch := first | assumption | (apply Ap.symm; assumption) | omega | decide | (simp only [U_len, List.length_append, List.length_replicate, List.length_cons, List.length_nil, List.length_set] <;> omega) | fail) only [rs65, ↓Xa, Xb, Xc, ↓reduceIte, Nat.reduceLT, Nat.reduceEqDiff, Nat.reduceBEq, Nat.reduceLeDiff, Nat.reduceAdd, Nat.reduceMul]
    exact SetR.now k
end Go.Proofs.YtipbcjnniamcgaaDoor.Fw

/- How often two divides a whole number; shifts of whole numbers; powers of two: the program's and the reference's. -/
namespace Go.Proofs.YtipbcjnniamcgaaDoor.Fw
set_option linter.unusedSimpArgs false
set_option linter.unusedVariables false
open Go Go.Proofs.YtipbcjnniamcgaaDoor.Ma
set_option maxRecDepth 20000

/-- How often two divides a whole number; -1 of nought. -/
def twV (x : Int) : Int := if x = 0 then -1 else ((tz x.natAbs : Nat) : Int)
theorem shlm_fn {a : List Nat} {n : Int} (t : Bool) (hn : n < 0) : PFn Tryd.prog 59 [LS a t, .int .i64 n] (.tup [LS [] true, .int .i64 ((2 : Nat) : Int)]) := by
  intro H Q hq
  have e : decide (n < 0) = true := decide_eq_true hn
  refine enter59 (by simp) ?_
  simp (disch := first | assumption | (apply Ap.symm; assumption) | omega | decide | (simp only [U_len, List.length_append, List.length_replicate, List.length_cons, List.length_nil, List.length_set] <;> omega) | fail) only [ac59, lss_neg, e, rs59, ↓Xa, Xb, Xc, ↓reduceIte, Nat.reduceLT, Nat.reduceEqDiff, Nat.reduceBEq, Nat.reduceLeDiff, Nat.reduceAdd, Nat.reduceMul]
  exact SetR.now hq
theorem shlb_fn {a : List Nat} {n : Nat} (t : Bool) (hn : 65536 < n) : PFn Tryd.prog 59 [LS a t, .int .i64 (n : Int)] (.tup [LS [] true, .int .i64 ((3 : Nat) : Int)]) := by
  intro H Q hq
  refine enter59 (by simp) ?_
  simp (disch := first | assumption | (apply Ap.symm; assumption) | omega | decide | (simp only [U_len, List.length_append, List.length_replicate, List.length_cons, List.length_nil, List.length_set] <;> omega) | fail) only [ac59, lss_f, hn, rs59, ↓Xa, Xb, Xc, ↓reduceIte, Nat.reduceLT, Nat.reduceEqDiff, Nat.reduceBEq, Nat.reduceLeDiff, Nat.reduceAdd, Nat.reduceMul]
  exact SetR.now hq
end Go.Proofs.YtipbcjnniamcgaaDoor.Fw

/- Exact halvings of whole numbers; the reference's powers of two. -/
namespace Go.Proofs.YtipbcjnniamcgaaDoor.Fw
set_option linter.unusedSimpArgs false
set_option linter.unusedVariables false
open Go Go.Proofs.YtipbcjnniamcgaaDoor.Ma
set_option maxRecDepth 20000

/-- What an exact halving answers. -/
def shrR (x : Int) (n : Int) : AV :=
  if n < 0 then .tup [IntA 0, .int .i64 ((2 : Nat) : Int)] else if x = 0 then .tup [IntA 0, .int .i64 ((0 : Nat) : Int)]
  else if twV x < n then .tup [IntA 0, .int .i64 ((20 : Nat) : Int)] else .tup [IntA (x / 2 ^ n.toNat), .int .i64 ((0 : Nat) : Int)]
/-- The row of a power of two. -/
def pwRow (n : Nat) : List Nat := (List.replicate (n / 16 + 1) 0).set (n / 16) (2 ^ (n % 16))
end Go.Proofs.YtipbcjnniamcgaaDoor.Fw

/- The number of a decimal text, and back. -/
namespace Go.Proofs.YtipbcjnniamcgaaDoor.Ma
set_option linter.unusedSimpArgs false
set_option linter.unusedVariables false

def decF (v : Nat) (l : List UInt8) : Nat := l.foldl (fun v b => 10 * v + (b.toNat - 48)) v
def decV (l : List UInt8) : Nat := decF 0 l
def isDig (b : UInt8) : Prop := 48 ≤ b.toNat ∧ b.toNat ≤ 57
/-- A text that is a number's. -/
def Good (l : List UInt8) : Prop := l ≠ [] ∧ (∀ b, b ∈ l → isDig b) ∧ (l.length = 1 ∨ (l.getD 0 0).toNat ≠ 48)
/-- Where a text goes wrong. -/
def badAt (l : List UInt8) (i : Nat) : Prop := (l.getD i 0).toNat < 48 ∨ 57 < (l.getD i 0).toNat ∨ (0 < i ∧ (l.getD 0 0).toNat = 48)
end Go.Proofs.YtipbcjnniamcgaaDoor.Ma

/- A text read, as package limb reads it. -/
namespace Go.Proofs.YtipbcjnniamcgaaDoor.Fw
set_option linter.unusedSimpArgs false
set_option linter.unusedVariables false
open Go Go.Proofs.YtipbcjnniamcgaaDoor.Ma
set_option maxRecDepth 20000

def spot (e a : Nat) : AV := .agg [.int .i64 (e : Int), .int .i64 (a : Int)]
/-- What is answered of a text. -/
def ReadR (l : List UInt8) (r : AV) : Prop :=
  (65536 < l.length ∧ r = .tup [LS [] true, spot 3 65536]) ∨ (l = [] ∧ r = .tup [LS [] true, spot 6 0]) ∨
  (l.length ≤ 65536 ∧ ∃ i, i < l.length ∧ badAt l i ∧ (∀ j, j < i → ¬ badAt l j) ∧ r = .tup [LS [] true, spot 6 i]) ∨
  (l.length ≤ 65536 ∧ Good l ∧ r = .tup [LS (Ma.digs 4294967296 (decV l)) true, spot 0 0])
end Go.Proofs.YtipbcjnniamcgaaDoor.Fw

/- The looked-up code of one function, and that it is: by a program (wip/tools/ac.py); Lean checks it. -/
namespace Go.Proofs.YtipbcjnniamcgaaDoor.Fw
open Go
set_option maxRecDepth 100000
end Go.Proofs.YtipbcjnniamcgaaDoor.Fw

/- The law of limbs told and read, shifted and back, as what its code computes: true. -/
namespace Go.Proofs.YtipbcjnniamcgaaDoor.Fw
set_option linter.unusedSimpArgs false
set_option linter.unusedVariables false
open Go Go.Proofs.YtipbcjnniamcgaaDoor.Ma
set_option maxRecDepth 20000

theorem lbit_fn {l : List Nat} {k : Nat} (t : Bool) (hl : Lim 4294967296 l) (hn : l.length < 9223372036854775808) (hk : k < 9223372036854775808) : PFn Tryd.prog 63 [LS l t, .int .i64 (k : Int)] (.bool (decide (val 4294967296 l / 2 ^ k % 2 = 1))) := by
  intro H Q hq
  refine enter63 (by simp) ?_
  by_cases h : k / 32 < l.length
  · have hx := hl.getD (by omega) (k / 32)
    have hs : l.getD (k / 32) 0 / 2 ^ (k % 32) < 4294967296 := Nat.lt_of_le_of_lt (Nat.div_le_self _ _) hx
    have c2 : ∀ K, binW .and (.int .u32 ((l.getD (k / 32) 0 / 2 ^ (k % 32) : Nat) : Int)) (.int .u32 ((1 : Nat) : Int)) K ↔ K (.int .u32 ((l.getD (k / 32) 0 / 2 ^ (k % 32) % 2 : Nat) : Int)) := fun K => by
      rw [bin_and .u32 (by simp only [IntKind.bits]; omega) (by simp [IntKind.bits]), Nat.and_one_is_mod, wn_u32 (by omega)]
    simp (disch := first | assumption | (apply Ap.symm; assumption) | omega | decide | (simp only [U_len, List.length_append, List.length_replicate, List.length_cons, List.length_nil, List.length_set] <;> omega) | fail) only [ac63, h, c2, bit_val hl, rs63, ↓Xa, Xb, Xc, ↓reduceIte, Nat.reduceLT, Nat.reduceEqDiff, Nat.reduceBEq, Nat.reduceLeDiff, Nat.reduceAdd, Nat.reduceMul]
    exact ⟨by decide, by decide, by decide, SetR.now hq⟩
  · rw [bit_high hl (by omega)] at hq
    simp (disch := first | assumption | (apply Ap.symm; assumption) | omega | decide | (simp only [U_len, List.length_append, List.length_replicate, List.length_cons, List.length_nil, List.length_set] <;> omega) | fail) only [ac63, h, rs63, ↓Xa, Xb, Xc, ↓reduceIte, Nat.reduceLT, Nat.reduceEqDiff, Nat.reduceBEq, Nat.reduceLeDiff, Nat.reduceAdd, Nat.reduceMul]
    exact ⟨by decide, SetR.now hq⟩

theorem shl_lt {A n j k : Nat} (h : A < 4294967296 ^ j) (hn : n ≤ 32 * k) : A * 2 ^ n < 4294967296 ^ (j + (k + 1)) := by
  refine lt_mul h ?_
  rw [show (4294967296 : Nat) = 2 ^ 32 from rfl, ← Nat.pow_mul]
  exact Nat.pow_lt_pow_right (by omega) (by omega)

end Go.Proofs.YtipbcjnniamcgaaDoor.Fw

/- The looked-up code of one function, and that it is: by a program (wip/tools/ac.py); Lean checks it. -/
namespace Go.Proofs.YtipbcjnniamcgaaDoor.Fw
open Go
set_option maxRecDepth 100000
def ac13 : ACode := (.seq (.reg [⟨(some 4), none, (.mov (.k (.bool false)))⟩] [0, 1]) (.seq (.seq (.reg [⟨(some 10), none, (.call (.k (.fn (.func 33) [] [])) [])⟩, ⟨(some 11), none, (.un .not (.t 10))⟩] [0, 1, 11]) (.cond (.t 11) (.seq (.reg [⟨(some 4), none, (.mov (.k (.bool false)))⟩] [4]) .ret) .skip)) (.seq (.seq (.reg [⟨(some 12), none, (.mov (.t 0))⟩, ⟨(some 13), none, (.bsl [(.seq 0 [] true)] 1 1 [(0, (1, (.t 12)))])⟩, ⟨(some 14), none, (.call (.k (.fn (.func 51) [] [])) [(.t 13)])⟩] [0, 1, 14]) (.cond (.t 14) (.seq (.reg [⟨(some 4), none, (.mov (.k (.bool true)))⟩] [4]) .ret) .skip)) (.seq (.reg [⟨(some 15), none, (.mov (.t 0))⟩, ⟨(some 16), none, (.call (.k (.fn (.func 47) [] [])) [(.t 15)])⟩, ⟨(some 5), none, (.mov (.t 16))⟩] [0, 1, 5]) (.seq (.reg [⟨(some 18), none, (.mov (.t 5))⟩, ⟨(some 19), none, (.mov (.t 1))⟩, ⟨(some 20), none, (.call (.k (.fn (.func 59) [] [])) [(.t 18), (.t 19)])⟩, ⟨(some 17), none, (.mov (.t 20))⟩, ⟨(some 21), none, (.ext (.t 17) 0)⟩, ⟨(some 22), none, (.ext (.t 17) 1)⟩, ⟨(some 6), none, (.mov (.t 21))⟩, ⟨(some 7), none, (.mov (.t 22))⟩] [0, 1, 5, 6, 7]) (.seq (.reg [⟨(some 24), none, (.mov (.t 5))⟩, ⟨(some 25), none, (.mov (.t 1))⟩, ⟨(some 26), none, (.call (.k (.fn (.func 60) [] [])) [(.t 24), (.t 25)])⟩, ⟨(some 23), none, (.mov (.t 26))⟩, ⟨(some 27), none, (.ext (.t 23) 0)⟩, ⟨(some 28), none, (.ext (.t 23) 1)⟩, ⟨(some 8), none, (.mov (.t 27))⟩, ⟨(some 9), none, (.mov (.t 28))⟩] [0, 1, 5, 6, 7, 8, 9]) (.seq (.seq (.reg [⟨(some 29), none, (.mov (.t 5))⟩, ⟨(some 30), none, (.call (.k (.fn (.func 61) [] [])) [(.t 29)])⟩, ⟨(some 31), none, (.mov (.t 0))⟩, ⟨(some 32), none, (.call (.k (.fn (.func 62) [] [])) [(.t 31)])⟩, ⟨(some 33), none, (.bin .neq (.t 30) (.t 32))⟩, ⟨(some 34), none, (.mov (.t 33))⟩, ⟨(some 35), (some (34, false)), (.mov (.t 5))⟩, ⟨(some 36), (some (34, false)), (.mov (.t 1))⟩, ⟨(some 37), (some (34, false)), (.call (.k (.fn (.func 63) [] [])) [(.t 35), (.t 36)])⟩, ⟨(some 38), (some (34, false)), (.mov (.t 0))⟩, ⟨(some 39), (some (34, false)), (.mov (.t 1))⟩, ⟨(some 40), (some (34, false)), (.call (.k (.fn (.func 64) [] [])) [(.t 38), (.t 39)])⟩, ⟨(some 41), (some (34, false)), (.binB .neq (.t 37) (.t 40))⟩, ⟨(some 42), none, (.pick (.t 34) (.k (.bool true)) (.t 41))⟩, ⟨(some 43), none, (.mov (.t 42))⟩, ⟨(some 44), (some (43, false)), (.mov (.t 5))⟩, ⟨(some 45), (some (43, false)), (.call (.k (.fn (.func 65) [] [])) [(.t 44)])⟩, ⟨(some 46), (some (43, false)), (.mov (.t 0))⟩, ⟨(some 47), (some (43, false)), (.call (.k (.fn (.func 66) [] [])) [(.t 46)])⟩, ⟨(some 48), (some (43, false)), (.bin .neq (.t 45) (.t 47))⟩, ⟨(some 49), none, (.pick (.t 43) (.k (.bool true)) (.t 48))⟩, ⟨(some 50), none, (.mov (.t 49))⟩, ⟨(some 51), (some (50, false)), (.mov (.t 5))⟩, ⟨(some 52), (some (50, false)), (.mov (.t 0))⟩, ⟨(some 53), (some (50, false)), (.call (.k (.fn (.func 49) [] [])) [(.t 51), (.t 52)])⟩, ⟨(some 54), (some (50, false)), (.un .not (.t 53))⟩, ⟨(some 55), none, (.pick (.t 50) (.k (.bool true)) (.t 54))⟩] [0, 1, 6, 7, 8, 9, 55]) (.cond (.t 55) (.seq (.reg [⟨(some 4), none, (.mov (.k (.bool false)))⟩] [4]) .ret) .skip)) (.seq (.block 0 (.seq (.reg [⟨(some 67), none, (.mov (.t 1))⟩, ⟨(some 68), none, (.bin .lss (.t 67) (.k (.int .i64 ((0 : Nat) : Int))))⟩, ⟨(some 66), none, (.mov (.t 68))⟩] [0, 1, 6, 7, 8, 9, 66]) (.cond (.t 66) (.seq (.reg [⟨(some 69), none, (.mov (.t 6))⟩, ⟨(some 70), none, (.len false (.t 69))⟩, ⟨(some 71), none, (.bin .eql (.t 70) (.k (.int .i64 ((0 : Nat) : Int))))⟩, ⟨(some 72), none, (.mov (.t 71))⟩, ⟨(some 73), (some (72, true)), (.mov (.t 8))⟩, ⟨(some 74), (some (72, true)), (.len false (.t 73))⟩, ⟨(some 75), (some (72, true)), (.bin .eql (.t 74) (.k (.int .i64 ((0 : Nat) : Int))))⟩, ⟨(some 76), none, (.pick (.t 72) (.t 75) (.k (.bool false)))⟩, ⟨(some 77), none, (.mov (.t 76))⟩, ⟨(some 78), (some (77, true)), (.mov (.t 7))⟩, ⟨(some 79), (some (77, true)), (.bin .eql (.t 78) (.k (.int .i64 ((2 : Nat) : Int))))⟩, ⟨(some 80), none, (.pick (.t 77) (.t 79) (.k (.bool false)))⟩, ⟨(some 81), none, (.mov (.t 80))⟩, ⟨(some 82), (some (81, true)), (.mov (.t 9))⟩, ⟨(some 83), (some (81, true)), (.bin .eql (.t 82) (.k (.int .i64 ((2 : Nat) : Int))))⟩, ⟨(some 84), none, (.pick (.t 81) (.t 83) (.k (.bool false)))⟩, ⟨(some 4), none, (.mov (.t 84))⟩] [4]) .ret) (.seq (.reg [⟨(some 86), none, (.mov (.t 1))⟩, ⟨(some 87), none, (.bin .gtr (.t 86) (.k (.int .i64 ((65536 : Nat) : Int))))⟩, ⟨(some 85), none, (.mov (.t 87))⟩] [0, 1, 6, 7, 8, 9, 85]) (.cond (.t 85) (.seq (.reg [⟨(some 88), none, (.mov (.t 6))⟩, ⟨(some 89), none, (.len false (.t 88))⟩, ⟨(some 90), none, (.bin .neq (.t 89) (.k (.int .i64 ((0 : Nat) : Int))))⟩, ⟨(some 91), none, (.mov (.t 90))⟩, ⟨(some 92), (some (91, false)), (.mov (.t 7))⟩, ⟨(some 93), (some (91, false)), (.bin .neq (.t 92) (.k (.int .i64 ((3 : Nat) : Int))))⟩, ⟨(some 94), none, (.pick (.t 91) (.k (.bool true)) (.t 93))⟩] [0, 1, 8, 9, 94]) (.cond (.t 94) (.seq (.reg [⟨(some 4), none, (.mov (.k (.bool false)))⟩] [4]) .ret) .skip)) (.seq (.reg [⟨(some 56), none, (.mov (.t 6))⟩, ⟨(some 57), none, (.mov (.t 0))⟩, ⟨(some 58), none, (.mov (.t 1))⟩, ⟨(some 59), none, (.call (.k (.fn (.func 67) [] [])) [(.t 57), (.t 58)])⟩, ⟨(some 60), none, (.call (.k (.fn (.func 37) [] [])) [(.t 56), (.t 59)])⟩, ⟨(some 61), none, (.un .not (.t 60))⟩, ⟨(some 62), none, (.mov (.t 61))⟩, ⟨(some 63), (some (62, false)), (.mov (.t 7))⟩, ⟨(some 64), (some (62, false)), (.bin .neq (.t 63) (.k (.int .i64 ((0 : Nat) : Int))))⟩, ⟨(some 65), none, (.pick (.t 62) (.k (.bool true)) (.t 64))⟩] [0, 1, 8, 9, 65]) (.cond (.t 65) (.seq (.reg [⟨(some 4), none, (.mov (.k (.bool false)))⟩] [4]) .ret) .skip))))))) (.seq (.reg [⟨(some 95), none, (.mov (.t 8))⟩, ⟨(some 96), none, (.mov (.t 0))⟩, ⟨(some 97), none, (.mov (.t 1))⟩, ⟨(some 98), none, (.call (.k (.fn (.func 68) [] [])) [(.t 96), (.t 97)])⟩, ⟨(some 99), none, (.call (.k (.fn (.func 37) [] [])) [(.t 95), (.t 98)])⟩, ⟨(some 100), none, (.mov (.t 99))⟩, ⟨(some 101), (some (100, true)), (.mov (.t 9))⟩, ⟨(some 102), (some (100, true)), (.bin .eql (.t 101) (.k (.int .i64 ((0 : Nat) : Int))))⟩, ⟨(some 103), none, (.pick (.t 100) (.t 102) (.k (.bool false)))⟩, ⟨(some 4), none, (.mov (.t 103))⟩] [4]) .ret)))))))))
def rs13 : List RV := [(.t 4)]
theorem co13 : compFn Go.Proofs.Tryd.prog Go.Proofs.Tryd.f13 pl13 = some (ac13, rs13) := by kernel_rfl
theorem enter13 {args : List AV} {H : AHeap} {Q : AV → AHeap → Prop} (hn : args.length ≤ 104) (h : W Go.Proofs.Tryd.prog ac13 (retN rs13 Q) ⟨[], initE args 0, H⟩) : Run Go.Proofs.Tryd.prog 13 args H Q := Run_fn2 mixed Go.Proofs.Tryd.func13 (by kernel_rfl) co13 (n := 104) (by kernel_rfl) hn h
end Go.Proofs.YtipbcjnniamcgaaDoor.Fw

/- The reference for limbs: shifts, trailing noughts. The law of limbs shifted. -/
namespace Go.Proofs.YtipbcjnniamcgaaDoor.Fw
set_option linter.unusedSimpArgs false
set_option linter.unusedVariables false
open Go Go.Proofs.YtipbcjnniamcgaaDoor.Ma
set_option maxRecDepth 20000

theorem rlbit_neg {l : List Nat} {k : Int} (t : Bool) (hk : k < 0) : PFn Tryd.prog 64 [LS l t, .int .i64 k] (.bool false) := by
  intro H Q hq
  have c : decide (((0 : Nat) : Int) ≤ k) = false := decide_eq_false (by omega)
  have geq_i : ∀ {b : Nat} {K : AV → Prop}, binW .geq (.int .i64 k) (.int .i64 (b : Int)) K ↔ K (.bool (decide ((b : Int) ≤ k))) := by
    intro b K; simp only [binW, binInt, true_and]
  refine enter64 (by simp) ?_
  simp (disch := first | assumption | (apply Ap.symm; assumption) | omega | decide | (simp only [U_len, List.length_append, List.length_replicate, List.length_cons, List.length_nil, List.length_set] <;> omega) | fail) only [ac64, geq_i, c, rs64, ↓Xa, Xb, Xc, ↓reduceIte, Nat.reduceLT, Nat.reduceEqDiff, Nat.reduceBEq, Nat.reduceLeDiff, Nat.reduceAdd, Nat.reduceMul]
  exact SetR.now hq
theorem ltwos_n {a : List Nat} {n k : Nat} (t : Bool) (ha : Nm a n k) (hk : k ≤ 1000000) : PFn Tryd.prog 66 [LS a t] (.int .i64 ((tz n : Nat) : Int)) := by
  intro H Q hq
  refine enter66 (by simp) ?_
  simp (disch := first | assumption | (apply Ap.symm; assumption) | omega | decide | (simp only [U_len, List.length_append, List.length_replicate, List.length_cons, List.length_nil, List.length_set] <;> omega) | fail) only [ac66, ↓Xa, Xb, Xc, ↓reduceIte, Nat.reduceLT, Nat.reduceEqDiff, Nat.reduceBEq, Nat.reduceLeDiff, Nat.reduceAdd, Nat.reduceMul]
  refine W_loop (fun i : Nat => ⟨[], [(0, LS a t), (3, .int .i64 (i : Int))], H⟩) (fun i => i ≤ tz n) (fun i => tz n - i) 0 (Settle.now rfl) (Nat.zero_le _) ?_
  intro i hi
  simp (disch := first | assumption | (apply Ap.symm; assumption) | omega | decide | (simp only [U_len, List.length_append, List.length_replicate, List.length_cons, List.length_nil, List.length_set] <;> omega) | fail) only [↓Xa, Xb, Xc, ↓reduceIte, Nat.reduceLT, Nat.reduceEqDiff, Nat.reduceBEq, Nat.reduceLeDiff, Nat.reduceAdd, Nat.reduceMul]
  refine (lbits_n t ha hk).call ?_
  have hlen := ha.len
  rcases Nat.eq_zero_or_pos n with rfl | hn
  · rw [tz_zero] at hq hi
    obtain rfl : i = 0 := by omega
    rw [blen_zero]
    simp (disch := first | assumption | (apply Ap.symm; assumption) | omega | decide | (simp only [U_len, List.length_append, List.length_replicate, List.length_cons, List.length_nil, List.length_set] <;> omega) | fail) only [↓Xa, Xb, Xc, ↓reduceIte, Nat.reduceLT, Nat.reduceEqDiff, Nat.reduceBEq, Nat.reduceLeDiff, Nat.reduceAdd, Nat.reduceMul]
    refine Settle.now ?_
    simp (disch := first | assumption | (apply Ap.symm; assumption) | omega | decide | (simp only [U_len, List.length_append, List.length_replicate, List.length_cons, List.length_nil, List.length_set] <;> omega) | fail) only [rs66, ↓Xa, Xb, Xc, ↓reduceIte, Nat.reduceLT, Nat.reduceEqDiff, Nat.reduceBEq, Nat.reduceLeDiff, Nat.reduceAdd, Nat.reduceMul]
    exact SetR.now hq
  · have hb : 0 < blen n := by
      rcases Nat.eq_zero_or_pos (blen n) with e | e
      · have := blen_le.1 (Nat.le_of_eq e); simp at this; omega
      · exact e
    have htz : tz n < 32 * k := tz_lt hn (by have := ha.lt; rwa [show (4294967296 : Nat) = 2 ^ 32 from rfl, ← Nat.pow_mul] at this)
    have hbit := tz_bit hn hi
    simp (disch := first | assumption | (apply Ap.symm; assumption) | omega | decide | (simp only [U_len, List.length_append, List.length_replicate, List.length_cons, List.length_nil, List.length_set] <;> omega) | fail) only [hb, ↓Xa, Xb, Xc, ↓reduceIte, Nat.reduceLT, Nat.reduceEqDiff, Nat.reduceBEq, Nat.reduceLeDiff, Nat.reduceAdd, Nat.reduceMul]
    refine (rlbit_fn t ha.lim (by omega) (by omega)).call ?_
    rw [ha.val, hbit]
    by_cases e : i = tz n
    · subst e
      simp (disch := first | assumption | (apply Ap.symm; assumption) | omega | decide | (simp only [U_len, List.length_append, List.length_replicate, List.length_cons, List.length_nil, List.length_set] <;> omega) | fail) only [decide_true, ↓Xa, Xb, Xc, ↓reduceIte, Nat.reduceLT, Nat.reduceEqDiff, Nat.reduceBEq, Nat.reduceLeDiff, Nat.reduceAdd, Nat.reduceMul]
      refine Settle.now ?_
      simp (disch := first | assumption | (apply Ap.symm; assumption) | omega | decide | (simp only [U_len, List.length_append, List.length_replicate, List.length_cons, List.length_nil, List.length_set] <;> omega) | fail) only [rs66, ↓Xa, Xb, Xc, ↓reduceIte, Nat.reduceLT, Nat.reduceEqDiff, Nat.reduceBEq, Nat.reduceLeDiff, Nat.reduceAdd, Nat.reduceMul]
      exact SetR.now hq
    · simp (disch := first | assumption | (apply Ap.symm; assumption) | omega | decide | (simp only [U_len, List.length_append, List.length_replicate, List.length_cons, List.length_nil, List.length_set] <;> omega) | fail) only [e, ↓Xa, Xb, Xc, ↓reduceIte, Nat.reduceLT, Nat.reduceEqDiff, Nat.reduceBEq, Nat.reduceLeDiff, Nat.reduceAdd, Nat.reduceMul]
      exact Settle.now ⟨i + 1, by omega, by omega, rfl⟩
/-- Laid behind a row, and read from then on: what it tells. -/
theorem app_rdg {H0 H : AHeap} {ty n : Nat} {l m : List Nat} {x : AV} {t : Bool} {K : AV → AHeap → Prop} (hg : grow H0 ty l x H) (hn : n = m.length) (hb : l.length + m.length ≤ 17592186044416)
    (k : ∀ x', Wk x' (LS (l ++ m) false) → K x' H0) : appV H ty 1 4 x (.seq n (U m) t) K := by
  by_cases hm : m = []
  · subst hm
    subst hn
    rw [List.append_nil] at k
    rcases hg with ⟨rfl, rfl, rfl⟩ | ⟨hne, b, hb', rfl, rfl⟩
    · refine .inl ⟨by simp, by simp [U], rfl, by simp, by simp, by simp, fun _ => ?_, fun e => absurd e (by simp)⟩
      exact k _ fun c v h => enc_loose1 _ v h
    · have hpos : 0 < l.length := List.length_pos_iff.2 hne
      refine .inr ⟨by simp, by simp [U], ?_⟩
      dsimp only
      rw [upd_same]
      refine ⟨by simp, rfl, by simp, rfl, rfl, by simp at hb ⊢; omega, by simp at hb ⊢; omega, ?_⟩
      unfold frzX
      dsimp only
      rw [upd_same]
      refine ⟨rfl, rfl, by simpa using hpos, by simp [U], by simp, ?_⟩
      rw [upd_upd, upd_upd, upd_back _ hb']
      refine k _ ?_
      have h := Wk.X (l := l) (m := [])
      simpa [U] using h
  · refine app_ext hg hn hm hb (k _ ?_)
    have h := Wk.X (l := l ++ m) (m := [])
    rwa [List.append_nil] at h
theorem val_reps {i : Nat} (l : List Nat) : val 4294967296 (List.replicate i 0 ++ l) = 4294967296 ^ i * val 4294967296 l := by
  rw [val_append, List.length_replicate, val_zeros, Nat.zero_add]
theorem lshl_n {a : List Nat} {m n k : Nat} (t : Bool) (ha : Nm a m k) (hk : k ≤ 1000000) (hn : n ≤ 65536) : PFn Tryd.prog 67 [LS a t, .int .i64 (n : Int)] (LS (Ma.digs 4294967296 (m * 2 ^ n)) false) := by
  intro H Q hq
  have hlen := ha.len
  have hp32 := Nat.pow_le_pow_right (n := 2) (by omega) (show n % 32 ≤ 31 by omega)
  refine enter67 (by simp) ?_
  simp (disch := first | assumption | (apply Ap.symm; assumption) | omega | decide | (simp only [U_len, List.length_append, List.length_replicate, List.length_cons, List.length_nil, List.length_set] <;> omega) | fail) only [ac67, ↓Xa, Xb, Xc, ↓reduceIte, Nat.reduceLT, Nat.reduceEqDiff, Nat.reduceBEq, Nat.reduceLeDiff, Nat.reduceAdd, Nat.reduceMul]
  refine W_loop (fun s : Nat × AV × AHeap => ⟨[], [(0, LS a t), (1, .int .i64 (n : Int)), (5, s.2.1), (6, .int .i64 (s.1 : Int))], s.2.2⟩) (fun s => s.1 ≤ n / 32 ∧ grow H 45 (List.replicate s.1 0) s.2.1 s.2.2) (fun s => n / 32 - s.1) (0, _, _) (Settle.now rfl) ⟨Nat.zero_le _, grow_nil⟩ ?_
  rintro ⟨i, x, H'⟩ ⟨hi, hg⟩
  dsimp only at hi hg ⊢
  by_cases h : i < n / 32
  · simp (disch := first | assumption | (apply Ap.symm; assumption) | omega | decide | (simp only [U_len, List.length_append, List.length_replicate, List.length_cons, List.length_nil, List.length_set] <;> omega) | fail) only [h, rep1, ne_eq, Nat.reduceEqDiff, ↓Xa, Xb, Xc, ↓reduceIte, Nat.reduceLT, Nat.reduceEqDiff, Nat.reduceBEq, Nat.reduceLeDiff, Nat.reduceAdd, Nat.reduceMul]
    refine app_grow (m := [0]) hg rfl (by simp) (by simp; omega) fun z' H2 hg2 => ?_
    simp (disch := first | assumption | (apply Ap.symm; assumption) | omega | decide | (simp only [U_len, List.length_append, List.length_replicate, List.length_cons, List.length_nil, List.length_set] <;> omega) | fail) only [↓Xa, Xb, Xc, ↓reduceIte, Nat.reduceLT, Nat.reduceEqDiff, Nat.reduceBEq, Nat.reduceLeDiff, Nat.reduceAdd, Nat.reduceMul]
    refine Settle.now ⟨(i + 1, _, _), by dsimp only; omega, ⟨by dsimp only; omega, ?_⟩, rfl⟩
    dsimp only
    rw [List.replicate_succ']; exact hg2
  · obtain rfl : i = n / 32 := by omega
    simp (disch := first | assumption | (apply Ap.symm; assumption) | omega | decide | (simp only [U_len, List.length_append, List.length_replicate, List.length_cons, List.length_nil, List.length_set] <;> omega) | fail) only [h, ne_eq, Nat.reduceEqDiff, ↓Xa, Xb, Xc, ↓reduceIte, Nat.reduceLT, Nat.reduceEqDiff, Nat.reduceBEq, Nat.reduceLeDiff, Nat.reduceAdd, Nat.reduceMul]
    refine Settle.now ?_
    simp (disch := first | assumption | (apply Ap.symm; assumption) | omega | decide | (simp only [U_len, List.length_append, List.length_replicate, List.length_cons, List.length_nil, List.length_set] <;> omega) | fail) only [↓Xa, Xb, Xc, ↓reduceIte, Nat.reduceLT, Nat.reduceEqDiff, Nat.reduceBEq, Nat.reduceLeDiff, Nat.reduceAdd, Nat.reduceMul]
    refine app_rdg (m := a) hg rfl (by simp; omega) fun x' hx' => ?_
    simp (disch := first | assumption | (apply Ap.symm; assumption) | omega | decide | (simp only [U_len, List.length_append, List.length_replicate, List.length_cons, List.length_nil, List.length_set] <;> omega) | fail) only [Nat.one_mul, bin_shl32, ne_eq, Nat.reduceEqDiff, ↓Xa, Xb, Xc, ↓reduceIte, Nat.reduceLT, Nat.reduceEqDiff, Nat.reduceBEq, Nat.reduceLeDiff, Nat.reduceAdd, Nat.reduceMul]
    have hmu := lmuls_fn (a := List.replicate (n / 32) 0 ++ a) (m := 2 ^ (n % 32)) false (Lim.append (fun y hy => by rw [(List.mem_replicate.1 hy).2]; omega) ha.lim) (by omega) (by simp; omega)
    have e : val 4294967296 (List.replicate (n / 32) 0 ++ a) * 2 ^ (n % 32) = m * 2 ^ n := by
      rw [val_reps, ha.val, show (4294967296 : Nat) = 2 ^ 32 from rfl, ← Nat.pow_mul, Nat.mul_comm (2 ^ _) m, Nat.mul_assoc, ← Nat.pow_add]
      congr 2; omega
    rw [e] at hmu
    refine (hmu.wk (.cons hx' (.cons Wk.refl .nil))).call ?_
    simp (disch := first | assumption | (apply Ap.symm; assumption) | omega | decide | (simp only [U_len, List.length_append, List.length_replicate, List.length_cons, List.length_nil, List.length_set] <;> omega) | fail) only [rs67, ↓Xa, Xb, Xc, ↓reduceIte, Nat.reduceLT, Nat.reduceEqDiff, Nat.reduceBEq, Nat.reduceLeDiff, Nat.reduceAdd, Nat.reduceMul]
    exact SetR.now hq
theorem lshr_n {a : List Nat} {m n k : Nat} (t : Bool) (ha : Nm a m k) (hk : k ≤ 1000000) (hn : n < 9223372036854775808) : PFn Tryd.prog 68 [LS a t, .int .i64 (n : Int)] (LS (Ma.digs 4294967296 (m / 2 ^ n)) (decide (blen m ≤ n))) := by
  intro H Q hq
  have hlen := ha.len
  have hbm : blen m ≤ 32 * k := blen_le.2 (by
    have := ha.lt
    rwa [show (4294967296 : Nat) = 2 ^ 32 from rfl, ← Nat.pow_mul] at this)
  have hp32 := Nat.pow_le_pow_right (n := 2) (by omega) (show n % 32 ≤ 31 by omega)
  have hp0 : 0 < 2 ^ (n % 32) := Nat.pow_pos (by omega)
  refine enter68 (by simp) ?_
  simp (disch := first | assumption | (apply Ap.symm; assumption) | omega | decide | (simp only [U_len, List.length_append, List.length_replicate, List.length_cons, List.length_nil, List.length_set] <;> omega) | fail) only [ac68, ↓Xa, Xb, Xc, ↓reduceIte, Nat.reduceLT, Nat.reduceEqDiff, Nat.reduceBEq, Nat.reduceLeDiff, Nat.reduceAdd, Nat.reduceMul]
  refine (lbits_n t ha hk).call ?_
  by_cases h : blen m ≤ n
  · rw [decide_eq_true h, Nat.div_eq_of_lt (blen_le.1 h), digs_zero] at hq
    simp (disch := first | assumption | (apply Ap.symm; assumption) | omega | decide | (simp only [U_len, List.length_append, List.length_replicate, List.length_cons, List.length_nil, List.length_set] <;> omega) | fail) only [h, rs68, ↓Xa, Xb, Xc, ↓reduceIte, Nat.reduceLT, Nat.reduceEqDiff, Nat.reduceBEq, Nat.reduceLeDiff, Nat.reduceAdd, Nat.reduceMul]
    exact SetR.now hq
  · rw [decide_eq_false h] at hq
    have hd : n / 32 ≤ a.length := by
      apply Nat.le_of_not_lt
      intro hc
      apply h
      rw [blen_le]
      have := val_lt ha.lim
      rw [ha.val, show (4294967296 : Nat) = 2 ^ 32 from rfl, ← Nat.pow_mul] at this
      exact Nat.lt_of_lt_of_le this (Nat.pow_le_pow_right (by omega) (by omega))
    simp (disch := first | assumption | (apply Ap.symm; assumption) | omega | decide | (simp only [U_len, List.length_append, List.length_replicate, List.length_cons, List.length_nil, List.length_set] <;> omega) | fail) only [h, Nat.one_mul, bin_shl32, rep1, ne_eq, Nat.reduceEqDiff, ↓Xa, Xb, Xc, ↓reduceIte, Nat.reduceLT, Nat.reduceEqDiff, Nat.reduceBEq, Nat.reduceLeDiff, Nat.reduceAdd, Nat.reduceMul]
    have nd := Nm.raw (l := a.drop (n / 32)) (k := k) (ha.lim.drop _) (by rw [List.length_drop]; omega)
    rw [val_drop_div (by omega) ha.lim hd, ha.val] at nd
    have n1 := Nm.one (show 2 ^ (n % 32) < 4294967296 by omega)
    refine PFn.dcall (ldivmod_n (b := [2 ^ (n % 32)]) t true nd n1 hk (by omega) hp0) ?_
    have e : m / 4294967296 ^ (n / 32) / 2 ^ (n % 32) = m / 2 ^ n := by
      rw [show (4294967296 : Nat) = 2 ^ 32 from rfl, ← Nat.pow_mul, Nat.div_div_eq_div_mul, ← Nat.pow_add]
      congr 2; omega
    rw [e]
    simp (disch := first | assumption | (apply Ap.symm; assumption) | omega | decide | (simp only [U_len, List.length_append, List.length_replicate, List.length_cons, List.length_nil, List.length_set] <;> omega) | fail) only [rs68, ↓Xa, Xb, Xc, ↓reduceIte, Nat.reduceLT, Nat.reduceEqDiff, Nat.reduceBEq, Nat.reduceLeDiff, Nat.reduceAdd, Nat.reduceMul]
    exact SetR.now hq
theorem lbitn_fn {l : List Nat} {k : Int} (t : Bool) (hk : k < 0) : PFn Tryd.prog 63 [LS l t, .int .i64 k] (.bool false) := by
  intro H Q hq
  have c : decide (((0 : Nat) : Int) ≤ k) = false := decide_eq_false (by omega)
  have geq_i : ∀ {b : Nat} {K : AV → Prop}, binW .geq (.int .i64 k) (.int .i64 (b : Int)) K ↔ K (.bool (decide ((b : Int) ≤ k))) := by
    intro b K; simp only [binW, binInt, true_and]
  refine enter63 (by simp) ?_
  simp (disch := first | assumption | (apply Ap.symm; assumption) | omega | decide | (simp only [U_len, List.length_append, List.length_replicate, List.length_cons, List.length_nil, List.length_set] <;> omega) | fail) only [ac63, geq_i, c, rs63, ↓Xa, Xb, Xc, ↓reduceIte, Nat.reduceLT, Nat.reduceEqDiff, Nat.reduceBEq, Nat.reduceLeDiff, Nat.reduceAdd, Nat.reduceMul]
  exact SetR.now hq
theorem shrm_fn {a : List Nat} {n : Int} (t : Bool) (hn : n < 0) : PFn Tryd.prog 60 [LS a t, .int .i64 n] (.tup [LS [] true, .int .i64 ((2 : Nat) : Int)]) := by
  intro H Q hq
  have c : decide (n < 0) = true := decide_eq_true hn
  refine enter60 (by simp) ?_
  simp (disch := first | assumption | (apply Ap.symm; assumption) | omega | decide | (simp only [U_len, List.length_append, List.length_replicate, List.length_cons, List.length_nil, List.length_set] <;> omega) | fail) only [ac60, lss_neg, c, rs60, ↓Xa, Xb, Xc, ↓reduceIte, Nat.reduceLT, Nat.reduceEqDiff, Nat.reduceBEq, Nat.reduceLeDiff, Nat.reduceAdd, Nat.reduceMul]
  exact SetR.now hq
theorem shl_ex {A m : Nat} (h : A < 4294967296 ^ 160) (hm : m ≤ 65536) : ∃ k, k ≤ 1000000 ∧ A * 2 ^ m < 4294967296 ^ k := by
  obtain ⟨j, hj⟩ : ∃ j, j = 160 := ⟨_, rfl⟩
  rw [← hj] at h
  exact ⟨j + (2048 + 1), by omega, shl_lt h (by omega)⟩

theorem limbShifts_law (a : List Nat) (n : Int) (ha : Lim 4294967296 a) (la : a.length < 9223372036854775808) (hn : -9223372036854775808 ≤ n ∧ n < 9223372036854775808) {H : AHeap} {Q : AV → AHeap → Prop} (hH : TzH H) (hq : Q (.bool true) H) :
    Run Tryd.prog 13 [LS a false, .int .i64 n] H Q := by
  refine enter13 (by simp) ?_
  simp (disch := first | assumption | (apply Ap.symm; assumption) | omega | decide | (simp only [U_len, List.length_append, List.length_replicate, List.length_cons, List.length_nil, List.length_set] <;> omega) | fail) only [ac13, ↓Xa, Xb, Xc, ↓reduceIte, Nat.reduceLT, Nat.reduceEqDiff, Nat.reduceBEq, Nat.reduceLeDiff, Nat.reduceAdd, Nat.reduceMul]
  refine works_fn.call ?_
  simp (disch := first | assumption | (apply Ap.symm; assumption) | omega | decide | (simp only [U_len, List.length_append, List.length_replicate, List.length_cons, List.length_nil, List.length_set] <;> omega) | fail) only [rep1, ↓Xa, Xb, Xc, ↓reduceIte, Nat.reduceLT, Nat.reduceEqDiff, Nat.reduceBEq, Nat.reduceLeDiff, Nat.reduceAdd, Nat.reduceMul]
  refine (llong_fn [(a, false)] true (by simp) (by simp [la])).call ?_
  have el : lngA [(a, false)] = decide (160 < a.length) := by simp [lngA]
  by_cases hl : 160 < a.length
  · rw [el, decide_eq_true hl]
    simp (disch := first | assumption | (apply Ap.symm; assumption) | omega | decide | (simp only [U_len, List.length_append, List.length_replicate, List.length_cons, List.length_nil, List.length_set] <;> omega) | fail) only [rs13, ↓Xa, Xb, Xc, ↓reduceIte, Nat.reduceLT, Nat.reduceEqDiff, Nat.reduceBEq, Nat.reduceLeDiff, Nat.reduceAdd, Nat.reduceMul]
    exact SetR.now hq
  rw [el, decide_eq_false hl]
  have na := Nm.raw (k := 160) ha (by omega)
  have na0 := na
  generalize Ma.val 4294967296 a = A at na
  simp (disch := first | assumption | (apply Ap.symm; assumption) | omega | decide | (simp only [U_len, List.length_append, List.length_replicate, List.length_cons, List.length_nil, List.length_set] <;> omega) | fail) only [↓Xa, Xb, Xc, ↓reduceIte, Nat.reduceLT, Nat.reduceEqDiff, Nat.reduceBEq, Nat.reduceLeDiff, Nat.reduceAdd, Nat.reduceMul]
  refine (room_fn false (by omega)).call ?_
  simp (disch := first | assumption | (apply Ap.symm; assumption) | omega | decide | (simp only [U_len, List.length_append, List.length_replicate, List.length_cons, List.length_nil, List.length_set] <;> omega) | fail) only [↓Xa, Xb, Xc, ↓reduceIte, Nat.reduceLT, Nat.reduceEqDiff, Nat.reduceBEq, Nat.reduceLeDiff, Nat.reduceAdd, Nat.reduceMul]
  have gtr_i : ∀ {b : Nat} {K : AV → Prop}, binW .gtr (.int .i64 n) (.int .i64 (b : Int)) K ↔ K (.bool (decide ((b : Int) < n))) := by
    intro b K; simp only [binW, binInt, true_and]
  obtain ⟨l, r, e, f, bt, hS, hR, hB, hB2, C⟩ : ∃ (l r : List Nat) (e f : Nat) (bt : Bool), PFn Tryd.prog 59 [Xr a, .int .i64 n] (.tup [LS l true, .int .i64 (e : Int)]) ∧ PFn Tryd.prog 60 [Xr a, .int .i64 n] (.tup [LS r true, .int .i64 (f : Int)]) ∧
      PFn Tryd.prog 63 [Xr a, .int .i64 n] (.bool bt) ∧ PFn Tryd.prog 64 [LS a false, .int .i64 n] (.bool bt) ∧
      ((n < 0 ∧ l = [] ∧ r = [] ∧ e = 2 ∧ f = 2) ∨ (∃ m : Nat, n = (m : Int) ∧ 65536 < m ∧ l = [] ∧ r = Ma.digs 4294967296 (A / 2 ^ m) ∧ e = 3 ∧ f = 0) ∨ (∃ m : Nat, n = (m : Int) ∧ m ≤ 65536 ∧ l = Ma.digs 4294967296 (A * 2 ^ m) ∧ r = Ma.digs 4294967296 (A / 2 ^ m) ∧ e = 0 ∧ f = 0)) := by
    rcases Int.lt_or_le n 0 with c | c
    · exact ⟨[], [], 2, 2, false, PFn.x1 (shlm_fn false c), PFn.x1 (shrm_fn false c), PFn.x1 (lbitn_fn false c), rlbit_neg false c, .inl ⟨c, rfl, rfl, rfl, rfl⟩⟩
    · obtain ⟨m, rfl⟩ : ∃ m : Nat, n = (m : Int) := ⟨n.toNat, by omega⟩
      have hr := shr_fn (s := m) false ha (by omega) (by omega)
      have hb := lbit_fn (k := m) false ha (by omega) (by omega)
      have hb2 := rlbit_fn (k := m) false ha (by omega) (by omega)
      rw [na.val] at hr hb hb2
      by_cases c2 : 65536 < m
      · exact ⟨[], _, 3, 0, _, PFn.x1 (shlb_fn false c2), PFn.x1 hr, PFn.x1 hb, hb2, .inr (.inl ⟨m, rfl, c2, rfl, rfl, rfl, rfl⟩)⟩
      · have hl := shl_fn (s := m) false ha (by omega) (by omega)
        rw [na.val] at hl
        exact ⟨_, _, 0, 0, _, PFn.x1 hl, PFn.x1 hr, PFn.x1 hb, hb2, .inr (.inr ⟨m, rfl, by omega, rfl, rfl, rfl, rfl⟩)⟩
  refine hS.call ?_
  simp (disch := first | assumption | (apply Ap.symm; assumption) | omega | decide | (simp only [U_len, List.length_append, List.length_replicate, List.length_cons, List.length_nil, List.length_set] <;> omega) | fail) only [↓Xa, Xb, Xc, ↓reduceIte, Nat.reduceLT, Nat.reduceEqDiff, Nat.reduceBEq, Nat.reduceLeDiff, Nat.reduceAdd, Nat.reduceMul]
  refine hR.call ?_
  simp (disch := first | assumption | (apply Ap.symm; assumption) | omega | decide | (simp only [U_len, List.length_append, List.length_replicate, List.length_cons, List.length_nil, List.length_set] <;> omega) | fail) only [↓Xa, Xb, Xc, ↓reduceIte, Nat.reduceLT, Nat.reduceEqDiff, Nat.reduceBEq, Nat.reduceLeDiff, Nat.reduceAdd, Nat.reduceMul]
  have hbits := bits_fn false ha (by omega)
  rw [na.val] at hbits
  refine (PFn.x hbits).call ?_
  simp (disch := first | assumption | (apply Ap.symm; assumption) | omega | decide | (simp only [U_len, List.length_append, List.length_replicate, List.length_cons, List.length_nil, List.length_set] <;> omega) | fail) only [↓Xa, Xb, Xc, ↓reduceIte, Nat.reduceLT, Nat.reduceEqDiff, Nat.reduceBEq, Nat.reduceLeDiff, Nat.reduceAdd, Nat.reduceMul]
  refine (lbits_n false na (by omega)).call ?_
  simp (disch := first | assumption | (apply Ap.symm; assumption) | omega | decide | (simp only [U_len, List.length_append, List.length_replicate, List.length_cons, List.length_nil, List.length_set] <;> omega) | fail) only [neq_intL, eq_self, decide_true, Bool.not_true, ↓Xa, Xb, Xc, ↓reduceIte, Nat.reduceLT, Nat.reduceEqDiff, Nat.reduceBEq, Nat.reduceLeDiff, Nat.reduceAdd, Nat.reduceMul]
  refine hB.call ?_
  simp (disch := first | assumption | (apply Ap.symm; assumption) | omega | decide | (simp only [U_len, List.length_append, List.length_replicate, List.length_cons, List.length_nil, List.length_set] <;> omega) | fail) only [↓Xa, Xb, Xc, ↓reduceIte, Nat.reduceLT, Nat.reduceEqDiff, Nat.reduceBEq, Nat.reduceLeDiff, Nat.reduceAdd, Nat.reduceMul]
  refine hB2.call ?_
  have hbb : ∀ {K : AV → Prop}, binBW .neq (.bool bt) (.bool bt) K ↔ K (.bool false) := by
    intro K; simp [binBW]
  simp (disch := first | assumption | (apply Ap.symm; assumption) | omega | decide | (simp only [U_len, List.length_append, List.length_replicate, List.length_cons, List.length_nil, List.length_set] <;> omega) | fail) only [hbb, ↓Xa, Xb, Xc, ↓reduceIte, Nat.reduceLT, Nat.reduceEqDiff, Nat.reduceBEq, Nat.reduceLeDiff, Nat.reduceAdd, Nat.reduceMul]
  refine run_call (Run.wk (twos_run hH ha (by omega) ?_) (.cons Wk.Xr .nil))
  rw [na.val]
  simp (disch := first | assumption | (apply Ap.symm; assumption) | omega | decide | (simp only [U_len, List.length_append, List.length_replicate, List.length_cons, List.length_nil, List.length_set] <;> omega) | fail) only [↓Xa, Xb, Xc, ↓reduceIte, Nat.reduceLT, Nat.reduceEqDiff, Nat.reduceBEq, Nat.reduceLeDiff, Nat.reduceAdd, Nat.reduceMul]
  refine (ltwos_n false na (by omega)).call ?_
  simp (disch := first | assumption | (apply Ap.symm; assumption) | omega | decide | (simp only [U_len, List.length_append, List.length_replicate, List.length_cons, List.length_nil, List.length_set] <;> omega) | fail) only [neq_intL, eq_self, decide_true, Bool.not_true, ↓Xa, Xb, Xc, ↓reduceIte, Nat.reduceLT, Nat.reduceEqDiff, Nat.reduceBEq, Nat.reduceLeDiff, Nat.reduceAdd, Nat.reduceMul]
  refine (kept_fn false (by omega)).call ?_
  rcases C with ⟨c, rfl, rfl, rfl, rfl⟩ | ⟨m, rfl, c, rfl, rfl, rfl, rfl⟩ | ⟨m, rfl, c, rfl, rfl, rfl, rfl⟩
  · have c3 : decide (n < 0) = true := decide_eq_true c
    simp (disch := first | assumption | (apply Ap.symm; assumption) | omega | decide | (simp only [U_len, List.length_append, List.length_replicate, List.length_cons, List.length_nil, List.length_set] <;> omega) | fail) only [lss_neg, c3, List.length_nil, rs13, ↓Xa, Xb, Xc, ↓reduceIte, Nat.reduceLT, Nat.reduceEqDiff, Nat.reduceBEq, Nat.reduceLeDiff, Nat.reduceAdd, Nat.reduceMul]
    exact SetR.now hq
  · have c4 : decide (((65536 : Nat) : Int) < (m : Int)) = true := decide_eq_true (by omega)
    simp (disch := first | assumption | (apply Ap.symm; assumption) | omega | decide | (simp only [U_len, List.length_append, List.length_replicate, List.length_cons, List.length_nil, List.length_set] <;> omega) | fail) only [lss_f, gtr_i, c4, List.length_nil, ↓Xa, Xb, Xc, ↓reduceIte, Nat.reduceLT, Nat.reduceEqDiff, Nat.reduceBEq, Nat.reduceLeDiff, Nat.reduceAdd, Nat.reduceMul]
    refine (lshr_n false na (by omega) (by omega)).call ?_
    simp (disch := first | assumption | (apply Ap.symm; assumption) | omega | decide | (simp only [U_len, List.length_append, List.length_replicate, List.length_cons, List.length_nil, List.length_set] <;> omega) | fail) only [↓Xa, Xb, Xc, ↓reduceIte, Nat.reduceLT, Nat.reduceEqDiff, Nat.reduceBEq, Nat.reduceLeDiff, Nat.reduceAdd, Nat.reduceMul]
    refine (eq_same (k := 160) true _ rfl (Nat.lt_of_le_of_lt (Nat.div_le_self _ _) na.lt) (by omega)).call ?_
    simp (disch := first | assumption | (apply Ap.symm; assumption) | omega | decide | (simp only [U_len, List.length_append, List.length_replicate, List.length_cons, List.length_nil, List.length_set] <;> omega) | fail) only [rs13, ↓Xa, Xb, Xc, ↓reduceIte, Nat.reduceLT, Nat.reduceEqDiff, Nat.reduceBEq, Nat.reduceLeDiff, Nat.reduceAdd, Nat.reduceMul]
    exact SetR.now hq
  · have c4 : decide (((65536 : Nat) : Int) < (m : Int)) = false := decide_eq_false (by omega)
    simp (disch := first | assumption | (apply Ap.symm; assumption) | omega | decide | (simp only [U_len, List.length_append, List.length_replicate, List.length_cons, List.length_nil, List.length_set] <;> omega) | fail) only [lss_f, gtr_i, c4, ↓Xa, Xb, Xc, ↓reduceIte, Nat.reduceLT, Nat.reduceEqDiff, Nat.reduceBEq, Nat.reduceLeDiff, Nat.reduceAdd, Nat.reduceMul]
    refine (lshl_n false na (by omega) c).call ?_
    simp (disch := first | assumption | (apply Ap.symm; assumption) | omega | decide | (simp only [U_len, List.length_append, List.length_replicate, List.length_cons, List.length_nil, List.length_set] <;> omega) | fail) only [↓Xa, Xb, Xc, ↓reduceIte, Nat.reduceLT, Nat.reduceEqDiff, Nat.reduceBEq, Nat.reduceLeDiff, Nat.reduceAdd, Nat.reduceMul]
    obtain ⟨k2, hk2, hl2⟩ := shl_ex (m := m) na.lt (by omega)
    refine (eq_same (k := k2) true false rfl hl2 hk2).call ?_
    simp (disch := first | assumption | (apply Ap.symm; assumption) | omega | decide | (simp only [U_len, List.length_append, List.length_replicate, List.length_cons, List.length_nil, List.length_set] <;> omega) | fail) only [↓Xa, Xb, Xc, ↓reduceIte, Nat.reduceLT, Nat.reduceEqDiff, Nat.reduceBEq, Nat.reduceLeDiff, Nat.reduceAdd, Nat.reduceMul]
    refine (lshr_n false na (by omega) (by omega)).call ?_
    simp (disch := first | assumption | (apply Ap.symm; assumption) | omega | decide | (simp only [U_len, List.length_append, List.length_replicate, List.length_cons, List.length_nil, List.length_set] <;> omega) | fail) only [↓Xa, Xb, Xc, ↓reduceIte, Nat.reduceLT, Nat.reduceEqDiff, Nat.reduceBEq, Nat.reduceLeDiff, Nat.reduceAdd, Nat.reduceMul]
    refine (eq_same (k := 160) true _ rfl (Nat.lt_of_le_of_lt (Nat.div_le_self _ _) na.lt) (by omega)).call ?_
    simp (disch := first | assumption | (apply Ap.symm; assumption) | omega | decide | (simp only [U_len, List.length_append, List.length_replicate, List.length_cons, List.length_nil, List.length_set] <;> omega) | fail) only [rs13, ↓Xa, Xb, Xc, ↓reduceIte, Nat.reduceLT, Nat.reduceEqDiff, Nat.reduceBEq, Nat.reduceLeDiff, Nat.reduceAdd, Nat.reduceMul]
    exact SetR.now hq
end Go.Proofs.YtipbcjnniamcgaaDoor.Fw
