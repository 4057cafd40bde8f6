/- The reference's division: a bit of a number; division by one digit. -/
import Derived.Test.YtipbcjnniamcgaaDoorRp
import Derived.Test.YtipbcjnniamcgaaDoorNa
namespace Go.Proofs.YtipbcjnniamcgaaDoor.Fw
set_option linter.unusedSimpArgs false
set_option linter.unusedVariables false
open Go Go.Proofs.YtipbcjnniamcgaaDoor.Ma
set_option maxRecDepth 20000

theorem bit_fn (n k : Nat) (t : Bool) (hn : (digs 65536 n).length ≤ 1099511627776) (hk : k / 16 < (digs 65536 n).length) : PFn Tryd.prog 84 [LS (digs 65536 n) t, .int .i64 (k : Int)] (.int .u32 ((n / 2 ^ k % 2 : Nat) : Int)) := by
  intro H Q hq
  have hd := (lim_digs (B := 65536) (by omega) n).getD (by omega) (k / 16)
  have hb := bit_of (n := n) (k := k)
  have hk2 : k < 9223372036854775808 := by omega
  have and1 : ∀ {a : Nat} {K : AV → Prop} (_ : a < 4294967296), binW .and (.int .u32 (a : Int)) (.int .u32 ((1 : Nat) : Int)) K ↔ K (.int .u32 ((a % 2 : Nat) : Int)) := fun {a K} ha => by
    rw [bin_and .u32 (by simpa [IntKind.bits] using ha) (by simp [IntKind.bits]), Nat.and_one_is_mod, wn_u32 (by omega)]
  have hdiv : (digs 65536 n).getD (k / 16) 0 / 2 ^ (k % 16) < 4294967296 := Nat.lt_of_le_of_lt (Nat.div_le_self _ _) (by omega)
  have ht : k % 16 ≤ 32 := by omega
  have hq16 : k / 16 < 9223372036854775808 := by omega
  refine enter84 (by simp) ?_
  simp (disch := first | assumption | (apply Ap.symm; assumption) | omega | decide | (simp only [U_len, List.length_append, List.length_replicate, List.length_cons, List.length_nil, List.length_set] <;> omega) | fail) only [ac84, ne_eq, Nat.reduceEqDiff, and1, hb, rs84, ↓Xa, Xb, Xc, ↓reduceIte, Nat.reduceLT, Nat.reduceEqDiff, Nat.reduceBEq, Nat.reduceLeDiff, Nat.reduceAdd, Nat.reduceMul]
  exact SetR.now hq

theorem rdiv_one {m n : Nat} (ta tb : Bool) (hn : 0 < n) (hn1 : n < 65536) (hm : (digs 65536 m).length ≤ 1099511627776) :
    PFn Tryd.prog 93 [LS (digs 65536 m) ta, LS (digs 65536 n) tb] (.tup [LS (digs 65536 (m / n)) false, LS (digs 65536 (m % n)) false]) := by
  intro H Q hq
  have vm := val_digs (B := 65536) (by omega) m
  have lm := lim_digs (B := 65536) (by omega) m
  have hne : (n = 0) = False := eq_false (by omega)
  have hY : digs 65536 n = [n] := by rw [digs_pos (by omega) hn, Nat.mod_eq_of_lt hn1, Nat.div_eq_of_lt hn1, digs_zero]
  rw [hY]
  generalize digs 65536 m = a at *
  refine enter93 (by simp) ?_
  have l1 : ([n] : List Nat).length = 1 := rfl
  have g1 : ([n] : List Nat).getD 0 0 = n := rfl
  simp (disch := first | assumption | (apply Ap.symm; assumption) | omega | decide | (simp only [U_len, List.length_append, List.length_replicate, List.length_cons, List.length_nil, List.length_set] <;> omega) | fail) only [ac93, l1, g1, load_LS0, ↓Xa, Xb, Xc, ↓reduceIte, Nat.reduceLT, Nat.reduceEqDiff, Nat.reduceBEq, Nat.reduceLeDiff, Nat.reduceAdd, Nat.reduceMul]
  refine newU_i fun o ho => ?_
  simp (disch := first | assumption | (apply Ap.symm; assumption) | omega | decide | (simp only [U_len, List.length_append, List.length_replicate, List.length_cons, List.length_nil, List.length_set] <;> omega) | fail) only [↓Xa, Xb, Xc, ↓reduceIte, Nat.reduceLT, Nat.reduceEqDiff, Nat.reduceBEq, Nat.reduceLeDiff, Nat.reduceAdd, Nat.reduceMul]
  refine W_loop (fun p : Nat × Nat × List Nat => ⟨[], [(0, LS a ta), (1, LS [n] tb), (6, .own o a.length 0 a.length true), (7, .int .u64 p.2.1), (8, .int .i64 (dn p.1))],
      H.upd o (some (.row 45 1 (U p.2.2)))⟩)
    (fun p => p.1 ≤ a.length ∧ DivJ a n p.1 p.2.1 p.2.2) (fun p => p.1) (a.length, 0, List.replicate a.length 0) (Settle.now rfl) ⟨by simp, DivJ.zero a hn⟩ ?_
  rintro ⟨k, r, out⟩ ⟨h1, h2⟩
  dsimp only at h1 h2 ⊢
  have hol := h2.1
  have hr := h2.2.2.1
  cases k with
  | zero =>
    simp (disch := first | assumption | (apply Ap.symm; assumption) | omega | decide | (simp only [U_len, List.length_append, List.length_replicate, List.length_cons, List.length_nil, List.length_set] <;> omega) | fail) only [↓Xa, Xb, Xc, ↓reduceIte, Nat.reduceLT, Nat.reduceEqDiff, Nat.reduceBEq, Nat.reduceLeDiff, Nat.reduceAdd, Nat.reduceMul]
    refine Settle.freeze 6 rfl (upd_same _ _ _) (by simp [hol]) (.inr (by simp)) ?_
    have e1 : AV.seq a.length (((U out).drop 0).take (a.length * 1)) true = LS out true := by
      rw [List.drop_zero, Nat.mul_one, ← hol, List.take_of_length_le (by simp)]; rfl
    rw [e1, upd_upd, upd_back _ ho]
    refine Settle.now ?_
    simp (disch := first | assumption | (apply Ap.symm; assumption) | omega | decide | (simp only [U_len, List.length_append, List.length_replicate, List.length_cons, List.length_nil, List.length_set] <;> omega) | fail) only [↓Xa, Xb, Xc, ↓reduceIte, Nat.reduceLT, Nat.reduceEqDiff, Nat.reduceBEq, Nat.reduceLeDiff, Nat.reduceAdd, Nat.reduceMul]
    refine (rnorm_fn false true h2.2.1 (by omega)).call ?_
    simp (disch := first | assumption | (apply Ap.symm; assumption) | omega | decide | (simp only [U_len, List.length_append, List.length_replicate, List.length_cons, List.length_nil, List.length_set] <;> omega) | fail) only [RefA, ↓Xa, Xb, Xc, ↓reduceIte, Nat.reduceLT, Nat.reduceEqDiff, Nat.reduceBEq, Nat.reduceLeDiff, Nat.reduceAdd, Nat.reduceMul]
    refine (rnorm_fn (l := [r]) false true (Lim.one (by omega)) (by simp)).call ?_
    simp (disch := first | assumption | (apply Ap.symm; assumption) | omega | decide | (simp only [U_len, List.length_append, List.length_replicate, List.length_cons, List.length_nil, List.length_set] <;> omega) | fail) only [RefA, rs93, ↓Xa, Xb, Xc, ↓reduceIte, Nat.reduceLT, Nat.reduceEqDiff, Nat.reduceBEq, Nat.reduceLeDiff, Nat.reduceAdd, Nat.reduceMul]
    refine SetR.now ?_
    have e2 := h2.end
    rw [tr_digs (by omega) h2.2.1, vm] at e2
    rw [sg_abs, sg_abs, val_one, e2.1, e2.2]
    exact hq
  | succ k =>
    clear l1 g1 hY vm hne ho
    have hx := lm.getD (by omega) k
    have hs : r * 65536 + a.getD k 0 < 4294967296 := by omega
    have hne : (n = 0) = False := eq_false (by omega)
    have hw : IntKind.u32.wrap (((r * 65536 + a.getD k 0) / n : Nat) : Int) = (((r * 65536 + a.getD k 0) / n : Nat) : Int) := wn_u32 (Nat.lt_of_le_of_lt (Nat.div_le_self _ _) hs)
    have hw2 : IntKind.u64.wrap (((r * 65536 + a.getD k 0) / n : Nat) : Int) = (((r * 65536 + a.getD k 0) / n : Nat) : Int) := wn_u64 (Nat.lt_trans (Nat.lt_of_le_of_lt (Nat.div_le_self _ _) hs) (by decide))
    have hwm : IntKind.u64.wrap ((r * 65536 : Nat) : Int) = ((r * 65536 : Nat) : Int) := wn_u64 (Nat.lt_trans (Nat.lt_of_le_of_lt (Nat.le_add_right _ _) hs) (by decide))
    have hwa : IntKind.u64.wrap ((r * 65536 + a.getD k 0 : Nat) : Int) = ((r * 65536 + a.getD k 0 : Nat) : Int) := wn_u64 (Nat.lt_trans hs (by decide))
    have hd66 : (r * 65536 + a.getD k 0) / n < 65536 := by
      apply Nat.div_lt_of_lt_mul
      have : (r + 1) * 65536 ≤ n * 65536 := Nat.mul_le_mul_right _ hr
      omega
    have hst := h2.step (s := r * 65536 + a.getD k 0) (by omega) lm hn1 rfl
    rw [Nat.mod_eq_of_lt hd66] at hst
    have hqm : (r * 65536 + a.getD k 0) / n % 18446744073709551616 % 4294967296 = (r * 65536 + a.getD k 0) / n := by
      rw [Nat.mod_eq_of_lt (Nat.lt_trans hd66 (by decide)), Nat.mod_eq_of_lt (Nat.lt_trans hd66 (by decide))]
    clear hd66
    generalize hqd : (r * 65536 + a.getD k 0) / n = qd at *
    generalize hrd : (r * 65536 + a.getD k 0) % n = rd at *
    generalize hsd : r * 65536 + a.getD k 0 = sd at *
    simp (disch := first | assumption | (apply Ap.symm; assumption) | omega | decide | (simp only [U_len, List.length_append, List.length_replicate, List.length_cons, List.length_nil, List.length_set] <;> omega) | fail) only [hne, ne_eq, List.getD_cons_zero, load_LS0, ↓hwm, ↓hwa, hsd, hqd, hrd, ↓hw, ↓hw2, ↓Xa, Xb, Xc, ↓reduceIte, Nat.reduceLT, Nat.reduceEqDiff, Nat.reduceBEq, Nat.reduceLeDiff, Nat.reduceAdd, Nat.reduceMul]
    exact Settle.now ⟨(k, _, _), by dsimp only; omega, ⟨by dsimp only; omega, hst⟩, rfl⟩
end Go.Proofs.YtipbcjnniamcgaaDoor.Fw
