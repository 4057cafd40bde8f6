/- The law of sums of limbs, as what its code computes: true. -/
import Derived.Test.YtipbcjnniamcgaaDoorVd
import Derived.Test.YtipbcjnniamcgaaDoorAl12
namespace Go.Proofs.YtipbcjnniamcgaaDoor.Fw
set_option linter.unusedSimpArgs false
set_option linter.unusedVariables false
open Go Go.Proofs.YtipbcjnniamcgaaDoor.Ma
set_option maxRecDepth 20000

theorem neq_intL {k : IntKind} {a b : Int} {K : AV → Prop} : binW .neq (.int k a) (.int k b) K ↔ K (.bool (!decide (a = b))) := by
  simp only [binW, binInt, true_and]
theorem sub_bd {a b : List Nat} {m n k k' : Nat} (ta tb : Bool) (ha : Nm a m k) (hb : Nm b n k') (h : m < n) : PFn Tryd.prog 50 [LS a ta, LS b tb] (.tup [LS [] true, .int .i64 ((5 : Nat) : Int)]) := by
  intro H Q hq
  refine enter50 (by simp) ?_
  simp (disch := first | assumption | (apply Ap.symm; assumption) | omega | decide | (simp only [U_len, List.length_append, List.length_replicate, List.length_cons, List.length_nil, List.length_set] <;> omega) | fail) only [ac50, ↓Xa, Xb, Xc, ↓reduceIte, Nat.reduceLT, Nat.reduceEqDiff, Nat.reduceBEq, Nat.reduceLeDiff, Nat.reduceAdd, Nat.reduceMul]
  refine (cmp_n ta tb ha hb).call ?_
  have e : decide (m < n) = true := decide_eq_true h
  simp (disch := first | assumption | (apply Ap.symm; assumption) | omega | decide | (simp only [U_len, List.length_append, List.length_replicate, List.length_cons, List.length_nil, List.length_set] <;> omega) | fail) only [lss_cmp, e, rs50, ↓Xa, Xb, Xc, ↓reduceIte, Nat.reduceLT, Nat.reduceEqDiff, Nat.reduceBEq, Nat.reduceLeDiff, Nat.reduceAdd, Nat.reduceMul]
  exact SetR.now hq
/-- The reference's functions, by what the rows stand for. -/
theorem lnorm_n {a : List Nat} {m k : Nat} (ta : Bool) (ha : Nm a m k) (hk : k ≤ 1000000) : PFn Tryd.prog 53 [LS a ta] (LS (Ma.digs 4294967296 m) false) := by
  have h := lnorm_fn (l := a) ta (by have := ha.len; omega)
  rw [tr_digs (by omega) ha.lim, ha.val] at h; exact h
theorem lcmp_n {a b : List Nat} {m n k k' : Nat} (ta tb : Bool) (ha : Nm a m k) (hb : Nm b n k') (hk : k ≤ 1000000) (hk' : k' ≤ 1000000) : PFn Tryd.prog 56 [LS a ta, LS b tb] (.int .i64 (cmpZ m n)) := by
  have h := lcmp_fn ta tb ha.lim hb.lim (by have := ha.len; omega) (by have := hb.len; omega)
  rw [ha.val, hb.val] at h; exact h
theorem ladd_n {a b : List Nat} {m n k k' : Nat} (ta tb : Bool) (ha : Nm a m k) (hb : Nm b n k') (hk : k ≤ 1000000) (hk' : k' ≤ 1000000) : PFn Tryd.prog 57 [LS a ta, LS b tb] (LS (Ma.digs 4294967296 (m + n)) false) := by
  have h := ladd_fn ta tb ha.lim hb.lim (by have := ha.len; omega) (by have := hb.len; omega)
  rw [ha.val, hb.val] at h; exact h
theorem lsub_n {a b : List Nat} {m n k k' : Nat} (ta tb : Bool) (ha : Nm a m k) (hb : Nm b n k') (hk : k ≤ 1000000) (hk' : k' ≤ 1000000) (hmn : n ≤ m) : PFn Tryd.prog 58 [LS a ta, LS b tb] (LS (Ma.digs 4294967296 (m - n)) false) := by
  have h := lsub_fn ta tb ha.lim hb.lim (by have := ha.len; omega) (by have := hb.len; omega) (by rw [ha.val, hb.val]; exact hmn)
  rw [ha.val, hb.val] at h; exact h
theorem lng2 {a b : List Nat} : lngA [(a, false), (b, false)] = (decide (160 < a.length) || decide (160 < b.length)) := by simp [lngA]

theorem limbSums_law (a b : List Nat) (ha : Lim 4294967296 a) (hb : Lim 4294967296 b) (la : a.length < 9223372036854775808) (lb : b.length < 9223372036854775808) :
    PFn Tryd.prog 12 [LS a false, LS b false] (.bool true) := by
  intro H Q hq
  refine enter12 (by simp) ?_
  simp (disch := first | assumption | (apply Ap.symm; assumption) | omega | decide | (simp only [U_len, List.length_append, List.length_replicate, List.length_cons, List.length_nil, List.length_set] <;> omega) | fail) only [ac12, ↓Xa, Xb, Xc, ↓reduceIte, Nat.reduceLT, Nat.reduceEqDiff, Nat.reduceBEq, Nat.reduceLeDiff, Nat.reduceAdd, Nat.reduceMul]
  refine works_fn.call ?_
  simp (disch := first | assumption | (apply Ap.symm; assumption) | omega | decide | (simp only [U_len, List.length_append, List.length_replicate, List.length_cons, List.length_nil, List.length_set] <;> omega) | fail) only [rep2, ↓Xa, Xb, Xc, ↓reduceIte, Nat.reduceLT, Nat.reduceEqDiff, Nat.reduceBEq, Nat.reduceLeDiff, Nat.reduceAdd, Nat.reduceMul]
  refine (llong_fn [(a, false), (b, false)] true (by simp) (by simp [la, lb])).call ?_
  by_cases hl : 160 < a.length ∨ 160 < b.length
  · have e : lngA [(a, false), (b, false)] = true := by rw [lng2]; simpa using hl
    rw [e]
    simp (disch := first | assumption | (apply Ap.symm; assumption) | omega | decide | (simp only [U_len, List.length_append, List.length_replicate, List.length_cons, List.length_nil, List.length_set] <;> omega) | fail) only [rs12, ↓Xa, Xb, Xc, ↓reduceIte, Nat.reduceLT, Nat.reduceEqDiff, Nat.reduceBEq, Nat.reduceLeDiff, Nat.reduceAdd, Nat.reduceMul]
    exact SetR.now hq
  have e : lngA [(a, false), (b, false)] = false := by
    rw [lng2, decide_eq_false (by omega), decide_eq_false (by omega)]; rfl
  rw [e]
  clear e
  have na := Nm.raw (k := 160) ha (by omega)
  have nb := Nm.raw (k := 160) hb (by omega)
  generalize Ma.val 4294967296 a = A at na
  generalize Ma.val 4294967296 b = B at nb
  simp (disch := first | assumption | (apply Ap.symm; assumption) | omega | decide | (simp only [U_len, List.length_append, List.length_replicate, List.length_cons, List.length_nil, List.length_set] <;> omega) | fail) only [↓Xa, Xb, Xc, ↓reduceIte, Nat.reduceLT, Nat.reduceEqDiff, Nat.reduceBEq, Nat.reduceLeDiff, Nat.reduceAdd, Nat.reduceMul]
  refine (room_fn false (by omega)).call ?_
  simp (disch := first | assumption | (apply Ap.symm; assumption) | omega | decide | (simp only [U_len, List.length_append, List.length_replicate, List.length_cons, List.length_nil, List.length_set] <;> omega) | fail) only [↓Xa, Xb, Xc, ↓reduceIte, Nat.reduceLT, Nat.reduceEqDiff, Nat.reduceBEq, Nat.reduceLeDiff, Nat.reduceAdd, Nat.reduceMul]
  refine (room_fn false (by omega)).call ?_
  simp (disch := first | assumption | (apply Ap.symm; assumption) | omega | decide | (simp only [U_len, List.length_append, List.length_replicate, List.length_cons, List.length_nil, List.length_set] <;> omega) | fail) only [↓Xa, Xb, Xc, ↓reduceIte, Nat.reduceLT, Nat.reduceEqDiff, Nat.reduceBEq, Nat.reduceLeDiff, Nat.reduceAdd, Nat.reduceMul]
  obtain ⟨s, e, hS, C⟩ : ∃ (s : List Nat) (e : Nat), PFn Tryd.prog 50 [Xr a, Xr b] (.tup [LS s true, .int .i64 (e : Int)]) ∧ ((A < B ∧ s = [] ∧ e = 5) ∨ (B ≤ A ∧ s = Ma.digs 4294967296 (A - B) ∧ e = 0)) := by
    by_cases h : A < B
    · exact ⟨_, _, PFn.xx (sub_bd false false na nb h), .inl ⟨h, rfl, rfl⟩⟩
    · exact ⟨_, _, PFn.xx (sub_n false false na nb (by omega) (by omega) (by omega)), .inr ⟨by omega, rfl, rfl⟩⟩
  refine hS.call ?_
  simp (disch := first | assumption | (apply Ap.symm; assumption) | omega | decide | (simp only [U_len, List.length_append, List.length_replicate, List.length_cons, List.length_nil, List.length_set] <;> omega) | fail) only [↓Xa, Xb, Xc, ↓reduceIte, Nat.reduceLT, Nat.reduceEqDiff, Nat.reduceBEq, Nat.reduceLeDiff, Nat.reduceAdd, Nat.reduceMul]
  refine (PFn.xx (cmp_n false false na nb)).call ?_
  simp (disch := first | assumption | (apply Ap.symm; assumption) | omega | decide | (simp only [U_len, List.length_append, List.length_replicate, List.length_cons, List.length_nil, List.length_set] <;> omega) | fail) only [↓Xa, Xb, Xc, ↓reduceIte, Nat.reduceLT, Nat.reduceEqDiff, Nat.reduceBEq, Nat.reduceLeDiff, Nat.reduceAdd, Nat.reduceMul]
  refine (lcmp_n false false na nb (by omega) (by omega)).call ?_
  simp (disch := first | assumption | (apply Ap.symm; assumption) | omega | decide | (simp only [U_len, List.length_append, List.length_replicate, List.length_cons, List.length_nil, List.length_set] <;> omega) | fail) only [neq_intL, decide_true, Bool.not_true, ↓Xa, Xb, Xc, ↓reduceIte, Nat.reduceLT, Nat.reduceEqDiff, Nat.reduceBEq, Nat.reduceLeDiff, Nat.reduceAdd, Nat.reduceMul]
  refine (PFn.x (norm_n false na (by omega))).call ?_
  simp (disch := first | assumption | (apply Ap.symm; assumption) | omega | decide | (simp only [U_len, List.length_append, List.length_replicate, List.length_cons, List.length_nil, List.length_set] <;> omega) | fail) only [↓Xa, Xb, Xc, ↓reduceIte, Nat.reduceLT, Nat.reduceEqDiff, Nat.reduceBEq, Nat.reduceLeDiff, Nat.reduceAdd, Nat.reduceMul]
  refine (lnorm_n false na (by omega)).call ?_
  simp (disch := first | assumption | (apply Ap.symm; assumption) | omega | decide | (simp only [U_len, List.length_append, List.length_replicate, List.length_cons, List.length_nil, List.length_set] <;> omega) | fail) only [↓Xa, Xb, Xc, ↓reduceIte, Nat.reduceLT, Nat.reduceEqDiff, Nat.reduceBEq, Nat.reduceLeDiff, Nat.reduceAdd, Nat.reduceMul]
  refine (eq_same true false rfl na.lt (by omega)).call ?_
  simp (disch := first | assumption | (apply Ap.symm; assumption) | omega | decide | (simp only [U_len, List.length_append, List.length_replicate, List.length_cons, List.length_nil, List.length_set] <;> omega) | fail) only [↓Xa, Xb, Xc, ↓reduceIte, Nat.reduceLT, Nat.reduceEqDiff, Nat.reduceBEq, Nat.reduceLeDiff, Nat.reduceAdd, Nat.reduceMul]
  refine (PFn.xx (add_n false false na nb (by omega) (by omega))).call ?_
  simp (disch := first | assumption | (apply Ap.symm; assumption) | omega | decide | (simp only [U_len, List.length_append, List.length_replicate, List.length_cons, List.length_nil, List.length_set] <;> omega) | fail) only [↓Xa, Xb, Xc, ↓reduceIte, Nat.reduceLT, Nat.reduceEqDiff, Nat.reduceBEq, Nat.reduceLeDiff, Nat.reduceAdd, Nat.reduceMul]
  refine (ladd_n false false na nb (by omega) (by omega)).call ?_
  simp (disch := first | assumption | (apply Ap.symm; assumption) | omega | decide | (simp only [U_len, List.length_append, List.length_replicate, List.length_cons, List.length_nil, List.length_set] <;> omega) | fail) only [↓Xa, Xb, Xc, ↓reduceIte, Nat.reduceLT, Nat.reduceEqDiff, Nat.reduceBEq, Nat.reduceLeDiff, Nat.reduceAdd, Nat.reduceMul]
  refine (eq_same true false rfl (lt_add na.lt nb.lt) (by omega)).call ?_
  simp (disch := first | assumption | (apply Ap.symm; assumption) | omega | decide | (simp only [U_len, List.length_append, List.length_replicate, List.length_cons, List.length_nil, List.length_set] <;> omega) | fail) only [↓Xa, Xb, Xc, ↓reduceIte, Nat.reduceLT, Nat.reduceEqDiff, Nat.reduceBEq, Nat.reduceLeDiff, Nat.reduceAdd, Nat.reduceMul]
  refine (kept_fn false (by omega)).call ?_
  simp (disch := first | assumption | (apply Ap.symm; assumption) | omega | decide | (simp only [U_len, List.length_append, List.length_replicate, List.length_cons, List.length_nil, List.length_set] <;> omega) | fail) only [↓Xa, Xb, Xc, ↓reduceIte, Nat.reduceLT, Nat.reduceEqDiff, Nat.reduceBEq, Nat.reduceLeDiff, Nat.reduceAdd, Nat.reduceMul]
  refine (kept_fn false (by omega)).call ?_
  simp (disch := first | assumption | (apply Ap.symm; assumption) | omega | decide | (simp only [U_len, List.length_append, List.length_replicate, List.length_cons, List.length_nil, List.length_set] <;> omega) | fail) only [↓Xa, Xb, Xc, ↓reduceIte, Nat.reduceLT, Nat.reduceEqDiff, Nat.reduceBEq, Nat.reduceLeDiff, Nat.reduceAdd, Nat.reduceMul]
  refine (lcmp_n false false na nb (by omega) (by omega)).call ?_
  rcases C with ⟨c1, rfl, rfl⟩ | ⟨c1, rfl, rfl⟩
  · have e : decide (A < B) = true := decide_eq_true c1
    simp (disch := first | assumption | (apply Ap.symm; assumption) | omega | decide | (simp only [U_len, List.length_append, List.length_replicate, List.length_cons, List.length_nil, List.length_set] <;> omega) | fail) only [lss_cmp, e, List.length_nil, rs12, ↓Xa, Xb, Xc, ↓reduceIte, Nat.reduceLT, Nat.reduceEqDiff, Nat.reduceBEq, Nat.reduceLeDiff, Nat.reduceAdd, Nat.reduceMul]
    exact SetR.now hq
  · have e : decide (A < B) = false := decide_eq_false (by omega)
    simp (disch := first | assumption | (apply Ap.symm; assumption) | omega | decide | (simp only [U_len, List.length_append, List.length_replicate, List.length_cons, List.length_nil, List.length_set] <;> omega) | fail) only [lss_cmp, e, ↓Xa, Xb, Xc, ↓reduceIte, Nat.reduceLT, Nat.reduceEqDiff, Nat.reduceBEq, Nat.reduceLeDiff, Nat.reduceAdd, Nat.reduceMul]
    refine (lsub_n false false na nb (by omega) (by omega) c1).call ?_
    simp (disch := first | assumption | (apply Ap.symm; assumption) | omega | decide | (simp only [U_len, List.length_append, List.length_replicate, List.length_cons, List.length_nil, List.length_set] <;> omega) | fail) only [↓Xa, Xb, Xc, ↓reduceIte, Nat.reduceLT, Nat.reduceEqDiff, Nat.reduceBEq, Nat.reduceLeDiff, Nat.reduceAdd, Nat.reduceMul]
    refine (eq_same (k := 160) true false rfl (Nat.lt_of_le_of_lt (Nat.sub_le _ _) na.lt) (by omega)).call ?_
    simp (disch := first | assumption | (apply Ap.symm; assumption) | omega | decide | (simp only [U_len, List.length_append, List.length_replicate, List.length_cons, List.length_nil, List.length_set] <;> omega) | fail) only [rs12, ↓Xa, Xb, Xc, ↓reduceIte, Nat.reduceLT, Nat.reduceEqDiff, Nat.reduceBEq, Nat.reduceLeDiff, Nat.reduceAdd, Nat.reduceMul]
    exact SetR.now hq
end Go.Proofs.YtipbcjnniamcgaaDoor.Fw
