/- The reference for limbs: products; the law of products of limbs, as what its code computes: true. -/
import Derived.Test.YtipbcjnniamcgaaDoorVe
import Derived.Test.YtipbcjnniamcgaaDoorSh
import Derived.Test.YtipbcjnniamcgaaDoorAl11
namespace Go.Proofs.YtipbcjnniamcgaaDoor.Fw
set_option linter.unusedSimpArgs false
set_option linter.unusedVariables false
open Go Go.Proofs.YtipbcjnniamcgaaDoor.Ma
set_option maxRecDepth 20000

/-- A row times one limb, from the lowest up. -/
def MuI (a : List Nat) (m i c : Nat) (done : List Nat) : Prop := done.length = i ∧ Lim 4294967296 done ∧ c < 4294967296 ∧ val 4294967296 done + 4294967296 ^ i * c = val 4294967296 (a.take i) * m
theorem MuI.zero (a : List Nat) (m : Nat) : MuI a m 0 0 [] := ⟨rfl, Lim.nil _, by omega, by simp [val]⟩
theorem mul_fit {x m c : Nat} (hx : x < 4294967296) (hm : m < 4294967296) (hc : c < 4294967296) : c + x * m < 4294967296 * 4294967296 ∧ (c + x * m) / 4294967296 < 4294967296 := by
  have h : x * m ≤ (4294967296 - 1) * (4294967296 - 1) := Nat.mul_le_mul (by omega) (by omega)
  have h2 : c + x * m < 4294967296 * 4294967296 := by omega
  exact ⟨h2, Nat.div_lt_of_lt_mul h2⟩
theorem MuI.step {a done : List Nat} {m i c s : Nat} (h : MuI a m i c done) (ha : Lim 4294967296 a) (hm : m < 4294967296) (hs : s = c + a.getD i 0 * m) : MuI a m (i + 1) (s / 4294967296) (done ++ [s % 4294967296]) := by
  obtain ⟨h1, h2, h3, h4⟩ := h
  have ga := ha.getD (by omega) i
  refine ⟨by simp [h1], lim_snoc h2 (Nat.mod_lt _ (by omega)), by rw [hs]; exact (mul_fit ga hm h3).2, ?_⟩
  rw [val_snoc, val_take, h1, Nat.pow_succ]
  have e := Nat.mod_add_div s 4294967296
  have e1 : 4294967296 ^ i * (s % 4294967296) + 4294967296 ^ i * 4294967296 * (s / 4294967296) = 4294967296 ^ i * s := by rw [Nat.mul_assoc, ← Nat.mul_add, e]
  rw [Nat.add_assoc, e1, hs, Nat.mul_add, ← Nat.add_assoc, h4, Nat.add_mul, Nat.mul_assoc]
theorem lmuls_fn {a : List Nat} {m : Nat} (ta : Bool) (ha : Lim 4294967296 a) (hm : m < 4294967296) (la : a.length ≤ 274877906944) : PFn Tryd.prog 55 [LS a ta, .int .u32 (m : Int)] (LS (digs 4294967296 (val 4294967296 a * m)) false) := by
  intro H Q hq
  refine enter55 (by simp) ?_
  simp (disch := first | assumption | (apply Ap.symm; assumption) | omega | decide | (simp only [U_len, List.length_append, List.length_replicate, List.length_cons, List.length_nil, List.length_set] <;> omega) | fail) only [ac55, ↓Xa, Xb, Xc, ↓reduceIte, Nat.reduceLT, Nat.reduceEqDiff, Nat.reduceBEq, Nat.reduceLeDiff, Nat.reduceAdd, Nat.reduceMul]
  refine W_loop (fun s : Nat × Nat × List Nat × AV × AHeap => ⟨[], [(0, LS a ta), (1, .int .u32 (m : Int)), (5, s.2.2.2.1), (6, .int .u64 (s.2.1 : Nat)), (7, .int .i64 (s.1 : Nat))], s.2.2.2.2⟩)
    (fun s => (s.1 ≤ a.length + 1 ∧ (a.length < s.1 → s.2.1 = 0)) ∧ MuI a m s.1 s.2.1 s.2.2.1 ∧ grow H 45 s.2.2.1 s.2.2.2.1 s.2.2.2.2) (fun s => 2 * (a.length - s.1) + min s.2.1 1) (0, 0, [], _, _) (Settle.now rfl) ⟨⟨Nat.zero_le _, fun _ => rfl⟩, MuI.zero a m, grow_nil⟩ ?_
  rintro ⟨i, c, done, x, H'⟩ ⟨⟨hi, hi2⟩, hI, hg⟩
  dsimp only at hi hi2 hI hg ⊢
  have hx := ha.getD (by omega) i
  have hc := hI.2.2.1
  have hdl := hI.1
  obtain ⟨f1, f2⟩ := mul_fit hx hm hc
  have f3 : a.getD i 0 * m < 18446744073709551616 := by omega
  have beyond : a.length ≤ i → (c + a.getD i 0 * m) / 4294967296 = 0 := fun h => by
    rw [getD_beyond h, Nat.zero_mul]; omega
  by_cases hw : i < a.length ∨ 0 < c
  · have himax : i ≤ a.length := by
      apply Nat.le_of_not_lt; intro h
      have := hi2 h
      omega
    have meas : 2 * (a.length - (i + 1)) + min ((c + a.getD i 0 * m) / 4294967296) 1 < 2 * (a.length - i) + min c 1 := by
      rcases Nat.lt_or_ge i a.length with h | h
      · omega
      · have := beyond h; omega
    have inv : i + 1 ≤ a.length + 1 ∧ (a.length < i + 1 → (c + a.getD i 0 * m) / 4294967296 = 0) := ⟨by omega, fun h => beyond (by omega)⟩
    have hdn : done.length + 1 ≤ 17592186044416 := by omega
    have st := hI.step ha hm rfl
    by_cases h1 : i < a.length
    · simp (disch := first | assumption | (apply Ap.symm; assumption) | omega | decide | (simp only [U_len, List.length_append, List.length_replicate, List.length_cons, List.length_nil, List.length_set] <;> omega) | fail) only [h1, ↓Xa, Xb, Xc, ↓reduceIte, Nat.reduceLT, Nat.reduceEqDiff, Nat.reduceBEq, Nat.reduceLeDiff, Nat.reduceAdd, Nat.reduceMul]
      refine (lat_fn ta (by omega)).call ?_
      simp (disch := first | assumption | (apply Ap.symm; assumption) | omega | decide | (simp only [U_len, List.length_append, List.length_replicate, List.length_cons, List.length_nil, List.length_set] <;> omega) | fail) only [rep1, ne_eq, Nat.reduceEqDiff, ↓Xa, Xb, Xc, ↓reduceIte, Nat.reduceLT, Nat.reduceEqDiff, Nat.reduceBEq, Nat.reduceLeDiff, Nat.reduceAdd, Nat.reduceMul]
      refine app_grow (m := [(c + a.getD i 0 * m) % 4294967296]) hg rfl (by simp) (by simp; omega) fun z' H2 hg2 => ?_
      simp (disch := first | assumption | (apply Ap.symm; assumption) | omega | decide | (simp only [U_len, List.length_append, List.length_replicate, List.length_cons, List.length_nil, List.length_set] <;> omega) | fail) only [ne_eq, Nat.reduceEqDiff, ↓Xa, Xb, Xc, ↓reduceIte, Nat.reduceLT, Nat.reduceEqDiff, Nat.reduceBEq, Nat.reduceLeDiff, Nat.reduceAdd, Nat.reduceMul]
      exact Settle.now ⟨(i + 1, _, done ++ [_], _, _), meas, ⟨inv, st, hg2⟩, rfl⟩
    · have h3 : 0 < c := by omega
      simp (disch := first | assumption | (apply Ap.symm; assumption) | omega | decide | (simp only [U_len, List.length_append, List.length_replicate, List.length_cons, List.length_nil, List.length_set] <;> omega) | fail) only [h1, h3, ↓Xa, Xb, Xc, ↓reduceIte, Nat.reduceLT, Nat.reduceEqDiff, Nat.reduceBEq, Nat.reduceLeDiff, Nat.reduceAdd, Nat.reduceMul]
      refine (lat_fn ta (by omega)).call ?_
      simp (disch := first | assumption | (apply Ap.symm; assumption) | omega | decide | (simp only [U_len, List.length_append, List.length_replicate, List.length_cons, List.length_nil, List.length_set] <;> omega) | fail) only [rep1, ne_eq, Nat.reduceEqDiff, ↓Xa, Xb, Xc, ↓reduceIte, Nat.reduceLT, Nat.reduceEqDiff, Nat.reduceBEq, Nat.reduceLeDiff, Nat.reduceAdd, Nat.reduceMul]
      refine app_grow (m := [(c + a.getD i 0 * m) % 4294967296]) hg rfl (by simp) (by simp; omega) fun z' H2 hg2 => ?_
      simp (disch := first | assumption | (apply Ap.symm; assumption) | omega | decide | (simp only [U_len, List.length_append, List.length_replicate, List.length_cons, List.length_nil, List.length_set] <;> omega) | fail) only [ne_eq, Nat.reduceEqDiff, ↓Xa, Xb, Xc, ↓reduceIte, Nat.reduceLT, Nat.reduceEqDiff, Nat.reduceBEq, Nat.reduceLeDiff, Nat.reduceAdd, Nat.reduceMul]
      exact Settle.now ⟨(i + 1, _, done ++ [_], _, _), meas, ⟨inv, st, hg2⟩, rfl⟩
  · have h1 : ¬ i < a.length := by omega
    obtain rfl : c = 0 := by omega
    have hv := hI.2.2.2
    rw [Nat.mul_zero, Nat.add_zero, List.take_of_length_le (by omega)] at hv
    simp (disch := first | assumption | (apply Ap.symm; assumption) | omega | decide | (simp only [U_len, List.length_append, List.length_replicate, List.length_cons, List.length_nil, List.length_set] <;> omega) | fail) only [h1, ↓Xa, Xb, Xc, ↓reduceIte, Nat.reduceLT, Nat.reduceEqDiff, Nat.reduceBEq, Nat.reduceLeDiff, Nat.reduceAdd, Nat.reduceMul]
    refine Settle.grown 5 rfl hg (Settle.now ?_)
    simp (disch := first | assumption | (apply Ap.symm; assumption) | omega | decide | (simp only [U_len, List.length_append, List.length_replicate, List.length_cons, List.length_nil, List.length_set] <;> omega) | fail) only [↓Xa, Xb, Xc, ↓reduceIte, Nat.reduceLT, Nat.reduceEqDiff, Nat.reduceBEq, Nat.reduceLeDiff, Nat.reduceAdd, Nat.reduceMul]
    refine (lnorm_fn false (by omega)).call ?_
    rw [tr_digs (by omega) hI.2.1, hv]
    simp (disch := first | assumption | (apply Ap.symm; assumption) | omega | decide | (simp only [U_len, List.length_append, List.length_replicate, List.length_cons, List.length_nil, List.length_set] <;> omega) | fail) only [rs55, ↓Xa, Xb, Xc, ↓reduceIte, Nat.reduceLT, Nat.reduceEqDiff, Nat.reduceBEq, Nat.reduceLeDiff, Nat.reduceAdd, Nat.reduceMul]
    exact SetR.now hq

/-- Laid behind a row that is full, read only: what it tells. -/
theorem app_rd {H : AHeap} {ty n : Nat} {l m : List Nat} {t : Bool} {K : AV → AHeap → Prop} (hl : l ≠ []) (hn : n = m.length) (hb : l.length + m.length ≤ 17592186044416)
    (k : ∀ x, Wk x (LS (l ++ m) false) → K x H) : appV H ty 1 4 (LS l true) (.seq n (U m) t) K := by
  subst hn
  have hpos : 0 < l.length := List.length_pos_iff.2 hl
  by_cases hm : m = []
  · subst hm
    refine .inl ⟨by simp, by simp [U], rfl, by simp, by simp at hb ⊢; omega, by simp at hb ⊢; omega, fun _ => ?_, fun e => absurd e (by simp)⟩
    refine k _ ?_
    rw [List.append_nil]
    intro c v h
    exact enc_loose1 _ v h
  · have hmp : 0 < m.length := List.length_pos_iff.2 hm
    refine .inr ⟨by simp, U_cell m, rfl, by simp, by omega, by omega, fun e => absurd e (by omega), fun _ b hb' => ?_⟩
    unfold frzX
    dsimp only
    rw [upd_same]
    refine ⟨rfl, rfl, by omega, by simp, by simp, ?_⟩
    rw [upd_upd, upd_back _ hb', ← U_app]
    refine k _ ?_
    have h := Wk.X (l := l ++ m) (m := [])
    rw [List.append_nil, List.length_append] at h
    exact h
theorem val_zero_cons (l : List Nat) : val 4294967296 ([0] ++ l) = 4294967296 * val 4294967296 l := by simp [val]
theorem lmul_fn {a b : List Nat} {ka : Nat} (ta tb : Bool) (ha : Lim 4294967296 a) (hb : Lim 4294967296 b) (la : a.length ≤ ka) (hk : ka ≤ 1000000) (lb : b.length ≤ 1000000) : PFn Tryd.prog 54 [LS a ta, LS b tb] (LS (digs 4294967296 (val 4294967296 a * val 4294967296 b)) false) := by
  intro H Q hq
  have lva : val 4294967296 a < 4294967296 ^ ka := Nat.lt_of_lt_of_le (val_lt ha) (Nat.pow_le_pow_right (by omega) la)
  refine enter54 (by simp) ?_
  simp (disch := first | assumption | (apply Ap.symm; assumption) | omega | decide | (simp only [U_len, List.length_append, List.length_replicate, List.length_cons, List.length_nil, List.length_set] <;> omega) | fail) only [ac54, ↓Xa, Xb, Xc, ↓reduceIte, Nat.reduceLT, Nat.reduceEqDiff, Nat.reduceBEq, Nat.reduceLeDiff, Nat.reduceAdd, Nat.reduceMul]
  refine W_loop (fun s : Nat × Bool => ⟨[], [(0, LS a ta), (1, LS b tb), (5, LS (digs 4294967296 (val 4294967296 a * val 4294967296 (b.drop s.1))) s.2), (6, .int .i64 (dn s.1))], H⟩) (fun s => s.1 ≤ b.length) (fun s => s.1) (b.length, true) (Settle.now (by
    rw [List.drop_of_length_le (Nat.le_refl _)]; simp only [val, Nat.mul_zero, digs_zero]; rfl)) (Nat.le_refl _) ?_
  rintro ⟨s, t⟩ hs
  dsimp only at hs ⊢
  cases s with
  | zero =>
    rw [List.drop_zero]
    simp (disch := first | assumption | (apply Ap.symm; assumption) | omega | decide | (simp only [U_len, List.length_append, List.length_replicate, List.length_cons, List.length_nil, List.length_set] <;> omega) | fail) only [↓Xa, Xb, Xc, ↓reduceIte, Nat.reduceLT, Nat.reduceEqDiff, Nat.reduceBEq, Nat.reduceLeDiff, Nat.reduceAdd, Nat.reduceMul]
    refine Settle.now ?_
    simp (disch := first | assumption | (apply Ap.symm; assumption) | omega | decide | (simp only [U_len, List.length_append, List.length_replicate, List.length_cons, List.length_nil, List.length_set] <;> omega) | fail) only [rs54, ↓Xa, Xb, Xc, ↓reduceIte, Nat.reduceLT, Nat.reduceEqDiff, Nat.reduceBEq, Nat.reduceLeDiff, Nat.reduceAdd, Nat.reduceMul]
    exact SetR.loose (SetR.now hq)
  | succ i =>
    have hib : i < b.length := by omega
    have hx := hb.getD (by omega) i
    have hlt : val 4294967296 a * val 4294967296 (b.drop (i + 1)) < 4294967296 ^ (ka + b.length) := lt_mul lva (Nat.lt_of_lt_of_le (val_lt (hb.drop _)) (Nat.pow_le_pow_right (by omega) (by rw [List.length_drop]; omega)))
    have nd := Nm.digs hlt
    have hdl := nd.len
    have l0 : Lim 4294967296 [0] := Lim.one (by omega)
    simp (disch := first | assumption | (apply Ap.symm; assumption) | omega | decide | (simp only [U_len, List.length_append, List.length_replicate, List.length_cons, List.length_nil, List.length_set] <;> omega) | fail) only [rep1, ↓Xa, Xb, Xc, ↓reduceIte, Nat.reduceLT, Nat.reduceEqDiff, Nat.reduceBEq, Nat.reduceLeDiff, Nat.reduceAdd, Nat.reduceMul]
    refine app_rd (l := [0]) (m := digs 4294967296 (val 4294967296 a * val 4294967296 (b.drop (i + 1)))) (by simp) rfl (by simp; omega) fun x hxw => ?_
    simp (disch := first | assumption | (apply Ap.symm; assumption) | omega | decide | (simp only [U_len, List.length_append, List.length_replicate, List.length_cons, List.length_nil, List.length_set] <;> omega) | fail) only [↓Xa, Xb, Xc, ↓reduceIte, Nat.reduceLT, Nat.reduceEqDiff, Nat.reduceBEq, Nat.reduceLeDiff, Nat.reduceAdd, Nat.reduceMul]
    refine (lmuls_fn ta ha hx (by omega)).call ?_
    simp (disch := first | assumption | (apply Ap.symm; assumption) | omega | decide | (simp only [U_len, List.length_append, List.length_replicate, List.length_cons, List.length_nil, List.length_set] <;> omega) | fail) only [↓Xa, Xb, Xc, ↓reduceIte, Nat.reduceLT, Nat.reduceEqDiff, Nat.reduceBEq, Nat.reduceLeDiff, Nat.reduceAdd, Nat.reduceMul]
    have hm : val 4294967296 a * b.getD i 0 < 4294967296 ^ (ka + 1) := lt_mul lva (show b.getD i 0 < 4294967296 ^ 1 by omega)
    have nm := Nm.digs hm
    have had := ladd_fn false false (l0.append nd.lim) nm.lim (by simp; omega) (by have := nm.len; omega)
    rw [val_zero_cons, nd.val, nm.val] at had
    refine (had.wk (.cons hxw (.cons Wk.refl .nil))).call ?_
    simp (disch := first | assumption | (apply Ap.symm; assumption) | omega | decide | (simp only [U_len, List.length_append, List.length_replicate, List.length_cons, List.length_nil, List.length_set] <;> omega) | fail) only [↓Xa, Xb, Xc, ↓reduceIte, Nat.reduceLT, Nat.reduceEqDiff, Nat.reduceBEq, Nat.reduceLeDiff, Nat.reduceAdd, Nat.reduceMul]
    refine Settle.now ⟨(i, false), by dsimp only; omega, by dsimp only; omega, ?_⟩
    have e : 4294967296 * (val 4294967296 a * val 4294967296 (b.drop (i + 1))) + val 4294967296 a * b.getD i 0 = val 4294967296 a * val 4294967296 (b.drop i) := by
      rw [val_dropC b i, Nat.mul_add, Nat.mul_left_comm]; omega
    dsimp only
    rw [e]
theorem lmul_n {a b : List Nat} {m n k k' : Nat} (ta tb : Bool) (ha : Nm a m k) (hb : Nm b n k') (hk : k ≤ 1000000) (hk' : k' ≤ 1000000) : PFn Tryd.prog 54 [LS a ta, LS b tb] (LS (Ma.digs 4294967296 (m * n)) false) := by
  have h := lmul_fn ta tb ha.lim hb.lim ha.len hk (by have := hb.len; omega)
  rw [ha.val, hb.val] at h; exact h
theorem lmuls_n {a : List Nat} {m k c : Nat} (ta : Bool) (ha : Nm a m k) (hk : k ≤ 1000000) (hc : c < 4294967296) : PFn Tryd.prog 55 [LS a ta, .int .u32 (c : Int)] (LS (Ma.digs 4294967296 (m * c)) false) := by
  have h := lmuls_fn ta ha.lim hc (by have := ha.len; omega)
  rw [ha.val] at h; exact h

theorem limbProducts_law (a b : List Nat) (c : Int) (ha : Lim 4294967296 a) (hb : Lim 4294967296 b) (la : a.length < 9223372036854775808) (lb : b.length < 9223372036854775808) (hc : 0 ≤ c ∧ c < 4294967296) :
    PFn Tryd.prog 11 [LS a false, LS b false, .int .u32 c] (.bool true) := by
  intro H Q hq
  obtain ⟨c, rfl⟩ : ∃ n : Nat, c = (n : Int) := ⟨c.toNat, by omega⟩
  have hc32 : c < 4294967296 := by omega
  refine enter11 (by simp) ?_
  simp (disch := first | assumption | (apply Ap.symm; assumption) | omega | decide | (simp only [U_len, List.length_append, List.length_replicate, List.length_cons, List.length_nil, List.length_set] <;> omega) | fail) only [ac11, ↓Xa, Xb, Xc, ↓reduceIte, Nat.reduceLT, Nat.reduceEqDiff, Nat.reduceBEq, Nat.reduceLeDiff, Nat.reduceAdd, Nat.reduceMul]
  refine works_fn.call ?_
  simp (disch := first | assumption | (apply Ap.symm; assumption) | omega | decide | (simp only [U_len, List.length_append, List.length_replicate, List.length_cons, List.length_nil, List.length_set] <;> omega) | fail) only [rep2, ↓Xa, Xb, Xc, ↓reduceIte, Nat.reduceLT, Nat.reduceEqDiff, Nat.reduceBEq, Nat.reduceLeDiff, Nat.reduceAdd, Nat.reduceMul]
  refine (llong_fn [(a, false), (b, false)] true (by simp) (by simp [la, lb])).call ?_
  by_cases hl : 160 < a.length ∨ 160 < b.length
  · have e : lngA [(a, false), (b, false)] = true := by rw [lng2]; simpa using hl
    rw [e]
    simp (disch := first | assumption | (apply Ap.symm; assumption) | omega | decide | (simp only [U_len, List.length_append, List.length_replicate, List.length_cons, List.length_nil, List.length_set] <;> omega) | fail) only [rs11, ↓Xa, Xb, Xc, ↓reduceIte, Nat.reduceLT, Nat.reduceEqDiff, Nat.reduceBEq, Nat.reduceLeDiff, Nat.reduceAdd, Nat.reduceMul]
    exact SetR.now hq
  have e : lngA [(a, false), (b, false)] = false := by
    rw [lng2, decide_eq_false (by omega), decide_eq_false (by omega)]; rfl
  rw [e]
  clear e
  have na := Nm.raw (k := 160) ha (by omega)
  have nb := Nm.raw (k := 160) hb (by omega)
  generalize Ma.val 4294967296 a = A at na
  generalize Ma.val 4294967296 b = B at nb
  simp (disch := first | assumption | (apply Ap.symm; assumption) | omega | decide | (simp only [U_len, List.length_append, List.length_replicate, List.length_cons, List.length_nil, List.length_set] <;> omega) | fail) only [↓Xa, Xb, Xc, ↓reduceIte, Nat.reduceLT, Nat.reduceEqDiff, Nat.reduceBEq, Nat.reduceLeDiff, Nat.reduceAdd, Nat.reduceMul]
  refine (room_fn false (by omega)).call ?_
  simp (disch := first | assumption | (apply Ap.symm; assumption) | omega | decide | (simp only [U_len, List.length_append, List.length_replicate, List.length_cons, List.length_nil, List.length_set] <;> omega) | fail) only [↓Xa, Xb, Xc, ↓reduceIte, Nat.reduceLT, Nat.reduceEqDiff, Nat.reduceBEq, Nat.reduceLeDiff, Nat.reduceAdd, Nat.reduceMul]
  refine (room_fn false (by omega)).call ?_
  simp (disch := first | assumption | (apply Ap.symm; assumption) | omega | decide | (simp only [U_len, List.length_append, List.length_replicate, List.length_cons, List.length_nil, List.length_set] <;> omega) | fail) only [↓Xa, Xb, Xc, ↓reduceIte, Nat.reduceLT, Nat.reduceEqDiff, Nat.reduceBEq, Nat.reduceLeDiff, Nat.reduceAdd, Nat.reduceMul]
  refine (PFn.xx (mul_n false false na nb (by omega) (by omega))).call ?_
  simp (disch := first | assumption | (apply Ap.symm; assumption) | omega | decide | (simp only [U_len, List.length_append, List.length_replicate, List.length_cons, List.length_nil, List.length_set] <;> omega) | fail) only [↓Xa, Xb, Xc, ↓reduceIte, Nat.reduceLT, Nat.reduceEqDiff, Nat.reduceBEq, Nat.reduceLeDiff, Nat.reduceAdd, Nat.reduceMul]
  refine (lmul_n false false na nb (by omega) (by omega)).call ?_
  simp (disch := first | assumption | (apply Ap.symm; assumption) | omega | decide | (simp only [U_len, List.length_append, List.length_replicate, List.length_cons, List.length_nil, List.length_set] <;> omega) | fail) only [↓Xa, Xb, Xc, ↓reduceIte, Nat.reduceLT, Nat.reduceEqDiff, Nat.reduceBEq, Nat.reduceLeDiff, Nat.reduceAdd, Nat.reduceMul]
  refine (eq_same true false rfl (lt_mul na.lt nb.lt) (by omega)).call ?_
  simp (disch := first | assumption | (apply Ap.symm; assumption) | omega | decide | (simp only [U_len, List.length_append, List.length_replicate, List.length_cons, List.length_nil, List.length_set] <;> omega) | fail) only [↓Xa, Xb, Xc, ↓reduceIte, Nat.reduceLT, Nat.reduceEqDiff, Nat.reduceBEq, Nat.reduceLeDiff, Nat.reduceAdd, Nat.reduceMul]
  refine (PFn.x1 (muls_n false na (by omega) hc32)).call ?_
  simp (disch := first | assumption | (apply Ap.symm; assumption) | omega | decide | (simp only [U_len, List.length_append, List.length_replicate, List.length_cons, List.length_nil, List.length_set] <;> omega) | fail) only [↓Xa, Xb, Xc, ↓reduceIte, Nat.reduceLT, Nat.reduceEqDiff, Nat.reduceBEq, Nat.reduceLeDiff, Nat.reduceAdd, Nat.reduceMul]
  refine (lmuls_n false na (by omega) hc32).call ?_
  simp (disch := first | assumption | (apply Ap.symm; assumption) | omega | decide | (simp only [U_len, List.length_append, List.length_replicate, List.length_cons, List.length_nil, List.length_set] <;> omega) | fail) only [↓Xa, Xb, Xc, ↓reduceIte, Nat.reduceLT, Nat.reduceEqDiff, Nat.reduceBEq, Nat.reduceLeDiff, Nat.reduceAdd, Nat.reduceMul]
  refine (eq_same true false rfl (lt_mul na.lt (Nm.one hc32).lt) (by omega)).call ?_
  simp (disch := first | assumption | (apply Ap.symm; assumption) | omega | decide | (simp only [U_len, List.length_append, List.length_replicate, List.length_cons, List.length_nil, List.length_set] <;> omega) | fail) only [↓Xa, Xb, Xc, ↓reduceIte, Nat.reduceLT, Nat.reduceEqDiff, Nat.reduceBEq, Nat.reduceLeDiff, Nat.reduceAdd, Nat.reduceMul]
  refine (kept_fn false (by omega)).call ?_
  simp (disch := first | assumption | (apply Ap.symm; assumption) | omega | decide | (simp only [U_len, List.length_append, List.length_replicate, List.length_cons, List.length_nil, List.length_set] <;> omega) | fail) only [↓Xa, Xb, Xc, ↓reduceIte, Nat.reduceLT, Nat.reduceEqDiff, Nat.reduceBEq, Nat.reduceLeDiff, Nat.reduceAdd, Nat.reduceMul]
  refine (kept_fn false (by omega)).call ?_
  simp (disch := first | assumption | (apply Ap.symm; assumption) | omega | decide | (simp only [U_len, List.length_append, List.length_replicate, List.length_cons, List.length_nil, List.length_set] <;> omega) | fail) only [rs11, ↓Xa, Xb, Xc, ↓reduceIte, Nat.reduceLT, Nat.reduceEqDiff, Nat.reduceBEq, Nat.reduceLeDiff, Nat.reduceAdd, Nat.reduceMul]
  exact SetR.now hq
end Go.Proofs.YtipbcjnniamcgaaDoor.Fw
