/- The law of limbs told and read, shifted and back, as what its code computes: true. -/
import Derived.Test.YtipbcjnniamcgaaDoorTa
import Derived.Test.YtipbcjnniamcgaaDoorTb
import Derived.Test.YtipbcjnniamcgaaDoorAl14
namespace Go.Proofs.YtipbcjnniamcgaaDoor.Fw
set_option linter.unusedSimpArgs false
set_option linter.unusedVariables false
open Go Go.Proofs.YtipbcjnniamcgaaDoor.Ma
set_option maxRecDepth 20000

theorem lbit_fn {l : List Nat} {k : Nat} (t : Bool) (hl : Lim 4294967296 l) (hn : l.length < 9223372036854775808) (hk : k < 9223372036854775808) : PFn Tryd.prog 63 [LS l t, .int .i64 (k : Int)] (.bool (decide (val 4294967296 l / 2 ^ k % 2 = 1))) := by
  intro H Q hq
  refine enter63 (by simp) ?_
  by_cases h : k / 32 < l.length
  · have hx := hl.getD (by omega) (k / 32)
    have hs : l.getD (k / 32) 0 / 2 ^ (k % 32) < 4294967296 := Nat.lt_of_le_of_lt (Nat.div_le_self _ _) hx
    have c2 : ∀ K, binW .and (.int .u32 ((l.getD (k / 32) 0 / 2 ^ (k % 32) : Nat) : Int)) (.int .u32 ((1 : Nat) : Int)) K ↔ K (.int .u32 ((l.getD (k / 32) 0 / 2 ^ (k % 32) % 2 : Nat) : Int)) := fun K => by
      rw [bin_and .u32 (by simp only [IntKind.bits]; omega) (by simp [IntKind.bits]), Nat.and_one_is_mod, wn_u32 (by omega)]
    simp (disch := first | assumption | (apply Ap.symm; assumption) | omega | decide | (simp only [U_len, List.length_append, List.length_replicate, List.length_cons, List.length_nil, List.length_set] <;> omega) | fail) only [ac63, h, c2, bit_val hl, rs63, ↓Xa, Xb, Xc, ↓reduceIte, Nat.reduceLT, Nat.reduceEqDiff, Nat.reduceBEq, Nat.reduceLeDiff, Nat.reduceAdd, Nat.reduceMul]
    exact ⟨by decide, by decide, by decide, SetR.now hq⟩
  · rw [bit_high hl (by omega)] at hq
    simp (disch := first | assumption | (apply Ap.symm; assumption) | omega | decide | (simp only [U_len, List.length_append, List.length_replicate, List.length_cons, List.length_nil, List.length_set] <;> omega) | fail) only [ac63, h, rs63, ↓Xa, Xb, Xc, ↓reduceIte, Nat.reduceLT, Nat.reduceEqDiff, Nat.reduceBEq, Nat.reduceLeDiff, Nat.reduceAdd, Nat.reduceMul]
    exact ⟨by decide, SetR.now hq⟩

theorem read_of {l : List UInt8} {r : AV} (h : ReadR l r) : ∃ a e i, r = .tup [LS a true, spot e i] ∧ (e = 0 → i = 0 ∧ Good l ∧ l.length ≤ 65536 ∧ a = Ma.digs 4294967296 (decV l)) := by
  rcases h with ⟨_, rfl⟩ | ⟨_, rfl⟩ | ⟨_, i, _, _, _, rfl⟩ | ⟨a, b, rfl⟩
  · exact ⟨_, _, _, rfl, by omega⟩
  · exact ⟨_, _, _, rfl, by omega⟩
  · exact ⟨_, _, _, rfl, by omega⟩
  · exact ⟨_, _, _, rfl, fun _ => ⟨rfl, b, a, rfl⟩⟩
theorem lim_decV {l : List UInt8} (h : Good l) (hn : l.length ≤ 65536) : decV l < 4294967296 ^ 8192 :=
  Nat.lt_of_lt_of_le (decV_lt fun b hb => (h.2.1 b hb).2) (ten_bound hn)
theorem decT_short {n : Nat} (h : n < 4294967296 ^ 600) : (decT n).length ≤ 65536 ∧ ReadR (decT n) (.tup [LS (Ma.digs 4294967296 n) true, spot 0 0]) := by
  have hl : (decT n).length ≤ 65536 := by
    have h1 : ∀ m, 4294967296 ^ m ≤ 10 ^ (10 * m) := fun m => by
      rw [Nat.pow_mul]
      exact Nat.pow_le_pow_left (by decide) m
    have h2 := digs_len (B := 10) (by omega) (10 * 600) n (Nat.lt_of_lt_of_le h (h1 600))
    unfold decT
    split
    · simp
    · unfold dec; simp; omega
  refine ⟨hl, .inr (.inr (.inr ⟨hl, good_decT n, ?_⟩))⟩
  rw [decV_decT]

theorem shl_lt {A n j k : Nat} (h : A < 4294967296 ^ j) (hn : n ≤ 32 * k) : A * 2 ^ n < 4294967296 ^ (j + (k + 1)) := by
  refine lt_mul h ?_
  rw [show (4294967296 : Nat) = 2 ^ 32 from rfl, ← Nat.pow_mul]
  exact Nat.pow_lt_pow_right (by omega) (by omega)

theorem tz_len {A k : Nat} (h0 : 0 < A) (h : A < 4294967296 ^ k) : tz A < 32 * k := by
  refine tz_lt h0 ?_
  rw [Nat.pow_mul]; exact h
theorem blen_len {A k : Nat} (h : A < 4294967296 ^ k) : blen A ≤ 32 * k := by
  refine blen_le.2 ?_
  rw [Nat.pow_mul]; exact h
theorem lbitm_fn {l : List Nat} (t : Bool) : PFn Tryd.prog 63 [LS l t, .int .i64 (-1)] (.bool false) := by
  intro H Q hq
  refine enter63 (by simp) ?_
  have c : ∀ K, binW .geq (.int .i64 (-1)) (.int .i64 ((0 : Nat) : Int)) K ↔ K (.bool false) := fun K => by simp [binW, binInt]
  simp (disch := first | assumption | (apply Ap.symm; assumption) | omega | decide | (simp only [U_len, List.length_append, List.length_replicate, List.length_cons, List.length_nil, List.length_set] <;> omega) | fail) only [ac63, c, rs63, ↓Xa, Xb, Xc, ↓reduceIte, Nat.reduceLT, Nat.reduceEqDiff, Nat.reduceBEq, Nat.reduceLeDiff, Nat.reduceAdd, Nat.reduceMul]
  exact SetR.now hq

theorem lbitd_fn {l : List Nat} {A n : Nat} (t : Bool) (hl : Lim 4294967296 l) (hv : val 4294967296 l = A * 2 ^ n) (hn : l.length < 9223372036854775808) (hk : n < 9223372036854775808) : PFn Tryd.prog 63 [LS l t, .int .i64 (dn n)] (.bool false) := by
  cases n with
  | zero => exact lbitm_fn t
  | succ n =>
    have h := lbit_fn (k := n) t hl hn (by omega)
    rw [hv, low_bit] at h
    rw [show dn (n + 1) = ((n : Nat) : Int) from rfl]
    exact h

theorem limbBack_law (a : List Nat) (b : ByteArray) (n : Int) (ha : Lim 4294967296 a) (la : a.length < 9223372036854775808) (lb : b.size ≤ 140737488351232) (hn : -9223372036854775808 ≤ n ∧ n < 9223372036854775808) {H : AHeap} {Q : AV → AHeap → Prop} (hH : TzH H) (hq : Q (.bool true) H) :
    Run Tryd.prog 14 [LS a false, .str b, .int .i64 n] H Q := by
  obtain ⟨l, rfl⟩ : ∃ l : List UInt8, b = ⟨l.toArray⟩ := ⟨b.data.toList, by simp⟩
  have hb : l.length ≤ 140737488351232 := by rw [← size_Sx]; exact lb
  show Run Tryd.prog 14 [LS a false, Sx l, .int .i64 n] H Q
  refine enter14 (by simp) ?_
  simp (disch := first | assumption | (apply Ap.symm; assumption) | omega | decide | (simp only [U_len, List.length_append, List.length_replicate, List.length_cons, List.length_nil, List.length_set] <;> omega) | fail) only [ac14, ↓Xa, Xb, Xc, ↓reduceIte, Nat.reduceLT, Nat.reduceEqDiff, Nat.reduceBEq, Nat.reduceLeDiff, Nat.reduceAdd, Nat.reduceMul]
  refine works_fn.call ?_
  by_cases h1 : 600 < a.length
  · simp (disch := first | assumption | (apply Ap.symm; assumption) | omega | decide | (simp only [U_len, List.length_append, List.length_replicate, List.length_cons, List.length_nil, List.length_set] <;> omega) | fail) only [h1, rs14, ↓Xa, Xb, Xc, ↓reduceIte, Nat.reduceLT, Nat.reduceEqDiff, Nat.reduceBEq, Nat.reduceLeDiff, Nat.reduceAdd, Nat.reduceMul]
    exact SetR.now hq
  by_cases h2 : 4000 < l.length
  · simp (disch := first | assumption | (apply Ap.symm; assumption) | omega | decide | (simp only [U_len, List.length_append, List.length_replicate, List.length_cons, List.length_nil, List.length_set] <;> omega) | fail) only [h1, len_Sx, h2, rs14, ↓Xa, Xb, Xc, ↓reduceIte, Nat.reduceLT, Nat.reduceEqDiff, Nat.reduceBEq, Nat.reduceLeDiff, Nat.reduceAdd, Nat.reduceMul]
    exact SetR.now hq
  by_cases h3 : n < 0
  · have c3 : ∀ K, binW .lss (.int .i64 n) (.int .i64 ((0 : Nat) : Int)) K ↔ K (.bool true) := fun K => by
      simp [binW, binInt, h3]
    simp (disch := first | assumption | (apply Ap.symm; assumption) | omega | decide | (simp only [U_len, List.length_append, List.length_replicate, List.length_cons, List.length_nil, List.length_set] <;> omega) | fail) only [h1, len_Sx, h2, c3, rs14, ↓Xa, Xb, Xc, ↓reduceIte, Nat.reduceLT, Nat.reduceEqDiff, Nat.reduceBEq, Nat.reduceLeDiff, Nat.reduceAdd, Nat.reduceMul]
    exact SetR.now hq
  obtain ⟨n, rfl⟩ : ∃ m : Nat, n = (m : Int) := ⟨n.toNat, by omega⟩
  by_cases h4 : 65536 < n
  · simp (disch := first | assumption | (apply Ap.symm; assumption) | omega | decide | (simp only [U_len, List.length_append, List.length_replicate, List.length_cons, List.length_nil, List.length_set] <;> omega) | fail) only [h1, len_Sx, h2, h4, rs14, ↓Xa, Xb, Xc, ↓reduceIte, Nat.reduceLT, Nat.reduceEqDiff, Nat.reduceBEq, Nat.reduceLeDiff, Nat.reduceAdd, Nat.reduceMul]
    exact SetR.now hq
  have na := Nm.raw (k := 600) ha (by omega)
  generalize hA : Ma.val 4294967296 a = A at na
  obtain ⟨ds, dr⟩ := decT_short na.lt
  simp (disch := first | assumption | (apply Ap.symm; assumption) | omega | decide | (simp only [U_len, List.length_append, List.length_replicate, List.length_cons, List.length_nil, List.length_set] <;> omega) | fail) only [h1, len_Sx, h2, h4, ↓Xa, Xb, Xc, ↓reduceIte, Nat.reduceLT, Nat.reduceEqDiff, Nat.reduceBEq, Nat.reduceLeDiff, Nat.reduceAdd, Nat.reduceMul]
  refine (text_fn false ha (by omega)).call ?_
  rw [hA]
  simp (disch := first | assumption | (apply Ap.symm; assumption) | omega | decide | (simp only [U_len, List.length_append, List.length_replicate, List.length_cons, List.length_nil, List.length_set] <;> omega) | fail) only [↓Xa, Xb, Xc, ↓reduceIte, Nat.reduceLT, Nat.reduceEqDiff, Nat.reduceBEq, Nat.reduceLeDiff, Nat.reduceAdd, Nat.reduceMul]
  refine (read_fn dr (by omega)).call ?_
  simp (disch := first | assumption | (apply Ap.symm; assumption) | omega | decide | (simp only [U_len, List.length_append, List.length_replicate, List.length_cons, List.length_nil, List.length_set] <;> omega) | fail) only [↓Xa, Xb, Xc, ↓reduceIte, Nat.reduceLT, Nat.reduceEqDiff, Nat.reduceBEq, Nat.reduceLeDiff, Nat.reduceAdd, Nat.reduceMul]
  refine alloc_i fun p1 hp1 => ?_
  have n1 := hp1
  have fin : ∀ {r' : AV} {x : Option ABlk}, Q r' H → SetR Q r' (H.upd p1 x) := fun h => SetR.dropTo ((Le.refl H).updB n1) (SetR.now h)
  simp (disch := first | assumption | (apply Ap.symm; assumption) | omega | decide | (simp only [U_len, List.length_append, List.length_replicate, List.length_cons, List.length_nil, List.length_set] <;> omega) | fail) only [spot, aeq_ii, cells_i2, pr_aeq, bne_self_eq_false, Bool.false_bne, ↓Xa, Xb, Xc, ↓reduceIte, Nat.reduceLT, Nat.reduceEqDiff, Nat.reduceBEq, Nat.reduceLeDiff, Nat.reduceAdd, Nat.reduceMul]
  refine (norm_n false na (by omega)).call ?_
  simp (disch := first | assumption | (apply Ap.symm; assumption) | omega | decide | (simp only [U_len, List.length_append, List.length_replicate, List.length_cons, List.length_nil, List.length_set] <;> omega) | fail) only [↓Xa, Xb, Xc, ↓reduceIte, Nat.reduceLT, Nat.reduceEqDiff, Nat.reduceBEq, Nat.reduceLeDiff, Nat.reduceAdd, Nat.reduceMul]
  refine (eq_same true true rfl na.lt (by omega)).call ?_
  simp (disch := first | assumption | (apply Ap.symm; assumption) | omega | decide | (simp only [U_len, List.length_append, List.length_replicate, List.length_cons, List.length_nil, List.length_set] <;> omega) | fail) only [↓Xa, Xb, Xc, ↓reduceIte, Nat.reduceLT, Nat.reduceEqDiff, Nat.reduceBEq, Nat.reduceLeDiff, Nat.reduceAdd, Nat.reduceMul]
  obtain ⟨r, hr⟩ := readR_ex l
  obtain ⟨x, e, i, rfl, hz⟩ := read_of hr
  refine (read_fn hr (by omega)).call ?_
  have tail : ∀ H', Le H H' → W Tryd.prog (sndC (sndC (sndC (sndC (sndC (sndC (sndC ac14))))))) (retN rs14 Q) ⟨[], [(0, LS a false), (2, .int .i64 (n : Int))], H'⟩ := by
    intro H' hH'
    have out : SetR Q (.bool true) H' := SetR.dropTo hH' (SetR.now hq)
    obtain ⟨m, hm, hlt⟩ : ∃ m, m ≤ 100000 ∧ A * 2 ^ n < 4294967296 ^ m := ⟨_, by omega, shl_lt (k := 2048) na.lt (by omega)⟩
    have nn := Nm.digs hlt
    simp (disch := first | assumption | (apply Ap.symm; assumption) | omega | decide | (simp only [U_len, List.length_append, List.length_replicate, List.length_cons, List.length_nil, List.length_set] <;> omega) | fail) only [sndC, ac14, ↓Xa, Xb, Xc, ↓reduceIte, Nat.reduceLT, Nat.reduceEqDiff, Nat.reduceBEq, Nat.reduceLeDiff, Nat.reduceAdd, Nat.reduceMul]
    refine (shl_fn false ha (by omega) (by omega)).call ?_
    rw [hA]
    simp (disch := first | assumption | (apply Ap.symm; assumption) | omega | decide | (simp only [U_len, List.length_append, List.length_replicate, List.length_cons, List.length_nil, List.length_set] <;> omega) | fail) only [↓Xa, Xb, Xc, ↓reduceIte, Nat.reduceLT, Nat.reduceEqDiff, Nat.reduceBEq, Nat.reduceLeDiff, Nat.reduceAdd, Nat.reduceMul]
    refine (shr_fn true nn.lim (by omega) (by have := nn.len; omega)).call ?_
    rw [nn.val, Nat.mul_div_cancel _ (Nat.pow_pos (by omega))]
    simp (disch := first | assumption | (apply Ap.symm; assumption) | omega | decide | (simp only [U_len, List.length_append, List.length_replicate, List.length_cons, List.length_nil, List.length_set] <;> omega) | fail) only [↓Xa, Xb, Xc, ↓reduceIte, Nat.reduceLT, Nat.reduceEqDiff, Nat.reduceBEq, Nat.reduceLeDiff, Nat.reduceAdd, Nat.reduceMul]
    refine (norm_n false na (by omega)).call ?_
    simp (disch := first | assumption | (apply Ap.symm; assumption) | omega | decide | (simp only [U_len, List.length_append, List.length_replicate, List.length_cons, List.length_nil, List.length_set] <;> omega) | fail) only [↓Xa, Xb, Xc, ↓reduceIte, Nat.reduceLT, Nat.reduceEqDiff, Nat.reduceBEq, Nat.reduceLeDiff, Nat.reduceAdd, Nat.reduceMul]
    refine (eq_same true true rfl na.lt (by omega)).call ?_
    have ln := nn.len
    have la := (Nm.digs na.lt).len
    have d0 : decide ((Ma.digs 4294967296 A).length = 0) = decide (A = 0) := by simp only [digs_len0 (B := 4294967296) (n := A) (by omega)]
    by_cases a0 : A = 0
    · subst a0
      rw [Nat.zero_mul, digs_zero]
      simp (disch := first | assumption | (apply Ap.symm; assumption) | omega | decide | (simp only [U_len, List.length_append, List.length_replicate, List.length_cons, List.length_nil, List.length_set] <;> omega) | fail) only [rs14, ↓Xa, Xb, Xc, ↓reduceIte, Nat.reduceLT, Nat.reduceEqDiff, Nat.reduceBEq, Nat.reduceLeDiff, Nat.reduceAdd, Nat.reduceMul]
      exact out
    · have ap : 0 < A := Nat.pos_of_ne_zero a0
      rw [decide_eq_false a0] at d0
      simp (disch := first | assumption | (apply Ap.symm; assumption) | omega | decide | (simp only [U_len, List.length_append, List.length_replicate, List.length_cons, List.length_nil, List.length_set] <;> omega) | fail) only [d0, ↓Xa, Xb, Xc, ↓reduceIte, Nat.reduceLT, Nat.reduceEqDiff, Nat.reduceBEq, Nat.reduceLeDiff, Nat.reduceAdd, Nat.reduceMul]
      refine run_call (twos_run (hH.le hH') nn.lim (by omega) ?_)
      rw [nn.val, tz_shl ap]
      simp (disch := first | assumption | (apply Ap.symm; assumption) | omega | decide | (simp only [U_len, List.length_append, List.length_replicate, List.length_cons, List.length_nil, List.length_set] <;> omega) | fail) only [↓Xa, Xb, Xc, ↓reduceIte, Nat.reduceLT, Nat.reduceEqDiff, Nat.reduceBEq, Nat.reduceLeDiff, Nat.reduceAdd, Nat.reduceMul]
      refine run_call (twos_run (hH.le hH') ha (by omega) ?_)
      rw [hA]
      have htz := tz_len ap na.lt
      have hbl := blen_len na.lt
      have hbp := (blen_pos (n := A)).2 ap
      have hap : 0 < A * 2 ^ n := Nat.mul_pos ap (Nat.pow_pos (by omega))
      have htop := top_bit hap
      rw [blen_shl ap] at htop
      simp (disch := first | assumption | (apply Ap.symm; assumption) | omega | decide | (simp only [U_len, List.length_append, List.length_replicate, List.length_cons, List.length_nil, List.length_set] <;> omega) | fail) only [↓Xa, Xb, Xc, ↓reduceIte, Nat.reduceLT, Nat.reduceEqDiff, Nat.reduceBEq, Nat.reduceLeDiff, Nat.reduceAdd, Nat.reduceMul]
      refine (bits_fn true nn.lim (by omega)).call ?_
      rw [nn.val, blen_shl ap]
      simp (disch := first | assumption | (apply Ap.symm; assumption) | omega | decide | (simp only [U_len, List.length_append, List.length_replicate, List.length_cons, List.length_nil, List.length_set] <;> omega) | fail) only [↓Xa, Xb, Xc, ↓reduceIte, Nat.reduceLT, Nat.reduceEqDiff, Nat.reduceBEq, Nat.reduceLeDiff, Nat.reduceAdd, Nat.reduceMul]
      refine (bits_fn false ha (by omega)).call ?_
      rw [hA]
      simp (disch := first | assumption | (apply Ap.symm; assumption) | omega | decide | (simp only [U_len, List.length_append, List.length_replicate, List.length_cons, List.length_nil, List.length_set] <;> omega) | fail) only [↓Xa, Xb, Xc, ↓reduceIte, Nat.reduceLT, Nat.reduceEqDiff, Nat.reduceBEq, Nat.reduceLeDiff, Nat.reduceAdd, Nat.reduceMul]
      refine (lbitd_fn true nn.lim nn.val (by omega) (by omega)).call ?_
      simp (disch := first | assumption | (apply Ap.symm; assumption) | omega | decide | (simp only [U_len, List.length_append, List.length_replicate, List.length_cons, List.length_nil, List.length_set] <;> omega) | fail) only [↓Xa, Xb, Xc, ↓reduceIte, Nat.reduceLT, Nat.reduceEqDiff, Nat.reduceBEq, Nat.reduceLeDiff, Nat.reduceAdd, Nat.reduceMul]
      refine (bits_fn true nn.lim (by omega)).call ?_
      rw [nn.val, blen_shl ap]
      simp (disch := first | assumption | (apply Ap.symm; assumption) | omega | decide | (simp only [U_len, List.length_append, List.length_replicate, List.length_cons, List.length_nil, List.length_set] <;> omega) | fail) only [↓Xa, Xb, Xc, ↓reduceIte, Nat.reduceLT, Nat.reduceEqDiff, Nat.reduceBEq, Nat.reduceLeDiff, Nat.reduceAdd, Nat.reduceMul]
      refine (lbit_fn true nn.lim (by omega) (by omega)).call ?_
      rw [nn.val, htop]
      simp (disch := first | assumption | (apply Ap.symm; assumption) | omega | decide | (simp only [U_len, List.length_append, List.length_replicate, List.length_cons, List.length_nil, List.length_set] <;> omega) | fail) only [rs14, ↓Xa, Xb, Xc, ↓reduceIte, Nat.reduceLT, Nat.reduceEqDiff, Nat.reduceBEq, Nat.reduceLeDiff, Nat.reduceAdd, Nat.reduceMul]
      exact out
  simp (disch := first | assumption | (apply Ap.symm; assumption) | omega | decide | (simp only [U_len, List.length_append, List.length_replicate, List.length_cons, List.length_nil, List.length_set] <;> omega) | fail) only [sndC, ac14, ↓Xa, Xb, Xc, ↓reduceIte, Nat.reduceLT, Nat.reduceEqDiff, Nat.reduceBEq, Nat.reduceLeDiff, Nat.reduceAdd, Nat.reduceMul] at tail
  by_cases he : e = 0
  · obtain ⟨rfl, hg, hl, rfl⟩ := hz he
    subst he
    have hv := lim_decV hg hl
    simp (disch := first | assumption | (apply Ap.symm; assumption) | omega | decide | (simp only [U_len, List.length_append, List.length_replicate, List.length_cons, List.length_nil, List.length_set] <;> omega) | fail) only [spot, aeq_ii, cells_i2, pr_aeq, bne_self_eq_false, Bool.false_bne, ↓Xa, Xb, Xc, ↓reduceIte, Nat.reduceLT, Nat.reduceEqDiff, Nat.reduceBEq, Nat.reduceLeDiff, Nat.reduceAdd, Nat.reduceMul]
    refine (text_fn true (Nm.digs hv).lim (by have := (Nm.digs hv).len; omega)).call ?_
    rw [(Nm.digs hv).val, decT_decV hg]
    simp (disch := first | assumption | (apply Ap.symm; assumption) | omega | decide | (simp only [U_len, List.length_append, List.length_replicate, List.length_cons, List.length_nil, List.length_set] <;> omega) | fail) only [neq_Sx, ↓Xa, Xb, Xc, ↓reduceIte, Nat.reduceLT, Nat.reduceEqDiff, Nat.reduceBEq, Nat.reduceLeDiff, Nat.reduceAdd, Nat.reduceMul]
    exact tail _ ((Le.refl H).updB n1)
  · have he1 : decide ((e : Int) = ((0 : Nat) : Int)) = false := by simp [he]
    simp (disch := first | assumption | (apply Ap.symm; assumption) | omega | decide | (simp only [U_len, List.length_append, List.length_replicate, List.length_cons, List.length_nil, List.length_set] <;> omega) | fail) only [spot, aeq_ii, cells_i2, pr_aeq, he1, Bool.false_and, bne_self_eq_false, Bool.false_bne, ↓Xa, Xb, Xc, ↓reduceIte, Nat.reduceLT, Nat.reduceEqDiff, Nat.reduceBEq, Nat.reduceLeDiff, Nat.reduceAdd, Nat.reduceMul]
    exact tail _ ((Le.refl H).updB n1)
end Go.Proofs.YtipbcjnniamcgaaDoor.Fw
