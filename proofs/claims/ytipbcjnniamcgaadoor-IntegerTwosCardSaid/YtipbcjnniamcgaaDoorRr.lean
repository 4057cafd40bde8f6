/- The reference's division, bit by bit. -/
import Derived.Test.YtipbcjnniamcgaaDoorRq
namespace Go.Proofs.YtipbcjnniamcgaaDoor.Fw
set_option linter.unusedSimpArgs false
set_option linter.unusedVariables false
open Go Go.Proofs.YtipbcjnniamcgaaDoor.Ma
set_option maxRecDepth 20000

theorem len_growO {H0 H : AHeap} {ty : Nat} {l : List Nat} {x : AV} {K : AV → Prop} (h : growO H0 ty l x H) (hl : l.length < 2 ^ 63) : lenW false x K = K (.int .i64 ((l.length : Nat) : Int)) := by
  rcases h with ⟨rfl, rfl, rfl⟩ | ⟨b, _, rfl, rfl⟩
  · simp [lenW]
  · simp [lenW, hl]

/-- What stands when the bits from M on are done. -/
structure LongK (A V M : Nat) (ql : List Nat) : Prop where
  hM : M ≤ blen A
  qlen : ql.length = (digs 65536 A).length
  qlim : Lim 65536 ql
  qval : val 65536 ql = A / 2 ^ M / V * 2 ^ M

theorem rdiv_many {A V : Nat} (ta tb : Bool) (hV : 0 < V) (hV1 : ¬ (digs 65536 V).length = 1) (hA : (digs 65536 A).length ≤ 549755813888) (hVl : (digs 65536 V).length ≤ 549755813888) :
    PFn Tryd.prog 93 [LS (digs 65536 A) ta, LS (digs 65536 V) tb] (.tup [LS (digs 65536 (A / V)) false, LS (digs 65536 (A % V)) false]) := by
  intro H Q hq
  have hbl : blen A ≤ 16 * 549755813888 := by
    rcases Nat.eq_zero_or_pos A with e | e
    · rw [e, blen_zero]; omega
    · have hb : blen A = 16 * ((digs 65536 A).length - 1) + blen ((digs 65536 A).getD ((digs 65536 A).length - 1) 0) := blen_digs (w := 16) (by omega) e
      have hd := (lim_digs (B := 65536) (by omega) A).getD (by omega) ((digs 65536 A).length - 1)
      have hp : 0 < (digs 65536 A).length := by rw [digs_pos (by omega) e]; simp
      have : blen ((digs 65536 A).getD ((digs 65536 A).length - 1) 0) ≤ 16 := blen_le.2 (by omega)
      omega
  refine enter93 (by simp) ?_
  simp (disch := first | assumption | (apply Ap.symm; assumption) | omega | decide | (simp only [U_len, List.length_append, List.length_replicate, List.length_cons, List.length_nil, List.length_set] <;> omega) | fail) only [ac93, hV1, ↓Xa, Xb, Xc, ↓reduceIte, Nat.reduceLT, Nat.reduceEqDiff, Nat.reduceBEq, Nat.reduceLeDiff, Nat.reduceAdd, Nat.reduceMul]
  refine newU_i fun bq hbq => ?_
  simp (disch := first | assumption | (apply Ap.symm; assumption) | omega | decide | (simp only [U_len, List.length_append, List.length_replicate, List.length_cons, List.length_nil, List.length_set] <;> omega) | fail) only [↓Xa, Xb, Xc, ↓reduceIte, Nat.reduceLT, Nat.reduceEqDiff, Nat.reduceBEq, Nat.reduceLeDiff, Nat.reduceAdd, Nat.reduceMul]
  refine (rbits0_fn A ta (by omega)).call ?_
  simp (disch := first | assumption | (apply Ap.symm; assumption) | omega | decide | (simp only [U_len, List.length_append, List.length_replicate, List.length_cons, List.length_nil, List.length_set] <;> omega) | fail) only [↓Xa, Xb, Xc, ↓reduceIte, Nat.reduceLT, Nat.reduceEqDiff, Nat.reduceBEq, Nat.reduceLeDiff, Nat.reduceAdd, Nat.reduceMul]
  refine W_loop (fun s : Nat × List Nat × AV × AHeap => ⟨[], [(0, LS (digs 65536 A) ta), (1, LS (digs 65536 V) tb), (9, .own bq (digs 65536 A).length 0 (digs 65536 A).length true), (10, s.2.2.1), (11, .int .i64 (dn s.1))], s.2.2.2⟩)
    (fun s => LongK A V s.1 s.2.1 ∧ growO (H.upd bq (some (.row 45 1 (U s.2.1)))) 45 (digs 65536 (A / 2 ^ s.1 % V)) s.2.2.1 s.2.2.2) (fun s => s.1)
    (blen A, List.replicate (digs 65536 A).length 0, .seq 0 [] true, H.upd bq (some (.row 45 1 (U (List.replicate (digs 65536 A).length 0))))) (Settle.now rfl) ?_ ?_
  · have z : A / 2 ^ blen A = 0 := Nat.div_eq_of_lt (blen_lt A)
    refine ⟨⟨Nat.le_refl _, by simp, lim_zeros (by omega) _, ?_⟩, .inl ⟨?_, rfl, rfl⟩⟩
    · dsimp only; rw [val_zeros, z, Nat.zero_div, Nat.zero_mul]
    · dsimp only; rw [z, Nat.zero_mod, digs_zero]
  rintro ⟨M, ql, x, H1⟩ ⟨hk, hg⟩
  dsimp only at hk hg ⊢
  have hM := hk.hM
  cases M with
  | zero =>
    obtain ⟨q1, q2, q3⟩ : ql.length = (digs 65536 A).length ∧ Lim 65536 ql ∧ val 65536 ql = A / V := ⟨hk.qlen, hk.qlim, by have := hk.qval; simpa using this⟩
    rw [Nat.pow_zero, Nat.div_one] at hg
    have hkeep := hg
    simp (disch := first | assumption | (apply Ap.symm; assumption) | omega | decide | (simp only [U_len, List.length_append, List.length_replicate, List.length_cons, List.length_nil, List.length_set] <;> omega) | fail) only [↓Xa, Xb, Xc, ↓reduceIte, Nat.reduceLT, Nat.reduceEqDiff, Nat.reduceBEq, Nat.reduceLeDiff, Nat.reduceAdd, Nat.reduceMul]
    refine Settle.grownO 10 rfl hg ?_
    refine Settle.freeze 9 rfl (upd_same _ _ _) (by simp [q1]) (.inr (by simp)) ?_
    have e1 : AV.seq (digs 65536 A).length (((U ql).drop 0).take ((digs 65536 A).length * 1)) true = LS ql true := by
      rw [List.drop_zero, Nat.mul_one, ← q1, List.take_of_length_le (by simp)]; rfl
    rw [e1, upd_upd, upd_back _ hbq]
    refine Settle.now ?_
    simp (disch := first | assumption | (apply Ap.symm; assumption) | omega | decide | (simp only [U_len, List.length_append, List.length_replicate, List.length_cons, List.length_nil, List.length_set] <;> omega) | fail) only [↓Xa, Xb, Xc, ↓reduceIte, Nat.reduceLT, Nat.reduceEqDiff, Nat.reduceBEq, Nat.reduceLeDiff, Nat.reduceAdd, Nat.reduceMul]
    refine (rnorm_fn false true q2 (by omega)).call ?_
    simp (disch := first | assumption | (apply Ap.symm; assumption) | omega | decide | (simp only [U_len, List.length_append, List.length_replicate, List.length_cons, List.length_nil, List.length_set] <;> omega) | fail) only [RefA, rs93, ↓Xa, Xb, Xc, ↓reduceIte, Nat.reduceLT, Nat.reduceEqDiff, Nat.reduceBEq, Nat.reduceLeDiff, Nat.reduceAdd, Nat.reduceMul]
    refine SetR.now ?_
    rw [sg_abs, q3]
    exact hq
  | succ k =>
    have hA0 : 0 < A := blen_pos.1 (by omega)
    have h2k : 2 ^ k ≤ A := Nat.le_trans (Nat.pow_le_pow_right (by omega) (by omega)) (blen_low hA0)
    have hkl := bit_len h2k
    have hRl : (digs 65536 (A / 2 ^ (k + 1) % V)).length ≤ 549755813888 := by
      refine Nat.le_trans (digs_len (by omega) _ _ ?_) hVl
      have h1 := val_lt (lim_digs (B := 65536) (by omega) V)
      rw [val_digs (by omega)] at h1
      exact Nat.lt_trans (Nat.mod_lt _ hV) h1
    have hc1 : A / 2 ^ k % 2 ≤ 1 := by omega
    have hls := long_step (A := A) (k := k) hV
    simp (disch := first | assumption | (apply Ap.symm; assumption) | omega | decide | (simp only [U_len, List.length_append, List.length_replicate, List.length_cons, List.length_nil, List.length_set] <;> omega) | fail) only [↓Xa, Xb, Xc, ↓reduceIte, Nat.reduceLT, Nat.reduceEqDiff, Nat.reduceBEq, Nat.reduceLeDiff, Nat.reduceAdd, Nat.reduceMul]
    refine (bit_fn A k ta (by omega) hkl).call ?_
    simp (disch := first | assumption | (apply Ap.symm; assumption) | omega | decide | (simp only [U_len, List.length_append, List.length_replicate, List.length_cons, List.length_nil, List.length_set] <;> omega) | fail) only [↓Xa, Xb, Xc, ↓reduceIte, Nat.reduceLT, Nat.reduceEqDiff, Nat.reduceBEq, Nat.reduceLeDiff, Nat.reduceAdd, Nat.reduceMul]
    generalize hR : A / 2 ^ (k + 1) % V = R at *
    generalize A / 2 ^ k % 2 = c0 at *
    have hXl := lim_digs (B := 65536) (by omega) R
    refine W_loop (fun s : Nat × Nat × List Nat × AV × AHeap => ⟨[], [(0, LS (digs 65536 A) ta), (1, LS (digs 65536 V) tb), (9, .own bq (digs 65536 A).length 0 (digs 65536 A).length true), (10, s.2.2.2.1), (11, .int .i64 k), (12, .int .u32 s.2.1), (13, .int .i64 s.1)], s.2.2.2.2⟩)
      (fun s => s.1 ≤ (digs 65536 R).length ∧ DblI (digs 65536 R) c0 s.1 s.2.1 s.2.2.1 ∧ growO (H.upd bq (some (.row 45 1 (U ql)))) 45 (s.2.2.1 ++ (digs 65536 R).drop s.1) s.2.2.2.1 s.2.2.2.2) (fun s => (digs 65536 R).length - s.1)
      (0, c0, [], x, H1) (Settle.now rfl) ⟨Nat.zero_le _, DblI.zero _ hc1, hg⟩ ?_
    rintro ⟨i, c, done, x', H2⟩ ⟨g1, g2, g3⟩
    dsimp only at g1 g2 g3 ⊢
    have hd := g2.1
    have hc := g2.2.2.1
    have hcl : (done ++ (digs 65536 R).drop i).length = (digs 65536 R).length := by simp [hd]; omega
    have hlen : ∀ K, lenW false x' K = K (.int .i64 (((digs 65536 R).length : Nat) : Int)) := fun K => by
      rw [len_growO g3 (by omega), hcl]
    by_cases hi : i < (digs 65536 R).length
    · have hx := hXl.getD (by omega) i
      rcases g3 with ⟨e1, _, _⟩ | ⟨br, hbr, rfl, rfl⟩
      · rw [e1] at hcl; simp at hcl; omega
      · have p1 : (done ++ (digs 65536 R).drop i).getD i 0 = (digs 65536 R).getD i 0 := part_get hd hi
        have p2 : ∀ y, (done ++ (digs 65536 R).drop i).set i y = (done ++ [y]) ++ (digs 65536 R).drop (i + 1) := fun y => part_set hd hi
        rw [hcl]
        generalize hrow : done ++ (digs 65536 R).drop i = row at *
        simp (disch := first | assumption | (apply Ap.symm; assumption) | omega | decide | (simp only [U_len, List.length_append, List.length_replicate, List.length_cons, List.length_nil, List.length_set] <;> omega) | fail) only [hi, p1, ne_eq, Nat.reduceEqDiff, ↓Xa, Xb, Xc, ↓reduceIte, Nat.reduceLT, Nat.reduceEqDiff, Nat.reduceBEq, Nat.reduceLeDiff, Nat.reduceAdd, Nat.reduceMul]
        rw [p2]
        have e3 : (done ++ [(c + 2 * (digs 65536 R).getD i 0) % 65536] ++ (digs 65536 R).drop (i + 1)).length = (digs 65536 R).length := by
          simp [hd]; omega
        exact Settle.now ⟨(i + 1, _, done ++ [(c + 2 * (digs 65536 R).getD i 0) % 65536], _, _), by dsimp only; omega, ⟨by dsimp only; omega, g2.step hXl rfl, .inr ⟨br, hbr, by rw [e3], rfl⟩⟩, rfl⟩
    · obtain rfl : i = (digs 65536 R).length := by omega
      have hend := g2.end hc1
      rw [List.drop_of_length_le (Nat.le_refl _), List.append_nil] at g3
      simp (disch := first | assumption | (apply Ap.symm; assumption) | omega | decide | (simp only [U_len, List.length_append, List.length_replicate, List.length_cons, List.length_nil, List.length_set] <;> omega) | fail) only [hlen, hi, ↓Xa, Xb, Xc, ↓reduceIte, Nat.reduceLT, Nat.reduceEqDiff, Nat.reduceBEq, Nat.reduceLeDiff, Nat.reduceAdd, Nat.reduceMul]
      refine Settle.now ?_
      by_cases h0 : 0 < c
      · rw [if_pos h0] at hend
        simp (disch := first | assumption | (apply Ap.symm; assumption) | omega | decide | (simp only [U_len, List.length_append, List.length_replicate, List.length_cons, List.length_nil, List.length_set] <;> omega) | fail) only [h0, ↓Xa, Xb, Xc, ↓reduceIte, Nat.reduceLT, Nat.reduceEqDiff, Nat.reduceBEq, Nat.reduceLeDiff, Nat.reduceAdd, Nat.reduceMul]
        refine appO (m := [c]) g3 rfl (by simp) (by simp; omega) fun x2 H3 g4 => ?_
        rw [hend] at g4
        simp (disch := first | assumption | (apply Ap.symm; assumption) | omega | decide | (simp only [U_len, List.length_append, List.length_replicate, List.length_cons, List.length_nil, List.length_set] <;> omega) | fail) only [↓Xa, Xb, Xc, ↓reduceIte, Nat.reduceLT, Nat.reduceEqDiff, Nat.reduceBEq, Nat.reduceLeDiff, Nat.reduceAdd, Nat.reduceMul]
        rcases g4 with ⟨z1, rfl, rfl⟩ | ⟨b2, hb2, rfl, rfl⟩
        · have z2 : 2 * R + c0 = 0 := (digs_nil (B := 65536) (by omega)).1 z1
          obtain ⟨f1, f2⟩ := hls.2 (by omega)
          rw [LS_0 65536]
          refine (size_fn 0 V true tb (by rw [digs_zero]; simp) (by omega)).call ?_
          rw [show cmpZ 0 V = -1 by simp [cmpZ, hV]]
          simp (disch := first | assumption | (apply Ap.symm; assumption) | omega | decide | (simp only [U_len, List.length_append, List.length_replicate, List.length_cons, List.length_nil, List.length_set] <;> omega) | fail) only [bin_geq_neg, ↓Xa, Xb, Xc, ↓reduceIte, Nat.reduceLT, Nat.reduceEqDiff, Nat.reduceBEq, Nat.reduceLeDiff, Nat.reduceAdd, Nat.reduceMul]
          refine Settle.keep [0, 1, 9, 10, 11] ⟨(k, ql, _, _), by dsimp only; omega, ⟨⟨by dsimp only; omega, hk.qlen, hk.qlim, ?_⟩, .inl ⟨?_, rfl, rfl⟩⟩, by rw [← LS_0 65536]; rfl⟩
          · dsimp only; rw [hk.qval, f2, Nat.pow_succ]; grind
          · dsimp only; rw [f1, z2, digs_zero]
        · have ap1 := (upd_none.1 hb2).1
          have hX2l : (digs 65536 (2 * R + c0)).length ≤ 1099511627776 := by
            refine Nat.le_trans (digs_len (by omega) ((digs 65536 V).length + 1) _ ?_) (by omega)
            have q1 := val_lt (lim_digs (B := 65536) (by omega) V)
            rw [val_digs (by omega)] at q1
            have q2 : R < V := hR ▸ Nat.mod_lt _ hV
            rw [Nat.pow_succ]; omega
          refine run_call (size_own (2 * R + c0) V false tb (upd_same _ _ _) rfl ?_ hX2l (by omega))
          by_cases hge : V ≤ 2 * R + c0
          · obtain ⟨f1, f2⟩ := hls.1 hge
            have c3 : ∀ K, binW .geq (.int .i64 (cmpZ (2 * R + c0) V)) (.int .i64 ((0 : Nat) : Int)) K ↔ K (.bool true) := fun K => by
              have : (0 : Int) ≤ cmpZ (2 * R + c0) V := by unfold cmpZ; rw [if_neg (by omega)]; split <;> omega
              simp [binW, binInt]; rw [decide_eq_true this]
            simp (disch := first | assumption | (apply Ap.symm; assumption) | omega | decide | (simp only [U_len, List.length_append, List.length_replicate, List.length_cons, List.length_nil, List.length_set] <;> omega) | fail) only [c3, ↓Xa, Xb, Xc, ↓reduceIte, Nat.reduceLT, Nat.reduceEqDiff, Nat.reduceBEq, Nat.reduceLeDiff, Nat.reduceAdd, Nat.reduceMul]
            refine run_call (minus_own (2 * R + c0) V false tb (upd_same _ _ _) rfl ?_ hge hX2l)
            intro x3 H4 g5
            have hpl : (digs 65536 (2 * R + c0 - V)).length ≤ (digs 65536 (2 * R + c0)).length := digs_len (by omega) _ _ (by
              have := val_lt (lim_digs (B := 65536) (by omega) (2 * R + c0)); rw [val_digs (by omega)] at this; omega)
            have hpad := pad_len hpl
            have hp0 : 0 < (digs 65536 (2 * R + c0)).length := by rw [digs_pos (by omega) (show 0 < 2 * R + c0 by omega)]; simp
            rcases g5 with ⟨z1, _, _⟩ | ⟨_, b3, hb3, rfl, rfl⟩
            · rw [z1] at hpad; simp at hpad; omega
            · have ap2 := (upd_none.1 hb3).1
              have ap3 := (upd_none.1 (upd_none.1 hb3).2).1
              have hn3 := (upd_none.1 (upd_none.1 hb3).2).2
              simp (disch := first | assumption | (apply Ap.symm; assumption) | omega | decide | (simp only [U_len, List.length_append, List.length_replicate, List.length_cons, List.length_nil, List.length_set] <;> omega) | fail) only [↓Xa, Xb, Xc, ↓reduceIte, Nat.reduceLT, Nat.reduceEqDiff, Nat.reduceBEq, Nat.reduceLeDiff, Nat.reduceAdd, Nat.reduceMul]
              refine run_call (rnorm_own false false (upd_same _ _ _) rfl (fun ti => ?_) (pad_lim (by omega)) (by omega))
              have htr : tr (pad 65536 (2 * R + c0 - V) (digs 65536 (2 * R + c0)).length) = digs 65536 (2 * R + c0 - V) := by
                rw [tr_digs (B := 65536) (by omega) (pad_lim (by omega)), pad_val (by omega)]
              have hpt : (pad 65536 (2 * R + c0 - V) (digs 65536 (2 * R + c0)).length).take (digs 65536 (2 * R + c0 - V)).length = digs 65536 (2 * R + c0 - V) := by
                unfold pad; simp
              rw [htr, hpad]
              obtain ⟨o1, o2, o3⟩ := bit_set hk.qlim (by rw [hk.qlen]; exact hkl) hk.qval
              have hql := hk.qlen
              have hqd := hk.qlim.getD (by omega) (k / 16)
              have hk16 : k / 16 < 9223372036854775808 := by omega
              have hpw : (2 : Nat) ^ (k % 16) ≤ 2 ^ 15 := Nat.pow_le_pow_right (by omega) (by omega)
              have hk32 : k % 16 ≤ 32 := by omega
              have or1 : ∀ K, binW .or (.int .u32 ((ql.getD (k / 16) 0 : Nat) : Int)) (.int .u32 ((2 ^ (k % 16) : Nat) : Int)) K ↔ K (.int .u32 ((ql.getD (k / 16) 0 + 2 ^ (k % 16) : Nat) : Int)) := fun K => by
                rw [bin_or .u32 (by simp only [IntKind.bits]; omega) (by simp only [IntKind.bits]; omega), o1, wn_u32 (by omega)]
              simp (disch := first | assumption | (apply Ap.symm; assumption) | omega | decide | (simp only [U_len, List.length_append, List.length_replicate, List.length_cons, List.length_nil, List.length_set] <;> omega) | fail) only [hkl, hql, or1, Nat.one_mul, bin_shl32, ne_eq, Nat.reduceEqDiff, ↓Xa, Xb, Xc, ↓reduceIte, Nat.reduceLT, Nat.reduceEqDiff, Nat.reduceBEq, Nat.reduceLeDiff, Nat.reduceAdd, Nat.reduceMul]
              refine Settle.kill b2 ?_
              rw [upd_over ap2, upd_back _ (upd_none.2 ⟨ap1, (upd_none.1 hb2).2⟩)]
              refine Settle.renew 10 rfl (upd_same _ _ _) hpad hpl fun b' hb' => ?_
              rw [upd_upd, upd_back _ (upd_none.2 ⟨ap3, hn3⟩)] at hb' ⊢
              rw [hpt]
              refine Settle.now ⟨(k, ql.set (k / 16) (ql.getD (k / 16) 0 + 2 ^ (k % 16)), _, _), by dsimp only; omega, ⟨⟨by dsimp only; omega, by simpa using hql, lim_set hk.qlim _ _ o2, ?_⟩, .inr ⟨b', hb', ?_, ?_⟩⟩, rfl⟩
              · dsimp only; rw [f2]; exact o3
              · dsimp only; rw [f1]
              · exact congrArg (fun z => (H.upd bq (some (ABlk.row 45 1 (U (ql.set (k / 16) (ql.getD (k / 16) 0 + 2 ^ (k % 16))))))).upd b' (some (.row 45 1 (U (digs 65536 z))))) f1.symm
          · obtain ⟨f1, f2⟩ := hls.2 (by omega)
            have c3 : ∀ K, binW .geq (.int .i64 (cmpZ (2 * R + c0) V)) (.int .i64 ((0 : Nat) : Int)) K ↔ K (.bool false) := fun K => by
              simp [binW, binInt, cmpZ, show 2 * R + c0 < V by omega]
            simp (disch := first | assumption | (apply Ap.symm; assumption) | omega | decide | (simp only [U_len, List.length_append, List.length_replicate, List.length_cons, List.length_nil, List.length_set] <;> omega) | fail) only [c3, ↓Xa, Xb, Xc, ↓reduceIte, Nat.reduceLT, Nat.reduceEqDiff, Nat.reduceBEq, Nat.reduceLeDiff, Nat.reduceAdd, Nat.reduceMul]
            refine Settle.keep [0, 1, 9, 10, 11] ⟨(k, ql, _, _), by dsimp only; omega, ⟨⟨by dsimp only; omega, hk.qlen, hk.qlim, ?_⟩, .inr ⟨b2, hb2, ?_, ?_⟩⟩, rfl⟩
            · dsimp only; rw [hk.qval, f2, Nat.pow_succ]; grind
            · dsimp only; rw [f1]
            · exact congrArg (fun z => (H.upd bq (some (ABlk.row 45 1 (U ql)))).upd b2 (some (.row 45 1 (U (digs 65536 z))))) f1.symm
      · rw [if_neg h0] at hend
        rw [hend] at g3
        have g4 := g3
        simp (disch := first | assumption | (apply Ap.symm; assumption) | omega | decide | (simp only [U_len, List.length_append, List.length_replicate, List.length_cons, List.length_nil, List.length_set] <;> omega) | fail) only [h0, ↓Xa, Xb, Xc, ↓reduceIte, Nat.reduceLT, Nat.reduceEqDiff, Nat.reduceBEq, Nat.reduceLeDiff, Nat.reduceAdd, Nat.reduceMul]
        rcases g4 with ⟨z1, rfl, rfl⟩ | ⟨b2, hb2, rfl, rfl⟩
        · have z2 : 2 * R + c0 = 0 := (digs_nil (B := 65536) (by omega)).1 z1
          obtain ⟨f1, f2⟩ := hls.2 (by omega)
          rw [LS_0 65536]
          refine (size_fn 0 V true tb (by rw [digs_zero]; simp) (by omega)).call ?_
          rw [show cmpZ 0 V = -1 by simp [cmpZ, hV]]
          simp (disch := first | assumption | (apply Ap.symm; assumption) | omega | decide | (simp only [U_len, List.length_append, List.length_replicate, List.length_cons, List.length_nil, List.length_set] <;> omega) | fail) only [bin_geq_neg, ↓Xa, Xb, Xc, ↓reduceIte, Nat.reduceLT, Nat.reduceEqDiff, Nat.reduceBEq, Nat.reduceLeDiff, Nat.reduceAdd, Nat.reduceMul]
          refine Settle.keep [0, 1, 9, 10, 11] ⟨(k, ql, _, _), by dsimp only; omega, ⟨⟨by dsimp only; omega, hk.qlen, hk.qlim, ?_⟩, .inl ⟨?_, rfl, rfl⟩⟩, by rw [← LS_0 65536]; rfl⟩
          · dsimp only; rw [hk.qval, f2, Nat.pow_succ]; grind
          · dsimp only; rw [f1, z2, digs_zero]
        · have ap1 := (upd_none.1 hb2).1
          have hX2l : (digs 65536 (2 * R + c0)).length ≤ 1099511627776 := by
            refine Nat.le_trans (digs_len (by omega) ((digs 65536 V).length + 1) _ ?_) (by omega)
            have q1 := val_lt (lim_digs (B := 65536) (by omega) V)
            rw [val_digs (by omega)] at q1
            have q2 : R < V := hR ▸ Nat.mod_lt _ hV
            rw [Nat.pow_succ]; omega
          refine run_call (size_own (2 * R + c0) V false tb (upd_same _ _ _) rfl ?_ hX2l (by omega))
          by_cases hge : V ≤ 2 * R + c0
          · obtain ⟨f1, f2⟩ := hls.1 hge
            have c3 : ∀ K, binW .geq (.int .i64 (cmpZ (2 * R + c0) V)) (.int .i64 ((0 : Nat) : Int)) K ↔ K (.bool true) := fun K => by
              have : (0 : Int) ≤ cmpZ (2 * R + c0) V := by unfold cmpZ; rw [if_neg (by omega)]; split <;> omega
              simp [binW, binInt]; rw [decide_eq_true this]
            simp (disch := first | assumption | (apply Ap.symm; assumption) | omega | decide | (simp only [U_len, List.length_append, List.length_replicate, List.length_cons, List.length_nil, List.length_set] <;> omega) | fail) only [c3, ↓Xa, Xb, Xc, ↓reduceIte, Nat.reduceLT, Nat.reduceEqDiff, Nat.reduceBEq, Nat.reduceLeDiff, Nat.reduceAdd, Nat.reduceMul]
            refine run_call (minus_own (2 * R + c0) V false tb (upd_same _ _ _) rfl ?_ hge hX2l)
            intro x3 H4 g5
            have hpl : (digs 65536 (2 * R + c0 - V)).length ≤ (digs 65536 (2 * R + c0)).length := digs_len (by omega) _ _ (by
              have := val_lt (lim_digs (B := 65536) (by omega) (2 * R + c0)); rw [val_digs (by omega)] at this; omega)
            have hpad := pad_len hpl
            have hp0 : 0 < (digs 65536 (2 * R + c0)).length := by rw [digs_pos (by omega) (show 0 < 2 * R + c0 by omega)]; simp
            rcases g5 with ⟨z1, _, _⟩ | ⟨_, b3, hb3, rfl, rfl⟩
            · rw [z1] at hpad; simp at hpad; omega
            · have ap2 := (upd_none.1 hb3).1
              have ap3 := (upd_none.1 (upd_none.1 hb3).2).1
              have hn3 := (upd_none.1 (upd_none.1 hb3).2).2
              simp (disch := first | assumption | (apply Ap.symm; assumption) | omega | decide | (simp only [U_len, List.length_append, List.length_replicate, List.length_cons, List.length_nil, List.length_set] <;> omega) | fail) only [↓Xa, Xb, Xc, ↓reduceIte, Nat.reduceLT, Nat.reduceEqDiff, Nat.reduceBEq, Nat.reduceLeDiff, Nat.reduceAdd, Nat.reduceMul]
              refine run_call (rnorm_own false false (upd_same _ _ _) rfl (fun ti => ?_) (pad_lim (by omega)) (by omega))
              have htr : tr (pad 65536 (2 * R + c0 - V) (digs 65536 (2 * R + c0)).length) = digs 65536 (2 * R + c0 - V) := by
                rw [tr_digs (B := 65536) (by omega) (pad_lim (by omega)), pad_val (by omega)]
              have hpt : (pad 65536 (2 * R + c0 - V) (digs 65536 (2 * R + c0)).length).take (digs 65536 (2 * R + c0 - V)).length = digs 65536 (2 * R + c0 - V) := by
                unfold pad; simp
              rw [htr, hpad]
              obtain ⟨o1, o2, o3⟩ := bit_set hk.qlim (by rw [hk.qlen]; exact hkl) hk.qval
              have hql := hk.qlen
              have hqd := hk.qlim.getD (by omega) (k / 16)
              have hk16 : k / 16 < 9223372036854775808 := by omega
              have hpw : (2 : Nat) ^ (k % 16) ≤ 2 ^ 15 := Nat.pow_le_pow_right (by omega) (by omega)
              have hk32 : k % 16 ≤ 32 := by omega
              have or1 : ∀ K, binW .or (.int .u32 ((ql.getD (k / 16) 0 : Nat) : Int)) (.int .u32 ((2 ^ (k % 16) : Nat) : Int)) K ↔ K (.int .u32 ((ql.getD (k / 16) 0 + 2 ^ (k % 16) : Nat) : Int)) := fun K => by
                rw [bin_or .u32 (by simp only [IntKind.bits]; omega) (by simp only [IntKind.bits]; omega), o1, wn_u32 (by omega)]
              simp (disch := first | assumption | (apply Ap.symm; assumption) | omega | decide | (simp only [U_len, List.length_append, List.length_replicate, List.length_cons, List.length_nil, List.length_set] <;> omega) | fail) only [hkl, hql, or1, Nat.one_mul, bin_shl32, ne_eq, Nat.reduceEqDiff, ↓Xa, Xb, Xc, ↓reduceIte, Nat.reduceLT, Nat.reduceEqDiff, Nat.reduceBEq, Nat.reduceLeDiff, Nat.reduceAdd, Nat.reduceMul]
              refine Settle.kill b2 ?_
              rw [upd_over ap2, upd_back _ (upd_none.2 ⟨ap1, (upd_none.1 hb2).2⟩)]
              refine Settle.renew 10 rfl (upd_same _ _ _) hpad hpl fun b' hb' => ?_
              rw [upd_upd, upd_back _ (upd_none.2 ⟨ap3, hn3⟩)] at hb' ⊢
              rw [hpt]
              refine Settle.now ⟨(k, ql.set (k / 16) (ql.getD (k / 16) 0 + 2 ^ (k % 16)), _, _), by dsimp only; omega, ⟨⟨by dsimp only; omega, by simpa using hql, lim_set hk.qlim _ _ o2, ?_⟩, .inr ⟨b', hb', ?_, ?_⟩⟩, rfl⟩
              · dsimp only; rw [f2]; exact o3
              · dsimp only; rw [f1]
              · exact congrArg (fun z => (H.upd bq (some (ABlk.row 45 1 (U (ql.set (k / 16) (ql.getD (k / 16) 0 + 2 ^ (k % 16))))))).upd b' (some (.row 45 1 (U (digs 65536 z))))) f1.symm
          · obtain ⟨f1, f2⟩ := hls.2 (by omega)
            have c3 : ∀ K, binW .geq (.int .i64 (cmpZ (2 * R + c0) V)) (.int .i64 ((0 : Nat) : Int)) K ↔ K (.bool false) := fun K => by
              simp [binW, binInt, cmpZ, show 2 * R + c0 < V by omega]
            simp (disch := first | assumption | (apply Ap.symm; assumption) | omega | decide | (simp only [U_len, List.length_append, List.length_replicate, List.length_cons, List.length_nil, List.length_set] <;> omega) | fail) only [c3, ↓Xa, Xb, Xc, ↓reduceIte, Nat.reduceLT, Nat.reduceEqDiff, Nat.reduceBEq, Nat.reduceLeDiff, Nat.reduceAdd, Nat.reduceMul]
            refine Settle.keep [0, 1, 9, 10, 11] ⟨(k, ql, _, _), by dsimp only; omega, ⟨⟨by dsimp only; omega, hk.qlen, hk.qlim, ?_⟩, .inr ⟨b2, hb2, ?_, ?_⟩⟩, rfl⟩
            · dsimp only; rw [hk.qval, f2, Nat.pow_succ]; grind
            · dsimp only; rw [f1]
            · exact congrArg (fun z => (H.upd bq (some (ABlk.row 45 1 (U ql)))).upd b2 (some (.row 45 1 (U (digs 65536 z))))) f1.symm
end Go.Proofs.YtipbcjnniamcgaaDoor.Fw
