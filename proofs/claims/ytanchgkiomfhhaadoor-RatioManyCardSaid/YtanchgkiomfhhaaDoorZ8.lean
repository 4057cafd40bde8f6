/- The texts Rr Rs Rt Ru Rv Rw Qn Fe Qa Nb Sa Sb Sc Sd Se Sf Sh Nd Tb Ya Yb Yc Yd, joined. -/
import Derived.Test.YtanchgkiomfhhaaDoorZ7
/- The reference's division, bit by bit. -/
namespace Go.Proofs.YtanchgkiomfhhaaDoor.Fw
set_option linter.unusedSimpArgs false
set_option linter.unusedVariables false
open Go Go.Proofs.YtanchgkiomfhhaaDoor.Ma
set_option maxRecDepth 20000

theorem len_growO {H0 H : AHeap} {ty : Nat} {l : List Nat} {x : AV} {K : AV → Prop} (h : growO H0 ty l x H) (hl : l.length < 2 ^ 63) : lenW false x K = K (.int .i64 ((l.length : Nat) : Int)) := by
  rcases h with ⟨rfl, rfl, rfl⟩ | ⟨b, _, rfl, rfl⟩
  · simp [lenW]
  · simp [lenW, hl]

structure LongK (A V M : Nat) (ql : List Nat) : Prop where
  hM : M ≤ blen A
  qlen : ql.length = (digs 65536 A).length
  qlim : Lim 65536 ql
  qval : val 65536 ql = A / 2 ^ M / V * 2 ^ M

theorem rdiv_many {A V : Nat} (ta tb : Bool) (hV : 0 < V) (hV1 : ¬ (digs 65536 V).length = 1) (hA : (digs 65536 A).length ≤ 549755813888) (hVl : (digs 65536 V).length ≤ 549755813888) :
    PFn Tryd.prog 133 [LS (digs 65536 A) ta, LS (digs 65536 V) tb] (.tup [LS (digs 65536 (A / V)) false, LS (digs 65536 (A % V)) false]) := by
  intro H Q hq
  have hbl : blen A ≤ 16 * 549755813888 := by
    rcases Nat.eq_zero_or_pos A with e | e
    · rw [e, blen_zero]; omega
    · have hb : blen A = 16 * ((digs 65536 A).length - 1) + blen ((digs 65536 A).getD ((digs 65536 A).length - 1) 0) := blen_digs (w := 16) (by omega) e
      have hd := (lim_digs (B := 65536) (by omega) A).getD (by omega) ((digs 65536 A).length - 1)
      have hp : 0 < (digs 65536 A).length := by rw [digs_pos (by omega) e]; simp
      have : blen ((digs 65536 A).getD ((digs 65536 A).length - 1) 0) ≤ 16 := blen_le.2 (by omega)
      omega
  refine enter133 (by simp) ?_
  simp (disch := first|exact Xe|fail) only [ac133, hV1, ↓Xa,Xb,Xc,↓reduceIte,Nat.reduceLT,Nat.reduceEqDiff,Nat.reduceBEq,Nat.reduceLeDiff,Nat.reduceAdd,Nat.reduceMul]
  refine newU_i fun bq hbq => ?_
  simp (disch := first|exact Xe|fail) only [↓Xa,Xb,Xc,↓reduceIte,Nat.reduceLT,Nat.reduceEqDiff,Nat.reduceBEq,Nat.reduceLeDiff,Nat.reduceAdd,Nat.reduceMul]
  refine (rbits0_fn A ta (by omega)).call ?_
  simp (disch := first|exact Xe|fail) only [↓Xa,Xb,Xc,↓reduceIte,Nat.reduceLT,Nat.reduceEqDiff,Nat.reduceBEq,Nat.reduceLeDiff,Nat.reduceAdd,Nat.reduceMul]
  refine W_loop (fun s : Nat × List Nat × AV × AHeap => ⟨[], [(0, LS (digs 65536 A) ta), (1, LS (digs 65536 V) tb), (9, .own bq (digs 65536 A).length 0 (digs 65536 A).length true), (10, s.2.2.1), (11, .int .i64 (dn s.1))], s.2.2.2⟩)
    (fun s => LongK A V s.1 s.2.1 ∧ growO (H.upd bq (some (.row 172 1 (U s.2.1)))) 172 (digs 65536 (A / 2 ^ s.1 % V)) s.2.2.1 s.2.2.2) (fun s => s.1)
    (blen A, List.replicate (digs 65536 A).length 0, .seq 0 [] true, H.upd bq (some (.row 172 1 (U (List.replicate (digs 65536 A).length 0))))) (Settle.now rfl) ?_ ?_
  · have z : A / 2 ^ blen A = 0 := Nat.div_eq_of_lt (blen_lt A)
    refine ⟨⟨Nat.le_refl _, by simp, lim_zeros (by omega) _, ?_⟩, .inl ⟨?_, rfl, rfl⟩⟩
    · dsimp only; rw [val_zeros, z, Nat.zero_div, Nat.zero_mul]
    · dsimp only; rw [z, Nat.zero_mod, digs_zero]
  rintro ⟨M, ql, x, H1⟩ ⟨hk, hg⟩
  dsimp only at hk hg ⊢
  have hM := hk.hM
  cases M with
  | zero =>
    obtain ⟨q1, q2, q3⟩ : ql.length = (digs 65536 A).length ∧ Lim 65536 ql ∧ val 65536 ql = A / V := ⟨hk.qlen, hk.qlim, by have := hk.qval; simpa using this⟩
    rw [Nat.pow_zero, Nat.div_one] at hg
    have hkeep := hg
    simp (disch := first|exact Xe|fail) only [↓Xa,Xb,Xc,↓reduceIte,Nat.reduceLT,Nat.reduceEqDiff,Nat.reduceBEq,Nat.reduceLeDiff,Nat.reduceAdd,Nat.reduceMul]
    refine Settle.grownO 10 rfl hg ?_
    refine Settle.freeze 9 rfl (upd_same _ _ _) (by simp [q1]) (.inr (by simp)) ?_
    have e1 : AV.seq (digs 65536 A).length (((U ql).drop 0).take ((digs 65536 A).length * 1)) true = LS ql true := by
      rw [List.drop_zero, Nat.mul_one, ← q1, List.take_of_length_le (by simp)]; rfl
    rw [e1, upd_upd, upd_back _ hbq]
    refine Settle.now ?_
    simp (disch := first|exact Xe|fail) only [↓Xa,Xb,Xc,↓reduceIte,Nat.reduceLT,Nat.reduceEqDiff,Nat.reduceBEq,Nat.reduceLeDiff,Nat.reduceAdd,Nat.reduceMul]
    refine (rnorm_fn false true q2 (by omega)).call ?_
    simp (disch := first|exact Xe|fail) only [RefA, rs133, ↓Xa,Xb,Xc,↓reduceIte,Nat.reduceLT,Nat.reduceEqDiff,Nat.reduceBEq,Nat.reduceLeDiff,Nat.reduceAdd,Nat.reduceMul]
    refine SetR.now ?_
    rw [sg_abs, q3]
    exact hq
  | succ k =>
    have hA0 : 0 < A := blen_pos.1 (by omega)
    have h2k : 2 ^ k ≤ A := Nat.le_trans (Nat.pow_le_pow_right (by omega) (by omega)) (blen_low hA0)
    have hkl := bit_len h2k
    have hRl : (digs 65536 (A / 2 ^ (k + 1) % V)).length ≤ 549755813888 := by
      refine Nat.le_trans (digs_len (by omega) _ _ ?_) hVl
      have h1 := val_lt (lim_digs (B := 65536) (by omega) V)
      rw [val_digs (by omega)] at h1
      exact Nat.lt_trans (Nat.mod_lt _ hV) h1
    have hc1 : A / 2 ^ k % 2 ≤ 1 := by omega
    have hls := long_step (A := A) (k := k) hV
    simp (disch := first|exact Xe|fail) only [↓Xa,Xb,Xc,↓reduceIte,Nat.reduceLT,Nat.reduceEqDiff,Nat.reduceBEq,Nat.reduceLeDiff,Nat.reduceAdd,Nat.reduceMul]
    refine (bit_fn A k ta (by omega) hkl).call ?_
    simp (disch := first|exact Xe|fail) only [↓Xa,Xb,Xc,↓reduceIte,Nat.reduceLT,Nat.reduceEqDiff,Nat.reduceBEq,Nat.reduceLeDiff,Nat.reduceAdd,Nat.reduceMul]
    generalize hR : A / 2 ^ (k + 1) % V = R at *
    generalize A / 2 ^ k % 2 = c0 at *
    have hXl := lim_digs (B := 65536) (by omega) R
    refine W_loop (fun s : Nat × Nat × List Nat × AV × AHeap => ⟨[], [(0, LS (digs 65536 A) ta), (1, LS (digs 65536 V) tb), (9, .own bq (digs 65536 A).length 0 (digs 65536 A).length true), (10, s.2.2.2.1), (11, .int .i64 k), (12, .int .u32 s.2.1), (13, .int .i64 s.1)], s.2.2.2.2⟩)
      (fun s => s.1 ≤ (digs 65536 R).length ∧ DblI (digs 65536 R) c0 s.1 s.2.1 s.2.2.1 ∧ growO (H.upd bq (some (.row 172 1 (U ql)))) 172 (s.2.2.1 ++ (digs 65536 R).drop s.1) s.2.2.2.1 s.2.2.2.2) (fun s => (digs 65536 R).length - s.1)
      (0, c0, [], x, H1) (Settle.now rfl) ⟨Nat.zero_le _, DblI.zero _ hc1, hg⟩ ?_
    rintro ⟨i, c, done, x', H2⟩ ⟨g1, g2, g3⟩
    dsimp only at g1 g2 g3 ⊢
    have hd := g2.1
    have hc := g2.2.2.1
    have hcl : (done ++ (digs 65536 R).drop i).length = (digs 65536 R).length := by simp [hd]; omega
    have hlen : ∀ K, lenW false x' K = K (.int .i64 (((digs 65536 R).length : Nat) : Int)) := fun K => by
      rw [len_growO g3 (by omega), hcl]
    by_cases hi : i < (digs 65536 R).length
    · have hx := hXl.getD (by omega) i
      rcases g3 with ⟨e1, _, _⟩ | ⟨br, hbr, rfl, rfl⟩
      · rw [e1] at hcl; simp at hcl; omega
      · have p1 : (done ++ (digs 65536 R).drop i).getD i 0 = (digs 65536 R).getD i 0 := part_get hd hi
        have p2 : ∀ y, (done ++ (digs 65536 R).drop i).set i y = (done ++ [y]) ++ (digs 65536 R).drop (i + 1) := fun y => part_set hd hi
        rw [hcl]
        generalize hrow : done ++ (digs 65536 R).drop i = row at *
        simp (disch := first|exact Xe|fail) only [hi, p1, ne_eq,Nat.reduceEqDiff, ↓Xa,Xb,Xc,↓reduceIte,Nat.reduceLT,Nat.reduceEqDiff,Nat.reduceBEq,Nat.reduceLeDiff,Nat.reduceAdd,Nat.reduceMul]
        rw [p2]
        have e3 : (done ++ [(c + 2 * (digs 65536 R).getD i 0) % 65536] ++ (digs 65536 R).drop (i + 1)).length = (digs 65536 R).length := by
          simp [hd]; omega
        exact Settle.now ⟨(i + 1, _, done ++ [(c + 2 * (digs 65536 R).getD i 0) % 65536], _, _), by dsimp only; omega, ⟨by dsimp only; omega, g2.step hXl rfl, .inr ⟨br, hbr, by rw [e3], rfl⟩⟩, rfl⟩
    · obtain rfl : i = (digs 65536 R).length := by omega
      have hend := g2.end hc1
      rw [List.drop_of_length_le (Nat.le_refl _), List.append_nil] at g3
      simp (disch := first|exact Xe|fail) only [hlen, hi, ↓Xa,Xb,Xc,↓reduceIte,Nat.reduceLT,Nat.reduceEqDiff,Nat.reduceBEq,Nat.reduceLeDiff,Nat.reduceAdd,Nat.reduceMul]
      refine Settle.now ?_
      by_cases h0 : 0 < c
      · rw [if_pos h0] at hend
        simp (disch := first|exact Xe|fail) only [h0, ↓Xa,Xb,Xc,↓reduceIte,Nat.reduceLT,Nat.reduceEqDiff,Nat.reduceBEq,Nat.reduceLeDiff,Nat.reduceAdd,Nat.reduceMul]
        refine appO (m := [c]) g3 rfl (by simp) (by simp; omega) fun x2 H3 g4 => ?_
        rw [hend] at g4
        simp (disch := first|exact Xe|fail) only [↓Xa,Xb,Xc,↓reduceIte,Nat.reduceLT,Nat.reduceEqDiff,Nat.reduceBEq,Nat.reduceLeDiff,Nat.reduceAdd,Nat.reduceMul]
        rcases g4 with ⟨z1, rfl, rfl⟩ | ⟨b2, hb2, rfl, rfl⟩
        · have z2 : 2 * R + c0 = 0 := (digs_nil (B := 65536) (by omega)).1 z1
          obtain ⟨f1, f2⟩ := hls.2 (by omega)
          rw [LS_0 65536]
          refine (size_fn 0 V true tb (by rw [digs_zero]; simp) (by omega)).call ?_
          rw [show cmpZ 0 V = -1 by simp [cmpZ, hV]]
          simp (disch := first|exact Xe|fail) only [bin_geq_neg, ↓Xa,Xb,Xc,↓reduceIte,Nat.reduceLT,Nat.reduceEqDiff,Nat.reduceBEq,Nat.reduceLeDiff,Nat.reduceAdd,Nat.reduceMul]
          refine Settle.keep [0, 1, 9, 10, 11] ⟨(k, ql, _, _), by dsimp only; omega, ⟨⟨by dsimp only; omega, hk.qlen, hk.qlim, ?_⟩, .inl ⟨?_, rfl, rfl⟩⟩, by rw [← LS_0 65536]; rfl⟩
          · dsimp only; rw [hk.qval, f2, Nat.pow_succ]; grind
          · dsimp only; rw [f1, z2, digs_zero]
        · have ap1 := (upd_none.1 hb2).1
          have hX2l : (digs 65536 (2 * R + c0)).length ≤ 1099511627776 := by
            refine Nat.le_trans (digs_len (by omega) ((digs 65536 V).length + 1) _ ?_) (by omega)
            have q1 := val_lt (lim_digs (B := 65536) (by omega) V)
            rw [val_digs (by omega)] at q1
            have q2 : R < V := hR ▸ Nat.mod_lt _ hV
            rw [Nat.pow_succ]; omega
          refine run_call (size_own (2 * R + c0) V false tb (upd_same _ _ _) rfl ?_ hX2l (by omega))
          by_cases hge : V ≤ 2 * R + c0
          · obtain ⟨f1, f2⟩ := hls.1 hge
            have c3 : ∀ K, binW .geq (.int .i64 (cmpZ (2 * R + c0) V)) (.int .i64 ((0 : Nat) : Int)) K ↔ K (.bool true) := fun K => by
              have : (0 : Int) ≤ cmpZ (2 * R + c0) V := by unfold cmpZ; rw [if_neg (by omega)]; split <;> omega
              simp [binW, binInt]; rw [decide_eq_true this]
            simp (disch := first|exact Xe|fail) only [c3, ↓Xa,Xb,Xc,↓reduceIte,Nat.reduceLT,Nat.reduceEqDiff,Nat.reduceBEq,Nat.reduceLeDiff,Nat.reduceAdd,Nat.reduceMul]
            refine run_call (minus_own (2 * R + c0) V false tb (upd_same _ _ _) rfl ?_ hge hX2l)
            intro x3 H4 g5
            have hpl : (digs 65536 (2 * R + c0 - V)).length ≤ (digs 65536 (2 * R + c0)).length := digs_len (by omega) _ _ (by
              have := val_lt (lim_digs (B := 65536) (by omega) (2 * R + c0)); rw [val_digs (by omega)] at this; omega)
            have hpad := pad_len hpl
            have hp0 : 0 < (digs 65536 (2 * R + c0)).length := by rw [digs_pos (by omega) (show 0 < 2 * R + c0 by omega)]; simp
            rcases g5 with ⟨z1, _, _⟩ | ⟨_, b3, hb3, rfl, rfl⟩
            · rw [z1] at hpad; simp at hpad; omega
            · have ap2 := (upd_none.1 hb3).1
              have ap3 := (upd_none.1 (upd_none.1 hb3).2).1
              have hn3 := (upd_none.1 (upd_none.1 hb3).2).2
              simp (disch := first|exact Xe|fail) only [↓Xa,Xb,Xc,↓reduceIte,Nat.reduceLT,Nat.reduceEqDiff,Nat.reduceBEq,Nat.reduceLeDiff,Nat.reduceAdd,Nat.reduceMul]
              refine run_call (rnorm_own false false (upd_same _ _ _) rfl (fun ti => ?_) (pad_lim (by omega)) (by omega))
              have htr : tr (pad 65536 (2 * R + c0 - V) (digs 65536 (2 * R + c0)).length) = digs 65536 (2 * R + c0 - V) := by
                rw [tr_digs (B := 65536) (by omega) (pad_lim (by omega)), pad_val (by omega)]
              have hpt : (pad 65536 (2 * R + c0 - V) (digs 65536 (2 * R + c0)).length).take (digs 65536 (2 * R + c0 - V)).length = digs 65536 (2 * R + c0 - V) := by
                unfold pad; simp
              rw [htr, hpad]
              obtain ⟨o1, o2, o3⟩ := bit_set hk.qlim (by rw [hk.qlen]; exact hkl) hk.qval
              have hql := hk.qlen
              have hqd := hk.qlim.getD (by omega) (k / 16)
              have hk16 : k / 16 < 9223372036854775808 := by omega
              have hpw : (2 : Nat) ^ (k % 16) ≤ 2 ^ 15 := Nat.pow_le_pow_right (by omega) (by omega)
              have hk32 : k % 16 ≤ 32 := by omega
              have or1 : ∀ K, binW .or (.int .u32 ((ql.getD (k / 16) 0 : Nat) : Int)) (.int .u32 ((2 ^ (k % 16) : Nat) : Int)) K ↔ K (.int .u32 ((ql.getD (k / 16) 0 + 2 ^ (k % 16) : Nat) : Int)) := fun K => by
                rw [bin_or .u32 (by simp only [IntKind.bits]; omega) (by simp only [IntKind.bits]; omega), o1, wn_u32 (by omega)]
              simp (disch := first|exact Xe|fail) only [hkl, hql, or1, Nat.one_mul, bin_shl32, ne_eq,Nat.reduceEqDiff, ↓Xa,Xb,Xc,↓reduceIte,Nat.reduceLT,Nat.reduceEqDiff,Nat.reduceBEq,Nat.reduceLeDiff,Nat.reduceAdd,Nat.reduceMul]
              refine Settle.kill b2 ?_
              rw [upd_over ap2, upd_back _ (upd_none.2 ⟨ap1, (upd_none.1 hb2).2⟩)]
              refine Settle.renew 10 rfl (upd_same _ _ _) hpad hpl fun b' hb' => ?_
              rw [upd_upd, upd_back _ (upd_none.2 ⟨ap3, hn3⟩)] at hb' ⊢
              rw [hpt]
              refine Settle.now ⟨(k, ql.set (k / 16) (ql.getD (k / 16) 0 + 2 ^ (k % 16)), _, _), by dsimp only; omega, ⟨⟨by dsimp only; omega, by simpa using hql, lim_set hk.qlim _ _ o2, ?_⟩, .inr ⟨b', hb', ?_, ?_⟩⟩, rfl⟩
              · dsimp only; rw [f2]; exact o3
              · dsimp only; rw [f1]
              · exact congrArg (fun z => (H.upd bq (some (ABlk.row 172 1 (U (ql.set (k / 16) (ql.getD (k / 16) 0 + 2 ^ (k % 16))))))).upd b' (some (.row 172 1 (U (digs 65536 z))))) f1.symm
          · obtain ⟨f1, f2⟩ := hls.2 (by omega)
            have c3 : ∀ K, binW .geq (.int .i64 (cmpZ (2 * R + c0) V)) (.int .i64 ((0 : Nat) : Int)) K ↔ K (.bool false) := fun K => by
              simp [binW, binInt, cmpZ, show 2 * R + c0 < V by omega]
            simp (disch := first|exact Xe|fail) only [c3, ↓Xa,Xb,Xc,↓reduceIte,Nat.reduceLT,Nat.reduceEqDiff,Nat.reduceBEq,Nat.reduceLeDiff,Nat.reduceAdd,Nat.reduceMul]
            refine Settle.keep [0, 1, 9, 10, 11] ⟨(k, ql, _, _), by dsimp only; omega, ⟨⟨by dsimp only; omega, hk.qlen, hk.qlim, ?_⟩, .inr ⟨b2, hb2, ?_, ?_⟩⟩, rfl⟩
            · dsimp only; rw [hk.qval, f2, Nat.pow_succ]; grind
            · dsimp only; rw [f1]
            · exact congrArg (fun z => (H.upd bq (some (ABlk.row 172 1 (U ql)))).upd b2 (some (.row 172 1 (U (digs 65536 z))))) f1.symm
      · rw [if_neg h0] at hend
        rw [hend] at g3
        have g4 := g3
        simp (disch := first|exact Xe|fail) only [h0, ↓Xa,Xb,Xc,↓reduceIte,Nat.reduceLT,Nat.reduceEqDiff,Nat.reduceBEq,Nat.reduceLeDiff,Nat.reduceAdd,Nat.reduceMul]
        rcases g4 with ⟨z1, rfl, rfl⟩ | ⟨b2, hb2, rfl, rfl⟩
        · have z2 : 2 * R + c0 = 0 := (digs_nil (B := 65536) (by omega)).1 z1
          obtain ⟨f1, f2⟩ := hls.2 (by omega)
          rw [LS_0 65536]
          refine (size_fn 0 V true tb (by rw [digs_zero]; simp) (by omega)).call ?_
          rw [show cmpZ 0 V = -1 by simp [cmpZ, hV]]
          simp (disch := first|exact Xe|fail) only [bin_geq_neg, ↓Xa,Xb,Xc,↓reduceIte,Nat.reduceLT,Nat.reduceEqDiff,Nat.reduceBEq,Nat.reduceLeDiff,Nat.reduceAdd,Nat.reduceMul]
          refine Settle.keep [0, 1, 9, 10, 11] ⟨(k, ql, _, _), by dsimp only; omega, ⟨⟨by dsimp only; omega, hk.qlen, hk.qlim, ?_⟩, .inl ⟨?_, rfl, rfl⟩⟩, by rw [← LS_0 65536]; rfl⟩
          · dsimp only; rw [hk.qval, f2, Nat.pow_succ]; grind
          · dsimp only; rw [f1, z2, digs_zero]
        · have ap1 := (upd_none.1 hb2).1
          have hX2l : (digs 65536 (2 * R + c0)).length ≤ 1099511627776 := by
            refine Nat.le_trans (digs_len (by omega) ((digs 65536 V).length + 1) _ ?_) (by omega)
            have q1 := val_lt (lim_digs (B := 65536) (by omega) V)
            rw [val_digs (by omega)] at q1
            have q2 : R < V := hR ▸ Nat.mod_lt _ hV
            rw [Nat.pow_succ]; omega
          refine run_call (size_own (2 * R + c0) V false tb (upd_same _ _ _) rfl ?_ hX2l (by omega))
          by_cases hge : V ≤ 2 * R + c0
          · obtain ⟨f1, f2⟩ := hls.1 hge
            have c3 : ∀ K, binW .geq (.int .i64 (cmpZ (2 * R + c0) V)) (.int .i64 ((0 : Nat) : Int)) K ↔ K (.bool true) := fun K => by
              have : (0 : Int) ≤ cmpZ (2 * R + c0) V := by unfold cmpZ; rw [if_neg (by omega)]; split <;> omega
              simp [binW, binInt]; rw [decide_eq_true this]
            simp (disch := first|exact Xe|fail) only [c3, ↓Xa,Xb,Xc,↓reduceIte,Nat.reduceLT,Nat.reduceEqDiff,Nat.reduceBEq,Nat.reduceLeDiff,Nat.reduceAdd,Nat.reduceMul]
            refine run_call (minus_own (2 * R + c0) V false tb (upd_same _ _ _) rfl ?_ hge hX2l)
            intro x3 H4 g5
            have hpl : (digs 65536 (2 * R + c0 - V)).length ≤ (digs 65536 (2 * R + c0)).length := digs_len (by omega) _ _ (by
              have := val_lt (lim_digs (B := 65536) (by omega) (2 * R + c0)); rw [val_digs (by omega)] at this; omega)
            have hpad := pad_len hpl
            have hp0 : 0 < (digs 65536 (2 * R + c0)).length := by rw [digs_pos (by omega) (show 0 < 2 * R + c0 by omega)]; simp
            rcases g5 with ⟨z1, _, _⟩ | ⟨_, b3, hb3, rfl, rfl⟩
            · rw [z1] at hpad; simp at hpad; omega
            · have ap2 := (upd_none.1 hb3).1
              have ap3 := (upd_none.1 (upd_none.1 hb3).2).1
              have hn3 := (upd_none.1 (upd_none.1 hb3).2).2
              simp (disch := first|exact Xe|fail) only [↓Xa,Xb,Xc,↓reduceIte,Nat.reduceLT,Nat.reduceEqDiff,Nat.reduceBEq,Nat.reduceLeDiff,Nat.reduceAdd,Nat.reduceMul]
              refine run_call (rnorm_own false false (upd_same _ _ _) rfl (fun ti => ?_) (pad_lim (by omega)) (by omega))
              have htr : tr (pad 65536 (2 * R + c0 - V) (digs 65536 (2 * R + c0)).length) = digs 65536 (2 * R + c0 - V) := by
                rw [tr_digs (B := 65536) (by omega) (pad_lim (by omega)), pad_val (by omega)]
              have hpt : (pad 65536 (2 * R + c0 - V) (digs 65536 (2 * R + c0)).length).take (digs 65536 (2 * R + c0 - V)).length = digs 65536 (2 * R + c0 - V) := by
                unfold pad; simp
              rw [htr, hpad]
              obtain ⟨o1, o2, o3⟩ := bit_set hk.qlim (by rw [hk.qlen]; exact hkl) hk.qval
              have hql := hk.qlen
              have hqd := hk.qlim.getD (by omega) (k / 16)
              have hk16 : k / 16 < 9223372036854775808 := by omega
              have hpw : (2 : Nat) ^ (k % 16) ≤ 2 ^ 15 := Nat.pow_le_pow_right (by omega) (by omega)
              have hk32 : k % 16 ≤ 32 := by omega
              have or1 : ∀ K, binW .or (.int .u32 ((ql.getD (k / 16) 0 : Nat) : Int)) (.int .u32 ((2 ^ (k % 16) : Nat) : Int)) K ↔ K (.int .u32 ((ql.getD (k / 16) 0 + 2 ^ (k % 16) : Nat) : Int)) := fun K => by
                rw [bin_or .u32 (by simp only [IntKind.bits]; omega) (by simp only [IntKind.bits]; omega), o1, wn_u32 (by omega)]
              simp (disch := first|exact Xe|fail) only [hkl, hql, or1, Nat.one_mul, bin_shl32, ne_eq,Nat.reduceEqDiff, ↓Xa,Xb,Xc,↓reduceIte,Nat.reduceLT,Nat.reduceEqDiff,Nat.reduceBEq,Nat.reduceLeDiff,Nat.reduceAdd,Nat.reduceMul]
              refine Settle.kill b2 ?_
              rw [upd_over ap2, upd_back _ (upd_none.2 ⟨ap1, (upd_none.1 hb2).2⟩)]
              refine Settle.renew 10 rfl (upd_same _ _ _) hpad hpl fun b' hb' => ?_
              rw [upd_upd, upd_back _ (upd_none.2 ⟨ap3, hn3⟩)] at hb' ⊢
              rw [hpt]
              refine Settle.now ⟨(k, ql.set (k / 16) (ql.getD (k / 16) 0 + 2 ^ (k % 16)), _, _), by dsimp only; omega, ⟨⟨by dsimp only; omega, by simpa using hql, lim_set hk.qlim _ _ o2, ?_⟩, .inr ⟨b', hb', ?_, ?_⟩⟩, rfl⟩
              · dsimp only; rw [f2]; exact o3
              · dsimp only; rw [f1]
              · exact congrArg (fun z => (H.upd bq (some (ABlk.row 172 1 (U (ql.set (k / 16) (ql.getD (k / 16) 0 + 2 ^ (k % 16))))))).upd b' (some (.row 172 1 (U (digs 65536 z))))) f1.symm
          · obtain ⟨f1, f2⟩ := hls.2 (by omega)
            have c3 : ∀ K, binW .geq (.int .i64 (cmpZ (2 * R + c0) V)) (.int .i64 ((0 : Nat) : Int)) K ↔ K (.bool false) := fun K => by
              simp [binW, binInt, cmpZ, show 2 * R + c0 < V by omega]
            simp (disch := first|exact Xe|fail) only [c3, ↓Xa,Xb,Xc,↓reduceIte,Nat.reduceLT,Nat.reduceEqDiff,Nat.reduceBEq,Nat.reduceLeDiff,Nat.reduceAdd,Nat.reduceMul]
            refine Settle.keep [0, 1, 9, 10, 11] ⟨(k, ql, _, _), by dsimp only; omega, ⟨⟨by dsimp only; omega, hk.qlen, hk.qlim, ?_⟩, .inr ⟨b2, hb2, ?_, ?_⟩⟩, rfl⟩
            · dsimp only; rw [hk.qval, f2, Nat.pow_succ]; grind
            · dsimp only; rw [f1]
            · exact congrArg (fun z => (H.upd bq (some (ABlk.row 172 1 (U ql)))).upd b2 (some (.row 172 1 (U (digs 65536 z))))) f1.symm
end Go.Proofs.YtanchgkiomfhhaaDoor.Fw

/- Quotients and remainders of whole numbers, as the reference has them. -/
namespace Go.Proofs.YtanchgkiomfhhaaDoor.Fw
set_option linter.unusedSimpArgs false
set_option linter.unusedVariables false
open Go Go.Proofs.YtanchgkiomfhhaaDoor.Ma
set_option maxRecDepth 20000

theorem rdivide_fn {A V : Nat} (ta tb : Bool) (hV : 0 < V) (hA : (digs 65536 A).length ≤ 549755813888) (hVl : (digs 65536 V).length ≤ 549755813888) :
    PFn Tryd.prog 133 [LS (digs 65536 A) ta, LS (digs 65536 V) tb] (.tup [LS (digs 65536 (A / V)) false, LS (digs 65536 (A % V)) false]) := by
  by_cases h1 : (digs 65536 V).length = 1
  · have h2 := val_lt (lim_digs (B := 65536) (by omega) V)
    rw [val_digs (by omega), h1] at h2
    exact rdiv_one ta tb hV (by simpa using h2) (by omega)
  · exact rdiv_many ta tb hV h1 hA hVl

theorem rdivmod_fn {x y : Int} {k k' : Nat} (hx : Bd k x) (hk : k ≤ 137438953472) (hy : Bd k' y) (hk' : k' ≤ 137438953472) (hy0 : y ≠ 0) : PFn Tryd.prog 209 [RefA x false, RefA y false] (.tup [RefA (x / y) false, RefA (x % y) false]) := by
  intro H Q hq
  have hl := hx.rlen
  have hl' := hy.rlen
  have hyp : 0 < y.natAbs := by omega
  have hbq : ∀ b, Bd k (sg b (x.natAbs / y.natAbs)) := fun b => Bd.sgn (Nat.lt_of_le_of_lt (Nat.div_le_self _ _) hx)
  have hbr : ∀ b, Bd k (sg b (x.natAbs % y.natAbs)) := fun b => Bd.sgn (Nat.lt_of_le_of_lt (Nat.mod_le _ _) hx)
  have hlq := (hbq false).rlen
  have hlr := (hbr false).rlen
  rw [sg_abs] at hlq hlr
  refine enter209 (by simp) ?_
  simp (disch := first|exact Xe|fail) only [ac209, cells_RefA, ↓Xa,Xb,Xc,↓reduceIte,Nat.reduceLT,Nat.reduceEqDiff,Nat.reduceBEq,Nat.reduceLeDiff,Nat.reduceAdd,Nat.reduceMul]
  refine alloc_i fun p hp => ?_
  simp (disch := first|exact Xe|fail) only [↓Xa,Xb,Xc,↓reduceIte,Nat.reduceLT,Nat.reduceEqDiff,Nat.reduceBEq,Nat.reduceLeDiff,Nat.reduceAdd,Nat.reduceMul]
  refine alloc_i fun p2 hp2 => ?_
  have n2 := hp2
  simp only [upd_none] at n2
  obtain ⟨_, n2⟩ := n2
  simp (disch := first|exact Xe|fail) only [↓Xa,Xb,Xc,↓reduceIte,Nat.reduceLT,Nat.reduceEqDiff,Nat.reduceBEq,Nat.reduceLeDiff,Nat.reduceAdd,Nat.reduceMul]
  refine alloc_i fun p3 hp3 => ?_
  have n3 := hp3
  simp only [upd_none] at n3
  obtain ⟨_, _, n3⟩ := n3
  simp (disch := first|exact Xe|fail) only [↓Xa,Xb,Xc,↓reduceIte,Nat.reduceLT,Nat.reduceEqDiff,Nat.reduceBEq,Nat.reduceLeDiff,Nat.reduceAdd,Nat.reduceMul]
  refine alloc_i fun p4 hp4 => ?_
  have n4 := hp4
  simp only [upd_none] at n4
  obtain ⟨_, _, _, n4⟩ := n4
  simp (disch := first|exact Xe|fail) only [↓Xa,Xb,Xc,↓reduceIte,Nat.reduceLT,Nat.reduceEqDiff,Nat.reduceBEq,Nat.reduceLeDiff,Nat.reduceAdd,Nat.reduceMul]
  refine (rdivide_fn (A := x.natAbs) (V := y.natAbs) false false hyp (by omega) (by omega)).call ?_
  simp (disch := first|exact Xe|fail) only [RefB, binB_neq, ↓Xa,Xb,Xc,↓reduceIte,Nat.reduceLT,Nat.reduceEqDiff,Nat.reduceBEq,Nat.reduceLeDiff,Nat.reduceAdd,Nat.reduceMul]
  refine PFn.dcall (rnorm_fn _ false (lim_digs (by omega) _) (by omega)) ?_
  simp (disch := first|exact Xe|fail) only [↓Xa,Xb,Xc,↓reduceIte,Nat.reduceLT,Nat.reduceEqDiff,Nat.reduceBEq,Nat.reduceLeDiff,Nat.reduceAdd,Nat.reduceMul]
  refine PFn.dcall (rnorm_fn _ false (lim_digs (by omega) _) (by omega)) ?_
  rw [val_digs (by omega), val_digs (by omega)]
  simp (disch := first|exact Xe|fail) only [↓Xa,Xb,Xc,↓reduceIte,Nat.reduceLT,Nat.reduceEqDiff,Nat.reduceBEq,Nat.reduceLeDiff,Nat.reduceAdd,Nat.reduceMul]
  refine dalloc_i fun p5 hp5 => ?_
  have n5 := hp5
  simp only [upd_none] at n5
  obtain ⟨_, _, _, _, n5⟩ := n5
  simp (disch := first|exact Xe|fail) only [↓Xa,Xb,Xc,↓reduceIte,Nat.reduceLT,Nat.reduceEqDiff,Nat.reduceBEq,Nat.reduceLeDiff,Nat.reduceAdd,Nat.reduceMul]
  refine dalloc_i fun p6 hp6 => ?_
  have n6 := hp6
  simp only [upd_none] at n6
  obtain ⟨_, _, _, _, _, n6⟩ := n6
  simp (disch := first|exact Xe|fail) only [cells_RefA, ↓Xa,Xb,Xc,↓reduceIte,Nat.reduceLT,Nat.reduceEqDiff,Nat.reduceBEq,Nat.reduceLeDiff,Nat.reduceAdd,Nat.reduceMul]
  have bq := hbq (!(decide (x < 0) == decide (y < 0)))
  have br := hbr (decide (x < 0))
  have cs : (sg (!(decide (x < 0) == decide (y < 0))) (x.natAbs / y.natAbs) = x / y ∧ sg (decide (x < 0)) (x.natAbs % y.natAbs) = x % y ∧ RefB (sg (decide (x < 0)) (x.natAbs % y.natAbs)) = .bool false) ∨
      (sg (!(decide (x < 0) == decide (y < 0))) (x.natAbs / y.natAbs) - sgnI y = x / y ∧ sg (decide (x < 0)) (x.natAbs % y.natAbs) + (y.natAbs : Int) = x % y ∧ RefB (sg (decide (x < 0)) (x.natAbs % y.natAbs)) = .bool true) := by
    by_cases h : x < 0
    · obtain ⟨e1, e2⟩ := ediv_neg' hy0 h
      rw [decide_eq_true h]
      have eb : (!(true == decide (y < 0))) = !decide (y < 0) := by simp
      rw [eb]
      rcases Nat.eq_zero_or_pos (x.natAbs % y.natAbs) with hz | hz
      · left
        obtain ⟨f1, f2⟩ := e1 hz
        rw [hz, f1, f2]
        exact ⟨rfl, rfl, rfl⟩
      · right
        obtain ⟨f1, f2⟩ := e2 hz
        exact ⟨f1.symm, f2.symm, congrArg AV.bool (decide_eq_true (by simp [sg]; omega))⟩
    · left
      obtain ⟨f1, f2⟩ := ediv_pos hy0 (show 0 ≤ x by omega)
      rw [decide_eq_false h]
      have eb : (!(false == decide (y < 0))) = decide (y < 0) := by simp
      rw [eb, f1, f2]
      exact ⟨rfl, rfl, congrArg AV.bool (decide_eq_false (by simp [sg]; omega))⟩
  generalize sg (!(decide (x < 0) == decide (y < 0))) (x.natAbs / y.natAbs) = q0 at *
  generalize sg (decide (x < 0)) (x.natAbs % y.natAbs) = r0 at *
  have fin : ∀ {v a b c d e f}, Q v H → SetR Q v ((((((H.upd p a).upd p2 b).upd p3 c).upd p4 d).upd p5 e).upd p6 f) := fun {v a b c d e f} hv => SetR.dropTo (((((((Le.refl H).updB hp).updB n2).updB n3).updB n4).updB n5).updB n6) (SetR.now hv)
  have foldL : AV.agg [.bool (decide (y < 0)), LS (digs 65536 y.natAbs) false] = RefA y false := rfl
  have foldM : AV.agg [.bool (decide (y < 0)), RefD y] = RefA y false := rfl
  rcases cs with ⟨c1, c2, c3⟩ | ⟨c1, c2, c3⟩
  · rw [← c1, ← c2] at hq
    have f0 : AV.agg [.bool false, RefD r0] = RefA r0 false := by rw [RefA_eq, c3]
    simp (disch := first|exact Xe|fail) only [c3, fold_RefA, f0, cells_RefA, rs209, ↓Xa,Xb,Xc,↓reduceIte,Nat.reduceLT,Nat.reduceEqDiff,Nat.reduceBEq,Nat.reduceLeDiff,Nat.reduceAdd,Nat.reduceMul]
    exact fin hq
  · rw [← c1, ← c2] at hq
    have f0 : AV.agg [.bool true, RefD r0] = RefA r0 false := by rw [RefA_eq, c3]
    simp (disch := first|exact Xe|fail) only [c3, fold_RefA, f0, foldL, foldM, ↓Xa,Xb,Xc,↓reduceIte,Nat.reduceLT,Nat.reduceEqDiff,Nat.reduceBEq,Nat.reduceLeDiff,Nat.reduceAdd,Nat.reduceMul]
    refine PFn.dcall (rabs_fn false hy (by omega)) ?_
    simp (disch := first|exact Xe|fail) only [fold_RefA, foldL, foldM, f0, ↓Xa,Xb,Xc,↓reduceIte,Nat.reduceLT,Nat.reduceEqDiff,Nat.reduceBEq,Nat.reduceLeDiff,Nat.reduceAdd,Nat.reduceMul]
    refine (raddi_fn false false br (by omega) hy.abs (by omega)).call ?_
    simp (disch := first|exact Xe|fail) only [fold_RefA, foldL, foldM, f0, cells_RefA, ↓Xa,Xb,Xc,↓reduceIte,Nat.reduceLT,Nat.reduceEqDiff,Nat.reduceBEq,Nat.reduceLeDiff,Nat.reduceAdd,Nat.reduceMul]
    refine PFn.dcall (rsign_fn false hy (by omega)) ?_
    simp (disch := first|exact Xe|fail) only [fold_RefA, foldL, foldM, f0, ↓Xa,Xb,Xc,↓reduceIte,Nat.reduceLT,Nat.reduceEqDiff,Nat.reduceBEq,Nat.reduceLeDiff,Nat.reduceAdd,Nat.reduceMul]
    refine PFn.dcall (rof_fn (sgnI_le y)) ?_
    simp (disch := first|exact Xe|fail) only [fold_RefA, foldL, foldM, f0, ↓Xa,Xb,Xc,↓reduceIte,Nat.reduceLT,Nat.reduceEqDiff,Nat.reduceBEq,Nat.reduceLeDiff,Nat.reduceAdd,Nat.reduceMul]
    refine (rsubi_fn false false bq (by omega) (Bd.i64 (sgnI_le y)) (by omega)).call ?_
    simp (disch := first|exact Xe|fail) only [fold_RefA, foldL, foldM, f0, cells_RefA, rs209, ↓Xa,Xb,Xc,↓reduceIte,Nat.reduceLT,Nat.reduceEqDiff,Nat.reduceBEq,Nat.reduceLeDiff,Nat.reduceAdd,Nat.reduceMul]
    exact fin hq

theorem RefA_0f {t : Bool} : AV.agg [.bool false, .seq 0 [] t] = RefA 0 t := by simp [RefA, digs_zero, LS, U]
theorem rover_fn {x y : Int} {k k' : Nat} (hx : Bd k x) (hk : k ≤ 137438953472) (hy : Bd k' y) (hk' : k' ≤ 137438953472) (hy0 : y ≠ 0) : PFn Tryd.prog 179 [RefA x false, RefA y false] (if x % y = 0 then .tup [RefA (x / y) false, .bool true] else .tup [RefA 0 false, .bool false]) := by
  intro H Q hq
  have hbr : Bd k' (x % y) := by
    have h1 := Int.emod_lt x hy0
    have h2 := Int.emod_nonneg x hy0
    unfold Bd at hy ⊢
    omega
  have hl := hbr.rlen
  refine enter179 (by simp) ?_
  simp (disch := first|exact Xe|fail) only [ac179, cells_RefA, ↓Xa,Xb,Xc,↓reduceIte,Nat.reduceLT,Nat.reduceEqDiff,Nat.reduceBEq,Nat.reduceLeDiff,Nat.reduceAdd,Nat.reduceMul]
  refine alloc_i fun p hp => ?_
  simp (disch := first|exact Xe|fail) only [↓Xa,Xb,Xc,↓reduceIte,Nat.reduceLT,Nat.reduceEqDiff,Nat.reduceBEq,Nat.reduceLeDiff,Nat.reduceAdd,Nat.reduceMul]
  refine alloc_i fun p2 hp2 => ?_
  have n2 := hp2
  simp only [upd_none] at n2
  obtain ⟨_, n2⟩ := n2
  simp (disch := first|exact Xe|fail) only [↓Xa,Xb,Xc,↓reduceIte,Nat.reduceLT,Nat.reduceEqDiff,Nat.reduceBEq,Nat.reduceLeDiff,Nat.reduceAdd,Nat.reduceMul]
  refine alloc_i fun p3 hp3 => ?_
  have n3 := hp3
  simp only [upd_none] at n3
  obtain ⟨_, _, n3⟩ := n3
  simp (disch := first|exact Xe|fail) only [fold_RefA, ↓Xa,Xb,Xc,↓reduceIte,Nat.reduceLT,Nat.reduceEqDiff,Nat.reduceBEq,Nat.reduceLeDiff,Nat.reduceAdd,Nat.reduceMul]
  refine (rdivmod_fn hx hk hy hk' hy0).call ?_
  simp (disch := first|exact Xe|fail) only [↓Xa,Xb,Xc,↓reduceIte,Nat.reduceLT,Nat.reduceEqDiff,Nat.reduceBEq,Nat.reduceLeDiff,Nat.reduceAdd,Nat.reduceMul]
  refine alloc_i fun p4 hp4 => ?_
  have n4 := hp4
  simp only [upd_none] at n4
  obtain ⟨_, _, _, n4⟩ := n4
  simp (disch := first|exact Xe|fail) only [↓Xa,Xb,Xc,↓reduceIte,Nat.reduceLT,Nat.reduceEqDiff,Nat.reduceBEq,Nat.reduceLeDiff,Nat.reduceAdd,Nat.reduceMul]
  refine alloc_i fun p5 hp5 => ?_
  have n5 := hp5
  simp only [upd_none] at n5
  obtain ⟨_, _, _, _, n5⟩ := n5
  have fin : ∀ {v a b c d e}, Q v H → SetR Q v (((((H.upd p a).upd p2 b).upd p3 c).upd p4 d).upd p5 e) := fun {v a b c d e} hv => SetR.dropTo ((((((Le.refl H).updB hp).updB n2).updB n3).updB n4).updB n5) (SetR.now hv)
  have hz := digs_len0 (B := 65536) (n := (x % y).natAbs) (by omega)
  have hlen : ∀ K : AV → Prop, lenW false (RefD (x % y)) K = K (.int .i64 ((digs 65536 (x % y).natAbs).length : Nat)) := fun K => by unfold RefD; simp (disch := first|exact Xe|fail) only [↓Xa,Xb,Xc,↓reduceIte,Nat.reduceLT,Nat.reduceEqDiff,Nat.reduceBEq,Nat.reduceLeDiff,Nat.reduceAdd,Nat.reduceMul]
  by_cases h : x % y = 0
  · rw [if_pos h] at hq
    have h1 : (digs 65536 (x % y).natAbs).length = 0 := by rw [hz]; omega
    rw [h1] at hlen
    simp (disch := first|exact Xe|fail) only [cells_RefA, fold_RefA, ↓hlen, rs179, ↓Xa,Xb,Xc,↓reduceIte,Nat.reduceLT,Nat.reduceEqDiff,Nat.reduceBEq,Nat.reduceLeDiff,Nat.reduceAdd,Nat.reduceMul]
    exact fin hq
  · rw [if_neg h] at hq
    have h1 : 0 < (digs 65536 (x % y).natAbs).length := by
      have : ¬ (digs 65536 (x % y).natAbs).length = 0 := by rw [hz]; omega
      omega
    simp (disch := first|exact Xe|fail) only [cells_RefA, fold_RefA, ↓hlen, decide_eq_true h1, rs179, ↓Xa,Xb,Xc,↓reduceIte,Nat.reduceLT,Nat.reduceEqDiff,Nat.reduceBEq,Nat.reduceLeDiff,Nat.reduceAdd,Nat.reduceMul]
    refine SetR.loose ?_
    refine fin ?_
    rw [← RefA_0f] at hq
    exact hq
end Go.Proofs.YtanchgkiomfhhaaDoor.Fw

/- The law of quotients, as what its code computes: true. -/
namespace Go.Proofs.YtanchgkiomfhhaaDoor.Fw
set_option linter.unusedSimpArgs false
set_option linter.unusedVariables false
open Go Go.Proofs.YtanchgkiomfhhaaDoor.Ma
set_option maxRecDepth 20000

end Go.Proofs.YtanchgkiomfhhaaDoor.Fw

/- The greatest common divisor, as the reference and as the program have it. -/
namespace Go.Proofs.YtanchgkiomfhhaaDoor.Fw
set_option linter.unusedSimpArgs false
set_option linter.unusedVariables false
open Go Go.Proofs.YtanchgkiomfhhaaDoor.Ma
set_option maxRecDepth 20000

theorem rgcd_fn {x y : Int} {k : Nat} (hx : Bd k x) (hk : k ≤ 137438953472) (hy : Bd k y) : PFn Tryd.prog 180 [RefA x false, RefA y false] (RefA ((Int.gcd x y : Nat) : Int) false) := by
  intro H Q hq
  refine enter180 (by simp) ?_
  simp (disch := first|exact Xe|fail) only [ac180, cells_RefA, ↓Xa,Xb,Xc,↓reduceIte,Nat.reduceLT,Nat.reduceEqDiff,Nat.reduceBEq,Nat.reduceLeDiff,Nat.reduceAdd,Nat.reduceMul]
  refine alloc_i fun p1 hp1 => ?_
  have n1 := hp1
  simp (disch := first|exact Xe|fail) only [↓Xa,Xb,Xc,↓reduceIte,Nat.reduceLT,Nat.reduceEqDiff,Nat.reduceBEq,Nat.reduceLeDiff,Nat.reduceAdd,Nat.reduceMul]
  refine alloc_i fun p2 hp2 => ?_
  have n2 := hp2
  simp only [upd_none] at n2
  obtain ⟨_, n2⟩ := n2
  simp (disch := first|exact Xe|fail) only [↓Xa,Xb,Xc,↓reduceIte,Nat.reduceLT,Nat.reduceEqDiff,Nat.reduceBEq,Nat.reduceLeDiff,Nat.reduceAdd,Nat.reduceMul]
  refine alloc_i fun p3 hp3 => ?_
  have n3 := hp3
  simp only [upd_none] at n3
  obtain ⟨_, _, n3⟩ := n3
  simp (disch := first|exact Xe|fail) only [↓Xa,Xb,Xc,↓reduceIte,Nat.reduceLT,Nat.reduceEqDiff,Nat.reduceBEq,Nat.reduceLeDiff,Nat.reduceAdd,Nat.reduceMul]
  refine PFn.dcall (rabs_fn false hx (by omega)) ?_
  simp (disch := first|exact Xe|fail) only [↓Xa,Xb,Xc,↓reduceIte,Nat.reduceLT,Nat.reduceEqDiff,Nat.reduceBEq,Nat.reduceLeDiff,Nat.reduceAdd,Nat.reduceMul]
  refine PFn.dcall (rabs_fn false hy (by omega)) ?_
  simp (disch := first|exact Xe|fail) only [↓Xa,Xb,Xc,↓reduceIte,Nat.reduceLT,Nat.reduceEqDiff,Nat.reduceBEq,Nat.reduceLeDiff,Nat.reduceAdd,Nat.reduceMul]
  refine dalloc_i fun p4 hp4 => ?_
  have n4 := hp4
  simp only [upd_none] at n4
  obtain ⟨_, _, _, n4⟩ := n4
  simp (disch := first|exact Xe|fail) only [↓Xa,Xb,Xc,↓reduceIte,Nat.reduceLT,Nat.reduceEqDiff,Nat.reduceBEq,Nat.reduceLeDiff,Nat.reduceAdd,Nat.reduceMul]
  refine dalloc_i fun p5 hp5 => ?_
  have n5 := hp5
  simp only [upd_none] at n5
  obtain ⟨_, _, _, _, n5⟩ := n5
  simp (disch := first|exact Xe|fail) only [cells_RefA, ↓Xa,Xb,Xc,↓reduceIte,Nat.reduceLT,Nat.reduceEqDiff,Nat.reduceBEq,Nat.reduceLeDiff,Nat.reduceAdd,Nat.reduceMul]
  refine W_atH fun M hM => ?_
  have i3 : M p3 = some (.row 39 0 [.bool false, .seq 0 [] true]) := by rw [hM]; simp (disch := first|exact Xe|fail) only [↓Xa,Xb,Xc,↓reduceIte,Nat.reduceLT,Nat.reduceEqDiff,Nat.reduceBEq,Nat.reduceLeDiff,Nat.reduceAdd,Nat.reduceMul]
  have i4 : M p4 = some (.row 39 0 [RefB (x.natAbs : Int), RefD (x.natAbs : Int)]) := by rw [hM]; simp (disch := first|exact Xe|fail) only [↓Xa,Xb,Xc,↓reduceIte,Nat.reduceLT,Nat.reduceEqDiff,Nat.reduceBEq,Nat.reduceLeDiff,Nat.reduceAdd,Nat.reduceMul]
  have i5 : M p5 = some (.row 39 0 [RefB (y.natAbs : Int), RefD (y.natAbs : Int)]) := by rw [hM]; simp (disch := first|exact Xe|fail) only [↓Xa,Xb,Xc,↓reduceIte,Nat.reduceLT,Nat.reduceEqDiff,Nat.reduceBEq,Nat.reduceLeDiff,Nat.reduceAdd,Nat.reduceMul]
  have iG : Le H M := by rw [hM]; exact (((((Le.refl H).updB n1).updB n2).updB n3).updB n4).updB n5
  refine W_loop (fun s : Int × Int × AHeap => ⟨[], [(4, .ptr p3 2 0), (5, .ptr p4 2 0), (6, .ptr p5 2 0)], s.2.2⟩)
    (fun s => 0 ≤ s.1 ∧ 0 ≤ s.2.1 ∧ Int.gcd s.1 s.2.1 = Int.gcd x y ∧ Bd k s.1 ∧ Bd k s.2.1 ∧ s.2.2 p3 = some (.row 39 0 [.bool false, .seq 0 [] true]) ∧ s.2.2 p4 = some (.row 39 0 [RefB s.1, RefD s.1]) ∧ s.2.2 p5 = some (.row 39 0 [RefB s.2.1, RefD s.2.1]) ∧ Le H s.2.2)
    (fun s => s.2.1.natAbs) ((x.natAbs : Int), (y.natAbs : Int), M) (Settle.now rfl) ⟨by dsimp only; omega, by dsimp only; omega, by simp [Int.gcd], hx.abs, hy.abs, i3, i4, i5, iG⟩ ?_
  rintro ⟨a, b, G⟩ ⟨ha, hb, hg, ba, bb, g3, g4, g5, hG⟩
  dsimp only at ha hb hg ba bb g3 g4 g5 hG ⊢
  have hl := bb.rlen
  have hz := digs_len0 (B := 65536) (n := b.natAbs) (by omega)
  have hlen : ∀ K : AV → Prop, lenW false (RefD b) K = K (.int .i64 ((digs 65536 b.natAbs).length : Nat)) := fun K => by unfold RefD; simp (disch := first|exact Xe|fail) only [↓Xa,Xb,Xc,↓reduceIte,Nat.reduceLT,Nat.reduceEqDiff,Nat.reduceBEq,Nat.reduceLeDiff,Nat.reduceAdd,Nat.reduceMul]
  by_cases hb0 : b = 0
  · have h1 : (digs 65536 b.natAbs).length = 0 := by rw [hz]; omega
    rw [h1] at hlen
    simp (disch := first|exact Xe|fail) only [g5, ↓hlen, ↓Xa,Xb,Xc,↓reduceIte,Nat.reduceLT,Nat.reduceEqDiff,Nat.reduceBEq,Nat.reduceLeDiff,Nat.reduceAdd,Nat.reduceMul]
    refine Settle.now ?_
    simp (disch := first|exact Xe|fail) only [g4, g3, cells_RefA, fold_RefA, rs180, ↓Xa,Xb,Xc,↓reduceIte,Nat.reduceLT,Nat.reduceEqDiff,Nat.reduceBEq,Nat.reduceLeDiff,Nat.reduceAdd,Nat.reduceMul]
    have e : ((Int.gcd x y : Nat) : Int) = a := by rw [← hg, hb0, Int.gcd_zero_right]; omega
    rw [e] at hq
    exact SetR.dropTo (hG.updB n3) (SetR.now hq)
  · have h1 : 0 < (digs 65536 b.natAbs).length := by
      have : ¬ (digs 65536 b.natAbs).length = 0 := by rw [hz]; omega
      omega
    simp (disch := first|exact Xe|fail) only [g5, ↓hlen, decide_eq_true h1, g4, cells_RefA, fold_RefA, ↓Xa,Xb,Xc,↓reduceIte,Nat.reduceLT,Nat.reduceEqDiff,Nat.reduceBEq,Nat.reduceLeDiff,Nat.reduceAdd,Nat.reduceMul]
    refine (rdivmod_fn ba hk bb hk hb0).call ?_
    simp (disch := first|exact Xe|fail) only [↓Xa,Xb,Xc,↓reduceIte,Nat.reduceLT,Nat.reduceEqDiff,Nat.reduceBEq,Nat.reduceLeDiff,Nat.reduceAdd,Nat.reduceMul]
    refine alloc_i fun q1 hq1 => ?_
    have a3 := ne_of_some g3 hq1
    have a4 := ne_of_some g4 hq1
    have a5 := ne_of_some g5 hq1
    simp (disch := first|exact Xe|fail) only [↓Xa,Xb,Xc,↓reduceIte,Nat.reduceLT,Nat.reduceEqDiff,Nat.reduceBEq,Nat.reduceLeDiff,Nat.reduceAdd,Nat.reduceMul]
    refine alloc_i fun q2 hq2 => ?_
    have m2 := hq2
    simp only [upd_none] at m2
    obtain ⟨_, m2⟩ := m2
    have b3 := ne_of_some g3 m2
    have b4 := ne_of_some g4 m2
    have b5 := ne_of_some g5 m2
    simp (disch := first|exact Xe|fail) only [g3, g4, g5, cells_RefA, fold_RefA, ↓Xa,Xb,Xc,↓reduceIte,Nat.reduceLT,Nat.reduceEqDiff,Nat.reduceBEq,Nat.reduceLeDiff,Nat.reduceAdd,Nat.reduceMul]
    refine Settle_atH fun M' hM' => ?_
    refine Settle.now ⟨(b, a % b, M'), ?_, ⟨hb, Int.emod_nonneg _ hb0, (gcd_step a b).trans hg, bb, ?_, ?_, ?_, ?_, ?_⟩, rfl⟩
    · have h1 := Int.emod_lt a hb0
      have h2 := Int.emod_nonneg a hb0
      dsimp only; omega
    · have h1 := Int.emod_lt a hb0
      have h2 := Int.emod_nonneg a hb0
      unfold Bd at bb ⊢; dsimp only; omega
    · dsimp only; rw [hM']; simp (disch := first|exact Xe|fail) only [g3, ↓Xa,Xb,Xc,↓reduceIte,Nat.reduceLT,Nat.reduceEqDiff,Nat.reduceBEq,Nat.reduceLeDiff,Nat.reduceAdd,Nat.reduceMul]
    · dsimp only; rw [hM']; simp (disch := first|exact Xe|fail) only [↓Xa,Xb,Xc,↓reduceIte,Nat.reduceLT,Nat.reduceEqDiff,Nat.reduceBEq,Nat.reduceLeDiff,Nat.reduceAdd,Nat.reduceMul]
    · dsimp only; rw [hM']; simp (disch := first|exact Xe|fail) only [↓Xa,Xb,Xc,↓reduceIte,Nat.reduceLT,Nat.reduceEqDiff,Nat.reduceBEq,Nat.reduceLeDiff,Nat.reduceAdd,Nat.reduceMul]
    · dsimp only; rw [hM']; exact (((hG.updB (hG.none hq1)).updB (hG.none m2)).updB n4).updB n5

theorem sgn_lss0 {x : Int} {K : AV → Prop} : binW .lss (.int .i64 (sgnI x)) (.int .i64 ((0 : Nat) : Int)) K ↔ K (.bool (decide (x < 0))) := by
  have : (sgnI x < ((0 : Nat) : Int)) ↔ x < 0 := by unfold sgnI; (repeat' split) <;> omega
  simp only [binW, binInt, true_and, this]
theorem igcd_fn {x y : Int} {k : Nat} (hx : Bd k x) (hk : k ≤ 274877906944) (hy : Bd k y) : PFn Tryd.prog 129 [IntA x, IntA y] (IntA ((Int.gcd x y : Nat) : Int)) := by
  intro H Q hq
  refine enter129 (by simp) ?_
  simp (disch := first|exact Xe|fail) only [ac129, cells_IntA, ↓Xa,Xb,Xc,↓reduceIte,Nat.reduceLT,Nat.reduceEqDiff,Nat.reduceBEq,Nat.reduceLeDiff,Nat.reduceAdd,Nat.reduceMul]
  refine alloc_i fun p1 hp1 => ?_
  have n1 := hp1
  simp (disch := first|exact Xe|fail) only [↓Xa,Xb,Xc,↓reduceIte,Nat.reduceLT,Nat.reduceEqDiff,Nat.reduceBEq,Nat.reduceLeDiff,Nat.reduceAdd,Nat.reduceMul]
  refine alloc_i fun p2 hp2 => ?_
  have n2 := hp2
  simp only [upd_none] at n2
  obtain ⟨_, n2⟩ := n2
  simp (disch := first|exact Xe|fail) only [↓Xa,Xb,Xc,↓reduceIte,Nat.reduceLT,Nat.reduceEqDiff,Nat.reduceBEq,Nat.reduceLeDiff,Nat.reduceAdd,Nat.reduceMul]
  refine alloc_i fun p3 hp3 => ?_
  have n3 := hp3
  simp only [upd_none] at n3
  obtain ⟨_, _, n3⟩ := n3
  simp (disch := first|exact Xe|fail) only [↓Xa,Xb,Xc,↓reduceIte,Nat.reduceLT,Nat.reduceEqDiff,Nat.reduceBEq,Nat.reduceLeDiff,Nat.reduceAdd,Nat.reduceMul]
  refine PFn.dcall (abs_fn hx (by omega)) ?_
  simp (disch := first|exact Xe|fail) only [↓Xa,Xb,Xc,↓reduceIte,Nat.reduceLT,Nat.reduceEqDiff,Nat.reduceBEq,Nat.reduceLeDiff,Nat.reduceAdd,Nat.reduceMul]
  refine PFn.dcall (abs_fn hy (by omega)) ?_
  simp (disch := first|exact Xe|fail) only [↓Xa,Xb,Xc,↓reduceIte,Nat.reduceLT,Nat.reduceEqDiff,Nat.reduceBEq,Nat.reduceLeDiff,Nat.reduceAdd,Nat.reduceMul]
  refine dalloc_i fun p4 hp4 => ?_
  have n4 := hp4
  simp only [upd_none] at n4
  obtain ⟨_, _, _, n4⟩ := n4
  simp (disch := first|exact Xe|fail) only [↓Xa,Xb,Xc,↓reduceIte,Nat.reduceLT,Nat.reduceEqDiff,Nat.reduceBEq,Nat.reduceLeDiff,Nat.reduceAdd,Nat.reduceMul]
  refine dalloc_i fun p5 hp5 => ?_
  have n5 := hp5
  simp only [upd_none] at n5
  obtain ⟨_, _, _, _, n5⟩ := n5
  simp (disch := first|exact Xe|fail) only [cells_IntA, ↓Xa,Xb,Xc,↓reduceIte,Nat.reduceLT,Nat.reduceEqDiff,Nat.reduceBEq,Nat.reduceLeDiff,Nat.reduceAdd,Nat.reduceMul]
  refine W_atH fun M hM => ?_
  have i3 : M p3 = some (.row 28 0 [.bool false, .seq 0 [] true]) := by rw [hM]; simp (disch := first|exact Xe|fail) only [↓Xa,Xb,Xc,↓reduceIte,Nat.reduceLT,Nat.reduceEqDiff,Nat.reduceBEq,Nat.reduceLeDiff,Nat.reduceAdd,Nat.reduceMul]
  have i4 : M p4 = some (.row 28 0 [IntB (x.natAbs : Int), IntD (x.natAbs : Int)]) := by rw [hM]; simp (disch := first|exact Xe|fail) only [↓Xa,Xb,Xc,↓reduceIte,Nat.reduceLT,Nat.reduceEqDiff,Nat.reduceBEq,Nat.reduceLeDiff,Nat.reduceAdd,Nat.reduceMul]
  have i5 : M p5 = some (.row 28 0 [IntB (y.natAbs : Int), IntD (y.natAbs : Int)]) := by rw [hM]; simp (disch := first|exact Xe|fail) only [↓Xa,Xb,Xc,↓reduceIte,Nat.reduceLT,Nat.reduceEqDiff,Nat.reduceBEq,Nat.reduceLeDiff,Nat.reduceAdd,Nat.reduceMul]
  have iG : Le H M := by rw [hM]; exact (((((Le.refl H).updB n1).updB n2).updB n3).updB n4).updB n5
  refine W_loop (fun s : Int × Int × AHeap => ⟨[], [(4, .ptr p3 2 0), (5, .ptr p4 2 0), (6, .ptr p5 2 0)], s.2.2⟩)
    (fun s => 0 ≤ s.1 ∧ 0 ≤ s.2.1 ∧ Int.gcd s.1 s.2.1 = Int.gcd x y ∧ Bd k s.1 ∧ Bd k s.2.1 ∧ s.2.2 p3 = some (.row 28 0 [.bool false, .seq 0 [] true]) ∧ s.2.2 p4 = some (.row 28 0 [IntB s.1, IntD s.1]) ∧ s.2.2 p5 = some (.row 28 0 [IntB s.2.1, IntD s.2.1]) ∧ Le H s.2.2)
    (fun s => s.2.1.natAbs) ((x.natAbs : Int), (y.natAbs : Int), M) (Settle.now rfl) ⟨by dsimp only; omega, by dsimp only; omega, by simp [Int.gcd], hx.abs, hy.abs, i3, i4, i5, iG⟩ ?_
  rintro ⟨a, b, G⟩ ⟨ha, hb, hg, ba, bb, g3, g4, g5, hG⟩
  dsimp only at ha hb hg ba bb g3 g4 g5 hG ⊢
  simp (disch := first|exact Xe|fail) only [g5, g4, cells_IntA, fold_IntA, ↓Xa,Xb,Xc,↓reduceIte,Nat.reduceLT,Nat.reduceEqDiff,Nat.reduceBEq,Nat.reduceLeDiff,Nat.reduceAdd,Nat.reduceMul]
  refine (sign_fn bb (by omega)).call ?_
  by_cases hb0 : b = 0
  · simp (disch := first|exact Xe|fail) only [sgn_neq0, hb0, ↓Xa,Xb,Xc,↓reduceIte,Nat.reduceLT,Nat.reduceEqDiff,Nat.reduceBEq,Nat.reduceLeDiff,Nat.reduceAdd,Nat.reduceMul]
    refine Settle.now ?_
    simp (disch := first|exact Xe|fail) only [g4, g3, cells_IntA, fold_IntA, rs129, ↓Xa,Xb,Xc,↓reduceIte,Nat.reduceLT,Nat.reduceEqDiff,Nat.reduceBEq,Nat.reduceLeDiff,Nat.reduceAdd,Nat.reduceMul]
    have e : ((Int.gcd x y : Nat) : Int) = a := by rw [← hg, hb0, Int.gcd_zero_right]; omega
    rw [e] at hq
    exact SetR.dropTo (hG.updB n3) (SetR.now hq)
  · simp (disch := first|exact Xe|fail) only [g5, sgn_neq0, hb0, g4, cells_IntA, fold_IntA, ↓Xa,Xb,Xc,↓reduceIte,Nat.reduceLT,Nat.reduceEqDiff,Nat.reduceBEq,Nat.reduceLeDiff,Nat.reduceAdd,Nat.reduceMul]
    refine (idivmod_fn ba hk bb hk hb0).call ?_
    simp (disch := first|exact Xe|fail) only [↓Xa,Xb,Xc,↓reduceIte,Nat.reduceLT,Nat.reduceEqDiff,Nat.reduceBEq,Nat.reduceLeDiff,Nat.reduceAdd,Nat.reduceMul]
    refine alloc_i fun q1 hq1 => ?_
    have a3 := ne_of_some g3 hq1
    have a4 := ne_of_some g4 hq1
    have a5 := ne_of_some g5 hq1
    simp (disch := first|exact Xe|fail) only [↓Xa,Xb,Xc,↓reduceIte,Nat.reduceLT,Nat.reduceEqDiff,Nat.reduceBEq,Nat.reduceLeDiff,Nat.reduceAdd,Nat.reduceMul]
    refine alloc_i fun q2 hq2 => ?_
    have m2 := hq2
    simp only [upd_none] at m2
    obtain ⟨_, m2⟩ := m2
    have b3 := ne_of_some g3 m2
    have b4 := ne_of_some g4 m2
    have b5 := ne_of_some g5 m2
    simp (disch := first|exact Xe|fail) only [g3, g4, g5, cells_IntA, fold_IntA, ↓Xa,Xb,Xc,↓reduceIte,Nat.reduceLT,Nat.reduceEqDiff,Nat.reduceBEq,Nat.reduceLeDiff,Nat.reduceAdd,Nat.reduceMul]
    refine Settle_atH fun M' hM' => ?_
    refine Settle.now ⟨(b, a % b, M'), ?_, ⟨hb, Int.emod_nonneg _ hb0, (gcd_step a b).trans hg, bb, ?_, ?_, ?_, ?_, ?_⟩, rfl⟩
    · have h1 := Int.emod_lt a hb0
      have h2 := Int.emod_nonneg a hb0
      dsimp only; omega
    · have h1 := Int.emod_lt a hb0
      have h2 := Int.emod_nonneg a hb0
      unfold Bd at bb ⊢; dsimp only; omega
    · dsimp only; rw [hM']; simp (disch := first|exact Xe|fail) only [g3, ↓Xa,Xb,Xc,↓reduceIte,Nat.reduceLT,Nat.reduceEqDiff,Nat.reduceBEq,Nat.reduceLeDiff,Nat.reduceAdd,Nat.reduceMul]
    · dsimp only; rw [hM']; simp (disch := first|exact Xe|fail) only [↓Xa,Xb,Xc,↓reduceIte,Nat.reduceLT,Nat.reduceEqDiff,Nat.reduceBEq,Nat.reduceLeDiff,Nat.reduceAdd,Nat.reduceMul]
    · dsimp only; rw [hM']; simp (disch := first|exact Xe|fail) only [↓Xa,Xb,Xc,↓reduceIte,Nat.reduceLT,Nat.reduceEqDiff,Nat.reduceBEq,Nat.reduceLeDiff,Nat.reduceAdd,Nat.reduceMul]
    · dsimp only; rw [hM']; exact (((hG.updB (hG.none hq1)).updB (hG.none m2)).updB n4).updB n5
end Go.Proofs.YtanchgkiomfhhaaDoor.Fw

/- How the greatest common divisor is put together, as the program finds it. -/
namespace Go.Proofs.YtanchgkiomfhhaaDoor.Fw
set_option linter.unusedSimpArgs false
set_option linter.unusedVariables false
open Go Go.Proofs.YtanchgkiomfhhaaDoor.Ma
set_option maxRecDepth 20000

theorem Bd.le {x y : Int} {k : Nat} (h : Bd k y) (hl : x.natAbs ≤ y.natAbs) : Bd k x := Nat.lt_of_le_of_lt hl h
theorem Bd.ediv {x y : Int} {k : Nat} (h : Bd k x) : Bd k (x / y) := h.le (Int.natAbs_ediv_le_natAbs x y)
end Go.Proofs.YtanchgkiomfhhaaDoor.Fw

/- The law of the greatest common divisor, as what its code computes: true. -/
namespace Go.Proofs.YtanchgkiomfhhaaDoor.Fw
set_option linter.unusedSimpArgs false
set_option linter.unusedVariables false
open Go Go.Proofs.YtanchgkiomfhhaaDoor.Ma
set_option maxRecDepth 20000

def BezF (x y u v : Int) : Prop := u * x + v * y = (Int.gcd x y : Int) ∧ (y = 0 → u = sgnI x ∧ v = 0) ∧ (y ≠ 0 → 0 ≤ u ∧ u < (y.natAbs : Int) / (Int.gcd x y : Int))
end Go.Proofs.YtanchgkiomfhhaaDoor.Fw

/- Fractions: plain numbers. -/
namespace Go.Proofs.YtanchgkiomfhhaaDoor.Fw
set_option linter.unusedSimpArgs false
set_option linter.unusedVariables false
open Go Go.Proofs.YtanchgkiomfhhaaDoor.Ma

abbrev QQ := _root_.Rat
theorem q_pos (q : QQ) : 0 < (q.den : Int) := by have := q.den_pos; omega
theorem q_gcd {n : Int} {d : Nat} (hd : 0 < d) : 0 < ((Int.gcd n (d : Int) : Nat) : Int) := by
  have : 0 < Int.gcd n (d : Int) := Int.gcd_pos_of_ne_zero_right _ (by omega)
  omega
theorem mk_num {n : Int} {d : Nat} (hd : 0 < d) : (mkRat n d).num = n / ((Int.gcd n (d : Int) : Nat) : Int) := by
  rw [_root_.Rat.num_mkRat, if_neg (by omega), Nat.gcd_comm]; rfl
theorem mk_den {n : Int} {d : Nat} (hd : 0 < d) : (((mkRat n d).den : Nat) : Int) = (d : Int) / ((Int.gcd n (d : Int) : Nat) : Int) := by
  rw [_root_.Rat.den_mkRat, if_neg (by omega), Nat.gcd_comm]; rfl
theorem q_over (p q : QQ) : _root_.Rat.divInt (p.num * (q.den : Int)) ((p.den : Int) * q.num) = p / q := by
  rw [_root_.Rat.div_def, _root_.Rat.inv_def, ← _root_.Rat.divInt_mul_divInt, _root_.Rat.num_divInt_den]
theorem q_num0 {q : QQ} : q.num = 0 ↔ q = 0 := _root_.Rat.num_eq_zero
theorem q_lt {p q : QQ} : p < q ↔ p.num * (q.den : Int) < q.num * (p.den : Int) := _root_.Rat.lt_iff p q
def cmpQ (p q : QQ) : Int := cmpI (p.num * (q.den : Int)) (q.num * (p.den : Int))
theorem Bd.oneQ (k : Nat) : Bd (k + 1) 1 := by
  unfold Bd
  have : 4294967296 ^ 1 ≤ 4294967296 ^ (k + 1) := Nat.pow_le_pow_right (by omega) (by omega)
  have e : (1 : Int).natAbs = 1 := rfl
  omega
def RB (k : Nat) (q : QQ) : Prop := Bd k q.num ∧ Bd k (q.den : Int)
theorem RB.mk {n : Int} {d k : Nat} (hn : Bd k n) (hd : Bd k (d : Int)) (h0 : 0 < d) : RB k (mkRat n d) := by
  refine ⟨?_, ?_⟩
  · rw [mk_num h0]; exact hn.ediv
  · rw [mk_den h0]; exact hd.ediv
theorem RB.mono {q : QQ} {k k' : Nat} (h : RB k q) (hk : k ≤ k') : RB k' q := ⟨h.1.mono hk, h.2.mono hk⟩
theorem RB.neg {q : QQ} {k : Nat} (h : RB k q) : RB k (-q) := ⟨h.1.neg, h.2⟩
theorem RB.add {p q : QQ} {k k' : Nat} (h : RB k p) (h' : RB k' q) : RB (k + k' + 1) (p + q) := by
  rw [_root_.Rat.add_def']
  refine RB.mk (Bd.add (h.1.mul h'.2) ?_) ?_ (Nat.mul_pos p.den_pos q.den_pos)
  · have := h'.1.mul h.2; rw [Nat.add_comm]; exact this
  · rw [Int.natCast_mul]; exact (h.2.mul h'.2).mono (by omega)
theorem RB.sub {p q : QQ} {k k' : Nat} (h : RB k p) (h' : RB k' q) : RB (k + k' + 1) (p - q) := by
  rw [_root_.Rat.sub_eq_add_neg]; exact h.add h'.neg
theorem RB.mul {p q : QQ} {k k' : Nat} (h : RB k p) (h' : RB k' q) : RB (k + k') (p * q) := by
  rw [_root_.Rat.mul_def']
  refine RB.mk (h.1.mul h'.1) ?_ (Nat.mul_pos p.den_pos q.den_pos)
  rw [Int.natCast_mul]; exact h.2.mul h'.2
theorem divInt_cases (n d : Int) : (d = 0 ∧ _root_.Rat.divInt n d = 0) ∨ (∃ m : Nat, 0 < m ∧ d = (m : Int) ∧ _root_.Rat.divInt n d = mkRat n m) ∨ (∃ m : Nat, 0 < m ∧ d = -(m : Int) ∧ _root_.Rat.divInt n d = mkRat (-n) m) := by
  rcases Int.lt_trichotomy d 0 with h | h | h
  · refine .inr (.inr ⟨d.natAbs, by omega, by omega, ?_⟩)
    have e : d = -((d.natAbs : Nat) : Int) := by omega
    conv => lhs; rw [e]
    rw [_root_.Rat.divInt_neg', _root_.Rat.divInt_ofNat]
  · exact .inl ⟨h, by rw [h]; exact _root_.Rat.divInt_zero n⟩
  · refine .inr (.inl ⟨d.natAbs, by omega, by omega, ?_⟩)
    have e : d = ((d.natAbs : Nat) : Int) := by omega
    conv => lhs; rw [e]
    rw [_root_.Rat.divInt_ofNat]
theorem RB.divInt {n d : Int} {k : Nat} (hn : Bd k n) (hd : Bd k d) : RB (k + 1) (_root_.Rat.divInt n d) := by
  rcases divInt_cases n d with ⟨_, e⟩ | ⟨m, h0, e1, e⟩ | ⟨m, h0, e1, e⟩
  · rw [e]; exact ⟨Bd.zero _, Bd.oneQ k⟩
  · rw [e]; subst e1; exact (RB.mk hn hd h0).mono (by omega)
  · rw [e]; subst e1
    have := hd.neg
    rw [Int.neg_neg] at this
    exact (RB.mk hn.neg this h0).mono (by omega)
theorem RB.int {z : Int} {k : Nat} (h : Bd (k + 1) z) : RB (k + 1) (z : QQ) := ⟨h, Bd.oneQ k⟩
theorem RB.less {q : QQ} {k : Nat} (h : RB k q) : Bd k ((q.den : Int) - 1) := h.2.le (by have := q_pos q; omega)
end Go.Proofs.YtanchgkiomfhhaaDoor.Fw

/- Ranges over functions: memories side by side, the iterator's contract, the statement's rule. -/
namespace Go.Proofs.YtanchgkiomfhhaaDoor.Fw
set_option linter.unusedSimpArgs false
set_option linter.unusedVariables false
open Go

def Un (A B : AHeap) : AHeap := fun b => match A b with | some x => some x | none => B b
def Dj (A B : AHeap) : Prop := ∀ b, A b = none ∨ B b = none
def nilH : AHeap := fun _ => none
theorem un_nil {B : AHeap} : Un nilH B = B := funext fun _ => rfl
theorem un_upd {A B : AHeap} {b : Nat} {x : ABlk} : Un (A.upd b (some x)) B = (Un A B).upd b (some x) := by
  funext i; simp only [Un, AHeap.upd]; by_cases e : i = b
  · simp [e]
  · simp [e]
theorem un_updR {A B : AHeap} {b : Nat} {x : Option ABlk} (h : A b = none) : Un A (B.upd b x) = (Un A B).upd b x := by
  funext i; simp only [Un, AHeap.upd]; by_cases e : i = b
  · subst e; simp [h]
  · simp [e]
theorem un_none {A B : AHeap} {b : Nat} : Un A B b = none ↔ A b = none ∧ B b = none := by
  unfold Un; cases h : A b <;> simp
theorem dj_nil {B : AHeap} : Dj nilH B := fun _ => .inl rfl
theorem dj_upd {A B : AHeap} {b : Nat} {x : Option ABlk} (h : Dj A B) (hb : B b = none) : Dj (A.upd b x) B := fun i => by
  by_cases e : i = b
  · subst e; exact .inr hb
  · rw [upd_other _ _ e]; exact h i
theorem dj_updR {A B : AHeap} {b : Nat} {x : Option ABlk} (h : Dj A B) (hb : A b = none) : Dj A (B.upd b x) := fun i => by
  by_cases e : i = b
  · subst e; exact .inl hb
  · rw [upd_other _ _ e]; exact h i
theorem dj_at {A B : AHeap} {b : Nat} {x : ABlk} (h : Dj A B) (hb : A b = some x) : B b = none := (h b).resolve_left (by rw [hb]; simp)
theorem dj_atR {A B : AHeap} {b : Nat} {x : ABlk} (h : Dj A B) (hb : B b = some x) : A b = none := (h b).resolve_right (by rw [hb]; simp)
def IterW (P : Program) (f : FuncId) (caps : List AV) {α : Type} (enc : α → List AV) (xs : List α) : Prop :=
  ∀ (b : Nat) (J : List α → AHeap → Prop) (Jx : AHeap → Prop),
    (∀ pre x rest A B, xs = pre ++ x :: rest → Dj A B → J pre A → YieldW P b (enc x) (Un A B) fun r H' => ∃ A', Dj A' B ∧ H' = Un A' B ∧ ((r = .bool true ∧ J (pre ++ [x]) A') ∨ (r = .bool false ∧ Jx A'))) →
    ∀ A B, Dj A B → J [] A → Run P f ([.yld b] ++ caps) (Un A B) fun _ H' => ∃ A', Dj A' B ∧ H' = Un A' B ∧ (J xs A' ∨ Jx A')

def bodyQ {α : Type} (J : List α → AHeap → Prop) (Jx : Code → AHeap → Prop) (l : List α) (B : AHeap) : Exit → St → Prop
  | .normal, s => Settle (fun s => ∃ A, Dj A B ∧ s.H = Un A B ∧ J l A) s
  | .ret, s => Settle (fun s => ∃ A, Dj A B ∧ s.H = Un A B ∧ Jx .ret A) s
  | .exit i, s => Settle (fun s => ∃ A, Dj A B ∧ s.H = Un A B ∧ Jx (.exit i) A) s
  | _, _ => False

theorem rfn_iter {P : Program} {ps : List Nat} {asg bd : ACode} {f : FuncId} {caps : List AV} {Q : Exit → St → Prop} {D : List Nat} {E : Env} {α : Type} {enc : α → List AV} {xs : List α} (hit : IterW P f caps enc xs) (hps : ∀ x, (enc x).length = ps.length)
    (J : List α → AHeap → Prop) (Jx : Code → AHeap → Prop) (A B : AHeap) {H : AHeap} (hd : Dj A B) (hH : H = Un A B) (h0 : J [] A)
    (hbody : ∀ pre x rest A B, xs = pre ++ x :: rest → Dj A B → J pre A →
      ∀ R1, (∀ E1 A1, Dj A1 B → (∀ R2 B1, (∀ e s, bodyQ J Jx (pre ++ [x]) B1 e s → R2 e s) → Dj A1 B1 → W P bd R2 ⟨[], E1, Un A1 B1⟩) → R1 .normal ⟨[], E1, Un A1 B⟩) → W P asg R1 ⟨[], setps E ps (enc x), Un A B⟩)
    (hend : ∀ d A', Dj A' B → A' d = none → B d = none → J xs A' → Q .normal ⟨d :: D, E, (Un A' B).upd d (some (.raw (.deferred (some []))))⟩)
    (hexit : ∀ d A' c, Dj A' B → A' d = none → B d = none → Jx c A' → afterQ Q (some c) ⟨d :: D, E, (Un A' B).upd d (some (.raw (.deferred (some []))))⟩) :
    rfnW P ps (W P asg) (W P bd) (.fn (.func f) [] caps) Q ⟨D, E, H⟩ := by
  subst hH
  intro L b d hb hdn hbd hy
  obtain ⟨hAb, hBb⟩ := un_none.1 hb
  obtain ⟨hAd, hBd⟩ := un_none.1 hdn
  have hd2 : Dj A (B.upd d (some (.raw (.deferred (some []))))) := dj_updR hd hAd
  have hB2b : (B.upd d (some (.raw (.deferred (some []))))) b = none := by rw [upd_other _ _ hbd]; exact hBb
  have run := hit b (fun pre A' => ∃ A0, A' = A0.upd b (some (L .ready none)) ∧ A0 b = none ∧ J pre A0) (fun A' => ∃ A0 c, A' = A0.upd b (some (L .done (some c))) ∧ A0 b = none ∧ Jx c A0) ?_
    (A.upd b (some (L .ready none))) (B.upd d (some (.raw (.deferred (some []))))) (dj_upd hd2 hB2b) ⟨A, rfl, hAb, h0⟩
  · rw [un_upd, un_updR hAd] at run
    refine run.mono ?_
    rintro r H' ⟨A', hdj, rfl, (⟨A0, rfl, h0b, hj⟩ | ⟨A0, c, rfl, h0b, hj⟩)⟩
    · have hA0d : A0 d = none := by
        have := dj_atR hdj (upd_same _ _ _)
        rwa [upd_other _ _ (Ne.symm hbd)] at this
      have hdj0 : Dj A0 B := fun i => by
        by_cases e : i = b
        · subst e; exact .inl h0b
        · by_cases e2 : i = d
          · subst e2; exact .inl hA0d
          · have := hdj i
            rwa [upd_other _ _ e, upd_other _ _ e2] at this
      refine ⟨.ready, none, by simp, by rw [un_upd, upd_same], ?_⟩
      rw [un_upd, upd_upd, upd_back _ (un_none.2 ⟨h0b, hB2b⟩), un_updR hA0d]
      exact hend d A0 hdj0 hA0d hBd hj
    · have hA0d : A0 d = none := by
        have := dj_atR hdj (upd_same _ _ _)
        rwa [upd_other _ _ (Ne.symm hbd)] at this
      have hdj0 : Dj A0 B := fun i => by
        by_cases e : i = b
        · subst e; exact .inl h0b
        · by_cases e2 : i = d
          · subst e2; exact .inl hA0d
          · have := hdj i
            rwa [upd_other _ _ e, upd_other _ _ e2] at this
      refine ⟨.done, some c, by simp, by rw [un_upd, upd_same], ?_⟩
      rw [un_upd, upd_upd, upd_back _ (un_none.2 ⟨h0b, hB2b⟩), un_updR hA0d]
      exact hexit d A0 c hdj0 hA0d hBd hj
  · rintro pre x rest A' B' hx hdj ⟨A0, rfl, h0b, hj⟩
    have hB'b : B' b = none := dj_at hdj (upd_same _ _ _)
    have hdj0 : Dj A0 B' := fun i => by
      by_cases e : i = b
      · subst e; exact .inl h0b
      · have := hdj i
        rwa [upd_other _ _ e] at this
    refine hy _ _ _ (by rw [un_upd, upd_same]) (by simpa using hps x) fun R1 k1 => ?_
    rw [un_upd, ← un_updR (B := B') h0b]
    refine hbody pre x rest A0 (B'.upd b (some (L .ready none))) hx (dj_updR hdj0 h0b) hj R1 fun E1 A1 hd1 k2 => ?_
    have hA1b : A1 b = none := dj_atR hd1 (upd_same _ _ _)
    have hdj1 : Dj A1 B' := fun i => by
      by_cases e : i = b
      · subst e; exact .inl hA1b
      · have := hd1 i
        rwa [upd_other _ _ e] at this
    refine k1 _ rfl (by dsimp only; rw [un_updR hA1b, upd_same]) fun R2 k3 => ?_
    dsimp only
    rw [un_updR hA1b, upd_upd, ← un_updR hA1b]
    refine k2 R2 _ (fun e s hs => k3 e s ?_) (dj_updR hdj1 hA1b)
    have fin : ∀ (st : LoopState) (jc : Option Code) (A2 : AHeap), Dj A2 (B'.upd b (some (L .busy none))) → (Un A2 (B'.upd b (some (L .busy none)))) b = some (L .busy none) ∧ Dj (A2.upd b (some (L st jc))) B' ∧ (Un A2 (B'.upd b (some (L .busy none)))).upd b (some (L st jc)) = Un (A2.upd b (some (L st jc))) B' ∧ A2 b = none := by
      intro st jc A2 h2
      have hA2b : A2 b = none := dj_atR h2 (upd_same _ _ _)
      have hdj2 : Dj A2 B' := fun i => by
        by_cases e : i = b
        · subst e; exact .inl hA2b
        · have := h2 i
          rwa [upd_other _ _ e] at this
      exact ⟨by rw [un_updR hA2b, upd_same], dj_upd hdj2 hB'b, by rw [un_updR hA2b, upd_upd, un_upd], hA2b⟩
    cases e with
    | normal =>
      refine Settle.mono hs ?_
      rintro s ⟨A2, h2, e2, hj2⟩
      obtain ⟨f1, f2, f3, f4⟩ := fin .ready none A2 h2
      exact ⟨by rw [e2]; exact f1, _, f2, by rw [e2]; exact f3, .inl ⟨rfl, A2, rfl, f4, hj2⟩⟩
    | ret =>
      refine Settle.mono hs ?_
      rintro s ⟨A2, h2, e2, hj2⟩
      obtain ⟨f1, f2, f3, f4⟩ := fin .done (some .ret) A2 h2
      exact ⟨by rw [e2]; exact f1, _, f2, by rw [e2]; exact f3, .inr ⟨rfl, A2, _, rfl, f4, hj2⟩⟩
    | exit j =>
      refine Settle.mono hs ?_
      rintro s ⟨A2, h2, e2, hj2⟩
      obtain ⟨f1, f2, f3, f4⟩ := fin .done (some (.exit j)) A2 h2
      exact ⟨by rw [e2]; exact f1, _, f2, by rw [e2]; exact f3, .inr ⟨rfl, A2, _, rfl, f4, hj2⟩⟩
    | goto j => exact hs.elim
    | panic j => exact hs.elim
    | outgrown => exact hs.elim

/-! ### a variable's block that is not written any more -/
theorem Enc.freezeP {c : Ctx} (hok : Ok c) {b L off : Nat} {ty : TypeId} {es : Nat} {cells : List AV} {v : Value} (h : Enc c (.ptr b L off) v) (hH : c.H b = some (.row ty es cells)) (hL : cells.length = L) : Enc (c.drop b) (.cptr (cells.drop off)) v := by
  cases h with
  | ptr _ _ _ _ _ hb hL' hv =>
    obtain rfl := hv _ hH hL
    obtain ⟨arr, g1, g2, g3⟩ := hok.blk b _ hH
    refine .cptr _ (c.μ b) off (fun i => arr.getD (off + i) undef) ?_ (Array.getElem?_eq_some_iff.1 g1).1 (fun i hi => ?_) (fun i hi => ?_)
    · rintro ⟨i, hi, e⟩
      cases hx : (c.drop b).H i with
      | none => have hi' : ABlk.mut ((c.drop b).H i) := hi; rw [hx] at hi'; exact hi'
      | some x =>
        obtain ⟨hne, hci⟩ := c.drop_H b i x hx
        exact hne (hok.inj i b (by rw [hci]; simp) (by rw [hH]; simp) e)
    · have hi' : off + i < cells.length := by simp only [List.length_drop] at hi; omega
      have h6 : off + i < arr.size := by omega
      show World.cell? c.w _ = _
      simp only [World.cell?, g1]
      rw [Array.getD_eq_getD_getElem?]
      simp [h6]
    · have hi' : off + i < cells.length := by simp only [List.length_drop] at hi; omega
      have h6 : off + i < arr.size := by omega
      have := (g3 (off + i) hi' h6).later (c.drop_later b)
      simpa [Array.getD_eq_getD_getElem?, h6] using this
def frzP1 (b : Nat) (cells : List AV) : AV → AV
  | .ptr b' L off => if b' = b ∧ cells.length = L then .cptr (cells.drop off) else .ptr b' L off
  | x => x
def frzP (b : Nat) (cells : List AV) : AV → AV
  | .fn f first caps => .fn f first (caps.map (frzP1 b cells))
  | x => frzP1 b cells x
theorem enc_frzP1 {c : Ctx} (hok : Ok c) {b : Nat} {ty : TypeId} {es : Nat} {cells : List AV} (hH : c.H b = some (.row ty es cells)) (x : AV) (v : Value) (h : Enc c x v) : Enc (c.drop b) (frzP1 b cells x) v := by
  unfold frzP1
  split
  · split
    · rename_i e; obtain ⟨rfl, e⟩ := e; exact Enc.freezeP hok h hH e
    · exact h.later (c.drop_later b)
  · exact h.later (c.drop_later b)
theorem enc_frzP {c : Ctx} (hok : Ok c) {b : Nat} {ty : TypeId} {es : Nat} {cells : List AV} (hH : c.H b = some (.row ty es cells)) (x : AV) (v : Value) (h : Enc c x v) : Enc (c.drop b) (frzP b cells x) v := by
  unfold frzP
  split
  · cases h with
    | fn f first caps fv cv hf hcs h1 h2 => exact .fn _ _ _ _ _ hf (by simpa using hcs) (fun i hi hi' => (h1 i hi hi').later (c.drop_later b)) (Enc.list_map (enc_frzP1 hok hH) h2)
  · exact enc_frzP1 hok hH _ _ h
theorem SetR.frzP {Q : AV → AHeap → Prop} {r : AV} {H : AHeap} (b : Nat) {ty : TypeId} {es : Nat} {cells : List AV} (hb : H b = some (.row ty es cells)) (h : SetR Q (frzP b cells r) (H.upd b none)) : SetR Q r H :=
  SetR.join fun c v hH hok he => ⟨c.drop b, _, rfl, Ctx.drop_ok hok b, c.drop_later b, enc_frzP hok (hH ▸ hb) _ _ he, by show SetR Q _ (c.H.upd b none); rw [hH]; exact h⟩

/-! ### rows that grow, whatever they hold -/
def growC (H0 : AHeap) (ty es n : Nat) (cells : List AV) (x : AV) (H : AHeap) : Prop :=
  (n = 0 ∧ cells = [] ∧ x = .seq 0 [] true ∧ H = H0) ∨ (0 < n ∧ cells.length = n * es ∧ ∃ b, H0 b = none ∧ x = .own b (n * es) 0 n false ∧ H = H0.upd b (some (.row ty es cells)))
theorem growC_nil {H0 : AHeap} {ty es : Nat} : growC H0 ty es 0 [] (.seq 0 [] true) H0 := .inl ⟨rfl, rfl, rfl, rfl⟩
theorem growC_le {H0 H : AHeap} {ty es n : Nat} {cells : List AV} {x : AV} (h : growC H0 ty es n cells x H) : Le H0 H := by
  rcases h with ⟨_, _, _, rfl⟩ | ⟨_, _, b, hb, _, rfl⟩
  · exact Le.refl _
  · exact (Le.refl _).upd hb
theorem growC_old {H0 H : AHeap} {ty es n : Nat} {cells : List AV} {x : AV} (h : growC H0 ty es n cells x H) {p : Nat} {y : ABlk} (hp : H0 p = some y) : H p = some y := growC_le h p y hp
theorem app_C {H0 H : AHeap} {ty es bytes n m : Nat} {cells ys : List AV} {x : AV} {t : Bool} {K : AV → AHeap → Prop} (h : growC H0 ty es n cells x H) (hy : ys.length = m * es) (hc : ys.all AV.cell = true) (hm : 0 < m) (hb : (n + m) * bytes ≤ 70368744177664) (hb2 : n + m ≤ 70368744177664)
    (k : ∀ x' H', growC H0 ty es (n + m) (cells ++ ys) x' H' → K x' H') : appV H ty es bytes x (.seq m ys t) K := by
  refine .inl ⟨hy, hc, ?_⟩
  rcases h with ⟨rfl, rfl, rfl, rfl⟩ | ⟨hn, hl, b, hb', rfl, rfl⟩
  · refine ⟨rfl, by simp, hb, hb2, fun e => absurd e (by omega), fun _ b hb' => ?_⟩
    exact k _ _ (.inr ⟨by omega, by simp [hy], b, hb', rfl, by simp⟩)
  · dsimp only
    rw [upd_same]
    refine ⟨hl, rfl, rfl, rfl, rfl, hb, hb2, ?_⟩
    exact k _ _ (.inr ⟨by omega, by rw [List.length_append, hl, hy, Nat.add_mul], b, hb', rfl, by rw [upd_upd]⟩)
theorem growC_fin {H0 H : AHeap} {ty es n : Nat} {cells : List AV} {x : AV} {Q : AV → AHeap → Prop} (h : growC H0 ty es n cells x H) (hq : Q (.seq n cells false) H0) : SetR Q x H := by
  rcases h with ⟨rfl, rfl, rfl, rfl⟩ | ⟨_, hl, b, hb, rfl, rfl⟩
  · exact SetR.loose (SetR.now hq)
  · refine SetR.frz b (upd_same _ _ _) ?_
    rw [upd_upd, upd_back _ hb]
    have e : frz b es cells (.own b (n * es) 0 n false) = .seq n cells false := by simp [frz, frz2, frz1, hl, List.take_of_length_le]
    rw [e]; exact SetR.now hq
theorem Settle.grownC {K : St → Prop} {D : List Nat} {E : Env} {H0 H : AHeap} {ty es n : Nat} {cells : List AV} {x : AV} (t : Nat) (he : E.get t = x) (h : growC H0 ty es n cells x H) (k : Settle K ⟨D, E.set t (.seq n cells false), H0⟩) : Settle K ⟨D, E, H⟩ := by
  rcases h with ⟨rfl, rfl, rfl, rfl⟩ | ⟨_, hl, b, hb, rfl, rfl⟩
  · refine Settle.loose t ?_
    rw [he]; exact k
  · refine Settle.freeze t he (upd_same _ _ _) (by simp [hl]) (.inr (by simp)) ?_
    rw [upd_upd, upd_back _ hb]
    have e : AV.seq n ((cells.drop 0).take (n * es)) false = .seq n cells false := by simp [hl, List.take_of_length_le]
    rw [e]; exact k

def growB (H0 : AHeap) (p tb ty es n : Nat) (cells : List AV) (H : AHeap) : Prop :=
  H0 p = none ∧ ((n = 0 ∧ cells = [] ∧ H = H0.upd p (some (.row tb 0 [.seq 0 [] true]))) ∨
    (0 < n ∧ cells.length = n * es ∧ ∃ b, Ap b p ∧ H0 b = none ∧ H = (H0.upd b (some (.row ty es cells))).upd p (some (.row tb 0 [.own b (n * es) 0 n false]))))
theorem growB_nil {H0 : AHeap} {p tb ty es : Nat} (hp : H0 p = none) : growB H0 p tb ty es 0 [] (H0.upd p (some (.row tb 0 [.seq 0 [] true]))) := ⟨hp, .inl ⟨rfl, rfl, rfl⟩⟩
theorem growB_app {H0 H : AHeap} {p tb ty es bytes n m : Nat} {cells : List AV} (h : growB H0 p tb ty es n cells H) : ∃ x, H p = some (.row tb 0 [x]) ∧
    ∀ {ys : List AV} {t : Bool} {K : AV → AHeap → Prop}, ys.length = m * es → ys.all AV.cell = true → 0 < m → (n + m) * bytes ≤ 70368744177664 → n + m ≤ 70368744177664 →
      (∀ x' H', H' p = some (.row tb 0 [x]) → AV.cells x' = some [x'] → growB H0 p tb ty es (n + m) (cells ++ ys) (H'.upd p (some (.row tb 0 [x']))) → K x' H') → appV H ty es bytes x (.seq m ys t) K := by
  obtain ⟨hp, h⟩ := h
  rcases h with ⟨rfl, rfl, rfl⟩ | ⟨hn, hl, b, hbp, hb', rfl⟩
  · refine ⟨_, upd_same _ _ _, fun {ys t K} hy hc hm hb hb2 k => .inl ⟨hy, hc, rfl, by simp, hb, hb2, fun e => absurd e (by omega), fun _ b hbn => ?_⟩⟩
    obtain ⟨b1, b2⟩ := upd_none.1 hbn
    refine k _ _ ?_ rfl ⟨hp, .inr ⟨by omega, by simp [hy], b, b1, b2, ?_⟩⟩
    · rw [upd_other _ _ (Ne.symm b1), upd_same]
    · rw [List.nil_append, upd_comm _ _ _ (Ne.symm b1), upd_upd]
  · refine ⟨_, upd_same _ _ _, fun {ys t K} hy hc hm hb hb2 k => .inl ⟨hy, hc, ?_⟩⟩
    dsimp only
    rw [upd_other _ _ hbp, upd_same]
    refine ⟨hl, rfl, rfl, rfl, rfl, hb, hb2, ?_⟩
    refine k _ _ ?_ rfl ⟨hp, .inr ⟨by omega, by rw [List.length_append, hl, hy, Nat.add_mul], b, hbp, hb', ?_⟩⟩
    · rw [upd_other _ _ (Ne.symm hbp), upd_same]
    · rw [upd_comm _ _ _ (Ne.symm hbp), upd_upd, upd_upd]
theorem growB_un {A B : AHeap} {p tb ty es n : Nat} {cells : List AV} (h : growB nilH p tb ty es n cells A) (hd : Dj A B) : growB B p tb ty es n cells (Un A B) := by
  obtain ⟨_, h⟩ := h
  rcases h with ⟨rfl, rfl, rfl⟩ | ⟨hn, hl, b, hbp, hb', rfl⟩
  · exact ⟨dj_at hd (upd_same _ _ _), .inl ⟨rfl, rfl, by rw [un_upd, un_nil]⟩⟩
  · refine ⟨dj_at hd (upd_same _ _ _), .inr ⟨hn, hl, b, hbp, dj_at (b := b) (x := .row ty es cells) hd (by rw [upd_other _ _ hbp, upd_same]), by rw [un_upd, un_upd, un_nil]⟩⟩
theorem growB_nu {B H : AHeap} {p tb ty es n : Nat} {cells : List AV} (h : growB B p tb ty es n cells H) : ∃ A, Dj A B ∧ H = Un A B ∧ growB nilH p tb ty es n cells A := by
  obtain ⟨hp, h⟩ := h
  rcases h with ⟨rfl, rfl, rfl⟩ | ⟨hn, hl, b, hbp, hb', rfl⟩
  · exact ⟨_, dj_upd dj_nil hp, by rw [un_upd, un_nil], growB_nil rfl⟩
  · exact ⟨_, dj_upd (dj_upd dj_nil hb') hp, by rw [un_upd, un_upd, un_nil], rfl, .inr ⟨hn, hl, b, hbp, rfl, rfl⟩⟩
theorem growB_get {H0 H : AHeap} {p tb ty es n : Nat} {cells : List AV} (h : growB H0 p tb ty es n cells H) : ∃ x, H p = some (.row tb 0 [x]) ∧ ((x = .seq 0 [] true ∧ n = 0 ∧ cells = []) ∨ (0 < n ∧ cells.length = n * es ∧ ∃ b, x = .own b (n * es) 0 n false ∧ H b = some (.row ty es cells))) ∧ Le H0 H := by
  obtain ⟨hp, h⟩ := h
  rcases h with ⟨rfl, rfl, rfl⟩ | ⟨hn, hl, b, hbp, hb', rfl⟩
  · exact ⟨_, upd_same _ _ _, .inl ⟨rfl, rfl, rfl⟩, (Le.refl _).upd hp⟩
  · refine ⟨_, upd_same _ _ _, .inr ⟨hn, hl, b, rfl, by rw [upd_other _ _ hbp, upd_same]⟩, ((Le.refl _).upd hb').upd (by rw [upd_other _ _ (Ne.symm hbp)]; exact hp)⟩
end Go.Proofs.YtanchgkiomfhhaaDoor.Fw

/- Fractions: what package ratio's functions answer. -/
namespace Go.Proofs.YtanchgkiomfhhaaDoor.Fw
set_option linter.unusedSimpArgs false
set_option linter.unusedVariables false
open Go Go.Proofs.YtanchgkiomfhhaaDoor.Ma
set_option maxRecDepth 20000

def RawR (a b : Int) : AV := .agg [IntB a, IntD a, IntB b, IntD b]
def RatA (q : QQ) : AV := RawR q.num ((q.den : Int) - 1)
theorem cells_Raw {a b : Int} : (RawR a b).cells = some [IntB a, IntD a, IntB b, IntD b] := id rfl
theorem cells_RatA {q : QQ} : (RatA q).cells = some [IntB q.num, IntD q.num, IntB ((q.den : Int) - 1), IntD ((q.den : Int) - 1)] := id rfl
theorem fold_Raw {a b : Int} : AV.agg [IntB a, IntD a, IntB b, IntD b] = RawR a b := id rfl
theorem fold_RatA {q : QQ} : RawR q.num ((q.den : Int) - 1) = RatA q := id rfl
theorem RawR_0 : AV.agg [.bool false, .seq 0 [] true, .bool false, .seq 0 [] true] = RatA 0 := by simp [RatA, RawR, IntB, IntD, digs_zero, LS, U]
theorem fold_Raw0 {a : Int} : AV.agg [IntB a, IntD a, .bool false, .seq 0 [] true] = RawR a 0 := by simp [RawR, IntB, IntD, digs_zero, LS, U]
theorem cmp10 : decide (((1 : Nat) : Int) = -1) = false := by decide
theorem cmp100 : decide (((1 : Nat) : Int) = ((0 : Nat) : Int)) = false := by decide
theorem cmpm0 : decide ((-1 : Int) = ((0 : Nat) : Int)) = false := by decide

theorem lowest_fn {n : Int} {d k : Nat} (hn : Bd k n) (hd : Bd k (d : Int)) (h0 : 0 < d) (hk : k ≤ 1000000) : PFn Tryd.prog 173 [IntA n, IntA (d : Int)] (RatA (mkRat n d)) := by
  intro H Q hq
  have hg := q_gcd (n := n) h0
  have hbg : Bd k ((Int.gcd n (d : Int) : Nat) : Int) := hd.le (by
    have := Int.gcd_dvd_right n (d : Int)
    have h1 : Int.gcd n (d : Int) ≤ d := Nat.le_of_dvd h0 (by have := Int.ofNat_dvd.1 this; exact this)
    omega)
  have e : RatA (mkRat n d) = RawR (n / ((Int.gcd n (d : Int) : Nat) : Int)) ((d : Int) / ((Int.gcd n (d : Int) : Nat) : Int) - 1) := by
    unfold RatA; rw [mk_num h0, mk_den h0]
  rw [e] at hq
  refine enter173 (by simp) ?_
  simp (disch := first|exact Xe|fail) only [ac173, cells_IntA, ↓Xa,Xb,Xc,↓reduceIte,Nat.reduceLT,Nat.reduceEqDiff,Nat.reduceBEq,Nat.reduceLeDiff,Nat.reduceAdd,Nat.reduceMul]
  refine alloc_i fun p1 hp1 => ?_
  have n1 := hp1
  simp (disch := first|exact Xe|fail) only [cells_IntA, ↓Xa,Xb,Xc,↓reduceIte,Nat.reduceLT,Nat.reduceEqDiff,Nat.reduceBEq,Nat.reduceLeDiff,Nat.reduceAdd,Nat.reduceMul]
  refine alloc_i fun p2 hp2 => ?_
  have n2 := hp2
  simp only [upd_none] at n2
  obtain ⟨_, n2⟩ := n2
  simp (disch := first|exact Xe|fail) only [↓Xa,Xb,Xc,↓reduceIte,Nat.reduceLT,Nat.reduceEqDiff,Nat.reduceBEq,Nat.reduceLeDiff,Nat.reduceAdd,Nat.reduceMul]
  refine alloc_i fun p3 hp3 => ?_
  have n3 := hp3
  simp only [upd_none] at n3
  obtain ⟨_, _, n3⟩ := n3
  simp (disch := first|exact Xe|fail) only [fold_IntA, ↓Xa,Xb,Xc,↓reduceIte,Nat.reduceLT,Nat.reduceEqDiff,Nat.reduceBEq,Nat.reduceLeDiff,Nat.reduceAdd,Nat.reduceMul]
  refine (igcd_fn hn (by omega) hd).call ?_
  generalize ((Int.gcd n (d : Int) : Nat) : Int) = g at *
  simp (disch := first|exact Xe|fail) only [↓Xa,Xb,Xc,↓reduceIte,Nat.reduceLT,Nat.reduceEqDiff,Nat.reduceBEq,Nat.reduceLeDiff,Nat.reduceAdd,Nat.reduceMul]
  refine alloc_i fun p4 hp4 => ?_
  have n4 := hp4
  simp only [upd_none] at n4
  obtain ⟨_, _, _, n4⟩ := n4
  simp (disch := first|exact Xe|fail) only [cells_IntA, fold_IntA, ↓Xa,Xb,Xc,↓reduceIte,Nat.reduceLT,Nat.reduceEqDiff,Nat.reduceBEq,Nat.reduceLeDiff,Nat.reduceAdd,Nat.reduceMul]
  refine (idivmod_fn hn (by omega) hbg (by omega) (by omega)).call ?_
  simp (disch := first|exact Xe|fail) only [cells_IntA, fold_IntA, ↓Xa,Xb,Xc,↓reduceIte,Nat.reduceLT,Nat.reduceEqDiff,Nat.reduceBEq,Nat.reduceLeDiff,Nat.reduceAdd,Nat.reduceMul]
  refine (idivmod_fn hd (by omega) hbg (by omega) (by omega)).call ?_
  simp (disch := first|exact Xe|fail) only [cells_IntA, fold_IntA, ↓Xa,Xb,Xc,↓reduceIte,Nat.reduceLT,Nat.reduceEqDiff,Nat.reduceBEq,Nat.reduceLeDiff,Nat.reduceAdd,Nat.reduceMul]
  refine PFn.dcall (of_fn (n := ((1 : Nat) : Int)) (by omega)) ?_
  simp (disch := first|exact Xe|fail) only [↓Xa,Xb,Xc,↓reduceIte,Nat.reduceLT,Nat.reduceEqDiff,Nat.reduceBEq,Nat.reduceLeDiff,Nat.reduceAdd,Nat.reduceMul]
  refine PFn.dcall (subi_fn (x := (d : Int) / g) hd.ediv (by omega) (Bd.i64 (n := ((1 : Nat) : Int)) (by omega)) (by omega)) ?_
  simp (disch := first|exact Xe|fail) only [cells_IntA, fold_Raw, cells_Raw, rs173, ↓Xa,Xb,Xc,↓reduceIte,Nat.reduceLT,Nat.reduceEqDiff,Nat.reduceBEq,Nat.reduceLeDiff,Nat.reduceAdd,Nat.reduceMul]
  exact SetR.dropTo (((((Le.refl H).updB n1).updB n2).updB n3).updB n4) (SetR.now hq)

def RatE (q : QQ) (e : Nat) : AV := .tup [RatA q, .int .i64 ((e : Nat) : Int)]
theorem rmk_fn {n d : Int} {k : Nat} (hn : Bd k n) (hd : Bd k d) (hk : k ≤ 1000000) : PFn Tryd.prog 126 [IntA n, IntA d] (RatE (_root_.Rat.divInt n d) (if d = 0 then 2 else 0)) := by
  intro H Q hq
  refine enter126 (by simp) ?_
  simp (disch := first|exact Xe|fail) only [ac126, cells_IntA, ↓Xa,Xb,Xc,↓reduceIte,Nat.reduceLT,Nat.reduceEqDiff,Nat.reduceBEq,Nat.reduceLeDiff,Nat.reduceAdd,Nat.reduceMul]
  refine alloc_i fun p1 hp1 => ?_
  have n1 := hp1
  simp (disch := first|exact Xe|fail) only [cells_IntA, ↓Xa,Xb,Xc,↓reduceIte,Nat.reduceLT,Nat.reduceEqDiff,Nat.reduceBEq,Nat.reduceLeDiff,Nat.reduceAdd,Nat.reduceMul]
  refine alloc_i fun p2 hp2 => ?_
  have n2 := hp2
  simp only [upd_none] at n2
  obtain ⟨_, n2⟩ := n2
  simp (disch := first|exact Xe|fail) only [↓Xa,Xb,Xc,↓reduceIte,Nat.reduceLT,Nat.reduceEqDiff,Nat.reduceBEq,Nat.reduceLeDiff,Nat.reduceAdd,Nat.reduceMul]
  refine alloc_i fun p3 hp3 => ?_
  have n3 := hp3
  simp only [upd_none] at n3
  obtain ⟨_, _, n3⟩ := n3
  simp (disch := first|exact Xe|fail) only [fold_IntA, ↓Xa,Xb,Xc,↓reduceIte,Nat.reduceLT,Nat.reduceEqDiff,Nat.reduceBEq,Nat.reduceLeDiff,Nat.reduceAdd,Nat.reduceMul]
  refine (sign_fn hd (by omega)).call ?_
  rcases divInt_cases n d with ⟨e0, e⟩ | ⟨m, h0, rfl, e⟩ | ⟨m, h0, rfl, e⟩
  · have hs : sgnI d = ((0 : Nat) : Int) := by unfold sgnI; rw [if_pos e0]
    simp (disch := first|exact Xe|fail) only [hs, rs126, ↓Xa,Xb,Xc,↓reduceIte,Nat.reduceLT,Nat.reduceEqDiff,Nat.reduceBEq,Nat.reduceLeDiff,Nat.reduceAdd,Nat.reduceMul]
    rw [e, if_pos e0, RatE, ← RawR_0] at hq
    exact SetR.dropTo ((((Le.refl H).updB n1).updB n2).updB n3) (SetR.now hq)
  · have hs : sgnI ((m : Nat) : Int) = ((1 : Nat) : Int) := by unfold sgnI; rw [if_neg (by omega), if_neg (by omega)]
    simp (disch := first|exact Xe|fail) only [hs, eql_int, cmp10, cmp100, cmpm0, cells_IntA, fold_IntA, ↓Xa,Xb,Xc,↓reduceIte,Nat.reduceLT,Nat.reduceEqDiff,Nat.reduceBEq,Nat.reduceLeDiff,Nat.reduceAdd,Nat.reduceMul]
    refine (lowest_fn hn hd h0 hk).call ?_
    simp (disch := first|exact Xe|fail) only [cells_RatA, ↓Xa,Xb,Xc,↓reduceIte,Nat.reduceLT,Nat.reduceEqDiff,Nat.reduceBEq,Nat.reduceLeDiff,Nat.reduceAdd,Nat.reduceMul]
    simp (disch := first|exact Xe|fail) only [fold_Raw, fold_RatA, rs126, ↓Xa,Xb,Xc,↓reduceIte,Nat.reduceLT,Nat.reduceEqDiff,Nat.reduceBEq,Nat.reduceLeDiff,Nat.reduceAdd,Nat.reduceMul]
    rw [e, if_neg (by omega)] at hq
    exact SetR.dropTo ((((Le.refl H).updB n1).updB n2).updB n3) (SetR.now hq)
  · have hs : sgnI (-((m : Nat) : Int)) = -1 := by unfold sgnI; rw [if_neg (by omega), if_pos (by omega)]
    have hd' : Bd k ((m : Nat) : Int) := by have := hd.neg; rwa [Int.neg_neg] at this
    simp (disch := first|exact Xe|fail) only [hs, eql_int, cmp10, cmp100, cmpm0, cells_IntA, fold_IntA, ↓Xa,Xb,Xc,↓reduceIte,Nat.reduceLT,Nat.reduceEqDiff,Nat.reduceBEq,Nat.reduceLeDiff,Nat.reduceAdd,Nat.reduceMul]
    refine PFn.dcall (neg_fn hn (by omega)) ?_
    simp (disch := first|exact Xe|fail) only [fold_IntA, ↓Xa,Xb,Xc,↓reduceIte,Nat.reduceLT,Nat.reduceEqDiff,Nat.reduceBEq,Nat.reduceLeDiff,Nat.reduceAdd,Nat.reduceMul]
    refine (neg_fn hd (by omega)).call ?_
    simp (disch := first|exact Xe|fail) only [Int.neg_neg, cells_IntA, fold_IntA, ↓Xa,Xb,Xc,↓reduceIte,Nat.reduceLT,Nat.reduceEqDiff,Nat.reduceBEq,Nat.reduceLeDiff,Nat.reduceAdd,Nat.reduceMul]
    refine (lowest_fn hn.neg hd' h0 hk).call ?_
    simp (disch := first|exact Xe|fail) only [cells_RatA, ↓Xa,Xb,Xc,↓reduceIte,Nat.reduceLT,Nat.reduceEqDiff,Nat.reduceBEq,Nat.reduceLeDiff,Nat.reduceAdd,Nat.reduceMul]
    simp (disch := first|exact Xe|fail) only [fold_Raw, fold_RatA, rs126, ↓Xa,Xb,Xc,↓reduceIte,Nat.reduceLT,Nat.reduceEqDiff,Nat.reduceBEq,Nat.reduceLeDiff,Nat.reduceAdd,Nat.reduceMul]
    rw [e, if_neg (by omega)] at hq
    exact SetR.dropTo ((((Le.refl H).updB n1).updB n2).updB n3) (SetR.now hq)

theorem rden_fn {q : QQ} {k : Nat} (hb : RB k q) (hk : k ≤ 1000000) : PFn Tryd.prog 125 [RatA q] (IntA (q.den : Int)) := by
  intro H Q hq
  have e : (q.den : Int) = (q.den : Int) - 1 + ((1 : Nat) : Int) := by omega
  rw [e] at hq
  refine enter125 (by simp) ?_
  simp (disch := first|exact Xe|fail) only [ac125, cells_RatA, ↓Xa,Xb,Xc,↓reduceIte,Nat.reduceLT,Nat.reduceEqDiff,Nat.reduceBEq,Nat.reduceLeDiff,Nat.reduceAdd,Nat.reduceMul]
  refine alloc_i fun p1 hp1 => ?_
  have n1 := hp1
  simp (disch := first|exact Xe|fail) only [↓Xa,Xb,Xc,↓reduceIte,Nat.reduceLT,Nat.reduceEqDiff,Nat.reduceBEq,Nat.reduceLeDiff,Nat.reduceAdd,Nat.reduceMul]
  refine alloc_i fun p2 hp2 => ?_
  have n2 := hp2
  simp only [upd_none] at n2
  obtain ⟨_, n2⟩ := n2
  simp (disch := first|exact Xe|fail) only [fold_IntA, ↓Xa,Xb,Xc,↓reduceIte,Nat.reduceLT,Nat.reduceEqDiff,Nat.reduceBEq,Nat.reduceLeDiff,Nat.reduceAdd,Nat.reduceMul]
  refine PFn.dcall (of_fn (n := ((1 : Nat) : Int)) (by omega)) ?_
  simp (disch := first|exact Xe|fail) only [↓Xa,Xb,Xc,↓reduceIte,Nat.reduceLT,Nat.reduceEqDiff,Nat.reduceBEq,Nat.reduceLeDiff,Nat.reduceAdd,Nat.reduceMul]
  refine (addi_fn hb.less (by omega) (Bd.i64 (n := ((1 : Nat) : Int)) (by omega)) (by omega)).call ?_
  simp (disch := first|exact Xe|fail) only [cells_IntA, fold_IntA, rs125, ↓Xa,Xb,Xc,↓reduceIte,Nat.reduceLT,Nat.reduceEqDiff,Nat.reduceBEq,Nat.reduceLeDiff,Nat.reduceAdd,Nat.reduceMul]
  exact SetR.dropTo (((Le.refl H).updB n1).updB n2) (SetR.now hq)

theorem rnum_fn {q : QQ} : PFn Tryd.prog 124 [RatA q] (IntA q.num) := by
  intro H Q hq
  refine enter124 (by simp) ?_
  simp (disch := first|exact Xe|fail) only [ac124, cells_RatA, ↓Xa,Xb,Xc,↓reduceIte,Nat.reduceLT,Nat.reduceEqDiff,Nat.reduceBEq,Nat.reduceLeDiff,Nat.reduceAdd,Nat.reduceMul]
  refine alloc_i fun p1 hp1 => ?_
  have n1 := hp1
  simp (disch := first|exact Xe|fail) only [↓Xa,Xb,Xc,↓reduceIte,Nat.reduceLT,Nat.reduceEqDiff,Nat.reduceBEq,Nat.reduceLeDiff,Nat.reduceAdd,Nat.reduceMul]
  refine alloc_i fun p2 hp2 => ?_
  have n2 := hp2
  simp only [upd_none] at n2
  obtain ⟨_, n2⟩ := n2
  simp (disch := first|exact Xe|fail) only [cells_IntA, fold_IntA, rs124, ↓Xa,Xb,Xc,↓reduceIte,Nat.reduceLT,Nat.reduceEqDiff,Nat.reduceBEq,Nat.reduceLeDiff,Nat.reduceAdd,Nat.reduceMul]
  exact SetR.dropTo (((Le.refl H).updB n1).updB n2) (SetR.now hq)

theorem rwhole_fn {q : QQ} {k : Nat} (hb : RB k q) (hk : k ≤ 1000000) : PFn Tryd.prog 106 [RatA q] (.bool (decide (q.den = 1))) := by
  intro H Q hq
  refine enter106 (by simp) ?_
  simp (disch := first|exact Xe|fail) only [ac106, cells_RatA, ↓Xa,Xb,Xc,↓reduceIte,Nat.reduceLT,Nat.reduceEqDiff,Nat.reduceBEq,Nat.reduceLeDiff,Nat.reduceAdd,Nat.reduceMul]
  refine alloc_i fun p1 hp1 => ?_
  have n1 := hp1
  simp (disch := first|exact Xe|fail) only [fold_IntA, ↓Xa,Xb,Xc,↓reduceIte,Nat.reduceLT,Nat.reduceEqDiff,Nat.reduceBEq,Nat.reduceLeDiff,Nat.reduceAdd,Nat.reduceMul]
  refine (sign_fn hb.less (by omega)).call ?_
  have e : decide ((q.den : Int) - 1 = 0) = decide (q.den = 1) := decide_eq_decide.2 (by omega)
  simp (disch := first|exact Xe|fail) only [sgn_eql0, e, rs106, ↓Xa,Xb,Xc,↓reduceIte,Nat.reduceLT,Nat.reduceEqDiff,Nat.reduceBEq,Nat.reduceLeDiff,Nat.reduceAdd,Nat.reduceMul]
  exact SetR.dropTo ((Le.refl H).updB n1) (SetR.now hq)

theorem rfloor_fn {q : QQ} {k : Nat} (hb : RB k q) (hk : k ≤ 1000000) : PFn Tryd.prog 105 [RatA q] (IntA (q.num / (q.den : Int))) := by
  intro H Q hq
  refine enter105 (by simp) ?_
  simp (disch := first|exact Xe|fail) only [ac105, cells_RatA, ↓Xa,Xb,Xc,↓reduceIte,Nat.reduceLT,Nat.reduceEqDiff,Nat.reduceBEq,Nat.reduceLeDiff,Nat.reduceAdd,Nat.reduceMul]
  refine alloc_i fun p1 hp1 => ?_
  have n1 := hp1
  simp (disch := first|exact Xe|fail) only [↓Xa,Xb,Xc,↓reduceIte,Nat.reduceLT,Nat.reduceEqDiff,Nat.reduceBEq,Nat.reduceLeDiff,Nat.reduceAdd,Nat.reduceMul]
  refine alloc_i fun p2 hp2 => ?_
  have n2 := hp2
  simp only [upd_none] at n2
  obtain ⟨_, n2⟩ := n2
  simp (disch := first|exact Xe|fail) only [fold_IntA, fold_Raw, fold_RatA, ↓Xa,Xb,Xc,↓reduceIte,Nat.reduceLT,Nat.reduceEqDiff,Nat.reduceBEq,Nat.reduceLeDiff,Nat.reduceAdd,Nat.reduceMul]
  refine PFn.dcall (rden_fn hb hk) ?_
  simp (disch := first|exact Xe|fail) only [↓Xa,Xb,Xc,↓reduceIte,Nat.reduceLT,Nat.reduceEqDiff,Nat.reduceBEq,Nat.reduceLeDiff,Nat.reduceAdd,Nat.reduceMul]
  refine PFn.dcall (idivmod_fn hb.1 (by omega) hb.2 (by omega) (by have := q_pos q; omega)) ?_
  simp (disch := first|exact Xe|fail) only [↓Xa,Xb,Xc,↓reduceIte,Nat.reduceLT,Nat.reduceEqDiff,Nat.reduceBEq,Nat.reduceLeDiff,Nat.reduceAdd,Nat.reduceMul]
  refine dalloc_i fun p3 hp3 => ?_
  have n3 := hp3
  simp only [upd_none] at n3
  obtain ⟨_, _, n3⟩ := n3
  simp (disch := first|exact Xe|fail) only [↓Xa,Xb,Xc,↓reduceIte,Nat.reduceLT,Nat.reduceEqDiff,Nat.reduceBEq,Nat.reduceLeDiff,Nat.reduceAdd,Nat.reduceMul]
  refine dalloc_i fun p4 hp4 => ?_
  have n4 := hp4
  simp only [upd_none] at n4
  obtain ⟨_, _, _, n4⟩ := n4
  simp (disch := first|exact Xe|fail) only [cells_IntA, fold_IntA, ↓Xa,Xb,Xc,↓reduceIte,Nat.reduceLT,Nat.reduceEqDiff,Nat.reduceBEq,Nat.reduceLeDiff,Nat.reduceAdd,Nat.reduceMul]
  simp (disch := first|exact Xe|fail) only [cells_IntA, fold_IntA, rs105, ↓Xa,Xb,Xc,↓reduceIte,Nat.reduceLT,Nat.reduceEqDiff,Nat.reduceBEq,Nat.reduceLeDiff,Nat.reduceAdd,Nat.reduceMul]
  exact SetR.dropTo (((((Le.refl H).updB n1).updB n2).updB n3).updB n4) (SetR.now hq)

theorem rwh_fn {z : Int} : PFn Tryd.prog 104 [IntA z] (RatA (z : QQ)) := by
  intro H Q hq
  refine enter104 (by simp) ?_
  simp (disch := first|exact Xe|fail) only [ac104, cells_IntA, ↓Xa,Xb,Xc,↓reduceIte,Nat.reduceLT,Nat.reduceEqDiff,Nat.reduceBEq,Nat.reduceLeDiff,Nat.reduceAdd,Nat.reduceMul]
  refine alloc_i fun p1 hp1 => ?_
  have n1 := hp1
  simp (disch := first|exact Xe|fail) only [↓Xa,Xb,Xc,↓reduceIte,Nat.reduceLT,Nat.reduceEqDiff,Nat.reduceBEq,Nat.reduceLeDiff,Nat.reduceAdd,Nat.reduceMul]
  refine alloc_i fun p2 hp2 => ?_
  have n2 := hp2
  simp only [upd_none] at n2
  obtain ⟨_, n2⟩ := n2
  simp (disch := first|exact Xe|fail) only [fold_IntA, cells_IntA, fold_Raw0, cells_Raw, rs104, ↓Xa,Xb,Xc,↓reduceIte,Nat.reduceLT,Nat.reduceEqDiff,Nat.reduceBEq,Nat.reduceLeDiff,Nat.reduceAdd,Nat.reduceMul]
  exact SetR.dropTo (((Le.refl H).updB n1).updB n2) (SetR.now hq)

theorem radd_fn {p q : QQ} {k k' : Nat} (hp : RB k p) (hq' : RB k' q) (hk : k + k' ≤ 999999) : PFn Tryd.prog 97 [RatA p, RatA q] (RatA (p + q)) := by
  intro H Q hq
  rw [_root_.Rat.add_def'] at hq
  refine enter97 (by simp) ?_
  simp (disch := first|exact Xe|fail) only [ac97, cells_RatA, ↓Xa,Xb,Xc,↓reduceIte,Nat.reduceLT,Nat.reduceEqDiff,Nat.reduceBEq,Nat.reduceLeDiff,Nat.reduceAdd,Nat.reduceMul]
  refine alloc_i fun p1 hp1 => ?_
  have n1 := hp1
  simp (disch := first|exact Xe|fail) only [cells_RatA, ↓Xa,Xb,Xc,↓reduceIte,Nat.reduceLT,Nat.reduceEqDiff,Nat.reduceBEq,Nat.reduceLeDiff,Nat.reduceAdd,Nat.reduceMul]
  refine alloc_i fun p2 hp2 => ?_
  have n2 := hp2
  simp only [upd_none] at n2
  obtain ⟨_, n2⟩ := n2
  simp (disch := first|exact Xe|fail) only [↓Xa,Xb,Xc,↓reduceIte,Nat.reduceLT,Nat.reduceEqDiff,Nat.reduceBEq,Nat.reduceLeDiff,Nat.reduceAdd,Nat.reduceMul]
  refine alloc_i fun p3 hp3 => ?_
  have n3 := hp3
  simp only [upd_none] at n3
  obtain ⟨_, _, n3⟩ := n3
  simp (disch := first|exact Xe|fail) only [fold_Raw, fold_RatA, ↓Xa,Xb,Xc,↓reduceIte,Nat.reduceLT,Nat.reduceEqDiff,Nat.reduceBEq,Nat.reduceLeDiff,Nat.reduceAdd,Nat.reduceMul]
  refine PFn.dcall (rden_fn hp (by omega)) ?_
  simp (disch := first|exact Xe|fail) only [fold_Raw, fold_RatA, ↓Xa,Xb,Xc,↓reduceIte,Nat.reduceLT,Nat.reduceEqDiff,Nat.reduceBEq,Nat.reduceLeDiff,Nat.reduceAdd,Nat.reduceMul]
  refine PFn.dcall (rden_fn hq' (by omega)) ?_
  simp (disch := first|exact Xe|fail) only [↓Xa,Xb,Xc,↓reduceIte,Nat.reduceLT,Nat.reduceEqDiff,Nat.reduceBEq,Nat.reduceLeDiff,Nat.reduceAdd,Nat.reduceMul]
  refine dalloc_i fun p4 hp4 => ?_
  have n4 := hp4
  simp only [upd_none] at n4
  obtain ⟨_, _, _, n4⟩ := n4
  simp (disch := first|exact Xe|fail) only [↓Xa,Xb,Xc,↓reduceIte,Nat.reduceLT,Nat.reduceEqDiff,Nat.reduceBEq,Nat.reduceLeDiff,Nat.reduceAdd,Nat.reduceMul]
  refine dalloc_i fun p5 hp5 => ?_
  have n5 := hp5
  simp only [upd_none] at n5
  obtain ⟨_, _, _, _, n5⟩ := n5
  simp (disch := first|exact Xe|fail) only [cells_IntA, fold_IntA, ↓Xa,Xb,Xc,↓reduceIte,Nat.reduceLT,Nat.reduceEqDiff,Nat.reduceBEq,Nat.reduceLeDiff,Nat.reduceAdd,Nat.reduceMul]
  refine PFn.dcall (muli_fn hp.1 (by omega) hq'.2 (by omega)) ?_
  simp (disch := first|exact Xe|fail) only [cells_IntA, fold_IntA, ↓Xa,Xb,Xc,↓reduceIte,Nat.reduceLT,Nat.reduceEqDiff,Nat.reduceBEq,Nat.reduceLeDiff,Nat.reduceAdd,Nat.reduceMul]
  refine PFn.dcall (muli_fn hq'.1 (by omega) hp.2 (by omega)) ?_
  simp (disch := first|exact Xe|fail) only [↓Xa,Xb,Xc,↓reduceIte,Nat.reduceLT,Nat.reduceEqDiff,Nat.reduceBEq,Nat.reduceLeDiff,Nat.reduceAdd,Nat.reduceMul]
  refine PFn.dcall (addi_fn (hp.1.mul hq'.2) (by omega) (hq'.1.mul hp.2) (by omega)) ?_
  simp (disch := first|exact Xe|fail) only [cells_IntA, fold_IntA, ↓Xa,Xb,Xc,↓reduceIte,Nat.reduceLT,Nat.reduceEqDiff,Nat.reduceBEq,Nat.reduceLeDiff,Nat.reduceAdd,Nat.reduceMul]
  refine (muli_fn hp.2 (by omega) hq'.2 (by omega)).call ?_
  have e : (p.den : Int) * (q.den : Int) = ((p.den * q.den : Nat) : Int) := (Int.natCast_mul _ _).symm
  have b1 : Bd (k + k' + 1) (p.num * (q.den : Int) + q.num * (p.den : Int)) := Bd.add (hp.1.mul hq'.2) (by rw [Nat.add_comm]; exact hq'.1.mul hp.2)
  have b2 : Bd (k + k' + 1) ((p.den * q.den : Nat) : Int) := by rw [← e]; exact (hp.2.mul hq'.2).mono (by omega)
  simp (disch := first|exact Xe|fail) only [e, ↓Xa,Xb,Xc,↓reduceIte,Nat.reduceLT,Nat.reduceEqDiff,Nat.reduceBEq,Nat.reduceLeDiff,Nat.reduceAdd,Nat.reduceMul]
  refine (lowest_fn b1 b2 (Nat.mul_pos p.den_pos q.den_pos) (by omega)).call ?_
  simp (disch := first|exact Xe|fail) only [cells_RatA, fold_Raw, fold_RatA, rs97, ↓Xa,Xb,Xc,↓reduceIte,Nat.reduceLT,Nat.reduceEqDiff,Nat.reduceBEq,Nat.reduceLeDiff,Nat.reduceAdd,Nat.reduceMul]
  exact SetR.dropTo ((((((Le.refl H).updB n1).updB n2).updB n3).updB n4).updB n5) (SetR.now hq)

theorem rover_q {p q : QQ} {k k' : Nat} (hp : RB k p) (hq' : RB k' q) (hk : k + k' ≤ 999999) : PFn Tryd.prog 101 [RatA p, RatA q] (RatE (p / q) (if q = 0 then 2 else 0)) := by
  intro H Q hq
  have ez : ((p.den : Int) * q.num = 0) = (q = 0) := by
    rw [Int.mul_eq_zero, q_num0]
    have := q_pos p
    simp; omega
  rw [← q_over] at hq
  refine enter101 (by simp) ?_
  simp (disch := first|exact Xe|fail) only [ac101, cells_RatA, ↓Xa,Xb,Xc,↓reduceIte,Nat.reduceLT,Nat.reduceEqDiff,Nat.reduceBEq,Nat.reduceLeDiff,Nat.reduceAdd,Nat.reduceMul]
  refine alloc_i fun p1 hp1 => ?_
  have n1 := hp1
  simp (disch := first|exact Xe|fail) only [cells_RatA, ↓Xa,Xb,Xc,↓reduceIte,Nat.reduceLT,Nat.reduceEqDiff,Nat.reduceBEq,Nat.reduceLeDiff,Nat.reduceAdd,Nat.reduceMul]
  refine alloc_i fun p2 hp2 => ?_
  have n2 := hp2
  simp only [upd_none] at n2
  obtain ⟨_, n2⟩ := n2
  simp (disch := first|exact Xe|fail) only [↓Xa,Xb,Xc,↓reduceIte,Nat.reduceLT,Nat.reduceEqDiff,Nat.reduceBEq,Nat.reduceLeDiff,Nat.reduceAdd,Nat.reduceMul]
  refine alloc_i fun p3 hp3 => ?_
  have n3 := hp3
  simp only [upd_none] at n3
  obtain ⟨_, _, n3⟩ := n3
  simp (disch := first|exact Xe|fail) only [fold_IntA, fold_Raw, fold_RatA, ↓Xa,Xb,Xc,↓reduceIte,Nat.reduceLT,Nat.reduceEqDiff,Nat.reduceBEq,Nat.reduceLeDiff,Nat.reduceAdd,Nat.reduceMul]
  refine PFn.dcall (rden_fn hq' (by omega)) ?_
  simp (disch := first|exact Xe|fail) only [↓Xa,Xb,Xc,↓reduceIte,Nat.reduceLT,Nat.reduceEqDiff,Nat.reduceBEq,Nat.reduceLeDiff,Nat.reduceAdd,Nat.reduceMul]
  refine PFn.dcall (muli_fn hp.1 (by omega) hq'.2 (by omega)) ?_
  simp (disch := first|exact Xe|fail) only [fold_Raw, fold_RatA, ↓Xa,Xb,Xc,↓reduceIte,Nat.reduceLT,Nat.reduceEqDiff,Nat.reduceBEq,Nat.reduceLeDiff,Nat.reduceAdd,Nat.reduceMul]
  refine PFn.dcall (rden_fn hp (by omega)) ?_
  simp (disch := first|exact Xe|fail) only [fold_IntA, ↓Xa,Xb,Xc,↓reduceIte,Nat.reduceLT,Nat.reduceEqDiff,Nat.reduceBEq,Nat.reduceLeDiff,Nat.reduceAdd,Nat.reduceMul]
  refine PFn.dcall (muli_fn hp.2 (by omega) hq'.1 (by omega)) ?_
  simp (disch := first|exact Xe|fail) only [↓Xa,Xb,Xc,↓reduceIte,Nat.reduceLT,Nat.reduceEqDiff,Nat.reduceBEq,Nat.reduceLeDiff,Nat.reduceAdd,Nat.reduceMul]
  refine PFn.dcall (rmk_fn (hp.1.mul hq'.2) (hp.2.mul hq'.1) (by omega)) ?_
  simp (disch := first|exact Xe|fail) only [RatE, cells_RatA, fold_Raw, fold_RatA, rs101, ↓Xa,Xb,Xc,↓reduceIte,Nat.reduceLT,Nat.reduceEqDiff,Nat.reduceBEq,Nat.reduceLeDiff,Nat.reduceAdd,Nat.reduceMul]
  simp only [ez]
  exact SetR.dropTo ((((Le.refl H).updB n1).updB n2).updB n3) (SetR.now hq)

end Go.Proofs.YtanchgkiomfhhaaDoor.Fw

/- Decimal digits as bytes; a number's text, nine digits at a time. -/
namespace Go.Proofs.YtanchgkiomfhhaaDoor.Ma
set_option linter.unusedSimpArgs false
set_option linter.unusedVariables false

def chr (d : Nat) : UInt8 := UInt8.ofNat (48 + d)
theorem chr_nat {d : Nat} (h : d < 10) : (chr d).toNat = 48 + d := by unfold chr; rw [UInt8.toNat_ofNat']; omega
def dec (n : Nat) : List UInt8 := (digs 10 n).reverse.map chr
def wide (k n : Nat) : List UInt8 := (pad 10 n k).reverse.map chr
theorem dec_zero : dec 0 = [] := by simp [dec, digs_zero]
theorem wide_len {k n : Nat} (h : n < 10 ^ k) : (wide k n).length = k := by
  simp only [wide, List.length_map, List.length_reverse]
  exact pad_len (digs_len (by omega) k n h)
theorem dec_len {k n : Nat} (h : n < 10 ^ k) : (dec n).length ≤ k := by
  simp only [dec, List.length_map, List.length_reverse]
  exact digs_len (by omega) k n h
theorem last_append {l m : List Nat} (h : m ≠ []) : (l ++ m).getD ((l ++ m).length - 1) 0 = m.getD (m.length - 1) 0 := by
  have : 0 < m.length := List.length_pos_iff.2 h
  rw [List.getD_eq_getElem?_getD, List.getD_eq_getElem?_getD, List.length_append, List.getElem?_append_right (by omega)]
  congr 2; omega
theorem dec_app {k p m : Nat} (hp : p < 10 ^ k) (hm : 0 < m) : dec (p + 10 ^ k * m) = dec m ++ wide k p := by
  have hne : digs 10 m ≠ [] := fun e => by have := (digs_nil (B := 10) (by omega)).1 e; omega
  have hlen := pad_len (digs_len (B := 10) (by omega) k p hp)
  have e : digs 10 (p + 10 ^ k * m) = pad 10 p k ++ digs 10 m := by
    have h1 : Lim 10 (pad 10 p k ++ digs 10 m) := (pad_lim (by omega)).append (lim_digs (by omega) m)
    have h2 := digs_of (B := 10) (by omega) h1 (.inr (by rw [last_append hne]; exact digs_last (by omega) hm))
    rw [h2, val_append, pad_val (by omega), val_digs (by omega), hlen]
  simp only [dec, e, wide, List.reverse_append, List.map_append]
theorem wide_succ {j q : Nat} (h : q < 10 ^ (j + 1)) : wide (j + 1) q = chr (q / 10 ^ j) :: wide j (q % 10 ^ j) := by
  have hp : 0 < 10 ^ j := Nat.pow_pos (by omega)
  have hlt : q % 10 ^ j < 10 ^ j := Nat.mod_lt _ hp
  have hd : q / 10 ^ j < 10 := Nat.div_lt_of_lt_mul (by rw [Nat.pow_succ] at h; omega)
  have hlen := pad_len (digs_len (B := 10) (by omega) j _ hlt)
  have e : pad 10 q (j + 1) = pad 10 (q % 10 ^ j) j ++ [q / 10 ^ j] := by
    have h1 : Lim 10 (pad 10 (q % 10 ^ j) j ++ [q / 10 ^ j]) := (pad_lim (by omega)).append (Lim.one hd)
    have h2 := pad_of (B := 10) (by omega) h1
    rw [val_append, pad_val (by omega), hlen, val_one, List.length_append, hlen, Nat.mod_add_div] at h2
    exact h2.symm
  simp only [wide, e, List.reverse_append, List.map_append, List.reverse_singleton, List.map_cons, List.map_nil, List.singleton_append]
theorem wide_step {j p : Nat} : wide (j + 1) (p % 10 ^ (j + 1)) = chr (p / 10 ^ j % 10) :: wide j (p % 10 ^ j) := by
  have hp : 0 < 10 ^ (j + 1) := Nat.pow_pos (by omega)
  rw [wide_succ (Nat.mod_lt _ hp)]
  have e1 : p % 10 ^ (j + 1) / 10 ^ j = p / 10 ^ j % 10 := by rw [Nat.pow_succ, Nat.mod_mul_right_div_self]
  have e2 : p % 10 ^ (j + 1) % 10 ^ j = p % 10 ^ j := by rw [Nat.pow_succ]; exact Nat.mod_mod_of_dvd _ (Nat.dvd_mul_right _ _)
  rw [e1, e2]
theorem chr_48 {d : Nat} (h : d < 10) : (chr d = 48) ↔ d = 0 := by
  constructor
  · intro e
    have := congrArg UInt8.toNat e
    rw [chr_nat h] at this
    simp at this; omega
  · rintro rfl; rfl
theorem wide_trim {k p : Nat} : (wide k p).dropWhile (· == 48) = dec p := by
  have e : wide k p = List.replicate (k - (digs 10 p).length) 48 ++ dec p := by
    simp only [wide, pad, dec, List.reverse_append, List.map_append, List.reverse_replicate, List.map_replicate]
    rfl
  rw [e]
  have h : ∀ n (l : List UInt8), (List.replicate n 48 ++ l).dropWhile (· == 48) = l.dropWhile (· == 48) := by
    intro n
    induction n with
    | zero => intro l; simp
    | succ n ih => intro l; rw [List.replicate_succ, List.cons_append, List.dropWhile_cons]; simp [ih]
  rw [h]
  rcases Nat.eq_zero_or_pos p with hp | hp
  · subst hp; rw [dec_zero]; rfl
  · have hl := digs_last (B := 10) (by omega) hp
    have hne : digs 10 p ≠ [] := fun e => by have := (digs_nil (B := 10) (by omega)).1 e; omega
    obtain ⟨l, x, hx⟩ : ∃ l x, digs 10 p = l ++ [x] := ⟨_, _, (List.dropLast_concat_getLast hne).symm⟩
    have hx0 : x ≠ 0 := by
      rw [hx, last_append (by simp)] at hl
      simpa using hl
    have hx10 : x < 10 := lim_digs (B := 10) (by omega) p x (by rw [hx]; simp)
    have hd : dec p = chr x :: l.reverse.map chr := by simp [dec, hx]
    rw [hd, List.dropWhile_cons]
    have : (chr x == 48) = false := by
      rw [beq_eq_false_iff_ne]; exact fun h => hx0 ((chr_48 hx10).1 h)
    rw [this]; rfl

/-! ### a number, nine digits at a time -/
theorem digs_drop_pos {B n k : Nat} (hB : 2 ≤ B) (hk : k < (digs B n).length) : 0 < val B ((digs B n).drop k) := by
  have hn : 0 < n := by
    rcases Nat.eq_zero_or_pos n with h | h
    · subst h; rw [digs_zero] at hk; simp at hk
    · exact h
  have hl := digs_last hB hn
  have h1 : Lim B ((digs B n).drop k) := (lim_digs hB n).drop k
  have h2 : ((digs B n).drop k).getD (((digs B n).drop k).length - 1) 0 ≠ 0 := by
    rw [List.length_drop, List.getD_eq_getElem?_getD, List.getElem?_drop, ← List.getD_eq_getElem?_getD]
    have : k + ((digs B n).length - k - 1) = (digs B n).length - 1 := by omega
    rw [this]; exact hl
  have h3 := digs_of hB h1 (.inr h2)
  rcases Nat.eq_zero_or_pos (val B ((digs B n).drop k)) with h | h
  · rw [h, digs_zero] at h3
    have := congrArg List.length h3
    simp at this; omega
  · exact h
def decT (n : Nat) : List UInt8 := if n = 0 then [48] else dec n
theorem dec_pos {n : Nat} (h : 0 < n) : dec n ≠ [] := by
  intro e
  have : (digs 10 n) = [] := by simpa [dec] using e
  have := (digs_nil (B := 10) (by omega)).1 this
  omega
theorem piece_step {n k p : Nat} (hk : k < (digs 1000000000 n).length) (hp : p = (digs 1000000000 n).getD k 0) :
    p < 1000000000 ∧ dec (val 1000000000 ((digs 1000000000 n).drop k)) = dec (val 1000000000 ((digs 1000000000 n).drop (k + 1))) ++ (if k + 1 = (digs 1000000000 n).length then dec p else wide 9 p) := by
  have hlt : p < 1000000000 := hp ▸ (lim_digs (B := 1000000000) (by omega) n).getD (by omega) k
  refine ⟨hlt, ?_⟩
  rw [val_drop 1000000000 hk, ← hp]
  by_cases h : k + 1 = (digs 1000000000 n).length
  · rw [if_pos h, List.drop_of_length_le (by omega)]
    simp [val, dec_zero]
  · rw [if_neg h]
    have := digs_drop_pos (B := 1000000000) (n := n) (k := k + 1) (by omega) (by omega)
    exact dec_app (k := 9) hlt this
end Go.Proofs.YtanchgkiomfhhaaDoor.Ma

/- Slices held equal; strings without noughts ahead; the builder of strings. -/
namespace Go.Proofs.YtanchgkiomfhhaaDoor.Fw
set_option linter.unusedSimpArgs false
set_option linter.unusedVariables false
open Go Go.Proofs.YtanchgkiomfhhaaDoor.Ma
set_option maxRecDepth 20000

end Go.Proofs.YtanchgkiomfhhaaDoor.Fw

/- Strings: as lists of bytes; without noughts ahead; the builder of strings. -/
namespace Go.Proofs.YtanchgkiomfhhaaDoor.Fw
set_option linter.unusedSimpArgs false
set_option linter.unusedVariables false
open Go Go.Proofs.YtanchgkiomfhhaaDoor.Ma
set_option maxRecDepth 20000

def Sx (l : List UInt8) : AV := .str ⟨l.toArray⟩
theorem str_Sx {l : List UInt8} : AV.str ⟨l.toArray⟩ = Sx l := id rfl
theorem size_Sx {l : List UInt8} : (⟨l.toArray⟩ : ByteArray).size = l.length := by simp [ByteArray.size]
section
variable {K : AV → Prop} {K2 : AV → AHeap → Prop} {KD : AV → List Nat → Option (Nat × ABlk) → Prop} {l m : List UInt8} {k k' : IntKind} {H : AHeap}
theorem len_Sx : lenW true (Sx l) K = K (.int .i64 ((l.length : Nat) : Int)) := by simp only [Sx, lenW, size_Sx]
theorem idx_Sx {i : Nat} (h : i < l.length) : idxSW (Sx l) (.int k (i : Int)) K = K (.int .u8 (((l.getD i 0).toNat : Nat) : Int)) := by
  simp [Sx, idxSW, byteAt, size_Sx, h]
theorem extract_Sx {a b : Nat} : (⟨l.toArray⟩ : ByteArray).extract a b = ⟨((l.drop a).take (b - a)).toArray⟩ := by
  apply ByteArray.ext
  rw [ByteArray.data_extract]
  simp [List.extract_toArray]
theorem slc_SxL {a : Nat} (hb : a ≤ l.length) : slcSW (Sx l) (some (.int k (a : Int))) none K = K (Sx (l.drop a)) := by
  have h1 : (0 : Int) ≤ (a : Int) ∧ (a : Int) ≤ ((l.length : Nat) : Int) := by omega
  have e : (l.drop a).take (l.length - a) = l.drop a := List.take_of_length_le (by simp)
  simp [Sx, slcSW, optI, size_Sx, h1, extract_Sx, e]
theorem slc_SxH {b : Nat} (hb : b ≤ l.length) : slcSW (Sx l) none (some (.int k' (b : Int))) K = K (Sx (l.take b)) := by
  have h1 : (0 : Int) ≤ (b : Int) ∧ (b : Int) ≤ ((l.length : Nat) : Int) := by omega
  simp [Sx, slcSW, optI, size_Sx, h1, extract_Sx]
theorem beq_dec {a b : List UInt8} : (a == b) = decide (a = b) := by by_cases h : a = b <;> simp [h]
theorem eql_Sx : binW .eql (Sx l) (Sx m) K = K (.bool (decide (l = m))) := by
  simp only [Sx, binW, binStr, ByteArray.toList_eq, List.toList_toArray, beq_dec]
theorem neq_Sx : binW .neq (Sx l) (Sx m) K = K (.bool (!decide (l = m))) := by
  simp only [Sx, binW, binStr, ByteArray.toList_eq, List.toList_toArray, beq_dec]
theorem add_Sx (h : l.length + m.length ≤ 9223372036854775807) : binW .add (Sx l) (Sx m) K = K (Sx (l ++ m)) := by
  have e : (⟨l.toArray⟩ : ByteArray) ++ ⟨m.toArray⟩ = ⟨(l ++ m).toArray⟩ := by
    apply ByteArray.ext; simp
  have h' : (l.length : Int) + (m.length : Int) ≤ 9223372036854775807 := by omega
  simp [Sx, binW, binStr, size_Sx, e, h']
  intro _; exact h
theorem cells_Sx : (Sx l).cells = some [Sx l] := id rfl
theorem app_S0 {ty : Nat} (h0 : 0 < l.length) (hb : l.length ≤ 70368744177664) (kk : ∀ b, H b = none → K2 (.own b l.length 0 l.length false) (H.upd b (some (.row ty 1 (Bt l))))) : appV H ty 1 1 (.seq 0 [] true) (Sx l) K2 := .inl <| by
  have hal : (Bt l).all AV.cell = true := by
    rw [List.all_eq_true]; intro x hx
    obtain ⟨b, _, rfl⟩ := List.mem_map.1 hx; rfl
  refine ⟨rfl, ?_⟩
  show (bytesA ⟨l.toArray⟩).all AV.cell = true ∧ _
  rw [bytesA_eq, size_Sx]
  refine ⟨hal, rfl, rfl, by omega, by omega, fun e => by omega, fun _ b hb' => ?_⟩
  simpa using kk b hb'
theorem app_S1 {ty b : Nat} {t : Bool} {o : List UInt8} (hH : H b = some (.row ty 1 (Bt o))) (hb : o.length + l.length ≤ 70368744177664) (kk : K2 (.own b (o ++ l).length 0 (o ++ l).length false) (H.upd b (some (.row ty 1 (Bt (o ++ l)))))) : appV H ty 1 1 (.own b o.length 0 o.length t) (Sx l) K2 := .inl <| by
  have hal : (Bt l).all AV.cell = true := by
    rw [List.all_eq_true]; intro x hx
    obtain ⟨b, _, rfl⟩ := List.mem_map.1 hx; rfl
  refine ⟨rfl, ?_⟩
  show (bytesA ⟨l.toArray⟩).all AV.cell = true ∧ _
  rw [bytesA_eq, size_Sx]
  refine ⟨hal, ?_⟩
  dsimp only
  rw [hH]
  refine ⟨Bt_len, rfl, by omega, rfl, rfl, by omega, by omega, ?_⟩
  have e : Bt o ++ Bt l = Bt (o ++ l) := by simp [Bt]
  rw [List.length_append] at kk
  rw [Nat.mul_one, e]
  exact kk
end
theorem trimB_fn {l : List UInt8} {c : UInt8} (hl : l.length < 9223372036854775808) : PFn Tryd.prog 223 [Sx l, .int .u8 ((c.toNat : Nat) : Int)] (Sx (l.dropWhile (· == c))) := by
  intro H Q hq
  refine enter223 (by simp) ?_
  simp (disch := first|exact Xe|fail) only [ac223, ↓Xa,Xb,Xc,↓reduceIte,Nat.reduceLT,Nat.reduceEqDiff,Nat.reduceBEq,Nat.reduceLeDiff,Nat.reduceAdd,Nat.reduceMul]
  refine W_loop (fun m : List UInt8 => ⟨[], [(0, Sx m), (1, .int .u8 ((c.toNat : Nat) : Int))], _⟩) (fun m => m.length ≤ l.length ∧ m.dropWhile (· == c) = l.dropWhile (· == c)) (fun m => m.length) l (Settle.now rfl) ⟨Nat.le_refl _, rfl⟩ ?_
  rintro m ⟨hm, h1⟩
  cases m with
  | nil =>
    simp (disch := first|exact Xe|fail) only [len_Sx, List.length_nil, ↓Xa,Xb,Xc,↓reduceIte,Nat.reduceLT,Nat.reduceEqDiff,Nat.reduceBEq,Nat.reduceLeDiff,Nat.reduceAdd,Nat.reduceMul]
    refine Settle.now ?_
    simp (disch := first|exact Xe|fail) only [rs223, ↓Xa,Xb,Xc,↓reduceIte,Nat.reduceLT,Nat.reduceEqDiff,Nat.reduceBEq,Nat.reduceLeDiff,Nat.reduceAdd,Nat.reduceMul]
    rw [← h1] at hq
    exact SetR.now hq
  | cons x m =>
    have hpos : 0 < m.length + 1 := Nat.succ_pos _
    have e : (x :: m).getD 0 0 = x := rfl
    have hm' : m.length + 1 ≤ l.length := hm
    rw [List.dropWhile_cons] at h1
    by_cases hx : x = c
    · have hb : (x == c) = true := by simp [hx]
      have hx' : x.toNat = c.toNat := by rw [hx]
      rw [if_pos hb] at h1
      simp (disch := first|exact Xe|fail) only [len_Sx, hpos, idx_Sx, e, hx', slc_SxL, List.drop_succ_cons, List.drop_zero, ↓Xa,Xb,Xc,↓reduceIte,Nat.reduceLT,Nat.reduceEqDiff,Nat.reduceBEq,Nat.reduceLeDiff,Nat.reduceAdd,Nat.reduceMul]
      exact Settle.now ⟨m, by simp, ⟨by omega, h1⟩, rfl⟩
    · have hb : ¬ (x == c) = true := by simp [hx]
      have hx' : ¬ x.toNat = c.toNat := fun h => hx (UInt8.toNat_inj.1 h)
      rw [if_neg hb] at h1
      simp (disch := first|exact Xe|fail) only [len_Sx, hpos, idx_Sx, e, hx', ↓Xa,Xb,Xc,↓reduceIte,Nat.reduceLT,Nat.reduceEqDiff,Nat.reduceBEq,Nat.reduceLeDiff,Nat.reduceAdd,Nat.reduceMul]
      refine Settle.now ?_
      simp (disch := first|exact Xe|fail) only [rs223, ↓Xa,Xb,Xc,↓reduceIte,Nat.reduceLT,Nat.reduceEqDiff,Nat.reduceBEq,Nat.reduceLeDiff,Nat.reduceAdd,Nat.reduceMul]
      rw [← h1] at hq
      exact SetR.now hq
theorem trimL_fn {l : List UInt8} {c : UInt8} (hl : l.length < 9223372036854775808) (hc : c.toNat < 128) : PFn Tryd.prog 213 [Sx l, Sx [c]] (Sx (l.dropWhile (· == c))) := by
  intro H Q hq
  refine enter213 (by simp) ?_
  have e : ([c] : List UInt8).getD 0 0 = c := rfl
  have h1 : ([c] = ([] : List UInt8)) = False := by simp
  have h2 : 0 < ([c] : List UInt8).length := by simp
  cases l with
  | nil =>
    simp (disch := first|exact Xe|fail) only [ac213, str_Sx, eql_Sx, rs213, ↓Xa,Xb,Xc,↓reduceIte,Nat.reduceLT,Nat.reduceEqDiff,Nat.reduceBEq,Nat.reduceLeDiff,Nat.reduceAdd,Nat.reduceMul]
    exact SetR.now hq
  | cons x l =>
    have h3 : (x :: l = ([] : List UInt8)) = False := by simp
    simp (disch := first|exact Xe|fail) only [ac213, str_Sx, eql_Sx, h1, h3, len_Sx, idx_Sx, h2, e, hc, ↓Xa,Xb,Xc,↓reduceIte,Nat.reduceLT,Nat.reduceEqDiff,Nat.reduceBEq,Nat.reduceLeDiff,Nat.reduceAdd,Nat.reduceMul]
    refine (trimB_fn hl).call ?_
    simp (disch := first|exact Xe|fail) only [rs213, ↓Xa,Xb,Xc,↓reduceIte,Nat.reduceLT,Nat.reduceEqDiff,Nat.reduceBEq,Nat.reduceLeDiff,Nat.reduceAdd,Nat.reduceMul]
    exact SetR.now hq
end Go.Proofs.YtanchgkiomfhhaaDoor.Fw

/- The builder of strings. -/
namespace Go.Proofs.YtanchgkiomfhhaaDoor.Fw
set_option linter.unusedSimpArgs false
set_option linter.unusedVariables false
open Go Go.Proofs.YtanchgkiomfhhaaDoor.Ma
set_option maxRecDepth 20000

theorem check_new {H : AHeap} {p : Nat} {v : AV} {K : AV → AHeap → Prop} (hH : H p = some (.row 234 0 [.nilP, v])) (k : K (.tup []) (H.upd p (some (.row 234 0 [.ptr p 2 0, v])))) : Run Tryd.prog 215 [.ptr p 2 0] H K := by
  refine enter215 (by simp) ?_
  simp (disch := first|exact Xe|fail) only [ac215, hH, rs215, ↓Xa,Xb,Xc,↓reduceIte,Nat.reduceLT,Nat.reduceEqDiff,Nat.reduceBEq,Nat.reduceLeDiff,Nat.reduceAdd,Nat.reduceMul]
  exact SetR.now k
theorem check_used {H : AHeap} {p : Nat} {v : AV} {K : AV → AHeap → Prop} (hH : H p = some (.row 234 0 [.ptr p 2 0, v])) (k : K (.tup []) H) : Run Tryd.prog 215 [.ptr p 2 0] H K := by
  refine enter215 (by simp) ?_
  simp (disch := first|exact Xe|fail) only [ac215, hH, rs215, ↓Xa,Xb,Xc,↓reduceIte,Nat.reduceLT,Nat.reduceEqDiff,Nat.reduceBEq,Nat.reduceLeDiff,Nat.reduceAdd,Nat.reduceMul]
  exact SetR.now k
def bld (p : Nat) (l : List UInt8) (H0 H : AHeap) : Prop :=
  (l = [] ∧ (H = H0.upd p (some (.row 234 0 [.nilP, .seq 0 [] true])) ∨ H = H0.upd p (some (.row 234 0 [.ptr p 2 0, .seq 0 [] true])))) ∨
  (l ≠ [] ∧ ∃ bb, H0 bb = none ∧ Ap bb p ∧ H = (H0.upd p (some (.row 234 0 [.ptr p 2 0, .own bb l.length 0 l.length false]))).upd bb (some (.row 5 1 (Bt l))))
theorem bld_new {p : Nat} {H : AHeap} : bld p [] H (H.upd p (some (.row 234 0 [.nilP, .seq 0 [] true]))) := .inl ⟨rfl, .inl rfl⟩
theorem bld_upd {p q : Nat} {l : List UInt8} {H0 H : AHeap} {x : ABlk} (h : bld p l H0 H) (hq : H q = none) : Ap q p ∧ H0 q = none ∧ bld p l (H0.upd q (some x)) (H.upd q (some x)) := by
  rcases h with ⟨rfl, rfl | rfl⟩ | ⟨h0, bb, hbb, hap, rfl⟩
  · obtain ⟨a, b⟩ := upd_none.1 hq
    exact ⟨a, b, .inl ⟨rfl, .inl (upd_comm _ _ _ (Ap.symm a))⟩⟩
  · obtain ⟨a, b⟩ := upd_none.1 hq
    exact ⟨a, b, .inl ⟨rfl, .inr (upd_comm _ _ _ (Ap.symm a))⟩⟩
  · obtain ⟨a1, a2, b⟩ : Ap q bb ∧ Ap q p ∧ H0 q = none := by simpa only [upd_none] using hq
    refine ⟨a2, b, .inr ⟨h0, bb, ?_, hap, ?_⟩⟩
    · rw [upd_otherA (Ap.symm a1)]; exact hbb
    · rw [upd_comm _ _ _ (Ap.symm a1), upd_comm (b := p) (b' := q) _ _ _ (Ap.symm a2)]
theorem wstr_run {p : Nat} {l m : List UInt8} {H0 H : AHeap} {K : AV → AHeap → Prop} (hb : bld p l H0 H) (hl : l.length + m.length ≤ 70368744177664) (hm : 0 < m.length)
    (k : ∀ H', bld p (l ++ m) H0 H' → K (.tup [.int .i64 ((m.length : Nat) : Int), .nilI]) H') : Run Tryd.prog 204 [.ptr p 2 0, Sx m] H K := by
  refine enter204 (by simp) ?_
  simp (disch := first|exact Xe|fail) only [ac204, ↓Xa,Xb,Xc,↓reduceIte,Nat.reduceLT,Nat.reduceEqDiff,Nat.reduceBEq,Nat.reduceLeDiff,Nat.reduceAdd,Nat.reduceMul]
  have hne : ∀ {x : List UInt8}, x ++ m ≠ [] := fun {x} e => by have := congrArg List.length e; rw [List.length_append, List.length_nil] at this; omega
  have first : ∀ {M : AHeap}, M = H0.upd p (some (.row 234 0 [.ptr p 2 0, .seq 0 [] true])) → l = [] →
      W Tryd.prog (sndC (sndC ac204)) (retN rs204 K) ⟨[], [(0, .ptr p 2 0), (1, Sx m)], M⟩ := by
    rintro M rfl rfl
    simp (disch := first|exact Xe|fail) only [sndC, ac204, ↓Xa,Xb,Xc,↓reduceIte,Nat.reduceLT,Nat.reduceEqDiff,Nat.reduceBEq,Nat.reduceLeDiff,Nat.reduceAdd,Nat.reduceMul]
    refine app_S0 hm (by simp at hl; omega) fun b hb => ?_
    obtain ⟨a1, a2⟩ := upd_none.1 hb
    simp (disch := first|exact Xe|fail) only [len_Sx, rs204, ↓Xa,Xb,Xc,↓reduceIte,Nat.reduceLT,Nat.reduceEqDiff,Nat.reduceBEq,Nat.reduceLeDiff,Nat.reduceAdd,Nat.reduceMul]
    refine SetR.now (k _ (.inr ⟨by simpa using hne (x := []), b, a2, a1, ?_⟩))
    simp only [List.nil_append]
  rcases hb with ⟨rfl, rfl | rfl⟩ | ⟨h0, bb, hbb, hap, rfl⟩
  · refine run_call (check_new (upd_same _ _ _) ?_)
    have f := first rfl rfl
    simp (disch := first|exact Xe|fail) only [sndC, ac204, ↓Xa,Xb,Xc,↓reduceIte,Nat.reduceLT,Nat.reduceEqDiff,Nat.reduceBEq,Nat.reduceLeDiff,Nat.reduceAdd,Nat.reduceMul] at f
    simp (disch := first|exact Xe|fail) only [↓Xa,Xb,Xc,↓reduceIte,Nat.reduceLT,Nat.reduceEqDiff,Nat.reduceBEq,Nat.reduceLeDiff,Nat.reduceAdd,Nat.reduceMul]
    exact f
  · refine run_call (check_used (upd_same _ _ _) ?_)
    have f := first rfl rfl
    simp (disch := first|exact Xe|fail) only [sndC, ac204, ↓Xa,Xb,Xc,↓reduceIte,Nat.reduceLT,Nat.reduceEqDiff,Nat.reduceBEq,Nat.reduceLeDiff,Nat.reduceAdd,Nat.reduceMul] at f
    simp (disch := first|exact Xe|fail) only [↓Xa,Xb,Xc,↓reduceIte,Nat.reduceLT,Nat.reduceEqDiff,Nat.reduceBEq,Nat.reduceLeDiff,Nat.reduceAdd,Nat.reduceMul]
    exact f
  · refine run_call (check_used (v := .own bb l.length 0 l.length false) (by rw [upd_otherA (Ap.symm hap), upd_same]) ?_)
    simp (disch := first|exact Xe|fail) only [↓Xa,Xb,Xc,↓reduceIte,Nat.reduceLT,Nat.reduceEqDiff,Nat.reduceBEq,Nat.reduceLeDiff,Nat.reduceAdd,Nat.reduceMul]
    refine app_S1 (upd_same _ _ _) hl ?_
    simp (disch := first|exact Xe|fail) only [len_Sx, rs204, ↓Xa,Xb,Xc,↓reduceIte,Nat.reduceLT,Nat.reduceEqDiff,Nat.reduceBEq,Nat.reduceLeDiff,Nat.reduceAdd,Nat.reduceMul]
    refine SetR.now (k _ (.inr ⟨hne, bb, hbb, hap, ?_⟩))
    simp only [List.length_append]
theorem bstr_run {p : Nat} {l : List UInt8} {H0 H : AHeap} {K : AV → AHeap → Prop} (hb : bld p l H0 H) (hp : H0 p = none) (hl : l.length ≤ 70368744177664) (h0 : 0 < l.length) (k : ∀ H', Le H0 H' → K (Sx l) H') : Run Tryd.prog 205 [.ptr p 2 0] H K := by
  refine enter205 (by simp) ?_
  rcases hb with ⟨rfl, _⟩ | ⟨h1, bb, hbb, hap, rfl⟩
  · simp at h0
  · have hbl : (Bt l).length = l.length := Bt_len
    simp (disch := first|exact Xe|fail) only [ac205, h0, rs205, ↓Xa,Xb,Xc,↓reduceIte,Nat.reduceLT,Nat.reduceEqDiff,Nat.reduceBEq,Nat.reduceLeDiff,Nat.reduceAdd,Nat.reduceMul]
    exact SetR.now (k _ (((Le.refl H0).updB hp).updB hbb))
end Go.Proofs.YtanchgkiomfhhaaDoor.Fw

/- A number's decimal text, as package limb writes it. -/
namespace Go.Proofs.YtanchgkiomfhhaaDoor.Fw
set_option linter.unusedSimpArgs false
set_option linter.unusedVariables false
open Go Go.Proofs.YtanchgkiomfhhaaDoor.Ma
set_option maxRecDepth 20000

theorem bld_drop {p q : Nat} {l : List UInt8} {H0 H : AHeap} {x : ABlk} (h : bld p l (H0.upd q (some x)) H) (hqp : Ap q p) (hq : H0 q = none) : ∃ H', bld p l H0 H' ∧ Le H' H := by
  have up : ∀ {M : AHeap} {r : Option ABlk}, M = (H0.upd q (some x)).upd p r → Le (H0.upd p r) M := fun {M r} e => by
    rw [e, upd_comm _ _ _ hqp]
    exact (Le.refl _).updB (by rw [upd_otherA hqp]; exact hq)
  rcases h with ⟨rfl, rfl | rfl⟩ | ⟨h0, bb, hbb, hap, rfl⟩
  · exact ⟨_, .inl ⟨rfl, .inl rfl⟩, up rfl⟩
  · exact ⟨_, .inl ⟨rfl, .inr rfl⟩, up rfl⟩
  · obtain ⟨a1, a2⟩ := upd_none.1 hbb
    refine ⟨_, .inr ⟨h0, bb, a2, hap, rfl⟩, ?_⟩
    rw [upd_comm _ _ _ hqp, upd_comm (b := q) (b' := bb) _ _ _ (Ap.symm a1)]
    exact (Le.refl _).updB (by rw [upd_otherA (Ap.symm a1), upd_otherA hqp]; exact hq)
theorem stP_Bt {H : AHeap} {K2 : AV → AHeap → Prop} {b L off ty es c : Nat} {l : List UInt8} (hL : l.length = L) (h : off < L) (hc : c < 256) : stP H 1 b L off K2 (some [.int .u8 (c : Int)]) (some (.row ty es (Bt l))) = K2 .bot (H.upd b (some (.row ty es (Bt (l.set off (UInt8.ofNat c)))))) := by
  subst hL
  have h1 : off + 1 ≤ l.length := h
  have e : splice (Bt l) off [.int .u8 (c : Int)] = Bt (l.set off (UInt8.ofNat c)) := by
    have e2 : (AV.int .u8 (c : Int)) = .int .u8 (((UInt8.ofNat c).toNat : Nat) : Int) := by
      rw [UInt8.toNat_ofNat', Nat.mod_eq_of_lt hc]
    rw [e2]
    unfold splice Bt
    rw [List.map_set, List.set_eq_take_append_cons_drop]
    simp [h]
  simp [stP, Bt_len, h1, e]
def TxI (p j : Nat) (cells : List UInt8) (x : Nat) : Prop := j ≤ 9 ∧ cells = List.replicate j 0 ++ wide (9 - j) (p % 10 ^ (9 - j)) ∧ x = p / 10 ^ (9 - j)
theorem TxI.len {p j x : Nat} {cells : List UInt8} (h : TxI p j cells x) : cells.length = 9 := by
  obtain ⟨h1, rfl, _⟩ := h
  rw [List.length_append, List.length_replicate, wide_len (Nat.mod_lt _ (Nat.pow_pos (by omega)))]; omega
theorem TxI.step {p j x : Nat} {cells : List UInt8} (h : TxI p (j + 1) cells x) : TxI p j (cells.set j (UInt8.ofNat (48 + x % 10))) (x / 10) := by
  obtain ⟨h1, rfl, rfl⟩ := h
  have e9 : 9 - j = (9 - (j + 1)) + 1 := by omega
  refine ⟨by omega, ?_, ?_⟩
  · rw [e9, wide_step]
    rw [List.replicate_succ', List.append_assoc, List.set_append_right _ _ (by simp)]
    simp [chr]
  · rw [e9, Nat.pow_succ, Nat.div_div_eq_div_mul]

theorem text_fn {l : List Nat} (t : Bool) (hl : Lim 4294967296 l) (hn : l.length ≤ 1099511627776) : PFn Tryd.prog 190 [LS l t] (Sx (decT (val 4294967296 l))) := by
  intro H Q hq
  have hP : (2 : Nat) ≤ 1000000000 := by omega
  refine enter190 (by simp) ?_
  simp (disch := first|exact Xe|fail) only [ac190, str_Sx, ↓Xa,Xb,Xc,↓reduceIte,Nat.reduceLT,Nat.reduceEqDiff,Nat.reduceBEq,Nat.reduceLeDiff,Nat.reduceAdd,Nat.reduceMul]
  refine (norm_fn t (by omega)).call ?_
  rw [tr_digs (by omega) hl]
  have hN : val 4294967296 l < 4294967296 ^ l.length := val_lt hl
  have hp2 : (digs 1000000000 (val 4294967296 l)).length ≤ 2 * l.length := digs_len hP _ _ (Nat.lt_of_lt_of_le hN (by rw [Nat.pow_mul]; exact Nat.pow_le_pow_left (by omega) _))
  have hdl : (dec (val 4294967296 l)).length ≤ 10 * l.length := dec_len (Nat.lt_of_lt_of_le hN (by rw [Nat.pow_mul]; exact Nat.pow_le_pow_left (by omega) _))
  generalize hNe : val 4294967296 l = N at *
  simp (disch := first|exact Xe|fail) only [↓Xa,Xb,Xc,↓reduceIte,Nat.reduceLT,Nat.reduceEqDiff,Nat.reduceBEq,Nat.reduceLeDiff,Nat.reduceAdd,Nat.reduceMul]
  refine W_loop (fun s : List Nat × AV × AHeap × Nat => ⟨[], [(3, s.2.1), (4, LS (digs 4294967296 s.2.2.2) true)], s.2.2.1⟩) (fun s => grow H 172 s.1 s.2.1 s.2.2.1 ∧ digs 1000000000 N = s.1 ++ digs 1000000000 s.2.2.2 ∧ s.2.2.2 ≤ N) (fun s => s.2.2.2)
    ([], .seq 0 [] true, H, N) (Settle.now rfl) ⟨grow_nil, rfl, Nat.le_refl _⟩ ?_
  rintro ⟨done, x, G, n⟩ ⟨hg, he, hle⟩
  dsimp only at hg he hle ⊢
  have hdn : (digs 4294967296 n).length ≤ l.length := digs_len (by omega) _ _ (Nat.lt_of_le_of_lt hle (hNe ▸ hN))
  have hz := digs_len0 (B := 4294967296) (n := n) (by omega)
  by_cases hn0 : n = 0
  · have h1 : (digs 4294967296 n).length = 0 := by rw [hz]; exact hn0
    simp (disch := first|exact Xe|fail) only [h1, ↓Xa,Xb,Xc,↓reduceIte,Nat.reduceLT,Nat.reduceEqDiff,Nat.reduceBEq,Nat.reduceLeDiff,Nat.reduceAdd,Nat.reduceMul]
    refine Settle.grown 3 rfl hg (Settle.now ?_)
    rw [hn0, digs_zero, List.append_nil] at he
    subst he
    have hlim := lim_digs hP N
    have hdig := fun k p => piece_step (n := N) (k := k) (p := p)
    have hv : val 1000000000 (digs 1000000000 N) = N := val_digs hP N
    have hlast := digs_last (B := 1000000000) (n := N) hP
    have hnil := digs_len0 (B := 1000000000) (n := N) hP
    generalize digs 1000000000 N = ps at *
    by_cases hp0 : ps.length = 0
    · rw [hnil] at hp0
      have hL : ps.length = 0 := by rw [hnil]; exact hp0
      simp (disch := first|exact Xe|fail) only [hL, str_Sx, rs190, ↓Xa,Xb,Xc,↓reduceIte,Nat.reduceLT,Nat.reduceEqDiff,Nat.reduceBEq,Nat.reduceLeDiff,Nat.reduceAdd,Nat.reduceMul]
      have e : decT N = [48] := by rw [hp0]; rfl
      rw [e] at hq
      exact SetR.now hq
    · have hN0 : 0 < N := by rcases Nat.eq_zero_or_pos N with h | h
                             · exact absurd (hnil ▸ h) hp0
                             · exact h
      have eT : decT N = dec N := by unfold decT; rw [if_neg (by omega)]
      rw [eT] at hq
      obtain ⟨L, hL⟩ : ∃ L, ps.length = L + 1 := ⟨ps.length - 1, by omega⟩
      have hLp : (0 < L + 1) = True := by simp
      have hL0 : (L + 1 = 0) = False := by simp
      simp (disch := first|exact Xe|fail) only [hL, hL0, ↓Xa,Xb,Xc,↓reduceIte,Nat.reduceLT,Nat.reduceEqDiff,Nat.reduceBEq,Nat.reduceLeDiff,Nat.reduceAdd,Nat.reduceMul]
      refine alloc_i fun p hp => ?_
      simp (disch := first|exact Xe|fail) only [hL, dn_succ, ↓Xa,Xb,Xc,↓reduceIte,Nat.reduceLT,Nat.reduceEqDiff,Nat.reduceBEq,Nat.reduceLeDiff,Nat.reduceAdd,Nat.reduceMul]
      refine W_atH fun M0 hM0 => ?_
      refine W_loop (fun s : Nat × AHeap => ⟨[], [(3, LS ps false), (8, .ptr p 2 0), (9, .int .i64 (dn s.1))], s.2⟩) (fun s => s.1 ≤ ps.length ∧ bld p (dec (val 1000000000 (ps.drop s.1))) H s.2) (fun s => s.1) (L + 1, M0) (Settle.now rfl) ⟨by dsimp only; omega, ?_⟩ ?_
      · dsimp only
        rw [List.drop_of_length_le (by omega), show val 1000000000 [] = 0 from rfl, dec_zero, hM0]
        exact bld_new
      rintro ⟨k, M⟩ ⟨hk, hb⟩
      dsimp only at hk hb ⊢
      cases k with
      | zero =>
        simp (disch := first|exact Xe|fail) only [dn_zero, ↓Xa,Xb,Xc,↓reduceIte,Nat.reduceLT,Nat.reduceEqDiff,Nat.reduceBEq,Nat.reduceLeDiff,Nat.reduceAdd,Nat.reduceMul]
        refine Settle.now ?_
        rw [List.drop_zero, hv] at hb
        simp (disch := first|exact Xe|fail) only [↓Xa,Xb,Xc,↓reduceIte,Nat.reduceLT,Nat.reduceEqDiff,Nat.reduceBEq,Nat.reduceLeDiff,Nat.reduceAdd,Nat.reduceMul]
        have hd0 : 0 < (dec N).length := List.length_pos_iff.2 (dec_pos hN0)
        refine run_call (bstr_run hb hp (by omega) hd0 fun H' hH' => ?_)
        simp (disch := first|exact Xe|fail) only [rs190, ↓Xa,Xb,Xc,↓reduceIte,Nat.reduceLT,Nat.reduceEqDiff,Nat.reduceBEq,Nat.reduceLeDiff,Nat.reduceAdd,Nat.reduceMul]
        exact SetR.dropTo hH' (SetR.now hq)
      | succ k =>
        obtain ⟨hlt, hstep⟩ := hdig k _ (by omega) rfl
        have hlt2 : ps.getD k 0 < 1000000000 := hlt
        simp (disch := first|exact Xe|fail) only [dn_succ, hL, ↓Xa,Xb,Xc,↓reduceIte,Nat.reduceLT,Nat.reduceEqDiff,Nat.reduceBEq,Nat.reduceLeDiff,Nat.reduceAdd,Nat.reduceMul]
        refine alloc_i fun q hq' => ?_
        generalize hpk : ps.getD k 0 = pk at *
        simp (disch := first|exact Xe|fail) only [hpk, dn_succ, hL, ↓Xa,Xb,Xc,↓reduceIte,Nat.reduceLT,Nat.reduceEqDiff,Nat.reduceBEq,Nat.reduceLeDiff,Nat.reduceAdd,Nat.reduceMul]
        refine W_loop (fun s : Nat × List UInt8 × Nat => ⟨[], [(3, LS ps false), (8, .ptr p 2 0), (9, .int .i64 (k : Nat)), (10, .ptr q 9 0), (11, .int .u32 (s.2.2 : Nat)), (12, .int .i64 (dn s.1))], M.upd q (some (.row 248 1 (Bt s.2.1)))⟩)
          (fun s => TxI pk s.1 s.2.1 s.2.2) (fun s => s.1) (9, List.replicate 9 0, pk) (Settle.now rfl) ⟨Nat.le_refl _, by simp [wide, pad, digs_zero, Nat.mod_one], by simp⟩ ?_
        rintro ⟨j, cells, x⟩ hx
        dsimp only at hx ⊢
        have hcl := hx.len
        have hx32 : x < 4294967296 := by
          have := hx.2.2
          have := Nat.div_le_self pk (10 ^ (9 - j))
          omega
        cases j with
        | zero =>
          have ecells : cells = wide 9 pk := by
            rw [hx.2.1]; simp [Nat.mod_eq_of_lt hlt2]
          have htk : (Bt cells).take 9 = Bt cells := List.take_of_length_le (by rw [Bt_len]; omega)
          have hbl : (Bt cells).length = 9 := by rw [Bt_len]; exact hcl
          simp (disch := first|exact Xe|fail) only [dn_zero, ↓Xa,Xb,Xc,↓reduceIte,Nat.reduceLT,Nat.reduceEqDiff,Nat.reduceBEq,Nat.reduceLeDiff,Nat.reduceAdd,Nat.reduceMul]
          refine Settle.now ?_
          simp (disch := first|exact Xe|fail) only [htk, str_Sx, hL, dn_succ, ↓Xa,Xb,Xc,↓reduceIte,Nat.reduceLT,Nat.reduceEqDiff,Nat.reduceBEq,Nat.reduceLeDiff,Nat.reduceAdd,Nat.reduceMul]
          refine ⟨by decide, ?_⟩
          obtain ⟨a1, a2, w0⟩ := bld_upd (x := .row 248 1 (Bt cells)) hb hq'
          have fin : ∀ (m : List UInt8) (M' : AHeap), bld p (dec (val 1000000000 (ps.drop (k + 1))) ++ m) (H.upd q (some (.row 248 1 (Bt cells)))) M' → dec (val 1000000000 (ps.drop k)) = dec (val 1000000000 (ps.drop (k + 1))) ++ m →
              Settle (fun s' => ∃ x' : Nat × AHeap, x'.1 < k + 1 ∧ (x'.1 ≤ L + 1 ∧ bld p (dec (val 1000000000 (ps.drop x'.1))) H x'.2) ∧ s' = ⟨[], [(3, LS ps false), (8, .ptr p 2 0), (9, .int .i64 (dn x'.1))], x'.2⟩) ⟨[], [(3, LS ps false), (8, .ptr p 2 0), (9, .int .i64 (dn k))], M'⟩ := fun m M' hb' e => by
            obtain ⟨M'', h1, h2⟩ := bld_drop hb' a1 a2
            exact Settle.dropTo h2 (Settle.now ⟨(k, M''), Nat.lt_succ_self k, ⟨by dsimp only; omega, by dsimp only; rw [e]; exact h1⟩, rfl⟩)
          have hbd : (dec (val 1000000000 (ps.drop (k + 1)))).length ≤ 9 * ps.length := by
            refine dec_len (Nat.lt_of_lt_of_le (val_lt (hlim.drop (k + 1))) ?_)
            rw [show (1000000000 : Nat) = 10 ^ 9 from rfl, ← Nat.pow_mul]
            exact Nat.pow_le_pow_right (by omega) (Nat.mul_le_mul_left _ (by simp))
          by_cases hkL : k = L
          · rw [if_pos (by omega)] at hstep
            have hpk0 : pk ≠ 0 := by
              have := hlast hN0
              rwa [hL, Nat.add_sub_cancel, ← hkL, hpk] at this
            have hm0 : 0 < (dec pk).length := List.length_pos_iff.2 (dec_pos (by omega))
            have hm9 : (dec pk).length ≤ 9 := dec_len (k := 9) hlt2
            have hd1 : decide (k = L + 1 - 1) = true := by simp [hkL]
            simp (disch := first|exact Xe|fail) only [hd1, ↓Xa,Xb,Xc,↓reduceIte,Nat.reduceLT,Nat.reduceEqDiff,Nat.reduceBEq,Nat.reduceLeDiff,Nat.reduceAdd,Nat.reduceMul]
            refine (trimL_fn (c := 48) (l := cells) (by omega) (by decide)).call ?_
            rw [ecells, wide_trim, ← ecells]
            simp (disch := first|exact Xe|fail) only [↓Xa,Xb,Xc,↓reduceIte,Nat.reduceLT,Nat.reduceEqDiff,Nat.reduceBEq,Nat.reduceLeDiff,Nat.reduceAdd,Nat.reduceMul]
            refine run_call (wstr_run w0 (by omega) hm0 fun M' hM' => ?_)
            simp (disch := first|exact Xe|fail) only [↓Xa,Xb,Xc,↓reduceIte,Nat.reduceLT,Nat.reduceEqDiff,Nat.reduceBEq,Nat.reduceLeDiff,Nat.reduceAdd,Nat.reduceMul]
            exact fin _ _ hM' hstep
          · rw [if_neg (by omega)] at hstep
            rw [← ecells] at hstep
            have hd1 : decide (k = L + 1 - 1) = false := by simp [hkL]
            simp (disch := first|exact Xe|fail) only [hd1, ↓Xa,Xb,Xc,↓reduceIte,Nat.reduceLT,Nat.reduceEqDiff,Nat.reduceBEq,Nat.reduceLeDiff,Nat.reduceAdd,Nat.reduceMul]
            refine run_call (wstr_run w0 (by omega) (by omega) fun M' hM' => ?_)
            simp (disch := first|exact Xe|fail) only [↓Xa,Xb,Xc,↓reduceIte,Nat.reduceLT,Nat.reduceEqDiff,Nat.reduceBEq,Nat.reduceLeDiff,Nat.reduceAdd,Nat.reduceMul]
            exact fin _ _ hM' hstep
        | succ j =>
          have hj : j < 9 := by have := hx.1; omega
          have hbl : (Bt cells).length = 9 := by rw [Bt_len]; exact hcl
          have hd : x % 10 < 10 := Nat.mod_lt _ (by omega)
          simp (disch := first|exact Xe|fail) only [dn_succ, stP_Bt, ↓Xa,Xb,Xc,↓reduceIte,Nat.reduceLT,Nat.reduceEqDiff,Nat.reduceBEq,Nat.reduceLeDiff,Nat.reduceAdd,Nat.reduceMul]
          exact ⟨by omega, by omega, Settle.now ⟨(j, _, x / 10), Nat.lt_succ_self j, hx.step, rfl⟩⟩
  · have h1 : 0 < (digs 4294967296 n).length := by
      have : ¬ (digs 4294967296 n).length = 0 := by rw [hz]; exact hn0
      omega
    simp (disch := first|exact Xe|fail) only [h1, ↓Xa,Xb,Xc,↓reduceIte,Nat.reduceLT,Nat.reduceEqDiff,Nat.reduceBEq,Nat.reduceLeDiff,Nat.reduceAdd,Nat.reduceMul]
    refine (divsmall_fn (d := 1000000000) true (lim_digs (by omega) n) (by omega) (by omega) (by omega)).call ?_
    rw [val_digs (by omega)]
    simp (disch := first|exact Xe|fail) only [↓Xa,Xb,Xc,↓reduceIte,Nat.reduceLT,Nat.reduceEqDiff,Nat.reduceBEq,Nat.reduceLeDiff,Nat.reduceAdd,Nat.reduceMul]
    have hlen := congrArg List.length he
    rw [List.length_append] at hlen
    refine app_grow (m := [n % 1000000000]) hg rfl (by simp) (by simp; omega) fun x' H2 hg2 => ?_
    simp (disch := first|exact Xe|fail) only [↓Xa,Xb,Xc,↓reduceIte,Nat.reduceLT,Nat.reduceEqDiff,Nat.reduceBEq,Nat.reduceLeDiff,Nat.reduceAdd,Nat.reduceMul]
    refine Settle.now ⟨(done ++ [n % 1000000000], x', H2, n / 1000000000), Nat.div_lt_self (by omega) (by omega), ⟨hg2, ?_, Nat.le_trans (Nat.div_le_self _ _) hle⟩, rfl⟩
    dsimp only
    rw [he, digs_pos hP (show 0 < n by omega), List.append_assoc]; rfl
end Go.Proofs.YtanchgkiomfhhaaDoor.Fw

/- The laws' first question: are numbers added, multiplied, divided, told? -/
namespace Go.Proofs.YtanchgkiomfhhaaDoor.Fw
set_option linter.unusedSimpArgs false
set_option linter.unusedVariables false
open Go Go.Proofs.YtanchgkiomfhhaaDoor.Ma
set_option maxRecDepth 20000

end Go.Proofs.YtanchgkiomfhhaaDoor.Fw

/- What package limb computes, in terms of numbers. -/
namespace Go.Proofs.YtanchgkiomfhhaaDoor.Fw
set_option linter.unusedSimpArgs false
set_option linter.unusedVariables false
open Go Go.Proofs.YtanchgkiomfhhaaDoor.Ma
set_option maxRecDepth 20000

structure Nm (l : List Nat) (n k : Nat) : Prop where
  lim : Lim 4294967296 l
  val : val 4294967296 l = n
  len : l.length ≤ k
theorem Nm.lt {l : List Nat} {n k : Nat} (h : Nm l n k) : n < 4294967296 ^ k := by
  rw [← h.val]; exact Nat.lt_of_lt_of_le (val_lt h.lim) (Nat.pow_le_pow_right (by omega) h.len)
theorem Nm.digs {n k : Nat} (h : n < 4294967296 ^ k) : Nm (digs 4294967296 n) n k := ⟨lim_digs (by omega) n, val_digs (by omega) n, digs_len (by omega) k n h⟩
theorem Nm.raw {l : List Nat} {k : Nat} (h : Lim 4294967296 l) (hk : l.length ≤ k) : Nm l (Ma.val 4294967296 l) k := ⟨h, rfl, hk⟩
theorem Nm.mono {l : List Nat} {n k k' : Nat} (h : Nm l n k) (hk : k ≤ k') : Nm l n k' := ⟨h.lim, h.val, Nat.le_trans h.len hk⟩
theorem lt_mul {m n k k' : Nat} (h : m < 4294967296 ^ k) (h' : n < 4294967296 ^ k') : m * n < 4294967296 ^ (k + k') := by
  rw [Nat.pow_add]; exact Nat.mul_lt_mul_of_lt_of_lt h h'
theorem add_n {a b : List Nat} {m n k k' : Nat} (ta tb : Bool) (ha : Nm a m k) (hb : Nm b n k') (hk : k ≤ 1000000) (hk' : k' ≤ 1000000) : PFn Tryd.prog 186 [LS a ta, LS b tb] (LS (Ma.digs 4294967296 (m + n)) true) := by
  have := add_fn ta tb ha.lim hb.lim (Nat.le_trans ha.len (by omega)) (Nat.le_trans hb.len (by omega))
  rwa [ha.val, hb.val] at this
theorem mul_n {a b : List Nat} {m n k k' : Nat} (ta tb : Bool) (ha : Nm a m k) (hb : Nm b n k') (hk : k ≤ 1000000) (hk' : k' ≤ 1000000) : PFn Tryd.prog 171 [LS a ta, LS b tb] (LS (Ma.digs 4294967296 (m * n)) true) := by
  have := mul_fn ta tb ha.lim hb.lim (Nat.le_trans ha.len (by omega)) (Nat.le_trans hb.len (by omega))
  rwa [ha.val, hb.val] at this
end Go.Proofs.YtanchgkiomfhhaaDoor.Fw

/- The law of quotients and remainders of limbs, without the reference, as what its code computes: true. -/
namespace Go.Proofs.YtanchgkiomfhhaaDoor.Fw
set_option linter.unusedSimpArgs false
set_option linter.unusedVariables false
open Go Go.Proofs.YtanchgkiomfhhaaDoor.Ma
set_option maxRecDepth 20000

theorem Nm.one {c : Nat} (h : c < 4294967296) : Nm [c] c 1 := ⟨Lim.one h, val_one _ _, Nat.le_refl _⟩
theorem muls_n {a : List Nat} {m k c : Nat} (ta : Bool) (ha : Nm a m k) (hk : k ≤ 1000000) (hc : c < 4294967296) : PFn Tryd.prog 214 [LS a ta, .int .u32 (c : Nat)] (LS (Ma.digs 4294967296 (m * c)) true) := by
  intro H Q hq
  refine enter214 (by simp) ?_
  simp (disch := first|exact Xe|fail) only [ac214, ↓Xa,Xb,Xc,↓reduceIte,Nat.reduceLT,Nat.reduceEqDiff,Nat.reduceBEq,Nat.reduceLeDiff,Nat.reduceAdd,Nat.reduceMul]
  refine (mul_n (b := [c]) ta true ha (Nm.one hc) hk (by omega)).call ?_
  simp (disch := first|exact Xe|fail) only [rs214, ↓Xa,Xb,Xc,↓reduceIte,Nat.reduceLT,Nat.reduceEqDiff,Nat.reduceBEq,Nat.reduceLeDiff,Nat.reduceAdd,Nat.reduceMul]
  exact SetR.now hq
end Go.Proofs.YtanchgkiomfhhaaDoor.Fw

/- The number of a decimal text, and back. -/
namespace Go.Proofs.YtanchgkiomfhhaaDoor.Ma
set_option linter.unusedSimpArgs false
set_option linter.unusedVariables false

def decF (v : Nat) (l : List UInt8) : Nat := l.foldl (fun v b => 10 * v + (b.toNat - 48)) v
def decV (l : List UInt8) : Nat := decF 0 l
theorem decF_eq : ∀ (l : List UInt8) (v : Nat), decF v l = 10 ^ l.length * v + decV l
  | [], v => by simp [decF, decV]
  | b :: l, v => by
    have h1 := decF_eq l (10 * v + (b.toNat - 48))
    have h2 := decF_eq l (10 * 0 + (b.toNat - 48))
    have e1 : decF v (b :: l) = decF (10 * v + (b.toNat - 48)) l := rfl
    have e2 : decV (b :: l) = decF (10 * 0 + (b.toNat - 48)) l := rfl
    rw [e1, e2, h1, h2, List.length_cons, Nat.pow_succ]
    grind
theorem decV_app (l m : List UInt8) : decV (l ++ m) = 10 ^ m.length * decV l + decV m := by
  have : decV (l ++ m) = decF (decV l) m := by simp only [decV, decF, List.foldl_append]
  rw [this, decF_eq]
theorem decV_one (b : UInt8) : decV [b] = b.toNat - 48 := by simp [decV, decF]
theorem decF_lt : ∀ {l : List UInt8} {v : Nat}, (∀ b, b ∈ l → b.toNat ≤ 57) → decF v l < 10 ^ l.length * (v + 1)
  | [], v, _ => by simp [decF]
  | b :: l, v, h => by
    have h1 := decF_lt (l := l) (v := 10 * v + (b.toNat - 48)) fun x hx => h x (List.mem_cons_of_mem _ hx)
    have h2 := h b List.mem_cons_self
    have e1 : decF v (b :: l) = decF (10 * v + (b.toNat - 48)) l := rfl
    rw [e1]
    refine Nat.lt_of_lt_of_le h1 ?_
    rw [List.length_cons, Nat.pow_succ, Nat.mul_assoc]
    exact Nat.mul_le_mul_left _ (by omega)
theorem decV_lt {l : List UInt8} (h : ∀ b, b ∈ l → b.toNat ≤ 57) : decV l < 10 ^ l.length := by
  have := decF_lt (v := 0) h
  simpa [decV] using this
def isDig (b : UInt8) : Prop := 48 ≤ b.toNat ∧ b.toNat ≤ 57
def Good (l : List UInt8) : Prop := l ≠ [] ∧ (∀ b, b ∈ l → isDig b) ∧ (l.length = 1 ∨ (l.getD 0 0).toNat ≠ 48)
theorem good_decT (n : Nat) : Good (decT n) := by
  unfold decT
  split
  · exact ⟨by simp, by simp [isDig], .inl rfl⟩
  · rename_i h
    have hn : 0 < n := by omega
    refine ⟨dec_pos hn, fun b hb => ?_, .inr ?_⟩
    · unfold dec at hb
      obtain ⟨x, hx, rfl⟩ := List.mem_map.1 hb
      have := lim_digs (B := 10) (by omega) n x (List.mem_reverse.1 hx)
      unfold isDig; rw [chr_nat this]; omega
    · have hl := digs_last (B := 10) (by omega) hn
      have hne : digs 10 n ≠ [] := fun e => by have := (digs_nil (B := 10) (by omega)).1 e; omega
      obtain ⟨l, x, hx⟩ : ∃ l x, digs 10 n = l ++ [x] := ⟨_, _, (List.dropLast_concat_getLast hne).symm⟩
      have hx0 : x ≠ 0 := by
        rw [hx, last_append (by simp)] at hl
        simpa using hl
      have hx10 : x < 10 := lim_digs (B := 10) (by omega) n x (by rw [hx]; simp)
      have : dec n = chr x :: l.reverse.map chr := by simp [dec, hx]
      rw [this]
      show (chr x).toNat ≠ 48
      rw [chr_nat hx10]; omega
def badAt (l : List UInt8) (i : Nat) : Prop := (l.getD i 0).toNat < 48 ∨ 57 < (l.getD i 0).toNat ∨ (0 < i ∧ (l.getD 0 0).toNat = 48)
theorem good_of {l : List UInt8} (h0 : l ≠ []) (h : ∀ i, i < l.length → ¬ badAt l i) : Good l := by
  refine ⟨h0, fun b hb => ?_, ?_⟩
  · obtain ⟨i, hi, rfl⟩ := List.getElem_of_mem hb
    have := h i hi
    unfold badAt at this
    rw [List.getD_eq_getElem?_getD, List.getElem?_eq_getElem hi, Option.getD_some] at this
    unfold isDig; omega
  · by_cases hl : l.length = 1
    · exact .inl hl
    · right
      have hp : 0 < l.length := List.length_pos_iff.2 h0
      have := h 1 (by omega)
      unfold badAt at this; omega
theorem bad_of_good {l : List UInt8} (h : Good l) {i : Nat} (hi : i < l.length) : ¬ badAt l i := by
  obtain ⟨h0, h1, h2⟩ := h
  have := h1 _ (List.getElem_mem hi)
  unfold badAt isDig at *
  rw [List.getD_eq_getElem?_getD, List.getElem?_eq_getElem hi, Option.getD_some]
  omega
end Go.Proofs.YtanchgkiomfhhaaDoor.Ma

/- A text read, as package limb reads it. -/
namespace Go.Proofs.YtanchgkiomfhhaaDoor.Fw
set_option linter.unusedSimpArgs false
set_option linter.unusedVariables false
open Go Go.Proofs.YtanchgkiomfhhaaDoor.Ma
set_option maxRecDepth 20000

def spot (e a : Nat) : AV := .agg [.int .i64 (e : Int), .int .i64 (a : Int)]
theorem cells_i2 {k k' : IntKind} {a b : Int} : (AV.agg [.int k a, .int k' b]).cells = some [.int k a, .int k' b] := id rfl
theorem min_k {a b : Nat} {K : AV → Prop} : maxW false (.int .i64 (a : Int)) (.int .i64 (b : Int)) K ↔ K (.int .i64 ((min a b : Nat) : Int)) := by
  have : (if (b : Int) < (a : Int) then (b : Int) else (a : Int)) = ((min a b : Nat) : Int) := by split <;> omega
  simp only [maxW, true_and, Bool.false_eq_true, if_false, this]
theorem rng_Sx {H : AHeap} {l : List UInt8} {K : AV → AHeap → Prop} : rngW H (Sx l) K = rngS H ⟨l.toArray⟩ K := id rfl
theorem byte_Sx {l : List UInt8} {i : Nat} : byteAt ⟨l.toArray⟩ i = (l.getD i 0).toNat := by simp [byteAt]
theorem nxt_Sl {H : AHeap} {b pos : Nat} {l : List UInt8} {K : AV → AHeap → Prop} (h : pos < l.length) (hb : (l.getD pos 0).toNat < 128) : nxtP H b K (some (.raw (.stringIter ⟨l.toArray⟩ pos))) = K (.tup [.bool true, .int .i64 (pos : Int), .int .i32 (((l.getD pos 0).toNat : Nat) : Int)]) (H.upd b (some (.raw (.stringIter ⟨l.toArray⟩ (pos + 1))))) := by
  rw [nxt_lt (by rw [size_Sx]; exact h) (by rw [byte_Sx]; exact hb), byte_Sx]
theorem nxt_Sg {H : AHeap} {b pos : Nat} {l : List UInt8} {K : AV → AHeap → Prop} (h : l.length ≤ pos) : nxtP H b K (some (.raw (.stringIter ⟨l.toArray⟩ pos))) = K (.tup [.bool false]) H := nxt_ge (by rw [size_Sx]; exact h)
theorem wn_i32 {n : Nat} (h : n < 2147483648) : IntKind.i32.wrap (n : Int) = (n : Int) := by
  unfold IntKind.wrap; simp only [IntKind.bits, IntKind.signed, Bool.true_and, decide_eq_true_eq, ge_iff_le]; split <;> omega
theorem ten_b {n m : Nat} (h : 4 * n ≤ 32 * m) : 10 ^ n ≤ 4294967296 ^ m := by
  have h1 : 10 ^ n ≤ 16 ^ n := Nat.pow_le_pow_left (by omega) n
  have h2 : (16 : Nat) ^ n = 2 ^ (4 * n) := by rw [Nat.pow_mul]
  have h3 : (4294967296 : Nat) ^ m = 2 ^ (32 * m) := by rw [Nat.pow_mul]
  rw [h3]
  exact Nat.le_trans h1 (by rw [h2]; exact Nat.pow_le_pow_right (by omega) h)
theorem ten_bound {n : Nat} (h : n ≤ 65536) : 10 ^ n ≤ 4294967296 ^ 8192 := ten_b (m := 8192) (by omega)
def ReadR (l : List UInt8) (r : AV) : Prop :=
  (65536 < l.length ∧ r = .tup [LS [] true, spot 3 65536]) ∨ (l = [] ∧ r = .tup [LS [] true, spot 6 0]) ∨
  (l.length ≤ 65536 ∧ ∃ i, i < l.length ∧ badAt l i ∧ (∀ j, j < i → ¬ badAt l j) ∧ r = .tup [LS [] true, spot 6 i]) ∨
  (l.length ≤ 65536 ∧ Good l ∧ r = .tup [LS (Ma.digs 4294967296 (decV l)) true, spot 0 0])
theorem readR_fn {l : List UInt8} {r r' : AV} (h : ReadR l r) (h' : ReadR l r') : r = r' := by
  have nb : ∀ {i}, Good l → i < l.length → badAt l i → False := fun g hi hb => bad_of_good g hi hb
  have ne : Good l → l = [] → False := fun g e => g.1 e
  rcases h with ⟨a, rfl⟩ | ⟨a, rfl⟩ | ⟨a, i, b, c, d, rfl⟩ | ⟨a, b, rfl⟩ <;> rcases h' with ⟨a', rfl⟩ | ⟨a', rfl⟩ | ⟨a', i', b', c', d', rfl⟩ | ⟨a', b', rfl⟩ <;>
    first
    | rfl
    | (exfalso; omega)
    | (subst a; simp at a'; done)
    | (subst a'; simp at a; done)
    | (subst a; simp at b'; done)
    | (subst a'; simp at b; done)
    | exact (ne ‹_› ‹_›).elim
    | exact (nb ‹_› ‹_› ‹_›).elim
    | (have : i = i' := by
        rcases Nat.lt_trichotomy i i' with h | h | h
        · exact absurd c (d' i h)
        · exact h
        · exact absurd c' (d i' h)
       rw [this])
theorem read_fn {l : List UInt8} {r : AV} (hr : ReadR l r) (hsz : l.length < 9223372036854775808) : PFn Tryd.prog 202 [Sx l] r := by
  intro H Q hq
  have out : ∀ {r'}, ReadR l r' → Q r' H := fun h => by rw [readR_fn h hr]; exact hq
  refine enter202 (by simp) ?_
  simp (disch := first|exact Xe|fail) only [ac202, ↓Xa,Xb,Xc,↓reduceIte,Nat.reduceLT,Nat.reduceEqDiff,Nat.reduceBEq,Nat.reduceLeDiff,Nat.reduceAdd,Nat.reduceMul]
  refine alloc_i fun p1 hp1 => ?_
  have n1 := hp1
  have fin : ∀ {r' : AV} {x : Option ABlk}, ReadR l r' → SetR Q r' (H.upd p1 x) := fun h => SetR.dropTo ((Le.refl H).updB n1) (SetR.now (out h))
  by_cases h1 : 65536 < l.length
  · simp (disch := first|exact Xe|fail) only [len_Sx, h1, cells_i2, rs202, ↓Xa,Xb,Xc,↓reduceIte,Nat.reduceLT,Nat.reduceEqDiff,Nat.reduceBEq,Nat.reduceLeDiff,Nat.reduceAdd,Nat.reduceMul]
    exact fin (.inl ⟨h1, rfl⟩)
  by_cases h2 : l = []
  · simp (disch := first|exact Xe|fail) only [len_Sx, str_Sx, eql_Sx, h2, rs202, List.length_nil, ↓Xa,Xb,Xc,↓reduceIte,Nat.reduceLT,Nat.reduceEqDiff,Nat.reduceBEq,Nat.reduceLeDiff,Nat.reduceAdd,Nat.reduceMul]
    exact fin (.inr (.inl ⟨h2, rfl⟩))
  have hpos : 0 < l.length := List.length_pos_iff.2 h2
  simp (disch := first|exact Xe|fail) only [len_Sx, str_Sx, eql_Sx, h1, h2, ↓Xa,Xb,Xc,↓reduceIte,Nat.reduceLT,Nat.reduceEqDiff,Nat.reduceBEq,Nat.reduceLeDiff,Nat.reduceAdd,Nat.reduceMul]
  refine W_loop (fun i : Nat => ⟨[], [(0, Sx l), (3, .ptr p1 2 0), (19, .int .i64 (l.length : Nat)), (20, .int .i64 (i : Nat))], H.upd p1 (some (.row 105 0 [.int .i64 ((0 : Nat) : Int), .int .i64 ((0 : Nat) : Int)]))⟩) (fun i => i ≤ l.length ∧ ∀ j, j < i → ¬ badAt l j) (fun i => l.length - i) 0 (Settle.now rfl) ⟨by simp, fun j h => by omega⟩ ?_
  rintro i ⟨hi1, hi2⟩
  by_cases hi : i < l.length
  · have bad : badAt l i → SetR Q (.tup [LS [] true, spot 6 i]) (H.upd p1 (some (.row 105 0 [.int .i64 ((6 : Nat) : Int), .int .i64 (i : Int)]))) := fun hb => fin (.inr (.inr (.inl ⟨by omega, i, hi, hb, hi2, rfl⟩)))
    have step : ¬ badAt l i → ∀ j, j < i + 1 → ¬ badAt l j := fun hb j hj => by
      by_cases e : j = i
      · rw [e]; exact hb
      · exact hi2 j (by omega)
    by_cases c1 : (l.getD i 0).toNat < 48
    · simp (disch := first|exact Xe|fail) only [hi, idx_Sx, c1, cells_i2, rs202, ↓Xa,Xb,Xc,↓reduceIte,Nat.reduceLT,Nat.reduceEqDiff,Nat.reduceBEq,Nat.reduceLeDiff,Nat.reduceAdd,Nat.reduceMul]
      exact bad (.inl c1)
    by_cases c2 : 57 < (l.getD i 0).toNat
    · simp (disch := first|exact Xe|fail) only [hi, idx_Sx, c1, c2, cells_i2, rs202, ↓Xa,Xb,Xc,↓reduceIte,Nat.reduceLT,Nat.reduceEqDiff,Nat.reduceBEq,Nat.reduceLeDiff,Nat.reduceAdd,Nat.reduceMul]
      exact bad (.inr (.inl c2))
    by_cases c3 : 0 < i
    · by_cases c4 : (l.getD 0 0).toNat = 48
      · simp (disch := first|exact Xe|fail) only [hi, idx_Sx, c1, c2, c3, c4, cells_i2, rs202, ↓Xa,Xb,Xc,↓reduceIte,Nat.reduceLT,Nat.reduceEqDiff,Nat.reduceBEq,Nat.reduceLeDiff,Nat.reduceAdd,Nat.reduceMul]
        exact bad (.inr (.inr ⟨c3, c4⟩))
      · simp (disch := first|exact Xe|fail) only [hi, idx_Sx, c1, c2, c3, c4, ↓Xa,Xb,Xc,↓reduceIte,Nat.reduceLT,Nat.reduceEqDiff,Nat.reduceBEq,Nat.reduceLeDiff,Nat.reduceAdd,Nat.reduceMul]
        exact Settle.now ⟨i + 1, by omega, ⟨by omega, step (by unfold badAt; omega)⟩, rfl⟩
    · simp (disch := first|exact Xe|fail) only [hi, idx_Sx, c1, c2, c3, ↓Xa,Xb,Xc,↓reduceIte,Nat.reduceLT,Nat.reduceEqDiff,Nat.reduceBEq,Nat.reduceLeDiff,Nat.reduceAdd,Nat.reduceMul]
      exact Settle.now ⟨i + 1, by omega, ⟨by omega, step (by unfold badAt; omega)⟩, rfl⟩
  · have hg : Good l := good_of h2 fun j hj => hi2 j (by omega)
    simp (disch := first|exact Xe|fail) only [hi, ↓Xa,Xb,Xc,↓reduceIte,Nat.reduceLT,Nat.reduceEqDiff,Nat.reduceBEq,Nat.reduceLeDiff,Nat.reduceAdd,Nat.reduceMul]
    refine Settle.now ?_
    simp (disch := first|exact Xe|fail) only [↓Xa,Xb,Xc,↓reduceIte,Nat.reduceLT,Nat.reduceEqDiff,Nat.reduceBEq,Nat.reduceLeDiff,Nat.reduceAdd,Nat.reduceMul]
    have hdig : ∀ b, b ∈ l → b.toNat ≤ 57 := fun b hb => (hg.2.1 b hb).2
    refine W_loop (fun s : List UInt8 × Nat => ⟨[], [(0, Sx s.1), (3, .ptr p1 2 0), (5, LS (Ma.digs 4294967296 s.2) true)], H.upd p1 (some (.row 105 0 [.int .i64 ((0 : Nat) : Int), .int .i64 ((0 : Nat) : Int)]))⟩) (fun s => ∃ d, l = d ++ s.1 ∧ s.2 = decV d) (fun s => s.1.length) (l, 0) (Settle.now (by rw [digs_zero]; rfl)) ⟨[], by simp, rfl⟩ ?_
    rintro ⟨m, v⟩ ⟨d, hd1, hd2⟩
    dsimp only at hd1 hd2 ⊢
    have hlen : l.length = d.length + m.length := by rw [hd1, List.length_append]
    cases m with
    | nil =>
      rw [List.append_nil] at hd1
      simp (disch := first|exact Xe|fail) only [len_Sx, List.length_nil, ↓Xa,Xb,Xc,↓reduceIte,Nat.reduceLT,Nat.reduceEqDiff,Nat.reduceBEq,Nat.reduceLeDiff,Nat.reduceAdd,Nat.reduceMul]
      refine Settle.now ?_
      simp (disch := first|exact Xe|fail) only [cells_i2, rs202, ↓Xa,Xb,Xc,↓reduceIte,Nat.reduceLT,Nat.reduceEqDiff,Nat.reduceBEq,Nat.reduceLeDiff,Nat.reduceAdd,Nat.reduceMul]
      rw [hd2, ← hd1]
      exact fin (.inr (.inr (.inr ⟨by omega, hg, rfl⟩)))
    | cons x m =>
      generalize hm : x :: m = y at *
      have hy0 : 0 < y.length := by rw [← hm]; simp
      simp (disch := first|exact Xe|fail) only [len_Sx, hy0, min_k, slc_SxH, rng_Sx, ↓Xa,Xb,Xc,↓reduceIte,Nat.reduceLT,Nat.reduceEqDiff,Nat.reduceBEq,Nat.reduceLeDiff,Nat.reduceAdd,Nat.reduceMul]
      refine rng_i fun q hq' => ?_
      obtain ⟨a1, a2⟩ := upd_none.1 hq'
      obtain ⟨n, hn⟩ : ∃ n, n = min y.length 9 := ⟨_, rfl⟩
      rw [← hn]
      obtain ⟨z, hz⟩ : ∃ z, z = y.take n := ⟨_, rfl⟩
      rw [← hz]
      have hzl : z.length = n := by rw [hz, List.length_take]; omega
      have hzd : ∀ b, b ∈ z → isDig b := fun b hb => hg.2.1 b (by rw [hd1]; exact List.mem_append_right _ (List.mem_of_mem_take (hz ▸ hb)))
      have p9 : ∀ k, k ≤ 9 → 10 ^ k ≤ 1000000000 := fun k hk => Nat.le_trans (Nat.pow_le_pow_right (by omega) hk) (by decide)
      simp (disch := first|exact Xe|fail) only [↓Xa,Xb,Xc,↓reduceIte,Nat.reduceLT,Nat.reduceEqDiff,Nat.reduceBEq,Nat.reduceLeDiff,Nat.reduceAdd,Nat.reduceMul]
      refine W_loop (fun s : Nat => ⟨[], [(0, Sx y), (3, .ptr p1 2 0), (5, LS (Ma.digs 4294967296 v) true), (6, .int .i64 (n : Nat)), (7, .int .u32 ((decV (z.take s) : Nat) : Int)), (8, .int .u32 ((10 ^ s : Nat) : Int)), (54, .ptr q 0 0)],
        (H.upd p1 (some (.row 105 0 [.int .i64 ((0 : Nat) : Int), .int .i64 ((0 : Nat) : Int)]))).upd q (some (.raw (.stringIter ⟨z.toArray⟩ s)))⟩) (fun s => s ≤ n) (fun s => n - s) 0 (Settle.now rfl) (Nat.zero_le _) ?_
      intro i hin
      have hzt : ∀ k, ∀ b, b ∈ z.take k → b.toNat ≤ 57 := fun k b hb => (hzd b (List.mem_of_mem_take hb)).2
      have hvt : decV (z.take i) < 10 ^ i := by
        have := decV_lt (hzt i)
        rwa [List.length_take, Nat.min_eq_left (by omega)] at this
      by_cases hi2 : i < n
      · have hzi : i < z.length := by omega
        have hdg := hzd _ (List.getElem_mem hzi)
        have eg : z.getD i 0 = z[i] := by rw [List.getD_eq_getElem?_getD, List.getElem?_eq_getElem hzi, Option.getD_some]
        rw [← eg] at hdg
        unfold isDig at hdg
        have h128 : (z.getD i 0).toNat < 128 := by omega
        have h10 := p9 i (by omega)
        have h11 := p9 (i + 1) (by omega)
        have hsucc : decV (z.take (i + 1)) = 10 * decV (z.take i) + ((z.getD i 0).toNat - 48) := by
          have : z.take (i + 1) = z.take i ++ [z.getD i 0] := by
            rw [List.take_add_one, List.getElem?_eq_getElem hzi, eg]; rfl
          rw [this, decV_app, decV_one]; simp
        rw [Nat.pow_succ] at h11
        simp (disch := first|exact Xe|fail) only [nxt_Sl, wn_i32, ↓Xa,Xb,Xc,↓reduceIte,Nat.reduceLT,Nat.reduceEqDiff,Nat.reduceBEq,Nat.reduceLeDiff,Nat.reduceAdd,Nat.reduceMul]
        refine Settle.now ⟨i + 1, by omega, by omega, ?_⟩
        rw [hsucc, Nat.pow_succ]
        done
      · obtain rfl : i = n := by omega
        rw [List.take_of_length_le (by omega)] at hvt ⊢
        have hge : z.length ≤ i := by omega
        simp (disch := first|exact Xe|fail) only [nxt_Sg, ↓Xa,Xb,Xc,↓reduceIte,Nat.reduceLT,Nat.reduceEqDiff,Nat.reduceBEq,Nat.reduceLeDiff,Nat.reduceAdd,Nat.reduceMul]
        refine Settle.now ?_
        simp (disch := first|exact Xe|fail) only [↓Xa,Xb,Xc,↓reduceIte,Nat.reduceLT,Nat.reduceEqDiff,Nat.reduceBEq,Nat.reduceLeDiff,Nat.reduceAdd,Nat.reduceMul]
        have hv : v < 4294967296 ^ 8192 := by
          rw [hd2]
          refine Nat.lt_of_lt_of_le (decV_lt fun b hb => hdig b (by rw [hd1]; exact List.mem_append_left _ hb)) ?_
          exact ten_bound (by omega)
        have h10 := p9 i (by omega)
        refine (muls_n true (Nm.digs hv) (by omega) (by omega)).call ?_
        simp (disch := first|exact Xe|fail) only [↓Xa,Xb,Xc,↓reduceIte,Nat.reduceLT,Nat.reduceEqDiff,Nat.reduceBEq,Nat.reduceLeDiff,Nat.reduceAdd,Nat.reduceMul]
        refine (add_n (b := [decV z]) true true (Nm.digs (lt_mul hv (show 10 ^ i < 4294967296 ^ 1 by omega))) (Nm.one (by omega)) (by omega) (by omega)).call ?_
        simp (disch := first|exact Xe|fail) only [slc_SxL, ↓Xa,Xb,Xc,↓reduceIte,Nat.reduceLT,Nat.reduceEqDiff,Nat.reduceBEq,Nat.reduceLeDiff,Nat.reduceAdd,Nat.reduceMul]
        refine Settle.dropTo ((Le.refl _).updB hq') (Settle.now ⟨(y.drop i, v * 10 ^ i + decV z), ?_, ⟨d ++ z, ?_, ?_⟩, rfl⟩)
        · dsimp only; rw [List.length_drop]; omega
        · dsimp only; rw [hd1, hz, List.append_assoc, List.take_append_drop]
        · dsimp only; rw [hd2, decV_app, hzl]; grind
end Go.Proofs.YtanchgkiomfhhaaDoor.Fw

/- A number's digits gone over, as package limb tells them. -/
namespace Go.Proofs.YtanchgkiomfhhaaDoor.Fw
set_option linter.unusedSimpArgs false
set_option linter.unusedVariables false
open Go Go.Proofs.YtanchgkiomfhhaaDoor.Ma
set_option maxRecDepth 20000

theorem cW_y {P : Program} {b : Nat} {args : List AV} {H : AHeap} {K : AV → AHeap → Prop} : callW P (.yld b) args H K = YieldW P b args H K := id rfl
theorem load_cS {H : AHeap} {l : List UInt8} {K : AV → Prop} : loadW H none (.cptr [Sx l]) K = K (Sx l) := by simp [loadW, cellsAt, Sx]
theorem digits1_iter {l : List UInt8} (hg : ∀ b, b ∈ l → isDig b) (hl : l.length < 4611686018427387904) : IterW Tryd.prog 191 [.cptr [Sx l]] (fun d : Nat => [.int .i64 (d : Int)]) (l.map fun b => b.toNat - 48) := by
  intro b J Jx hy A B hd h0
  refine enter191 (by simp) ?_
  simp (disch := first|exact Xe|fail) only [ac191, rng_Sx, load_cS, ↓Xa,Xb,Xc,↓reduceIte,Nat.reduceLT,Nat.reduceEqDiff,Nat.reduceBEq,Nat.reduceLeDiff,Nat.reduceAdd,Nat.reduceMul]
  refine rng_i fun q hq => ?_
  obtain ⟨qa, qb⟩ := un_none.1 hq
  simp (disch := first|exact Xe|fail) only [↓Xa,Xb,Xc,↓reduceIte,Nat.reduceLT,Nat.reduceEqDiff,Nat.reduceBEq,Nat.reduceLeDiff,Nat.reduceAdd,Nat.reduceMul]
  refine W_loop (fun s : Nat × AHeap => ⟨[], [(0, .yld b), (6, .ptr q 0 0)], (Un s.2 B).upd q (some (.raw (.stringIter ⟨l.toArray⟩ s.1)))⟩) (fun s => s.1 ≤ l.length ∧ Dj s.2 B ∧ s.2 q = none ∧ J ((l.map fun b => b.toNat - 48).take s.1) s.2) (fun s => l.length - s.1) (0, A) (Settle.now rfl) ⟨Nat.zero_le _, hd, qa, by simpa using h0⟩ ?_
  rintro ⟨i, A1⟩ ⟨hi, hd1, hq1, hj⟩
  dsimp only at hi hd1 hq1 hj ⊢
  by_cases h : i < l.length
  · have hdg := hg _ (List.getElem_mem h)
    have eg : l.getD i 0 = l[i] := by rw [List.getD_eq_getElem?_getD, List.getElem?_eq_getElem h, Option.getD_some]
    rw [← eg] at hdg
    unfold isDig at hdg
    have h128 : (l.getD i 0).toNat < 128 := by omega
    have hx : (l.map fun b => b.toNat - 48) = (l.map fun b => b.toNat - 48).take i ++ ((l.getD i 0).toNat - 48) :: (l.map fun b => b.toNat - 48).drop (i + 1) := by
      conv => lhs; rw [← List.take_append_drop i (l.map fun b => b.toNat - 48)]
      rw [List.drop_eq_getElem_cons (by simpa using h), List.getElem_map, eg]
    have hx2 : (l.map fun b => b.toNat - 48).take (i + 1) = (l.map fun b => b.toNat - 48).take i ++ [(l.getD i 0).toNat - 48] := by
      rw [List.take_add_one, List.getElem?_map, List.getElem?_eq_getElem h, eg]; rfl
    simp (disch := first|exact Xe|fail) only [nxt_Sl, wn_i32, cW_y, ↓Xa,Xb,Xc,↓reduceIte,Nat.reduceLT,Nat.reduceEqDiff,Nat.reduceBEq,Nat.reduceLeDiff,Nat.reduceAdd,Nat.reduceMul]
    rw [← un_updR hq1]
    refine (hy _ _ _ A1 (B.upd q (some (.raw (.stringIter ⟨l.toArray⟩ (i + 1))))) hx (dj_updR hd1 hq1) hj).mono ?_
    rintro r H' ⟨A2, hd2, rfl, (⟨rfl, hj2⟩ | ⟨rfl, hj2⟩)⟩
    · have hq2 : A2 q = none := dj_atR hd2 (upd_same _ _ _)
      rw [un_updR hq2]
      simp (disch := first|exact Xe|fail) only [↓Xa,Xb,Xc,↓reduceIte,Nat.reduceLT,Nat.reduceEqDiff,Nat.reduceBEq,Nat.reduceLeDiff,Nat.reduceAdd,Nat.reduceMul]
      refine Settle.keep [0, 6] ⟨(i + 1, A2), by dsimp only; omega, ⟨by dsimp only; omega, ?_, hq2, by dsimp only; rw [hx2]; exact hj2⟩, rfl⟩
      intro k
      by_cases e : k = q
      · subst e; exact .inl hq2
      · have := hd2 k
        rwa [upd_other _ _ e] at this
    · have hq2 : A2 q = none := dj_atR hd2 (upd_same _ _ _)
      have hd3 : Dj A2 B := fun k => by
        by_cases e : k = q
        · subst e; exact .inl hq2
        · have := hd2 k
          rwa [upd_other _ _ e] at this
      rw [un_updR hq2]
      simp (disch := first|exact Xe|fail) only [rs191, ↓Xa,Xb,Xc,↓reduceIte,Nat.reduceLT,Nat.reduceEqDiff,Nat.reduceBEq,Nat.reduceLeDiff,Nat.reduceAdd,Nat.reduceMul]
      refine SetR.dropTo ((Le.refl _).upd (un_none.2 ⟨hq2, qb⟩)) (SetR.now ⟨A2, hd3, rfl, .inr hj2⟩)
  · obtain rfl : i = l.length := by omega
    simp (disch := first|exact Xe|fail) only [nxt_Sg, ↓Xa,Xb,Xc,↓reduceIte,Nat.reduceLT,Nat.reduceEqDiff,Nat.reduceBEq,Nat.reduceLeDiff,Nat.reduceAdd,Nat.reduceMul]
    refine Settle.now ?_
    simp (disch := first|exact Xe|fail) only [rs191, ↓Xa,Xb,Xc,↓reduceIte,Nat.reduceLT,Nat.reduceEqDiff,Nat.reduceBEq,Nat.reduceLeDiff,Nat.reduceAdd,Nat.reduceMul]
    rw [List.take_of_length_le (by simp)] at hj
    refine SetR.dropTo ((Le.refl _).upd (un_none.2 ⟨hq1, qb⟩)) (SetR.now ⟨A1, hd1, rfl, .inl hj⟩)
theorem digits_fn {l : List Nat} (t : Bool) (hl : Lim 4294967296 l) (hn : l.length ≤ 1099511627776) : PFn Tryd.prog 132 [LS l t] (.fn (.func 191) [] [.cptr [Sx (decT (val 4294967296 l))]]) := by
  intro H Q hq
  refine enter132 (by simp) ?_
  simp (disch := first|exact Xe|fail) only [ac132, ↓Xa,Xb,Xc,↓reduceIte,Nat.reduceLT,Nat.reduceEqDiff,Nat.reduceBEq,Nat.reduceLeDiff,Nat.reduceAdd,Nat.reduceMul]
  refine (text_fn t hl hn).call ?_
  simp (disch := first|exact Xe|fail) only [↓Xa,Xb,Xc,↓reduceIte,Nat.reduceLT,Nat.reduceEqDiff,Nat.reduceBEq,Nat.reduceLeDiff,Nat.reduceAdd,Nat.reduceMul]
  refine alloc_i fun p1 hp1 => ?_
  have n1 := hp1
  simp (disch := first|exact Xe|fail) only [cells_Sx, rs132, ↓Xa,Xb,Xc,↓reduceIte,Nat.reduceLT,Nat.reduceEqDiff,Nat.reduceBEq,Nat.reduceLeDiff,Nat.reduceAdd,Nat.reduceMul]
  refine SetR.frzP p1 (upd_same _ _ _) ?_
  rw [upd_upd, upd_back _ n1]
  simp [frzP, frzP1]
  exact SetR.now hq
end Go.Proofs.YtanchgkiomfhhaaDoor.Fw

/- A whole number's text, as package integer tells it. -/
namespace Go.Proofs.YtanchgkiomfhhaaDoor.Fw
set_option linter.unusedSimpArgs false
set_option linter.unusedVariables false
open Go Go.Proofs.YtanchgkiomfhhaaDoor.Ma
set_option maxRecDepth 20000

def iText (z : Int) : List UInt8 := (if z < 0 then [45] else []) ++ decT z.natAbs
theorem Bt_app (l m : List UInt8) : Bt (l ++ m) = Bt l ++ Bt m := by simp [Bt]
theorem Bt_one {n : Nat} (h : n < 256) : [AV.int .u8 (n : Int)] = Bt [UInt8.ofNat n] := by
  simp only [Bt, List.map_cons, List.map_nil]
  rw [UInt8.toNat_ofNat', Nat.mod_eq_of_lt (by omega)]
theorem decT_len {n k : Nat} (h : n < 10 ^ k) (hk : 0 < k) : (decT n).length ≤ k := by
  unfold decT; split
  · simp; omega
  · exact dec_len h
theorem decT_bd {x : Int} {k : Nat} (hx : Bd k x) : (decT x.natAbs).length ≤ 10 * k + 1 := by
  refine decT_len (Nat.lt_of_lt_of_le hx ?_) (by omega)
  calc 4294967296 ^ k ≤ (10 ^ 10) ^ k := Nat.pow_le_pow_left (by omega) k
    _ = 10 ^ (10 * k) := by rw [Nat.pow_mul]
    _ ≤ 10 ^ (10 * k + 1) := Nat.pow_le_pow_right (by omega) (by omega)
theorem wn_u8' {n : Nat} (h : n < 256) : IntKind.u8.wrap (n : Int) = (n : Int) := by
  unfold IntKind.wrap; simp only [IntKind.bits, IntKind.signed, Bool.false_and, Bool.false_eq_true, if_false]; omega
theorem isDig_chr {b : UInt8} (h : isDig b) : UInt8.ofNat (48 + (b.toNat - 48)) = b := by
  unfold isDig at h
  rw [show 48 + (b.toNat - 48) = b.toNat by omega]; exact UInt8.ofNat_toNat
theorem b2s_B {H0 H : AHeap} {p tb ty : Nat} {l : List UInt8} (h : growB H0 p tb ty 1 l.length (Bt l) H) : ∃ x, H p = some (.row tb 0 [x]) ∧ AV.cells x = some [x] ∧ ∀ H' K, Le H H' → K (Sx l) → b2sW H' x K := by
  obtain ⟨x, hx, hc, _⟩ := growB_get h
  refine ⟨x, hx, ?_, ?_⟩
  · rcases hc with ⟨rfl, _, _⟩ | ⟨_, _, b, rfl, _⟩ <;> rfl
  · intro H' K hle k
    rcases hc with ⟨rfl, h0, hc⟩ | ⟨hn, hl, b, rfl, hb⟩
    · have : l = [] := List.eq_nil_of_length_eq_zero h0
      subst this
      exact ⟨rfl, k⟩
    · rw [Nat.mul_one, b2s_own, hle _ _ hb]
      refine ⟨by simp [Bt_len], rfl, by omega, ?_⟩
      rw [List.drop_zero, List.take_of_length_le (by simp [Bt_len]), bytesOf_Bt]
      exact k
def chD (d : Nat) : UInt8 := UInt8.ofNat (48 + d)
theorem chD_back : ∀ {l : List UInt8}, (∀ b, b ∈ l → isDig b) → (l.map fun b => b.toNat - 48).map chD = l := by
  intro l h
  rw [List.map_map]
  conv => rhs; rw [← List.map_id l]
  exact List.map_congr_left fun b hb => isDig_chr (h b hb)
theorem itext_fn {x : Int} {k : Nat} (hx : Bd k x) (hk : k ≤ 1000000) : PFn Tryd.prog 28 [IntA x] (Sx (iText x)) := by
  intro H Q hq
  have hdl := hx.len
  have hdt := decT_bd hx
  have hgd := good_decT x.natAbs
  refine enter28 (by simp) ?_
  simp (disch := first|exact Xe|fail) only [ac28, IntA, ↓Xa,Xb,Xc,↓reduceIte,Nat.reduceLT,Nat.reduceEqDiff,Nat.reduceBEq,Nat.reduceLeDiff,Nat.reduceAdd,Nat.reduceMul]
  refine alloc_i fun p1 hp1 => ?_
  have n1 := hp1
  simp (disch := first|exact Xe|fail) only [↓Xa,Xb,Xc,↓reduceIte,Nat.reduceLT,Nat.reduceEqDiff,Nat.reduceBEq,Nat.reduceLeDiff,Nat.reduceAdd,Nat.reduceMul]
  refine alloc_i fun p2 hp2 => ?_
  have n2 := hp2
  simp only [upd_none] at n2
  obtain ⟨_, n2⟩ := n2
  obtain ⟨neg, hneg⟩ : ∃ b, b = decide (x < 0) := ⟨_, rfl⟩
  rw [← hneg] at hp2 ⊢
  have tail : ∀ (pre : List UInt8) (H2 : AHeap) (v : Env), (v = [] ∨ v = [(6, .bool false)]) → pre.length ≤ 1 → pre ++ decT x.natAbs = iText x → growB (H.upd p1 (some (.row 28 0 [.bool neg, LS (digs 4294967296 x.natAbs) true]))) p2 103 5 1 pre.length (Bt pre) H2 →
      W Tryd.prog (sndC (sndC (sndC ac28))) (retN rs28 Q) ⟨[], [(1, .ptr p1 2 0), (2, Sx []), (3, .ptr p2 1 0)] ++ v, H2⟩ := by
    intro pre H2 v hv hp1 hpre hg
    have h1 : H2 p1 = some (.row 28 0 [.bool neg, LS (digs 4294967296 x.natAbs) true]) := by
      obtain ⟨_, _, _, hle⟩ := growB_get hg
      exact hle _ _ (upd_same _ _ _)
    rcases hv with rfl | rfl
    all_goals
     simp (disch := first|exact Xe|fail) only [sndC, ac28, h1, ↓Xa,Xb,Xc,↓reduceIte,Nat.reduceLT,Nat.reduceEqDiff,Nat.reduceBEq,Nat.reduceLeDiff,Nat.reduceAdd,Nat.reduceMul]
     refine (digits_fn true (lim_digs (by omega) _) (by omega)).call ?_
     rw [val_digs (by omega)]
     simp (disch := first|exact Xe|fail) only [↓Xa,Xb,Xc,↓reduceIte,Nat.reduceLT,Nat.reduceEqDiff,Nat.reduceBEq,Nat.reduceLeDiff,Nat.reduceAdd,Nat.reduceMul]
     obtain ⟨A, hd, rfl, hgA⟩ := growB_nu hg
     have hle : Le H (H.upd p1 (some (.row 28 0 [.bool neg, LS (digs 4294967296 x.natAbs) true]))) := (Le.refl H).upd n1
     refine rfn_iter (digits1_iter (fun b hb => hgd.2.1 b hb) (by omega)) (fun _ => rfl) (fun ds A => growB nilH p2 103 5 1 (pre ++ ds.map chD).length (Bt (pre ++ ds.map chD)) A) (fun _ _ => False) A _ hd rfl (by simpa using hgA) ?_ ?_ (fun _ _ _ _ _ _ h => h.elim)
     · intro ds d rest A B hds hdj hj R1 k1
       have hlen := congrArg List.length hds
       have hd10 : d < 10 := by
         have : d ∈ ((decT x.natAbs).map fun b => b.toNat - 48) := by rw [hds]; simp
         obtain ⟨b, hb, rfl⟩ := List.mem_map.1 this
         have := hgd.2.1 b hb
         unfold isDig at this; omega
       simp (disch := first|exact Xe|fail) only [setps, ↓Xa,Xb,Xc,↓reduceIte,Nat.reduceLT,Nat.reduceEqDiff,Nat.reduceBEq,Nat.reduceLeDiff,Nat.reduceAdd,Nat.reduceMul]
       refine k1 _ A hdj fun R2 B1 k2 hd1 => ?_
       obtain ⟨y, hy, happ⟩ := growB_app (m := 1) (bytes := 1) (growB_un hj hd1)
       have e1 : IntKind.i64.wrap ((48 : Nat) + (d : Int)) = ((48 + d : Nat) : Int) := by rw [← Int.natCast_add]; exact wn_i64 (by omega)
       simp (disch := first|exact Xe|fail) only [hy, wn_u8', ↓Xa,Xb,Xc,↓reduceIte,Nat.reduceLT,Nat.reduceEqDiff,Nat.reduceBEq,Nat.reduceLeDiff,Nat.reduceAdd,Nat.reduceMul]
       refine happ rfl rfl (by omega) ?_ ?_ fun x' H' hp hc hg2 => ?_
       · simp at hlen ⊢; omega
       · simp at hlen ⊢; omega
       simp (disch := first|exact Xe|fail) only [hp, hc, ↓Xa,Xb,Xc,↓reduceIte,Nat.reduceLT,Nat.reduceEqDiff,Nat.reduceBEq,Nat.reduceLeDiff,Nat.reduceAdd,Nat.reduceMul]
       refine k2 .normal _ (Settle.now (growB_nu ?_))
       have e : pre ++ (ds ++ [d]).map chD = (pre ++ ds.map chD) ++ [chD d] := by simp
       dsimp only
       rw [e, List.length_append, Bt_app, show Bt [chD d] = [AV.int .u8 ((48 + d : Nat) : Int)] from (Bt_one (by omega)).symm]
       exact hg2
     · intro d A' hdj hA hB hj
       rw [chD_back hgd.2.1, hpre] at hj
       have hj2 := growB_un hj hdj
       obtain ⟨y, hy, hyc, hb2⟩ := b2s_B hj2
       obtain ⟨_, _, _, hle2⟩ := growB_get hj2
       have hdn := un_none.2 ⟨hA, hB⟩
       have hy2 : ((Un A' (H.upd p1 (some (.row 28 0 [.bool neg, LS (digs 4294967296 x.natAbs) true])))).upd d (some (.raw (.deferred (some []))))) p2 = some (.row 103 0 [y]) := by
         rw [upd_other _ _ (by rintro rfl; rw [hdn] at hy; cases hy)]; exact hy
       simp (disch := first|exact Xe|fail) only [hy2, ↓Xa,Xb,Xc,↓reduceIte,Nat.reduceLT,Nat.reduceEqDiff,Nat.reduceBEq,Nat.reduceLeDiff,Nat.reduceAdd,Nat.reduceMul]
       refine hb2 _ _ ((Le.refl _).upd hdn) ?_
       simp (disch := first|exact Xe|fail) only [rs28, ↓Xa,Xb,Xc,↓reduceIte,Nat.reduceLT,Nat.reduceEqDiff,Nat.reduceBEq,Nat.reduceLeDiff,Nat.reduceAdd,Nat.reduceMul]
       rw [upd_back _ hdn]
       exact SetR.dropTo (fun b x hb => hle2 _ _ (hle _ _ hb)) (SetR.now hq)
  have g0 := growB_nil (H0 := H.upd p1 (some (.row 28 0 [.bool neg, LS (digs 4294967296 x.natAbs) true]))) (tb := 103) (ty := 5) (es := 1) hp2
  cases neg with
  | true =>
    simp (disch := first|exact Xe|fail) only [↓Xa,Xb,Xc,↓reduceIte,Nat.reduceLT,Nat.reduceEqDiff,Nat.reduceBEq,Nat.reduceLeDiff,Nat.reduceAdd,Nat.reduceMul]
    obtain ⟨y, hy, happ⟩ := growB_app (m := 1) (bytes := 1) g0
    obtain rfl : y = .seq 0 [] true := by rw [upd_same] at hy; injection hy with hy; injection hy with _ _ hy; injection hy with hy; exact hy.symm
    refine happ (by rfl) (by rfl) (by omega) (by omega) (by omega) fun x' H' hp hc hg2 => ?_
    simp (disch := first|exact Xe|fail) only [hp, hc, ↓Xa,Xb,Xc,↓reduceIte,Nat.reduceLT,Nat.reduceEqDiff,Nat.reduceBEq,Nat.reduceLeDiff,Nat.reduceAdd,Nat.reduceMul]
    have tl := tail [45] _ [] (.inl rfl) (by simp) (by simp [iText, of_decide_eq_true hneg.symm]) hg2
    simp (disch := first|exact Xe|fail) only [sndC, ac28, ↓Xa,Xb,Xc,↓reduceIte,Nat.reduceLT,Nat.reduceEqDiff,Nat.reduceBEq,Nat.reduceLeDiff,Nat.reduceAdd,Nat.reduceMul] at tl
    exact tl
  | false =>
    have tl := tail [] _ _ (.inr rfl) (by simp) (by simp [iText, of_decide_eq_false hneg.symm]) g0
    simp (disch := first|exact Xe|fail) only [sndC, ac28, ↓Xa,Xb,Xc,↓reduceIte,Nat.reduceLT,Nat.reduceEqDiff,Nat.reduceBEq,Nat.reduceLeDiff,Nat.reduceAdd,Nat.reduceMul] at tl
    simp (disch := first|exact Xe|fail) only [↓Xa,Xb,Xc,↓reduceIte,Nat.reduceLT,Nat.reduceEqDiff,Nat.reduceBEq,Nat.reduceLeDiff,Nat.reduceAdd,Nat.reduceMul]
    exact tl
end Go.Proofs.YtanchgkiomfhhaaDoor.Fw

/- A whole number's text read, as package integer and as its reference read it. -/
namespace Go.Proofs.YtanchgkiomfhhaaDoor.Fw
set_option linter.unusedSimpArgs false
set_option linter.unusedVariables false
open Go Go.Proofs.YtanchgkiomfhhaaDoor.Ma
set_option maxRecDepth 20000

def iFrom (l : List UInt8) : Nat := if (l.getD 0 0).toNat = 45 then 1 else 0
def iBad (l : List UInt8) (i : Nat) : Prop := (l.getD i 0).toNat < 48 ∨ 57 < (l.getD i 0).toNat ∨ (i = iFrom l + 1 ∧ (l.getD (iFrom l) 0).toNat = 48) ∨ (i = iFrom l ∧ iFrom l = 1 ∧ (l.getD i 0).toNat = 48)
def IsAt (l : List UInt8) (p : Nat) : Prop := iFrom l ≤ p ∧ p ≤ l.length ∧ iBad l p ∧ ∀ j, iFrom l ≤ j → j < p → ¬ iBad l j
theorem get_beyond {l : List UInt8} {i : Nat} (h : l.length ≤ i) : l.getD i 0 = 0 := by
  rw [List.getD_eq_getElem?_getD, List.getElem?_eq_none h]; rfl
theorem iBad_end (l : List UInt8) : iBad l l.length := .inl (by rw [get_beyond (Nat.le_refl _)]; decide)
theorem iFrom_le (l : List UInt8) : iFrom l ≤ l.length ∧ iFrom l ≤ 1 := by
  unfold iFrom; split
  · rename_i h
    cases l with
    | nil => simp at h
    | cons x l => simp
  · simp
theorem first_of {P : Nat → Prop} (lo : Nat) : ∀ n, (∃ p, lo ≤ p ∧ p < lo + n ∧ P p ∧ ∀ j, lo ≤ j → j < p → ¬ P j) ∨ ∀ j, lo ≤ j → j < lo + n → ¬ P j
  | 0 => .inr fun j h1 h2 => by omega
  | n + 1 => by
    rcases first_of (P := P) lo n with ⟨p, a, b, c, d⟩ | h
    · exact .inl ⟨p, a, by omega, c, d⟩
    · by_cases hp : P (lo + n)
      · exact .inl ⟨lo + n, by omega, by omega, hp, h⟩
      · refine .inr fun j h1 h2 => ?_
        by_cases e : j = lo + n
        · rw [e]; exact hp
        · exact h j h1 (by omega)
theorem isAt_ex (l : List UInt8) : ∃ p, IsAt l p := by
  have h0 := (iFrom_le l).1
  rcases first_of (P := iBad l) (iFrom l) (l.length - iFrom l) with ⟨p, a, b, c, d⟩ | h
  · exact ⟨p, a, by omega, c, d⟩
  · exact ⟨l.length, h0, Nat.le_refl _, iBad_end l, fun j h1 h2 => h j h1 (by omega)⟩
theorem isAt_fn {l : List UInt8} {p q : Nat} (h : IsAt l p) (h' : IsAt l q) : p = q := by
  obtain ⟨a, b, c, d⟩ := h
  obtain ⟨a', b', c', d'⟩ := h'
  rcases Nat.lt_trichotomy p q with e | e | e
  · exact absurd c (d' p a e)
  · exact e
  · exact absurd c' (d q a' e)
def iVal (l : List UInt8) : Int := sg (decide (iFrom l = 1)) (decV (l.drop (iFrom l)))
theorem isAt_good {l : List UInt8} (h : IsAt l l.length) (hn : l.length ≠ iFrom l) : Good (l.drop (iFrom l)) := by
  have hf := (iFrom_le l).1
  obtain ⟨a, b, c, d⟩ := h
  refine good_of (by intro e; have := congrArg List.length e; simp at this; omega) fun i hi hb => ?_
  have hi' : iFrom l + i < l.length := by simp at hi; omega
  have e : (l.drop (iFrom l)).getD i 0 = l.getD (iFrom l + i) 0 := by simp [List.getD_eq_getElem?_getD]
  have e0 : (l.drop (iFrom l)).getD 0 0 = l.getD (iFrom l) 0 := by simp [List.getD_eq_getElem?_getD]
  unfold badAt at hb
  rw [e, e0] at hb
  rcases hb with hb | hb | ⟨hb, hb2⟩
  · exact d (iFrom l + i) (by omega) hi' (.inl hb)
  · exact d (iFrom l + i) (by omega) hi' (.inr (.inl hb))
  · exact d (iFrom l + 1) (by omega) (by omega) (.inr (.inr (.inl ⟨rfl, hb2⟩)))
def iReadA (l : List UInt8) (p : Nat) : AV :=
  if 65536 < l.length then .tup [IntA 0, spot 3 65536] else if p = iFrom l ∨ p < l.length then .tup [IntA 0, spot 6 p] else .tup [IntA (iVal l), spot 0 0]
theorem iread_fn {l : List UInt8} {p : Nat} (hp : IsAt l p) (hsz' : l.length < 9223372036854775808) : PFn Tryd.prog 167 [Sx l] (iReadA l p) := by
  intro H Q hq
  refine enter167 (by simp) ?_
  simp (disch := first|exact Xe|fail) only [ac167, ↓Xa,Xb,Xc,↓reduceIte,Nat.reduceLT,Nat.reduceEqDiff,Nat.reduceBEq,Nat.reduceLeDiff,Nat.reduceAdd,Nat.reduceMul]
  refine alloc_i fun p1 hp1 => ?_
  have n1 := hp1
  simp (disch := first|exact Xe|fail) only [↓Xa,Xb,Xc,↓reduceIte,Nat.reduceLT,Nat.reduceEqDiff,Nat.reduceBEq,Nat.reduceLeDiff,Nat.reduceAdd,Nat.reduceMul]
  refine alloc_i fun p2 hp2 => ?_
  have n2 := hp2
  simp only [upd_none] at n2
  obtain ⟨_, n2⟩ := n2
  have drop : ∀ {x y : ABlk} {r}, SetR Q r H → SetR Q r ((H.upd p1 (some x)).upd p2 (some y)) := fun h => SetR.dropTo (((Le.refl H).upd n1).updB n2) h
  by_cases h1 : 65536 < l.length
  · rw [iReadA, if_pos h1, ← IntA_0] at hq
    simp (disch := first|exact Xe|fail) only [len_Sx, h1, cells_i2, rs167, ↓Xa,Xb,Xc,↓reduceIte,Nat.reduceLT,Nat.reduceEqDiff,Nat.reduceBEq,Nat.reduceLeDiff,Nat.reduceAdd,Nat.reduceMul]
    exact drop (SetR.now hq)
  rw [iReadA, if_neg h1] at hq
  have hsz : l.length < 9223372036854775807 := by omega
  obtain ⟨hf1, hf2⟩ := iFrom_le l
  have err : (p = iFrom l ∨ p < l.length) → ∀ {x y : ABlk}, SetR Q (.tup [.agg [.bool false, .seq 0 [] true], .agg [.int .i64 ((6 : Nat) : Int), .int .i64 (p : Int)]]) ((H.upd p1 (some x)).upd p2 (some y)) := fun h => by
    rw [if_pos h, ← IntA_0] at hq
    exact drop (SetR.now hq)
  have rest : ∀ {E : Env} {x y : ABlk}, E = [(0, Sx l), (2, .ptr p1 2 0), (3, .ptr p2 2 0), (4, .int .i64 (p : Int)), (5, .int .i64 (iFrom l : Int))] → x = .row 28 0 [.bool false, .seq 0 [] true] → y = .row 105 0 [.int .i64 ((0 : Nat) : Int), .int .i64 ((0 : Nat) : Int)] →
      W Tryd.prog (sndC (sndC (sndC (sndC (sndC (sndC ac167)))))) (retN rs167 Q) ⟨[], E, (H.upd p1 (some x)).upd p2 (some y)⟩ := by
    intro E x y hE hx hy
    subst hE hx hy
    by_cases e1 : p = iFrom l
    · simp (disch := first|exact Xe|fail) only [sndC, ac167, e1, cells_i2, rs167, ↓Xa,Xb,Xc,↓reduceIte,Nat.reduceLT,Nat.reduceEqDiff,Nat.reduceBEq,Nat.reduceLeDiff,Nat.reduceAdd,Nat.reduceMul]
      rw [← e1]; exact err (.inl e1)
    by_cases e2 : p < l.length
    · simp (disch := first|exact Xe|fail) only [sndC, ac167, e1, e2, len_Sx, cells_i2, rs167, ↓Xa,Xb,Xc,↓reduceIte,Nat.reduceLT,Nat.reduceEqDiff,Nat.reduceBEq,Nat.reduceLeDiff,Nat.reduceAdd,Nat.reduceMul]
      exact err (.inr e2)
    have hpl : p = l.length := by have := hp.2.1; omega
    rw [if_neg (by omega)] at hq
    have hg := isAt_good (hpl ▸ hp) (by omega)
    simp (disch := first|exact Xe|fail) only [sndC, ac167, e1, e2, len_Sx, slc_SxL, ↓Xa,Xb,Xc,↓reduceIte,Nat.reduceLT,Nat.reduceEqDiff,Nat.reduceBEq,Nat.reduceLeDiff,Nat.reduceAdd,Nat.reduceMul]
    refine (read_fn (r := .tup [LS (Ma.digs 4294967296 (decV (l.drop (iFrom l)))) true, spot 0 0]) (.inr (.inr (.inr ⟨by simp; omega, hg, rfl⟩))) (by simp; omega)).call ?_
    simp (disch := first|exact Xe|fail) only [spot, ↓Xa,Xb,Xc,↓reduceIte,Nat.reduceLT,Nat.reduceEqDiff,Nat.reduceBEq,Nat.reduceLeDiff,Nat.reduceAdd,Nat.reduceMul]
    refine alloc_i fun p3 hp3 => ?_
    have n3 := hp3
    simp only [upd_none] at n3
    obtain ⟨_, _, n3⟩ := n3
    simp (disch := first|exact Xe|fail) only [cells_i2, ↓Xa,Xb,Xc,↓reduceIte,Nat.reduceLT,Nat.reduceEqDiff,Nat.reduceBEq,Nat.reduceLeDiff,Nat.reduceAdd,Nat.reduceMul]
    refine (made_fn (decide (iFrom l = 1)) _ ?_).call ?_
    · have hv : decV (l.drop (iFrom l)) < 4294967296 ^ 8192 := Nat.lt_of_lt_of_le (decV_lt fun b hb => (hg.2.1 b hb).2) (ten_bound (by simp; omega))
      have := (Nm.digs hv).len
      omega
    simp (disch := first|exact Xe|fail) only [cells_i2, cells_IntA, IntB, IntD, rs167, ↓Xa,Xb,Xc,↓reduceIte,Nat.reduceLT,Nat.reduceEqDiff,Nat.reduceBEq,Nat.reduceLeDiff,Nat.reduceAdd,Nat.reduceMul]
    exact SetR.dropTo ((((Le.refl H).updB n1).updB n2).updB n3) (SetR.now hq)
  have tail : ∀ {E : Env}, E = [(0, Sx l), (2, .ptr p1 2 0), (3, .ptr p2 2 0), (4, .int .i64 (iFrom l : Int))] →
      W Tryd.prog (sndC (sndC (sndC (sndC ac167)))) (retN rs167 Q) ⟨[], E, (H.upd p1 (some (.row 28 0 [.bool false, .seq 0 [] true]))).upd p2 (some (.row 105 0 [.int .i64 ((0 : Nat) : Int), .int .i64 ((0 : Nat) : Int)]))⟩ := by
    intro E hE
    subst hE
    simp (disch := first|exact Xe|fail) only [sndC, ac167, ↓Xa,Xb,Xc,↓reduceIte,Nat.reduceLT,Nat.reduceEqDiff,Nat.reduceBEq,Nat.reduceLeDiff,Nat.reduceAdd,Nat.reduceMul]
    refine W_loop (fun i : Nat => ⟨[], [(0, Sx l), (2, .ptr p1 2 0), (3, .ptr p2 2 0), (4, .int .i64 (i : Int)), (5, .int .i64 (iFrom l : Int))], (H.upd p1 (some (.row 28 0 [.bool false, .seq 0 [] true]))).upd p2 (some (.row 105 0 [.int .i64 ((0 : Nat) : Int), .int .i64 ((0 : Nat) : Int)]))⟩) (fun i => iFrom l ≤ i ∧ i ≤ l.length ∧ ∀ j, iFrom l ≤ j → j < i → ¬ iBad l j) (fun i => l.length - i) (iFrom l) (Settle.now rfl) ⟨Nat.le_refl _, hf1, fun j h1 h2 => by omega⟩ ?_
    rintro i ⟨hi1, hi2, hi3⟩
    have stop : iBad l i → i = p := fun hb => isAt_fn ⟨hi1, hi2, hb, hi3⟩ hp
    have step : ¬ iBad l i → ∀ j, iFrom l ≤ j → j < i + 1 → ¬ iBad l j := fun hb j h1 hj => by
      by_cases e : j = i
      · rw [e]; exact hb
      · exact hi3 j h1 (by omega)
    by_cases hi : i < l.length
    · by_cases c1 : 48 ≤ (l.getD i 0).toNat
      rotate_left
      · obtain rfl := stop (.inl (by omega))
        simp (disch := first|exact Xe|fail) only [hi, len_Sx, idx_Sx, c1, ↓Xa,Xb,Xc,↓reduceIte,Nat.reduceLT,Nat.reduceEqDiff,Nat.reduceBEq,Nat.reduceLeDiff,Nat.reduceAdd,Nat.reduceMul]
        refine Settle.keep [0, 2, 3, 4, 5] ?_
        exact rest (by rfl) rfl rfl
      by_cases c2 : (l.getD i 0).toNat ≤ 57
      rotate_left
      · obtain rfl := stop (.inr (.inl (by omega)))
        simp (disch := first|exact Xe|fail) only [hi, len_Sx, idx_Sx, c1, c2, ↓Xa,Xb,Xc,↓reduceIte,Nat.reduceLT,Nat.reduceEqDiff,Nat.reduceBEq,Nat.reduceLeDiff,Nat.reduceAdd,Nat.reduceMul]
        refine Settle.keep [0, 2, 3, 4, 5] ?_
        exact rest (by rfl) rfl rfl
      by_cases c3 : i = iFrom l + 1
      · have hfl : iFrom l < l.length := by omega
        subst c3
        by_cases c4 : (l.getD (iFrom l) 0).toNat = 48
        · have hip := stop (.inr (.inr (.inl ⟨rfl, c4⟩)))
          have rr := @rest
          rw [← hip] at rr
          simp (disch := first|exact Xe|fail) only [hi, len_Sx, idx_Sx, c1, c2, c4, ↓Xa,Xb,Xc,↓reduceIte,Nat.reduceLT,Nat.reduceEqDiff,Nat.reduceBEq,Nat.reduceLeDiff,Nat.reduceAdd,Nat.reduceMul]
          refine Settle.keep [0, 2, 3, 4, 5] ?_
          exact rr (by rfl) rfl rfl
        · have c5 : ¬ iFrom l + 1 = iFrom l := by omega
          have nb := step (show ¬ iBad l (iFrom l + 1) by unfold iBad; omega)
          simp (disch := first|exact Xe|fail) only [hi, len_Sx, idx_Sx, c1, c2, c4, c5, ↓Xa,Xb,Xc,↓reduceIte,Nat.reduceLT,Nat.reduceEqDiff,Nat.reduceBEq,Nat.reduceLeDiff,Nat.reduceAdd,Nat.reduceMul]
          exact Settle.now ⟨iFrom l + 1 + 1, by omega, ⟨by omega, by omega, nb⟩, rfl⟩
      by_cases c5 : i = iFrom l
      · subst c5
        by_cases c6 : iFrom l = 1
        · by_cases c7 : (l.getD (iFrom l) 0).toNat = 48
          · have hip := stop (.inr (.inr (.inr ⟨rfl, c6, c7⟩)))
            have rr := @rest
            rw [← hip] at rr
            rw [c6] at rr hi c1 c2 c3 c7 ⊢
            simp (disch := first|exact Xe|fail) only [hi, len_Sx, idx_Sx, c1, c2, c3, c7, ↓Xa,Xb,Xc,↓reduceIte,Nat.reduceLT,Nat.reduceEqDiff,Nat.reduceBEq,Nat.reduceLeDiff,Nat.reduceAdd,Nat.reduceMul]
            refine Settle.keep [0, 2, 3, 4, 5] ?_
            exact rr (by rfl) rfl rfl
          · have nb := step (show ¬ iBad l (iFrom l) by unfold iBad; omega)
            rw [c6] at hi c1 c2 c3 c7 nb ⊢
            simp (disch := first|exact Xe|fail) only [hi, len_Sx, idx_Sx, c1, c2, c3, c7, ↓Xa,Xb,Xc,↓reduceIte,Nat.reduceLT,Nat.reduceEqDiff,Nat.reduceBEq,Nat.reduceLeDiff,Nat.reduceAdd,Nat.reduceMul]
            exact Settle.now ⟨1 + 1, by omega, ⟨by omega, by omega, nb⟩, rfl⟩
        · have nb := step (show ¬ iBad l (iFrom l) by unfold iBad; omega)
          simp (disch := first|exact Xe|fail) only [hi, len_Sx, idx_Sx, c1, c2, c3, c6, ↓Xa,Xb,Xc,↓reduceIte,Nat.reduceLT,Nat.reduceEqDiff,Nat.reduceBEq,Nat.reduceLeDiff,Nat.reduceAdd,Nat.reduceMul]
          exact Settle.now ⟨iFrom l + 1, by omega, ⟨by omega, by omega, nb⟩, rfl⟩
      · have nb := step (show ¬ iBad l i by unfold iBad; omega)
        simp (disch := first|exact Xe|fail) only [hi, len_Sx, idx_Sx, c1, c2, c3, c5, ↓Xa,Xb,Xc,↓reduceIte,Nat.reduceLT,Nat.reduceEqDiff,Nat.reduceBEq,Nat.reduceLeDiff,Nat.reduceAdd,Nat.reduceMul]
        exact Settle.now ⟨i + 1, by omega, ⟨by omega, by omega, nb⟩, rfl⟩
    · obtain rfl := stop (.inl (by rw [get_beyond (by omega)]; decide))
      simp (disch := first|exact Xe|fail) only [hi, len_Sx, ↓Xa,Xb,Xc,↓reduceIte,Nat.reduceLT,Nat.reduceEqDiff,Nat.reduceBEq,Nat.reduceLeDiff,Nat.reduceAdd,Nat.reduceMul]
      refine Settle.keep [0, 2, 3, 4, 5] ?_
      exact rest (by rfl) rfl rfl
  have tl := @tail _ rfl
  by_cases h0 : l = []
  · have hf0 : iFrom l = 0 := by rw [h0]; rfl
    rw [hf0] at tl
    simp (disch := first|exact Xe|fail) only [sndC, ac167, ↓Xa,Xb,Xc,↓reduceIte,Nat.reduceLT,Nat.reduceEqDiff,Nat.reduceBEq,Nat.reduceLeDiff,Nat.reduceAdd,Nat.reduceMul] at tl
    simp (disch := first|exact Xe|fail) only [len_Sx, h1, str_Sx, neq_Sx, h0, ↓Xa,Xb,Xc,↓reduceIte,Nat.reduceLT,Nat.reduceEqDiff,Nat.reduceBEq,Nat.reduceLeDiff,Nat.reduceAdd,Nat.reduceMul]
    rw [h0] at tl
    exact tl
  have hpos : 0 < l.length := List.length_pos_iff.2 h0
  by_cases h2 : (l.getD 0 0).toNat = 45
  · have hf0 : iFrom l = 1 := by unfold iFrom; rw [if_pos h2]
    rw [hf0] at tl
    simp (disch := first|exact Xe|fail) only [sndC, ac167, ↓Xa,Xb,Xc,↓reduceIte,Nat.reduceLT,Nat.reduceEqDiff,Nat.reduceBEq,Nat.reduceLeDiff,Nat.reduceAdd,Nat.reduceMul] at tl
    simp (disch := first|exact Xe|fail) only [len_Sx, h1, str_Sx, neq_Sx, h0, idx_Sx, h2, ↓Xa,Xb,Xc,↓reduceIte,Nat.reduceLT,Nat.reduceEqDiff,Nat.reduceBEq,Nat.reduceLeDiff,Nat.reduceAdd,Nat.reduceMul]
    exact tl
  · have hf0 : iFrom l = 0 := by unfold iFrom; rw [if_neg h2]
    rw [hf0] at tl
    simp (disch := first|exact Xe|fail) only [sndC, ac167, ↓Xa,Xb,Xc,↓reduceIte,Nat.reduceLT,Nat.reduceEqDiff,Nat.reduceBEq,Nat.reduceLeDiff,Nat.reduceAdd,Nat.reduceMul] at tl
    simp (disch := first|exact Xe|fail) only [len_Sx, h1, str_Sx, neq_Sx, h0, idx_Sx, h2, ↓Xa,Xb,Xc,↓reduceIte,Nat.reduceLT,Nat.reduceEqDiff,Nat.reduceBEq,Nat.reduceLeDiff,Nat.reduceAdd,Nat.reduceMul]
    exact tl
end Go.Proofs.YtanchgkiomfhhaaDoor.Fw

/- A whole number's text, as the reference of layer 2 reads it. -/
namespace Go.Proofs.YtanchgkiomfhhaaDoor.Fw
set_option linter.unusedSimpArgs false
set_option linter.unusedVariables false
open Go Go.Proofs.YtanchgkiomfhhaaDoor.Ma
set_option maxRecDepth 20000

theorem RefA_nat {n : Nat} {t : Bool} : AV.agg [.bool false, LS (digs 65536 n) t] = RefA (n : Int) t := by
  have : ¬ (n : Int) < 0 := by omega
  simp [RefA, this]
theorem cells_RefN {n : Nat} {t : Bool} : (RefA (n : Int) t).cells = some [.bool false, LS (digs 65536 n) t] := by rw [← RefA_nat]; rfl
theorem decV_take {l : List UInt8} {i : Nat} (h : i < l.length) : decV (l.take (i + 1)) = decV (l.take i) * 10 + ((l.getD i 0).toNat - 48) := by
  have : l.take (i + 1) = l.take i ++ [l.getD i 0] := by
    rw [List.take_add_one, List.getElem?_eq_getElem h, List.getD_eq_getElem?_getD, List.getElem?_eq_getElem h]; rfl
  rw [this, decV_app, decV_one]; simp; omega
def rReadA (l : List UInt8) (p : Nat) : AV := if p = iFrom l ∨ p < l.length then .tup [RefA 0 true, .int .i64 (p : Int)] else .tup [RefA (iVal l) false, .int .i64 (-1)]
set_option maxHeartbeats 2000000 in
theorem rread_fn {l : List UInt8} {p : Nat} (hp : IsAt l p) (hsz : l.length ≤ 65536) : PFn Tryd.prog 172 [Sx l] (rReadA l p) := by
  intro H Q hq
  obtain ⟨hf1, hf2⟩ := iFrom_le l
  refine enter172 (by simp) ?_
  simp (disch := first|exact Xe|fail) only [ac172, ↓Xa,Xb,Xc,↓reduceIte,Nat.reduceLT,Nat.reduceEqDiff,Nat.reduceBEq,Nat.reduceLeDiff,Nat.reduceAdd,Nat.reduceMul]
  refine alloc_i fun p1 hp1 => ?_
  have n1 := hp1
  simp (disch := first|exact Xe|fail) only [↓Xa,Xb,Xc,↓reduceIte,Nat.reduceLT,Nat.reduceEqDiff,Nat.reduceBEq,Nat.reduceLeDiff,Nat.reduceAdd,Nat.reduceMul]
  have early : (p = iFrom l ∨ p < l.length) → SetR Q (.tup [.agg [.bool false, .seq 0 [] true], .int .i64 (p : Int)]) (H.upd p1 (some (.row 39 0 [.bool false, .seq 0 [] true]))) := fun h => by
    rw [rReadA, if_pos h, ← RefA_0t] at hq
    exact SetR.dropTo ((Le.refl H).updB n1) (SetR.now hq)
  have loop : iFrom l < l.length → ¬ (iFrom l = 1 ∧ (l.getD (iFrom l) 0).toNat = 48) → ∀ {E : Env}, E = [(0, Sx l), (2, .ptr p1 2 0), (4, .int .i64 (iFrom l : Int))] →
      W Tryd.prog (sndC (sndC (sndC (sndC ac172)))) (retN rs172 Q) ⟨[], E, H.upd p1 (some (.row 39 0 [.bool false, .seq 0 [] true]))⟩ := by
    intro h0l c3 E hE
    subst hE
    simp (disch := first|exact Xe|fail) only [sndC, ac172, ↓Xa,Xb,Xc,↓reduceIte,Nat.reduceLT,Nat.reduceEqDiff,Nat.reduceBEq,Nat.reduceLeDiff,Nat.reduceAdd,Nat.reduceMul]
    refine alloc_i fun p2 hp2 => ?_
    have n2 := hp2
    simp only [upd_none] at n2
    obtain ⟨_, n2⟩ := n2
    simp (disch := first|exact Xe|fail) only [↓Xa,Xb,Xc,↓reduceIte,Nat.reduceLT,Nat.reduceEqDiff,Nat.reduceBEq,Nat.reduceLeDiff,Nat.reduceAdd,Nat.reduceMul]
    refine W_loop (fun s : Nat × Bool => ⟨[], [(0, Sx l), (2, .ptr p1 2 0), (4, .int .i64 (iFrom l : Int)), (5, .ptr p2 2 0), (6, .int .i64 ((iFrom l + s.1 : Nat) : Int))], (H.upd p1 (some (.row 39 0 [.bool false, .seq 0 [] true]))).upd p2 (some (.row 39 0 [.bool false, LS (digs 65536 (decV ((l.drop (iFrom l)).take s.1))) s.2]))⟩)
      (fun s => iFrom l + s.1 ≤ l.length ∧ ∀ j, iFrom l ≤ j → j < iFrom l + s.1 → ¬ iBad l j) (fun s => l.length - (iFrom l + s.1)) (0, true) (Settle.now ?_) ⟨hf1, fun j h1 h2 => by dsimp only at h2; omega⟩ ?_
    · simp [decV, decF, digs_zero, LS, U]
    rintro ⟨i, t⟩ ⟨hi1, hi2⟩
    dsimp only at hi1 hi2 ⊢
    obtain ⟨q, hq'⟩ : ∃ q, q = iFrom l + i := ⟨_, rfl⟩
    rw [← hq'] at hi1 hi2 ⊢
    have stop : iBad l q → q = p := fun hb => isAt_fn ⟨by omega, hi1, hb, hi2⟩ hp
    have out : ∀ {x : ABlk}, q = p → q < l.length → SetR Q (.tup [.agg [.bool false, .seq 0 [] true], .int .i64 (q : Int)]) ((H.upd p1 (some (.row 39 0 [.bool false, .seq 0 [] true]))).upd p2 (some x)) := fun e h => by
      rw [e]; exact SetR.dropTo ((Le.refl _).upd hp2) (early (.inr (e ▸ h)))
    have hb1 : Bd 8192 ((decV ((l.drop (iFrom l)).take i) : Nat) : Int) := by
      unfold Bd
      rw [Int.natAbs_natCast]
      refine Nat.lt_of_lt_of_le (decV_lt fun b hb => ?_) (ten_bound (by simp; omega))
      obtain ⟨k, hk, rfl⟩ := List.getElem_of_mem hb
      simp only [List.length_take, List.length_drop] at hk
      have := hi2 (iFrom l + k) (by omega) (by omega)
      unfold iBad at this
      simp only [List.getElem_take, List.getElem_drop]
      have e : l.getD (iFrom l + k) 0 = l[iFrom l + k] := by rw [List.getD_eq_getElem?_getD, List.getElem?_eq_getElem (by omega), Option.getD_some]
      rw [e] at this; omega
    by_cases h : q < l.length
    · by_cases d1 : (l.getD q 0).toNat < 48
      · simp (disch := first|exact Xe|fail) only [h, len_Sx, idx_Sx, d1, rs172, ↓Xa,Xb,Xc,↓reduceIte,Nat.reduceLT,Nat.reduceEqDiff,Nat.reduceBEq,Nat.reduceLeDiff,Nat.reduceAdd,Nat.reduceMul]
        exact out (stop (.inl d1)) h
      by_cases d2 : 57 < (l.getD q 0).toNat
      · simp (disch := first|exact Xe|fail) only [h, len_Sx, idx_Sx, d1, d2, rs172, ↓Xa,Xb,Xc,↓reduceIte,Nat.reduceLT,Nat.reduceEqDiff,Nat.reduceBEq,Nat.reduceLeDiff,Nat.reduceAdd,Nat.reduceMul]
        exact out (stop (.inr (.inl d2))) h
      have nxt : ¬ iBad l q → ∀ j, iFrom l ≤ j → j < iFrom l + (i + 1) → ¬ iBad l j := fun hb j h1 hj => by
        by_cases e : j = q
        · rw [e]; exact hb
        · exact hi2 j h1 (by omega)
      have hx : iFrom l + i < l.length := by omega
      have hdr : i < (l.drop (iFrom l)).length := by simp; omega
      have eg : (l.drop (iFrom l)).getD i 0 = l.getD q 0 := by rw [hq']; simp [List.getD_eq_getElem?_getD]
      have hsucc := decV_take hdr
      rw [eg] at hsucc
      have hx2 : (l.getD q 0).toNat < 256 := UInt8.toNat_lt _
      have hsum : ((decV ((l.drop (iFrom l)).take i) : Nat) : Int) * ((10 : Nat) : Int) + (((l.getD q 0).toNat - 48 : Nat) : Int) = ((decV ((l.drop (iFrom l)).take (i + 1)) : Nat) : Int) := by rw [hsucc]; push_cast; rfl
      have hres : ∀ {x : ABlk} {v' : Nat}, v' = decV ((l.drop (iFrom l)).take (i + 1)) → (∀ j, iFrom l ≤ j → j < iFrom l + (i + 1) → ¬ iBad l j) → x = .row 39 0 [.bool false, LS (digs 65536 v') false] →
          Settle (fun s' => ∃ x' : Nat × Bool, l.length - (iFrom l + x'.1) < l.length - q ∧ (iFrom l + x'.1 ≤ l.length ∧ ∀ j, iFrom l ≤ j → j < iFrom l + x'.1 → ¬ iBad l j) ∧ s' = ⟨[], [(0, Sx l), (2, .ptr p1 2 0), (4, .int .i64 (iFrom l : Int)), (5, .ptr p2 2 0), (6, .int .i64 ((iFrom l + x'.1 : Nat) : Int))], (H.upd p1 (some (.row 39 0 [.bool false, .seq 0 [] true]))).upd p2 (some (.row 39 0 [.bool false, LS (digs 65536 (decV ((l.drop (iFrom l)).take x'.1))) x'.2]))⟩)
            ⟨[], [(0, Sx l), (2, .ptr p1 2 0), (4, .int .i64 (iFrom l : Int)), (5, .ptr p2 2 0), (6, .int .i64 ((q + 1 : Nat) : Int))], (H.upd p1 (some (.row 39 0 [.bool false, .seq 0 [] true]))).upd p2 (some x)⟩ := by
        rintro x v' rfl h1 rfl
        refine Settle.now ⟨(i + 1, false), by dsimp only; omega, ⟨by dsimp only; omega, h1⟩, ?_⟩
        rw [hq', Nat.add_assoc]
      generalize decV ((l.drop (iFrom l)).take (i + 1)) = w at *
      generalize decV ((l.drop (iFrom l)).take i) = v at *
      have nb0 : (q = iFrom l + 1 → (l.getD (iFrom l) 0).toNat ≠ 48) → ¬ iBad l q := fun k hb => by
        rcases hb with hb | hb | ⟨e1, e2⟩ | ⟨e1, e2, e3⟩
        · omega
        · omega
        · exact k e1 e2
        · exact c3 ⟨e2, e1 ▸ e3⟩
      by_cases d3 : q = iFrom l + 1
      · subst d3
        by_cases d4 : (l.getD (iFrom l) 0).toNat = 48
        · simp (disch := first|exact Xe|fail) only [h, len_Sx, idx_Sx, d1, d2, d4, rs172, ↓Xa,Xb,Xc,↓reduceIte,Nat.reduceLT,Nat.reduceEqDiff,Nat.reduceBEq,Nat.reduceLeDiff,Nat.reduceAdd,Nat.reduceMul]
          exact out (stop (.inr (.inr (.inl ⟨rfl, d4⟩)))) h
        have nb := nb0 fun _ => d4
        simp (disch := first|exact Xe|fail) only [h, len_Sx, idx_Sx, d1, d2, d4, RefA_nat, ↓Xa,Xb,Xc,↓reduceIte,Nat.reduceLT,Nat.reduceEqDiff,Nat.reduceBEq,Nat.reduceLeDiff,Nat.reduceAdd,Nat.reduceMul]
        refine PFn.dcall (rof_fn (n := ((10 : Nat) : Int)) (by omega)) ?_
        simp (disch := first|exact Xe|fail) only [↓Xa,Xb,Xc,↓reduceIte,Nat.reduceLT,Nat.reduceEqDiff,Nat.reduceBEq,Nat.reduceLeDiff,Nat.reduceAdd,Nat.reduceMul]
        refine PFn.dcall (rmuli_fn t false hb1 (by omega) (Bd.i64 (n := ((10 : Nat) : Int)) (by omega)) (by omega)) ?_
        simp (disch := first|exact Xe|fail) only [idx_Sx, ↓Xa,Xb,Xc,↓reduceIte,Nat.reduceLT,Nat.reduceEqDiff,Nat.reduceBEq,Nat.reduceLeDiff,Nat.reduceAdd,Nat.reduceMul]
        refine (rof_fn (by omega)).call ?_
        simp (disch := first|exact Xe|fail) only [↓Xa,Xb,Xc,↓reduceIte,Nat.reduceLT,Nat.reduceEqDiff,Nat.reduceBEq,Nat.reduceLeDiff,Nat.reduceAdd,Nat.reduceMul]
        refine (raddi_fn false false (hb1.mul (Bd.i64 (n := ((10 : Nat) : Int)) (by omega))) (by omega) (Bd.i64 (by omega)) (by omega)).call ?_
        rw [hsum]
        simp (disch := first|exact Xe|fail) only [cells_RefN, ↓Xa,Xb,Xc,↓reduceIte,Nat.reduceLT,Nat.reduceEqDiff,Nat.reduceBEq,Nat.reduceLeDiff,Nat.reduceAdd,Nat.reduceMul]
        exact hres rfl (nxt nb) rfl
      · have nb := nb0 fun e => absurd e d3
        simp (disch := first|exact Xe|fail) only [h, len_Sx, idx_Sx, d1, d2, d3, RefA_nat, ↓Xa,Xb,Xc,↓reduceIte,Nat.reduceLT,Nat.reduceEqDiff,Nat.reduceBEq,Nat.reduceLeDiff,Nat.reduceAdd,Nat.reduceMul]
        refine PFn.dcall (rof_fn (n := ((10 : Nat) : Int)) (by omega)) ?_
        simp (disch := first|exact Xe|fail) only [↓Xa,Xb,Xc,↓reduceIte,Nat.reduceLT,Nat.reduceEqDiff,Nat.reduceBEq,Nat.reduceLeDiff,Nat.reduceAdd,Nat.reduceMul]
        refine PFn.dcall (rmuli_fn t false hb1 (by omega) (Bd.i64 (n := ((10 : Nat) : Int)) (by omega)) (by omega)) ?_
        simp (disch := first|exact Xe|fail) only [idx_Sx, ↓Xa,Xb,Xc,↓reduceIte,Nat.reduceLT,Nat.reduceEqDiff,Nat.reduceBEq,Nat.reduceLeDiff,Nat.reduceAdd,Nat.reduceMul]
        refine (rof_fn (by omega)).call ?_
        simp (disch := first|exact Xe|fail) only [↓Xa,Xb,Xc,↓reduceIte,Nat.reduceLT,Nat.reduceEqDiff,Nat.reduceBEq,Nat.reduceLeDiff,Nat.reduceAdd,Nat.reduceMul]
        refine (raddi_fn false false (hb1.mul (Bd.i64 (n := ((10 : Nat) : Int)) (by omega))) (by omega) (Bd.i64 (by omega)) (by omega)).call ?_
        rw [hsum]
        simp (disch := first|exact Xe|fail) only [cells_RefN, ↓Xa,Xb,Xc,↓reduceIte,Nat.reduceLT,Nat.reduceEqDiff,Nat.reduceBEq,Nat.reduceLeDiff,Nat.reduceAdd,Nat.reduceMul]
        exact hres rfl (nxt nb) rfl
    · have e : q = l.length := by omega
      have e2 := stop (by rw [e]; exact iBad_end l)
      simp (disch := first|exact Xe|fail) only [h, len_Sx, ↓Xa,Xb,Xc,↓reduceIte,Nat.reduceLT,Nat.reduceEqDiff,Nat.reduceBEq,Nat.reduceLeDiff,Nat.reduceAdd,Nat.reduceMul]
      refine Settle.now ?_
      simp (disch := first|exact Xe|fail) only [↓Xa,Xb,Xc,↓reduceIte,Nat.reduceLT,Nat.reduceEqDiff,Nat.reduceBEq,Nat.reduceLeDiff,Nat.reduceAdd,Nat.reduceMul]
      refine (rnorm_fn (decide (iFrom l = 1)) t (lim_digs (by omega) _) ?_).call ?_
      · have := hb1.rlen; rw [Int.natAbs_natCast] at this; omega
      rw [val_digs (by omega)]
      simp (disch := first|exact Xe|fail) only [cells_RefA, rs172, ↓Xa,Xb,Xc,↓reduceIte,Nat.reduceLT,Nat.reduceEqDiff,Nat.reduceBEq,Nat.reduceLeDiff,Nat.reduceAdd,Nat.reduceMul]
      have e3 : (l.drop (iFrom l)).take i = l.drop (iFrom l) := List.take_of_length_le (by simp; omega)
      rw [e3]
      rw [rReadA, if_neg (by omega)] at hq
      exact SetR.dropTo (((Le.refl H).updB n1).updB n2) (SetR.now hq)
  have tail : ∀ {E : Env}, (E = [(0, Sx l), (2, .ptr p1 2 0), (4, .int .i64 (iFrom l : Int))] ∨ E = [(0, Sx l), (2, .ptr p1 2 0), (4, .int .i64 (iFrom l : Int)), (14, .bool false)]) →
      W Tryd.prog (sndC (sndC (sndC ac172))) (retN rs172 Q) ⟨[], E, H.upd p1 (some (.row 39 0 [.bool false, .seq 0 [] true]))⟩ := by
    intro E hE
    rcases hE with rfl | rfl
    all_goals
     by_cases c0 : l.length ≤ iFrom l
     · have e : p = iFrom l := by have := hp.1; have := hp.2.1; omega
       simp (disch := first|exact Xe|fail) only [sndC, ac172, len_Sx, c0, rs172, ↓Xa,Xb,Xc,↓reduceIte,Nat.reduceLT,Nat.reduceEqDiff,Nat.reduceBEq,Nat.reduceLeDiff,Nat.reduceAdd,Nat.reduceMul]
       rw [← e]; exact early (.inl e)
     have hat : iBad l (iFrom l) → p = iFrom l := fun hb => isAt_fn hp ⟨Nat.le_refl _, hf1, hb, fun j h1 h2 => by omega⟩
     have h0l : iFrom l < l.length := by omega
     by_cases c1 : (l.getD (iFrom l) 0).toNat < 48
     · have e := hat (.inl c1)
       simp (disch := first|exact Xe|fail) only [sndC, ac172, len_Sx, idx_Sx, c0, c1, rs172, ↓Xa,Xb,Xc,↓reduceIte,Nat.reduceLT,Nat.reduceEqDiff,Nat.reduceBEq,Nat.reduceLeDiff,Nat.reduceAdd,Nat.reduceMul]
       rw [← e]; exact early (.inl e)
     by_cases c2 : 57 < (l.getD (iFrom l) 0).toNat
     · have e := hat (.inr (.inl c2))
       simp (disch := first|exact Xe|fail) only [sndC, ac172, len_Sx, idx_Sx, c0, c1, c2, rs172, ↓Xa,Xb,Xc,↓reduceIte,Nat.reduceLT,Nat.reduceEqDiff,Nat.reduceBEq,Nat.reduceLeDiff,Nat.reduceAdd,Nat.reduceMul]
       rw [← e]; exact early (.inl e)
     by_cases c3 : iFrom l = 1
     · rw [c3] at h0l c0 c1 c2 ⊢
       by_cases c4 : (l.getD 1 0).toNat = 48
       · have e := hat (.inr (.inr (.inr ⟨rfl, c3, by rw [c3]; exact c4⟩)))
         simp (disch := first|exact Xe|fail) only [sndC, ac172, len_Sx, idx_Sx, c0, c1, c2, c4, rs172, ↓Xa,Xb,Xc,↓reduceIte,Nat.reduceLT,Nat.reduceEqDiff,Nat.reduceBEq,Nat.reduceLeDiff,Nat.reduceAdd,Nat.reduceMul]
         have := early (.inl e)
         rw [e, c3] at this; exact this
       · have lp := loop (by omega) (fun h => c4 (by have := h.2; rwa [c3] at this)) rfl
         rw [c3] at lp
         simp (disch := first|exact Xe|fail) only [sndC, ac172, ↓Xa,Xb,Xc,↓reduceIte,Nat.reduceLT,Nat.reduceEqDiff,Nat.reduceBEq,Nat.reduceLeDiff,Nat.reduceAdd,Nat.reduceMul] at lp
         simp (disch := first|exact Xe|fail) only [sndC, ac172, len_Sx, idx_Sx, c0, c1, c2, c4, ↓Xa,Xb,Xc,↓reduceIte,Nat.reduceLT,Nat.reduceEqDiff,Nat.reduceBEq,Nat.reduceLeDiff,Nat.reduceAdd,Nat.reduceMul]
         exact lp
     · have lp := loop h0l (fun h => c3 h.1) rfl
       simp (disch := first|exact Xe|fail) only [sndC, ac172, ↓Xa,Xb,Xc,↓reduceIte,Nat.reduceLT,Nat.reduceEqDiff,Nat.reduceBEq,Nat.reduceLeDiff,Nat.reduceAdd,Nat.reduceMul] at lp
       simp (disch := first|exact Xe|fail) only [sndC, ac172, len_Sx, idx_Sx, c0, c1, c2, c3, ↓Xa,Xb,Xc,↓reduceIte,Nat.reduceLT,Nat.reduceEqDiff,Nat.reduceBEq,Nat.reduceLeDiff,Nat.reduceAdd,Nat.reduceMul]
       exact lp
  by_cases h0 : l = []
  · have tl := @tail _ (.inr rfl)
    have hf0 : iFrom l = 0 := by rw [h0]; rfl
    rw [hf0] at tl
    rw [h0] at tl
    simp (disch := first|exact Xe|fail) only [sndC, ac172, len_Sx, List.length_nil, ↓Xa,Xb,Xc,↓reduceIte,Nat.reduceLT,Nat.reduceEqDiff,Nat.reduceBEq,Nat.reduceLeDiff,Nat.reduceAdd,Nat.reduceMul] at tl
    simp (disch := first|exact Xe|fail) only [len_Sx, h0, List.length_nil, ↓Xa,Xb,Xc,↓reduceIte,Nat.reduceLT,Nat.reduceEqDiff,Nat.reduceBEq,Nat.reduceLeDiff,Nat.reduceAdd,Nat.reduceMul]
    exact tl
  have hpos : 0 < l.length := List.length_pos_iff.2 h0
  by_cases h2 : (l.getD 0 0).toNat = 45
  · have tl := @tail _ (.inl rfl)
    have hf0 : iFrom l = 1 := by unfold iFrom; rw [if_pos h2]
    rw [hf0] at tl
    simp (disch := first|exact Xe|fail) only [sndC, ac172, len_Sx, hpos, idx_Sx, h2, ↓Xa,Xb,Xc,↓reduceIte,Nat.reduceLT,Nat.reduceEqDiff,Nat.reduceBEq,Nat.reduceLeDiff,Nat.reduceAdd,Nat.reduceMul] at tl
    simp (disch := first|exact Xe|fail) only [len_Sx, hpos, idx_Sx, h2, ↓Xa,Xb,Xc,↓reduceIte,Nat.reduceLT,Nat.reduceEqDiff,Nat.reduceBEq,Nat.reduceLeDiff,Nat.reduceAdd,Nat.reduceMul]
    exact tl
  · have tl := @tail _ (.inr rfl)
    have hf0 : iFrom l = 0 := by unfold iFrom; rw [if_neg h2]
    rw [hf0] at tl
    simp (disch := first|exact Xe|fail) only [sndC, ac172, len_Sx, hpos, idx_Sx, h2, ↓Xa,Xb,Xc,↓reduceIte,Nat.reduceLT,Nat.reduceEqDiff,Nat.reduceBEq,Nat.reduceLeDiff,Nat.reduceAdd,Nat.reduceMul] at tl
    simp (disch := first|exact Xe|fail) only [len_Sx, hpos, idx_Sx, h2, ↓Xa,Xb,Xc,↓reduceIte,Nat.reduceLT,Nat.reduceEqDiff,Nat.reduceBEq,Nat.reduceLeDiff,Nat.reduceAdd,Nat.reduceMul]
    exact tl
end Go.Proofs.YtanchgkiomfhhaaDoor.Fw
