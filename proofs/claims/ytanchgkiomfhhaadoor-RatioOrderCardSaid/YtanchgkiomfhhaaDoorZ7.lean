/- The texts Sd Se Sf Sh Nd Tb Ya Yb Yc Yd Qb Qc Al15 Al16 Qd, joined. -/
import Derived.Test.YtanchgkiomfhhaaDoorZ6
/- A number's decimal text, as package limb writes it. -/
namespace Go.Proofs.YtanchgkiomfhhaaDoor.Fw
set_option linter.unusedSimpArgs false
set_option linter.unusedVariables false
open Go Go.Proofs.YtanchgkiomfhhaaDoor.Ma
set_option maxRecDepth 20000

theorem bld_drop {p q : Nat} {l : List UInt8} {H0 H : AHeap} {x : ABlk} (h : bld p l (H0.upd q (some x)) H) (hqp : Ap q p) (hq : H0 q = none) : ∃ H', bld p l H0 H' ∧ Le H' H := by
  have up : ∀ {M : AHeap} {r : Option ABlk}, M = (H0.upd q (some x)).upd p r → Le (H0.upd p r) M := fun {M r} e => by
    rw [e, upd_comm _ _ _ hqp]
    exact (Le.refl _).updB (by rw [upd_otherA hqp]; exact hq)
  rcases h with ⟨rfl, rfl | rfl⟩ | ⟨h0, bb, hbb, hap, rfl⟩
  · exact ⟨_, .inl ⟨rfl, .inl rfl⟩, up rfl⟩
  · exact ⟨_, .inl ⟨rfl, .inr rfl⟩, up rfl⟩
  · obtain ⟨a1, a2⟩ := upd_none.1 hbb
    refine ⟨_, .inr ⟨h0, bb, a2, hap, rfl⟩, ?_⟩
    rw [upd_comm _ _ _ hqp, upd_comm (b := q) (b' := bb) _ _ _ (Ap.symm a1)]
    exact (Le.refl _).updB (by rw [upd_otherA (Ap.symm a1), upd_otherA hqp]; exact hq)
theorem stP_Bt {H : AHeap} {K2 : AV → AHeap → Prop} {b L off ty es c : Nat} {l : List UInt8} (hL : l.length = L) (h : off < L) (hc : c < 256) : stP H 1 b L off K2 (some [.int .u8 (c : Int)]) (some (.row ty es (Bt l))) = K2 .bot (H.upd b (some (.row ty es (Bt (l.set off (UInt8.ofNat c)))))) := by
  subst hL
  have h1 : off + 1 ≤ l.length := h
  have e : splice (Bt l) off [.int .u8 (c : Int)] = Bt (l.set off (UInt8.ofNat c)) := by
    have e2 : (AV.int .u8 (c : Int)) = .int .u8 (((UInt8.ofNat c).toNat : Nat) : Int) := by
      rw [UInt8.toNat_ofNat', Nat.mod_eq_of_lt hc]
    rw [e2]
    unfold splice Bt
    rw [List.map_set, List.set_eq_take_append_cons_drop]
    simp [h]
  simp [stP, Bt_len, h1, e]
def TxI (p j : Nat) (cells : List UInt8) (x : Nat) : Prop := j ≤ 9 ∧ cells = List.replicate j 0 ++ wide (9 - j) (p % 10 ^ (9 - j)) ∧ x = p / 10 ^ (9 - j)
theorem TxI.len {p j x : Nat} {cells : List UInt8} (h : TxI p j cells x) : cells.length = 9 := by
  obtain ⟨h1, rfl, _⟩ := h
  rw [List.length_append, List.length_replicate, wide_len (Nat.mod_lt _ (Nat.pow_pos (by omega)))]; omega
theorem TxI.step {p j x : Nat} {cells : List UInt8} (h : TxI p (j + 1) cells x) : TxI p j (cells.set j (UInt8.ofNat (48 + x % 10))) (x / 10) := by
  obtain ⟨h1, rfl, rfl⟩ := h
  have e9 : 9 - j = (9 - (j + 1)) + 1 := by omega
  refine ⟨by omega, ?_, ?_⟩
  · rw [e9, wide_step]
    rw [List.replicate_succ', List.append_assoc, List.set_append_right _ _ (by simp)]
    simp [chr]
  · rw [e9, Nat.pow_succ, Nat.div_div_eq_div_mul]

theorem text_fn {l : List Nat} (t : Bool) (hl : Lim 4294967296 l) (hn : l.length ≤ 1099511627776) : PFn Tryd.prog 190 [LS l t] (Sx (decT (val 4294967296 l))) := by
  intro H Q hq
  have hP : (2 : Nat) ≤ 1000000000 := by omega
  refine enter190 (by simp) ?_
  simp (disch := first | assumption | (apply Ap.symm; assumption) | omega | decide | (simp only [U_len, List.length_append, List.length_replicate, List.length_cons, List.length_nil, List.length_set] <;> omega) | fail) only [ac190, str_Sx, ↓Xa, Xb, Xc, ↓reduceIte, Nat.reduceLT, Nat.reduceEqDiff, Nat.reduceBEq, Nat.reduceLeDiff, Nat.reduceAdd, Nat.reduceMul]
  refine (norm_fn t (by omega)).call ?_
  rw [tr_digs (by omega) hl]
  have hN : val 4294967296 l < 4294967296 ^ l.length := val_lt hl
  have hp2 : (digs 1000000000 (val 4294967296 l)).length ≤ 2 * l.length := digs_len hP _ _ (Nat.lt_of_lt_of_le hN (by rw [Nat.pow_mul]; exact Nat.pow_le_pow_left (by omega) _))
  have hdl : (dec (val 4294967296 l)).length ≤ 10 * l.length := dec_len (Nat.lt_of_lt_of_le hN (by rw [Nat.pow_mul]; exact Nat.pow_le_pow_left (by omega) _))
  generalize hNe : val 4294967296 l = N at *
  simp (disch := first | assumption | (apply Ap.symm; assumption) | omega | decide | (simp only [U_len, List.length_append, List.length_replicate, List.length_cons, List.length_nil, List.length_set] <;> omega) | fail) only [↓Xa, Xb, Xc, ↓reduceIte, Nat.reduceLT, Nat.reduceEqDiff, Nat.reduceBEq, Nat.reduceLeDiff, Nat.reduceAdd, Nat.reduceMul]
  refine W_loop (fun s : List Nat × AV × AHeap × Nat => ⟨[], [(3, s.2.1), (4, LS (digs 4294967296 s.2.2.2) true)], s.2.2.1⟩) (fun s => grow H 172 s.1 s.2.1 s.2.2.1 ∧ digs 1000000000 N = s.1 ++ digs 1000000000 s.2.2.2 ∧ s.2.2.2 ≤ N) (fun s => s.2.2.2)
    ([], .seq 0 [] true, H, N) (Settle.now rfl) ⟨grow_nil, rfl, Nat.le_refl _⟩ ?_
  rintro ⟨done, x, G, n⟩ ⟨hg, he, hle⟩
  dsimp only at hg he hle ⊢
  have hdn : (digs 4294967296 n).length ≤ l.length := digs_len (by omega) _ _ (Nat.lt_of_le_of_lt hle (hNe ▸ hN))
  have hz := digs_len0 (B := 4294967296) (n := n) (by omega)
  by_cases hn0 : n = 0
  · have h1 : (digs 4294967296 n).length = 0 := by rw [hz]; exact hn0
    simp (disch := first | assumption | (apply Ap.symm; assumption) | omega | decide | (simp only [U_len, List.length_append, List.length_replicate, List.length_cons, List.length_nil, List.length_set] <;> omega) | fail) only [h1, ↓Xa, Xb, Xc, ↓reduceIte, Nat.reduceLT, Nat.reduceEqDiff, Nat.reduceBEq, Nat.reduceLeDiff, Nat.reduceAdd, Nat.reduceMul]
    refine Settle.grown 3 rfl hg (Settle.now ?_)
    rw [hn0, digs_zero, List.append_nil] at he
    subst he
    have hlim := lim_digs hP N
    have hdig := fun k p => piece_step (n := N) (k := k) (p := p)
    have hv : val 1000000000 (digs 1000000000 N) = N := val_digs hP N
    have hlast := digs_last (B := 1000000000) (n := N) hP
    have hnil := digs_len0 (B := 1000000000) (n := N) hP
    generalize digs 1000000000 N = ps at *
    by_cases hp0 : ps.length = 0
    · rw [hnil] at hp0
      have hL : ps.length = 0 := by rw [hnil]; exact hp0
      simp (disch := first | assumption | (apply Ap.symm; assumption) | omega | decide | (simp only [U_len, List.length_append, List.length_replicate, List.length_cons, List.length_nil, List.length_set] <;> omega) | fail) only [hL, str_Sx, rs190, ↓Xa, Xb, Xc, ↓reduceIte, Nat.reduceLT, Nat.reduceEqDiff, Nat.reduceBEq, Nat.reduceLeDiff, Nat.reduceAdd, Nat.reduceMul]
      have e : decT N = [48] := by rw [hp0]; rfl
      rw [e] at hq
      exact SetR.now hq
    · have hN0 : 0 < N := by rcases Nat.eq_zero_or_pos N with h | h
                             · exact absurd (hnil ▸ h) hp0
                             · exact h
      have eT : decT N = dec N := by unfold decT; rw [if_neg (by omega)]
      rw [eT] at hq
      obtain ⟨L, hL⟩ : ∃ L, ps.length = L + 1 := ⟨ps.length - 1, by omega⟩
      have hLp : (0 < L + 1) = True := by simp
      have hL0 : (L + 1 = 0) = False := by simp
      simp (disch := first | assumption | (apply Ap.symm; assumption) | omega | decide | (simp only [U_len, List.length_append, List.length_replicate, List.length_cons, List.length_nil, List.length_set] <;> omega) | fail) only [hL, hL0, ↓Xa, Xb, Xc, ↓reduceIte, Nat.reduceLT, Nat.reduceEqDiff, Nat.reduceBEq, Nat.reduceLeDiff, Nat.reduceAdd, Nat.reduceMul]
      refine alloc_i fun p hp => ?_
      simp (disch := first | assumption | (apply Ap.symm; assumption) | omega | decide | (simp only [U_len, List.length_append, List.length_replicate, List.length_cons, List.length_nil, List.length_set] <;> omega) | fail) only [hL, dn_succ, ↓Xa, Xb, Xc, ↓reduceIte, Nat.reduceLT, Nat.reduceEqDiff, Nat.reduceBEq, Nat.reduceLeDiff, Nat.reduceAdd, Nat.reduceMul]
      refine W_atH fun M0 hM0 => ?_
      refine W_loop (fun s : Nat × AHeap => ⟨[], [(3, LS ps false), (8, .ptr p 2 0), (9, .int .i64 (dn s.1))], s.2⟩) (fun s => s.1 ≤ ps.length ∧ bld p (dec (val 1000000000 (ps.drop s.1))) H s.2) (fun s => s.1) (L + 1, M0) (Settle.now rfl) ⟨by dsimp only; omega, ?_⟩ ?_
      · dsimp only
        rw [List.drop_of_length_le (by omega), show val 1000000000 [] = 0 from rfl, dec_zero, hM0]
        exact bld_new
      rintro ⟨k, M⟩ ⟨hk, hb⟩
      dsimp only at hk hb ⊢
      cases k with
      | zero =>
        simp (disch := first | assumption | (apply Ap.symm; assumption) | omega | decide | (simp only [U_len, List.length_append, List.length_replicate, List.length_cons, List.length_nil, List.length_set] <;> omega) | fail) only [dn_zero, ↓Xa, Xb, Xc, ↓reduceIte, Nat.reduceLT, Nat.reduceEqDiff, Nat.reduceBEq, Nat.reduceLeDiff, Nat.reduceAdd, Nat.reduceMul]
        refine Settle.now ?_
        rw [List.drop_zero, hv] at hb
        simp (disch := first | assumption | (apply Ap.symm; assumption) | omega | decide | (simp only [U_len, List.length_append, List.length_replicate, List.length_cons, List.length_nil, List.length_set] <;> omega) | fail) only [↓Xa, Xb, Xc, ↓reduceIte, Nat.reduceLT, Nat.reduceEqDiff, Nat.reduceBEq, Nat.reduceLeDiff, Nat.reduceAdd, Nat.reduceMul]
        have hd0 : 0 < (dec N).length := List.length_pos_iff.2 (dec_pos hN0)
        refine run_call (bstr_run hb hp (by omega) hd0 fun H' hH' => ?_)
        simp (disch := first | assumption | (apply Ap.symm; assumption) | omega | decide | (simp only [U_len, List.length_append, List.length_replicate, List.length_cons, List.length_nil, List.length_set] <;> omega) | fail) only [rs190, ↓Xa, Xb, Xc, ↓reduceIte, Nat.reduceLT, Nat.reduceEqDiff, Nat.reduceBEq, Nat.reduceLeDiff, Nat.reduceAdd, Nat.reduceMul]
        exact SetR.dropTo hH' (SetR.now hq)
      | succ k =>
        obtain ⟨hlt, hstep⟩ := hdig k _ (by omega) rfl
        have hlt2 : ps.getD k 0 < 1000000000 := hlt
        simp (disch := first | assumption | (apply Ap.symm; assumption) | omega | decide | (simp only [U_len, List.length_append, List.length_replicate, List.length_cons, List.length_nil, List.length_set] <;> omega) | fail) only [dn_succ, hL, ↓Xa, Xb, Xc, ↓reduceIte, Nat.reduceLT, Nat.reduceEqDiff, Nat.reduceBEq, Nat.reduceLeDiff, Nat.reduceAdd, Nat.reduceMul]
        refine alloc_i fun q hq' => ?_
        generalize hpk : ps.getD k 0 = pk at *
        simp (disch := first | assumption | (apply Ap.symm; assumption) | omega | decide | (simp only [U_len, List.length_append, List.length_replicate, List.length_cons, List.length_nil, List.length_set] <;> omega) | fail) only [hpk, dn_succ, hL, ↓Xa, Xb, Xc, ↓reduceIte, Nat.reduceLT, Nat.reduceEqDiff, Nat.reduceBEq, Nat.reduceLeDiff, Nat.reduceAdd, Nat.reduceMul]
        refine W_loop (fun s : Nat × List UInt8 × Nat => ⟨[], [(3, LS ps false), (8, .ptr p 2 0), (9, .int .i64 (k : Nat)), (10, .ptr q 9 0), (11, .int .u32 (s.2.2 : Nat)), (12, .int .i64 (dn s.1))], M.upd q (some (.row 248 1 (Bt s.2.1)))⟩)
          (fun s => TxI pk s.1 s.2.1 s.2.2) (fun s => s.1) (9, List.replicate 9 0, pk) (Settle.now rfl) ⟨Nat.le_refl _, by simp [wide, pad, digs_zero, Nat.mod_one], by simp⟩ ?_
        rintro ⟨j, cells, x⟩ hx
        dsimp only at hx ⊢
        have hcl := hx.len
        have hx32 : x < 4294967296 := by
          have := hx.2.2
          have := Nat.div_le_self pk (10 ^ (9 - j))
          omega
        cases j with
        | zero =>
          have ecells : cells = wide 9 pk := by
            rw [hx.2.1]; simp [Nat.mod_eq_of_lt hlt2]
          have htk : (Bt cells).take 9 = Bt cells := List.take_of_length_le (by rw [Bt_len]; omega)
          have hbl : (Bt cells).length = 9 := by rw [Bt_len]; exact hcl
          simp (disch := first | assumption | (apply Ap.symm; assumption) | omega | decide | (simp only [U_len, List.length_append, List.length_replicate, List.length_cons, List.length_nil, List.length_set] <;> omega) | fail) only [dn_zero, ↓Xa, Xb, Xc, ↓reduceIte, Nat.reduceLT, Nat.reduceEqDiff, Nat.reduceBEq, Nat.reduceLeDiff, Nat.reduceAdd, Nat.reduceMul]
          refine Settle.now ?_
          simp (disch := first | assumption | (apply Ap.symm; assumption) | omega | decide | (simp only [U_len, List.length_append, List.length_replicate, List.length_cons, List.length_nil, List.length_set] <;> omega) | fail) only [htk, str_Sx, hL, dn_succ, ↓Xa, Xb, Xc, ↓reduceIte, Nat.reduceLT, Nat.reduceEqDiff, Nat.reduceBEq, Nat.reduceLeDiff, Nat.reduceAdd, Nat.reduceMul]
          refine ⟨by decide, ?_⟩
          obtain ⟨a1, a2, w0⟩ := bld_upd (x := .row 248 1 (Bt cells)) hb hq'
          have fin : ∀ (m : List UInt8) (M' : AHeap), bld p (dec (val 1000000000 (ps.drop (k + 1))) ++ m) (H.upd q (some (.row 248 1 (Bt cells)))) M' → dec (val 1000000000 (ps.drop k)) = dec (val 1000000000 (ps.drop (k + 1))) ++ m →
              Settle (fun s' => ∃ x' : Nat × AHeap, x'.1 < k + 1 ∧ (x'.1 ≤ L + 1 ∧ bld p (dec (val 1000000000 (ps.drop x'.1))) H x'.2) ∧ s' = ⟨[], [(3, LS ps false), (8, .ptr p 2 0), (9, .int .i64 (dn x'.1))], x'.2⟩) ⟨[], [(3, LS ps false), (8, .ptr p 2 0), (9, .int .i64 (dn k))], M'⟩ := fun m M' hb' e => by
            obtain ⟨M'', h1, h2⟩ := bld_drop hb' a1 a2
            exact Settle.dropTo h2 (Settle.now ⟨(k, M''), Nat.lt_succ_self k, ⟨by dsimp only; omega, by dsimp only; rw [e]; exact h1⟩, rfl⟩)
          have hbd : (dec (val 1000000000 (ps.drop (k + 1)))).length ≤ 9 * ps.length := by
            refine dec_len (Nat.lt_of_lt_of_le (val_lt (hlim.drop (k + 1))) ?_)
            rw [show (1000000000 : Nat) = 10 ^ 9 from rfl, ← Nat.pow_mul]
            exact Nat.pow_le_pow_right (by omega) (Nat.mul_le_mul_left _ (by simp))
          by_cases hkL : k = L
          · rw [if_pos (by omega)] at hstep
            have hpk0 : pk ≠ 0 := by
              have := hlast hN0
              rwa [hL, Nat.add_sub_cancel, ← hkL, hpk] at this
            have hm0 : 0 < (dec pk).length := List.length_pos_iff.2 (dec_pos (by omega))
            have hm9 : (dec pk).length ≤ 9 := dec_len (k := 9) hlt2
            have hd1 : decide (k = L + 1 - 1) = true := by simp [hkL]
            simp (disch := first | assumption | (apply Ap.symm; assumption) | omega | decide | (simp only [U_len, List.length_append, List.length_replicate, List.length_cons, List.length_nil, List.length_set] <;> omega) | fail) only [hd1, ↓Xa, Xb, Xc, ↓reduceIte, Nat.reduceLT, Nat.reduceEqDiff, Nat.reduceBEq, Nat.reduceLeDiff, Nat.reduceAdd, Nat.reduceMul]
            refine (trimL_fn (c := 48) (l := cells) (by omega) (by decide)).call ?_
            rw [ecells, wide_trim, ← ecells]
            simp (disch := first | assumption | (apply Ap.symm; assumption) | omega | decide | (simp only [U_len, List.length_append, List.length_replicate, List.length_cons, List.length_nil, List.length_set] <;> omega) | fail) only [↓Xa, Xb, Xc, ↓reduceIte, Nat.reduceLT, Nat.reduceEqDiff, Nat.reduceBEq, Nat.reduceLeDiff, Nat.reduceAdd, Nat.reduceMul]
            refine run_call (wstr_run w0 (by omega) hm0 fun M' hM' => ?_)
            simp (disch := first | assumption | (apply Ap.symm; assumption) | omega | decide | (simp only [U_len, List.length_append, List.length_replicate, List.length_cons, List.length_nil, List.length_set] <;> omega) | fail) only [↓Xa, Xb, Xc, ↓reduceIte, Nat.reduceLT, Nat.reduceEqDiff, Nat.reduceBEq, Nat.reduceLeDiff, Nat.reduceAdd, Nat.reduceMul]
            exact fin _ _ hM' hstep
          · rw [if_neg (by omega)] at hstep
            rw [← ecells] at hstep
            have hd1 : decide (k = L + 1 - 1) = false := by simp [hkL]
            simp (disch := first | assumption | (apply Ap.symm; assumption) | omega | decide | (simp only [U_len, List.length_append, List.length_replicate, List.length_cons, List.length_nil, List.length_set] <;> omega) | fail) only [hd1, ↓Xa, Xb, Xc, ↓reduceIte, Nat.reduceLT, Nat.reduceEqDiff, Nat.reduceBEq, Nat.reduceLeDiff, Nat.reduceAdd, Nat.reduceMul]
            refine run_call (wstr_run w0 (by omega) (by omega) fun M' hM' => ?_)
            simp (disch := first | assumption | (apply Ap.symm; assumption) | omega | decide | (simp only [U_len, List.length_append, List.length_replicate, List.length_cons, List.length_nil, List.length_set] <;> omega) | fail) only [↓Xa, Xb, Xc, ↓reduceIte, Nat.reduceLT, Nat.reduceEqDiff, Nat.reduceBEq, Nat.reduceLeDiff, Nat.reduceAdd, Nat.reduceMul]
            exact fin _ _ hM' hstep
        | succ j =>
          have hj : j < 9 := by have := hx.1; omega
          have hbl : (Bt cells).length = 9 := by rw [Bt_len]; exact hcl
          have hd : x % 10 < 10 := Nat.mod_lt _ (by omega)
          simp (disch := first | assumption | (apply Ap.symm; assumption) | omega | decide | (simp only [U_len, List.length_append, List.length_replicate, List.length_cons, List.length_nil, List.length_set] <;> omega) | fail) only [dn_succ, stP_Bt, ↓Xa, Xb, Xc, ↓reduceIte, Nat.reduceLT, Nat.reduceEqDiff, Nat.reduceBEq, Nat.reduceLeDiff, Nat.reduceAdd, Nat.reduceMul]
          exact ⟨by omega, by omega, Settle.now ⟨(j, _, x / 10), Nat.lt_succ_self j, hx.step, rfl⟩⟩
  · have h1 : 0 < (digs 4294967296 n).length := by
      have : ¬ (digs 4294967296 n).length = 0 := by rw [hz]; exact hn0
      omega
    simp (disch := first | assumption | (apply Ap.symm; assumption) | omega | decide | (simp only [U_len, List.length_append, List.length_replicate, List.length_cons, List.length_nil, List.length_set] <;> omega) | fail) only [h1, ↓Xa, Xb, Xc, ↓reduceIte, Nat.reduceLT, Nat.reduceEqDiff, Nat.reduceBEq, Nat.reduceLeDiff, Nat.reduceAdd, Nat.reduceMul]
    refine (divsmall_fn (d := 1000000000) true (lim_digs (by omega) n) (by omega) (by omega) (by omega)).call ?_
    rw [val_digs (by omega)]
    simp (disch := first | assumption | (apply Ap.symm; assumption) | omega | decide | (simp only [U_len, List.length_append, List.length_replicate, List.length_cons, List.length_nil, List.length_set] <;> omega) | fail) only [↓Xa, Xb, Xc, ↓reduceIte, Nat.reduceLT, Nat.reduceEqDiff, Nat.reduceBEq, Nat.reduceLeDiff, Nat.reduceAdd, Nat.reduceMul]
    have hlen := congrArg List.length he
    rw [List.length_append] at hlen
    refine app_grow (m := [n % 1000000000]) hg rfl (by simp) (by simp; omega) fun x' H2 hg2 => ?_
    simp (disch := first | assumption | (apply Ap.symm; assumption) | omega | decide | (simp only [U_len, List.length_append, List.length_replicate, List.length_cons, List.length_nil, List.length_set] <;> omega) | fail) only [↓Xa, Xb, Xc, ↓reduceIte, Nat.reduceLT, Nat.reduceEqDiff, Nat.reduceBEq, Nat.reduceLeDiff, Nat.reduceAdd, Nat.reduceMul]
    refine Settle.now ⟨(done ++ [n % 1000000000], x', H2, n / 1000000000), Nat.div_lt_self (by omega) (by omega), ⟨hg2, ?_, Nat.le_trans (Nat.div_le_self _ _) hle⟩, rfl⟩
    dsimp only
    rw [he, digs_pos hP (show 0 < n by omega), List.append_assoc]; rfl
end Go.Proofs.YtanchgkiomfhhaaDoor.Fw

/- The laws' first question: are numbers added, multiplied, divided, told? -/
namespace Go.Proofs.YtanchgkiomfhhaaDoor.Fw
set_option linter.unusedSimpArgs false
set_option linter.unusedVariables false
open Go Go.Proofs.YtanchgkiomfhhaaDoor.Ma
set_option maxRecDepth 20000

end Go.Proofs.YtanchgkiomfhhaaDoor.Fw

/- What package limb computes, in terms of numbers. -/
namespace Go.Proofs.YtanchgkiomfhhaaDoor.Fw
set_option linter.unusedSimpArgs false
set_option linter.unusedVariables false
open Go Go.Proofs.YtanchgkiomfhhaaDoor.Ma
set_option maxRecDepth 20000

/-- A row of limbs, what it is worth, how long it is at most. -/
structure Nm (l : List Nat) (n k : Nat) : Prop where
  lim : Lim 4294967296 l
  val : val 4294967296 l = n
  len : l.length ≤ k
theorem Nm.lt {l : List Nat} {n k : Nat} (h : Nm l n k) : n < 4294967296 ^ k := by
  rw [← h.val]; exact Nat.lt_of_lt_of_le (val_lt h.lim) (Nat.pow_le_pow_right (by omega) h.len)
theorem Nm.digs {n k : Nat} (h : n < 4294967296 ^ k) : Nm (digs 4294967296 n) n k := ⟨lim_digs (by omega) n, val_digs (by omega) n, digs_len (by omega) k n h⟩
theorem Nm.raw {l : List Nat} {k : Nat} (h : Lim 4294967296 l) (hk : l.length ≤ k) : Nm l (Ma.val 4294967296 l) k := ⟨h, rfl, hk⟩
theorem Nm.mono {l : List Nat} {n k k' : Nat} (h : Nm l n k) (hk : k ≤ k') : Nm l n k' := ⟨h.lim, h.val, Nat.le_trans h.len hk⟩
theorem lt_mul {m n k k' : Nat} (h : m < 4294967296 ^ k) (h' : n < 4294967296 ^ k') : m * n < 4294967296 ^ (k + k') := by
  rw [Nat.pow_add]; exact Nat.mul_lt_mul_of_lt_of_lt h h'
theorem add_n {a b : List Nat} {m n k k' : Nat} (ta tb : Bool) (ha : Nm a m k) (hb : Nm b n k') (hk : k ≤ 1000000) (hk' : k' ≤ 1000000) : PFn Tryd.prog 186 [LS a ta, LS b tb] (LS (Ma.digs 4294967296 (m + n)) true) := by
  have := add_fn ta tb ha.lim hb.lim (Nat.le_trans ha.len (by omega)) (Nat.le_trans hb.len (by omega))
  rwa [ha.val, hb.val] at this
theorem mul_n {a b : List Nat} {m n k k' : Nat} (ta tb : Bool) (ha : Nm a m k) (hb : Nm b n k') (hk : k ≤ 1000000) (hk' : k' ≤ 1000000) : PFn Tryd.prog 171 [LS a ta, LS b tb] (LS (Ma.digs 4294967296 (m * n)) true) := by
  have := mul_fn ta tb ha.lim hb.lim (Nat.le_trans ha.len (by omega)) (Nat.le_trans hb.len (by omega))
  rwa [ha.val, hb.val] at this
end Go.Proofs.YtanchgkiomfhhaaDoor.Fw

/- The law of quotients and remainders of limbs, without the reference, as what its code computes: true. -/
namespace Go.Proofs.YtanchgkiomfhhaaDoor.Fw
set_option linter.unusedSimpArgs false
set_option linter.unusedVariables false
open Go Go.Proofs.YtanchgkiomfhhaaDoor.Ma
set_option maxRecDepth 20000

theorem Nm.one {c : Nat} (h : c < 4294967296) : Nm [c] c 1 := ⟨Lim.one h, val_one _ _, Nat.le_refl _⟩
theorem muls_n {a : List Nat} {m k c : Nat} (ta : Bool) (ha : Nm a m k) (hk : k ≤ 1000000) (hc : c < 4294967296) : PFn Tryd.prog 214 [LS a ta, .int .u32 (c : Nat)] (LS (Ma.digs 4294967296 (m * c)) true) := by
  intro H Q hq
  refine enter214 (by simp) ?_
  simp (disch := first | assumption | (apply Ap.symm; assumption) | omega | decide | (simp only [U_len, List.length_append, List.length_replicate, List.length_cons, List.length_nil, List.length_set] <;> omega) | fail) only [ac214, ↓Xa, Xb, Xc, ↓reduceIte, Nat.reduceLT, Nat.reduceEqDiff, Nat.reduceBEq, Nat.reduceLeDiff, Nat.reduceAdd, Nat.reduceMul]
  refine (mul_n (b := [c]) ta true ha (Nm.one hc) hk (by omega)).call ?_
  simp (disch := first | assumption | (apply Ap.symm; assumption) | omega | decide | (simp only [U_len, List.length_append, List.length_replicate, List.length_cons, List.length_nil, List.length_set] <;> omega) | fail) only [rs214, ↓Xa, Xb, Xc, ↓reduceIte, Nat.reduceLT, Nat.reduceEqDiff, Nat.reduceBEq, Nat.reduceLeDiff, Nat.reduceAdd, Nat.reduceMul]
  exact SetR.now hq
end Go.Proofs.YtanchgkiomfhhaaDoor.Fw

/- The number of a decimal text, and back. -/
namespace Go.Proofs.YtanchgkiomfhhaaDoor.Ma
set_option linter.unusedSimpArgs false
set_option linter.unusedVariables false

def decF (v : Nat) (l : List UInt8) : Nat := l.foldl (fun v b => 10 * v + (b.toNat - 48)) v
def decV (l : List UInt8) : Nat := decF 0 l
theorem decF_eq : ∀ (l : List UInt8) (v : Nat), decF v l = 10 ^ l.length * v + decV l
  | [], v => by simp [decF, decV]
  | b :: l, v => by
    have h1 := decF_eq l (10 * v + (b.toNat - 48))
    have h2 := decF_eq l (10 * 0 + (b.toNat - 48))
    have e1 : decF v (b :: l) = decF (10 * v + (b.toNat - 48)) l := rfl
    have e2 : decV (b :: l) = decF (10 * 0 + (b.toNat - 48)) l := rfl
    rw [e1, e2, h1, h2, List.length_cons, Nat.pow_succ]
    grind
theorem decV_app (l m : List UInt8) : decV (l ++ m) = 10 ^ m.length * decV l + decV m := by
  have : decV (l ++ m) = decF (decV l) m := by simp only [decV, decF, List.foldl_append]
  rw [this, decF_eq]
theorem decV_one (b : UInt8) : decV [b] = b.toNat - 48 := by simp [decV, decF]
theorem decF_lt : ∀ {l : List UInt8} {v : Nat}, (∀ b, b ∈ l → b.toNat ≤ 57) → decF v l < 10 ^ l.length * (v + 1)
  | [], v, _ => by simp [decF]
  | b :: l, v, h => by
    have h1 := decF_lt (l := l) (v := 10 * v + (b.toNat - 48)) fun x hx => h x (List.mem_cons_of_mem _ hx)
    have h2 := h b List.mem_cons_self
    have e1 : decF v (b :: l) = decF (10 * v + (b.toNat - 48)) l := rfl
    rw [e1]
    refine Nat.lt_of_lt_of_le h1 ?_
    rw [List.length_cons, Nat.pow_succ, Nat.mul_assoc]
    exact Nat.mul_le_mul_left _ (by omega)
theorem decV_lt {l : List UInt8} (h : ∀ b, b ∈ l → b.toNat ≤ 57) : decV l < 10 ^ l.length := by
  have := decF_lt (v := 0) h
  simpa [decV] using this
def isDig (b : UInt8) : Prop := 48 ≤ b.toNat ∧ b.toNat ≤ 57
/-- A text that is a number's. -/
def Good (l : List UInt8) : Prop := l ≠ [] ∧ (∀ b, b ∈ l → isDig b) ∧ (l.length = 1 ∨ (l.getD 0 0).toNat ≠ 48)
theorem good_decT (n : Nat) : Good (decT n) := by
  unfold decT
  split
  · exact ⟨by simp, by simp [isDig], .inl rfl⟩
  · rename_i h
    have hn : 0 < n := by omega
    refine ⟨dec_pos hn, fun b hb => ?_, .inr ?_⟩
    · unfold dec at hb
      obtain ⟨x, hx, rfl⟩ := List.mem_map.1 hb
      have := lim_digs (B := 10) (by omega) n x (List.mem_reverse.1 hx)
      unfold isDig; rw [chr_nat this]; omega
    · have hl := digs_last (B := 10) (by omega) hn
      have hne : digs 10 n ≠ [] := fun e => by have := (digs_nil (B := 10) (by omega)).1 e; omega
      obtain ⟨l, x, hx⟩ : ∃ l x, digs 10 n = l ++ [x] := ⟨_, _, (List.dropLast_concat_getLast hne).symm⟩
      have hx0 : x ≠ 0 := by
        rw [hx, last_append (by simp)] at hl
        simpa using hl
      have hx10 : x < 10 := lim_digs (B := 10) (by omega) n x (by rw [hx]; simp)
      have : dec n = chr x :: l.reverse.map chr := by simp [dec, hx]
      rw [this]
      show (chr x).toNat ≠ 48
      rw [chr_nat hx10]; omega
/-- Where a text goes wrong. -/
def badAt (l : List UInt8) (i : Nat) : Prop := (l.getD i 0).toNat < 48 ∨ 57 < (l.getD i 0).toNat ∨ (0 < i ∧ (l.getD 0 0).toNat = 48)
theorem good_of {l : List UInt8} (h0 : l ≠ []) (h : ∀ i, i < l.length → ¬ badAt l i) : Good l := by
  refine ⟨h0, fun b hb => ?_, ?_⟩
  · obtain ⟨i, hi, rfl⟩ := List.getElem_of_mem hb
    have := h i hi
    unfold badAt at this
    rw [List.getD_eq_getElem?_getD, List.getElem?_eq_getElem hi, Option.getD_some] at this
    unfold isDig; omega
  · by_cases hl : l.length = 1
    · exact .inl hl
    · right
      have hp : 0 < l.length := List.length_pos_iff.2 h0
      have := h 1 (by omega)
      unfold badAt at this; omega
theorem bad_of_good {l : List UInt8} (h : Good l) {i : Nat} (hi : i < l.length) : ¬ badAt l i := by
  obtain ⟨h0, h1, h2⟩ := h
  have := h1 _ (List.getElem_mem hi)
  unfold badAt isDig at *
  rw [List.getD_eq_getElem?_getD, List.getElem?_eq_getElem hi, Option.getD_some]
  omega
end Go.Proofs.YtanchgkiomfhhaaDoor.Ma

/- A text read, as package limb reads it. -/
namespace Go.Proofs.YtanchgkiomfhhaaDoor.Fw
set_option linter.unusedSimpArgs false
set_option linter.unusedVariables false
open Go Go.Proofs.YtanchgkiomfhhaaDoor.Ma
set_option maxRecDepth 20000

def spot (e a : Nat) : AV := .agg [.int .i64 (e : Int), .int .i64 (a : Int)]
theorem cells_i2 {k k' : IntKind} {a b : Int} : (AV.agg [.int k a, .int k' b]).cells = some [.int k a, .int k' b] := id rfl
theorem min_k {a b : Nat} {K : AV → Prop} : maxW false (.int .i64 (a : Int)) (.int .i64 (b : Int)) K ↔ K (.int .i64 ((min a b : Nat) : Int)) := by
  have : (if (b : Int) < (a : Int) then (b : Int) else (a : Int)) = ((min a b : Nat) : Int) := by split <;> omega
  simp only [maxW, true_and, Bool.false_eq_true, if_false, this]
theorem rng_Sx {H : AHeap} {l : List UInt8} {K : AV → AHeap → Prop} : rngW H (Sx l) K = rngS H ⟨l.toArray⟩ K := id rfl
theorem byte_Sx {l : List UInt8} {i : Nat} : byteAt ⟨l.toArray⟩ i = (l.getD i 0).toNat := by simp [byteAt]
theorem nxt_Sl {H : AHeap} {b pos : Nat} {l : List UInt8} {K : AV → AHeap → Prop} (h : pos < l.length) (hb : (l.getD pos 0).toNat < 128) : nxtP H b K (some (.raw (.stringIter ⟨l.toArray⟩ pos))) = K (.tup [.bool true, .int .i64 (pos : Int), .int .i32 (((l.getD pos 0).toNat : Nat) : Int)]) (H.upd b (some (.raw (.stringIter ⟨l.toArray⟩ (pos + 1))))) := by
  rw [nxt_lt (by rw [size_Sx]; exact h) (by rw [byte_Sx]; exact hb), byte_Sx]
theorem nxt_Sg {H : AHeap} {b pos : Nat} {l : List UInt8} {K : AV → AHeap → Prop} (h : l.length ≤ pos) : nxtP H b K (some (.raw (.stringIter ⟨l.toArray⟩ pos))) = K (.tup [.bool false]) H := nxt_ge (by rw [size_Sx]; exact h)
theorem wn_i32 {n : Nat} (h : n < 2147483648) : IntKind.i32.wrap (n : Int) = (n : Int) := by
  unfold IntKind.wrap; simp only [IntKind.bits, IntKind.signed, Bool.true_and, decide_eq_true_eq, ge_iff_le]; split <;> omega
theorem ten_b {n m : Nat} (h : 4 * n ≤ 32 * m) : 10 ^ n ≤ 4294967296 ^ m := by
  have h1 : 10 ^ n ≤ 16 ^ n := Nat.pow_le_pow_left (by omega) n
  have h2 : (16 : Nat) ^ n = 2 ^ (4 * n) := by rw [Nat.pow_mul]
  have h3 : (4294967296 : Nat) ^ m = 2 ^ (32 * m) := by rw [Nat.pow_mul]
  rw [h3]
  exact Nat.le_trans h1 (by rw [h2]; exact Nat.pow_le_pow_right (by omega) h)
theorem ten_bound {n : Nat} (h : n ≤ 65536) : 10 ^ n ≤ 4294967296 ^ 8192 := ten_b (m := 8192) (by omega)
/-- What is answered of a text. -/
def ReadR (l : List UInt8) (r : AV) : Prop :=
  (65536 < l.length ∧ r = .tup [LS [] true, spot 3 65536]) ∨ (l = [] ∧ r = .tup [LS [] true, spot 6 0]) ∨
  (l.length ≤ 65536 ∧ ∃ i, i < l.length ∧ badAt l i ∧ (∀ j, j < i → ¬ badAt l j) ∧ r = .tup [LS [] true, spot 6 i]) ∨
  (l.length ≤ 65536 ∧ Good l ∧ r = .tup [LS (Ma.digs 4294967296 (decV l)) true, spot 0 0])
theorem readR_fn {l : List UInt8} {r r' : AV} (h : ReadR l r) (h' : ReadR l r') : r = r' := by
  have nb : ∀ {i}, Good l → i < l.length → badAt l i → False := fun g hi hb => bad_of_good g hi hb
  have ne : Good l → l = [] → False := fun g e => g.1 e
  rcases h with ⟨a, rfl⟩ | ⟨a, rfl⟩ | ⟨a, i, b, c, d, rfl⟩ | ⟨a, b, rfl⟩ <;> rcases h' with ⟨a', rfl⟩ | ⟨a', rfl⟩ | ⟨a', i', b', c', d', rfl⟩ | ⟨a', b', rfl⟩ <;>
    first
    | rfl
    | (exfalso; omega)
    | (subst a; simp at a'; done)
    | (subst a'; simp at a; done)
    | (subst a; simp at b'; done)
    | (subst a'; simp at b; done)
    | exact (ne ‹_› ‹_›).elim
    | exact (nb ‹_› ‹_› ‹_›).elim
    | (have : i = i' := by
        rcases Nat.lt_trichotomy i i' with h | h | h
        · exact absurd c (d' i h)
        · exact h
        · exact absurd c' (d i' h)
       rw [this])
theorem read_fn {l : List UInt8} {r : AV} (hr : ReadR l r) (hsz : l.length < 9223372036854775808) : PFn Tryd.prog 202 [Sx l] r := by
  intro H Q hq
  have out : ∀ {r'}, ReadR l r' → Q r' H := fun h => by rw [readR_fn h hr]; exact hq
  refine enter202 (by simp) ?_
  simp (disch := first | assumption | (apply Ap.symm; assumption) | omega | decide | (simp only [U_len, List.length_append, List.length_replicate, List.length_cons, List.length_nil, List.length_set] <;> omega) | fail) only [ac202, ↓Xa, Xb, Xc, ↓reduceIte, Nat.reduceLT, Nat.reduceEqDiff, Nat.reduceBEq, Nat.reduceLeDiff, Nat.reduceAdd, Nat.reduceMul]
  refine alloc_i fun p1 hp1 => ?_
  have n1 := hp1
  have fin : ∀ {r' : AV} {x : Option ABlk}, ReadR l r' → SetR Q r' (H.upd p1 x) := fun h => SetR.dropTo ((Le.refl H).updB n1) (SetR.now (out h))
  by_cases h1 : 65536 < l.length
  · simp (disch := first | assumption | (apply Ap.symm; assumption) | omega | decide | (simp only [U_len, List.length_append, List.length_replicate, List.length_cons, List.length_nil, List.length_set] <;> omega) | fail) only [len_Sx, h1, cells_i2, rs202, ↓Xa, Xb, Xc, ↓reduceIte, Nat.reduceLT, Nat.reduceEqDiff, Nat.reduceBEq, Nat.reduceLeDiff, Nat.reduceAdd, Nat.reduceMul]
    exact fin (.inl ⟨h1, rfl⟩)
  by_cases h2 : l = []
  · simp (disch := first | assumption | (apply Ap.symm; assumption) | omega | decide | (simp only [U_len, List.length_append, List.length_replicate, List.length_cons, List.length_nil, List.length_set] <;> omega) | fail) only [len_Sx, str_Sx, eql_Sx, h2, rs202, List.length_nil, ↓Xa, Xb, Xc, ↓reduceIte, Nat.reduceLT, Nat.reduceEqDiff, Nat.reduceBEq, Nat.reduceLeDiff, Nat.reduceAdd, Nat.reduceMul]
    exact fin (.inr (.inl ⟨h2, rfl⟩))
  have hpos : 0 < l.length := List.length_pos_iff.2 h2
  simp (disch := first | assumption | (apply Ap.symm; assumption) | omega | decide | (simp only [U_len, List.length_append, List.length_replicate, List.length_cons, List.length_nil, List.length_set] <;> omega) | fail) only [len_Sx, str_Sx, eql_Sx, h1, h2, ↓Xa, Xb, Xc, ↓reduceIte, Nat.reduceLT, Nat.reduceEqDiff, Nat.reduceBEq, Nat.reduceLeDiff, Nat.reduceAdd, Nat.reduceMul]
  refine W_loop (fun i : Nat => ⟨[], [(0, Sx l), (3, .ptr p1 2 0), (19, .int .i64 (l.length : Nat)), (20, .int .i64 (i : Nat))], H.upd p1 (some (.row 105 0 [.int .i64 ((0 : Nat) : Int), .int .i64 ((0 : Nat) : Int)]))⟩) (fun i => i ≤ l.length ∧ ∀ j, j < i → ¬ badAt l j) (fun i => l.length - i) 0 (Settle.now rfl) ⟨by simp, fun j h => by omega⟩ ?_
  rintro i ⟨hi1, hi2⟩
  by_cases hi : i < l.length
  · have bad : badAt l i → SetR Q (.tup [LS [] true, spot 6 i]) (H.upd p1 (some (.row 105 0 [.int .i64 ((6 : Nat) : Int), .int .i64 (i : Int)]))) := fun hb => fin (.inr (.inr (.inl ⟨by omega, i, hi, hb, hi2, rfl⟩)))
    have step : ¬ badAt l i → ∀ j, j < i + 1 → ¬ badAt l j := fun hb j hj => by
      by_cases e : j = i
      · rw [e]; exact hb
      · exact hi2 j (by omega)
    by_cases c1 : (l.getD i 0).toNat < 48
    · simp (disch := first | assumption | (apply Ap.symm; assumption) | omega | decide | (simp only [U_len, List.length_append, List.length_replicate, List.length_cons, List.length_nil, List.length_set] <;> omega) | fail) only [hi, idx_Sx, c1, cells_i2, rs202, ↓Xa, Xb, Xc, ↓reduceIte, Nat.reduceLT, Nat.reduceEqDiff, Nat.reduceBEq, Nat.reduceLeDiff, Nat.reduceAdd, Nat.reduceMul]
      exact bad (.inl c1)
    by_cases c2 : 57 < (l.getD i 0).toNat
    · simp (disch := first | assumption | (apply Ap.symm; assumption) | omega | decide | (simp only [U_len, List.length_append, List.length_replicate, List.length_cons, List.length_nil, List.length_set] <;> omega) | fail) only [hi, idx_Sx, c1, c2, cells_i2, rs202, ↓Xa, Xb, Xc, ↓reduceIte, Nat.reduceLT, Nat.reduceEqDiff, Nat.reduceBEq, Nat.reduceLeDiff, Nat.reduceAdd, Nat.reduceMul]
      exact bad (.inr (.inl c2))
    by_cases c3 : 0 < i
    · by_cases c4 : (l.getD 0 0).toNat = 48
      · simp (disch := first | assumption | (apply Ap.symm; assumption) | omega | decide | (simp only [U_len, List.length_append, List.length_replicate, List.length_cons, List.length_nil, List.length_set] <;> omega) | fail) only [hi, idx_Sx, c1, c2, c3, c4, cells_i2, rs202, ↓Xa, Xb, Xc, ↓reduceIte, Nat.reduceLT, Nat.reduceEqDiff, Nat.reduceBEq, Nat.reduceLeDiff, Nat.reduceAdd, Nat.reduceMul]
        exact bad (.inr (.inr ⟨c3, c4⟩))
      · simp (disch := first | assumption | (apply Ap.symm; assumption) | omega | decide | (simp only [U_len, List.length_append, List.length_replicate, List.length_cons, List.length_nil, List.length_set] <;> omega) | fail) only [hi, idx_Sx, c1, c2, c3, c4, ↓Xa, Xb, Xc, ↓reduceIte, Nat.reduceLT, Nat.reduceEqDiff, Nat.reduceBEq, Nat.reduceLeDiff, Nat.reduceAdd, Nat.reduceMul]
        exact Settle.now ⟨i + 1, by omega, ⟨by omega, step (by unfold badAt; omega)⟩, rfl⟩
    · simp (disch := first | assumption | (apply Ap.symm; assumption) | omega | decide | (simp only [U_len, List.length_append, List.length_replicate, List.length_cons, List.length_nil, List.length_set] <;> omega) | fail) only [hi, idx_Sx, c1, c2, c3, ↓Xa, Xb, Xc, ↓reduceIte, Nat.reduceLT, Nat.reduceEqDiff, Nat.reduceBEq, Nat.reduceLeDiff, Nat.reduceAdd, Nat.reduceMul]
      exact Settle.now ⟨i + 1, by omega, ⟨by omega, step (by unfold badAt; omega)⟩, rfl⟩
  · have hg : Good l := good_of h2 fun j hj => hi2 j (by omega)
    simp (disch := first | assumption | (apply Ap.symm; assumption) | omega | decide | (simp only [U_len, List.length_append, List.length_replicate, List.length_cons, List.length_nil, List.length_set] <;> omega) | fail) only [hi, ↓Xa, Xb, Xc, ↓reduceIte, Nat.reduceLT, Nat.reduceEqDiff, Nat.reduceBEq, Nat.reduceLeDiff, Nat.reduceAdd, Nat.reduceMul]
    refine Settle.now ?_
    simp (disch := first | assumption | (apply Ap.symm; assumption) | omega | decide | (simp only [U_len, List.length_append, List.length_replicate, List.length_cons, List.length_nil, List.length_set] <;> omega) | fail) only [↓Xa, Xb, Xc, ↓reduceIte, Nat.reduceLT, Nat.reduceEqDiff, Nat.reduceBEq, Nat.reduceLeDiff, Nat.reduceAdd, Nat.reduceMul]
    have hdig : ∀ b, b ∈ l → b.toNat ≤ 57 := fun b hb => (hg.2.1 b hb).2
    refine W_loop (fun s : List UInt8 × Nat => ⟨[], [(0, Sx s.1), (3, .ptr p1 2 0), (5, LS (Ma.digs 4294967296 s.2) true)], H.upd p1 (some (.row 105 0 [.int .i64 ((0 : Nat) : Int), .int .i64 ((0 : Nat) : Int)]))⟩) (fun s => ∃ d, l = d ++ s.1 ∧ s.2 = decV d) (fun s => s.1.length) (l, 0) (Settle.now (by rw [digs_zero]; rfl)) ⟨[], by simp, rfl⟩ ?_
    rintro ⟨m, v⟩ ⟨d, hd1, hd2⟩
    dsimp only at hd1 hd2 ⊢
    have hlen : l.length = d.length + m.length := by rw [hd1, List.length_append]
    cases m with
    | nil =>
      rw [List.append_nil] at hd1
      simp (disch := first | assumption | (apply Ap.symm; assumption) | omega | decide | (simp only [U_len, List.length_append, List.length_replicate, List.length_cons, List.length_nil, List.length_set] <;> omega) | fail) only [len_Sx, List.length_nil, ↓Xa, Xb, Xc, ↓reduceIte, Nat.reduceLT, Nat.reduceEqDiff, Nat.reduceBEq, Nat.reduceLeDiff, Nat.reduceAdd, Nat.reduceMul]
      refine Settle.now ?_
      simp (disch := first | assumption | (apply Ap.symm; assumption) | omega | decide | (simp only [U_len, List.length_append, List.length_replicate, List.length_cons, List.length_nil, List.length_set] <;> omega) | fail) only [cells_i2, rs202, ↓Xa, Xb, Xc, ↓reduceIte, Nat.reduceLT, Nat.reduceEqDiff, Nat.reduceBEq, Nat.reduceLeDiff, Nat.reduceAdd, Nat.reduceMul]
      rw [hd2, ← hd1]
      exact fin (.inr (.inr (.inr ⟨by omega, hg, rfl⟩)))
    | cons x m =>
      generalize hm : x :: m = y at *
      have hy0 : 0 < y.length := by rw [← hm]; simp
      simp (disch := first | assumption | (apply Ap.symm; assumption) | omega | decide | (simp only [U_len, List.length_append, List.length_replicate, List.length_cons, List.length_nil, List.length_set] <;> omega) | fail) only [len_Sx, hy0, min_k, slc_SxH, rng_Sx, ↓Xa, Xb, Xc, ↓reduceIte, Nat.reduceLT, Nat.reduceEqDiff, Nat.reduceBEq, Nat.reduceLeDiff, Nat.reduceAdd, Nat.reduceMul]
      refine rng_i fun q hq' => ?_
      obtain ⟨a1, a2⟩ := upd_none.1 hq'
      obtain ⟨n, hn⟩ : ∃ n, n = min y.length 9 := ⟨_, rfl⟩
      rw [← hn]
      obtain ⟨z, hz⟩ : ∃ z, z = y.take n := ⟨_, rfl⟩
      rw [← hz]
      have hzl : z.length = n := by rw [hz, List.length_take]; omega
      have hzd : ∀ b, b ∈ z → isDig b := fun b hb => hg.2.1 b (by rw [hd1]; exact List.mem_append_right _ (List.mem_of_mem_take (hz ▸ hb)))
      have p9 : ∀ k, k ≤ 9 → 10 ^ k ≤ 1000000000 := fun k hk => Nat.le_trans (Nat.pow_le_pow_right (by omega) hk) (by decide)
      simp (disch := first | assumption | (apply Ap.symm; assumption) | omega | decide | (simp only [U_len, List.length_append, List.length_replicate, List.length_cons, List.length_nil, List.length_set] <;> omega) | fail) only [↓Xa, Xb, Xc, ↓reduceIte, Nat.reduceLT, Nat.reduceEqDiff, Nat.reduceBEq, Nat.reduceLeDiff, Nat.reduceAdd, Nat.reduceMul]
      refine W_loop (fun s : Nat => ⟨[], [(0, Sx y), (3, .ptr p1 2 0), (5, LS (Ma.digs 4294967296 v) true), (6, .int .i64 (n : Nat)), (7, .int .u32 ((decV (z.take s) : Nat) : Int)), (8, .int .u32 ((10 ^ s : Nat) : Int)), (54, .ptr q 0 0)],
        (H.upd p1 (some (.row 105 0 [.int .i64 ((0 : Nat) : Int), .int .i64 ((0 : Nat) : Int)]))).upd q (some (.raw (.stringIter ⟨z.toArray⟩ s)))⟩) (fun s => s ≤ n) (fun s => n - s) 0 (Settle.now rfl) (Nat.zero_le _) ?_
      intro i hin
      have hzt : ∀ k, ∀ b, b ∈ z.take k → b.toNat ≤ 57 := fun k b hb => (hzd b (List.mem_of_mem_take hb)).2
      have hvt : decV (z.take i) < 10 ^ i := by
        have := decV_lt (hzt i)
        rwa [List.length_take, Nat.min_eq_left (by omega)] at this
      by_cases hi2 : i < n
      · have hzi : i < z.length := by omega
        have hdg := hzd _ (List.getElem_mem hzi)
        have eg : z.getD i 0 = z[i] := by rw [List.getD_eq_getElem?_getD, List.getElem?_eq_getElem hzi, Option.getD_some]
        rw [← eg] at hdg
        unfold isDig at hdg
        have h128 : (z.getD i 0).toNat < 128 := by omega
        have h10 := p9 i (by omega)
        have h11 := p9 (i + 1) (by omega)
        have hsucc : decV (z.take (i + 1)) = 10 * decV (z.take i) + ((z.getD i 0).toNat - 48) := by
          have : z.take (i + 1) = z.take i ++ [z.getD i 0] := by
            rw [List.take_add_one, List.getElem?_eq_getElem hzi, eg]; rfl
          rw [this, decV_app, decV_one]; simp
        rw [Nat.pow_succ] at h11
        simp (disch := first | assumption | (apply Ap.symm; assumption) | omega | decide | (simp only [U_len, List.length_append, List.length_replicate, List.length_cons, List.length_nil, List.length_set] <;> omega) | fail) only [nxt_Sl, wn_i32, ↓Xa, Xb, Xc, ↓reduceIte, Nat.reduceLT, Nat.reduceEqDiff, Nat.reduceBEq, Nat.reduceLeDiff, Nat.reduceAdd, Nat.reduceMul]
        refine Settle.now ⟨i + 1, by omega, by omega, ?_⟩
        rw [hsucc, Nat.pow_succ]
        done
      · obtain rfl : i = n := by omega
        rw [List.take_of_length_le (by omega)] at hvt ⊢
        have hge : z.length ≤ i := by omega
        simp (disch := first | assumption | (apply Ap.symm; assumption) | omega | decide | (simp only [U_len, List.length_append, List.length_replicate, List.length_cons, List.length_nil, List.length_set] <;> omega) | fail) only [nxt_Sg, ↓Xa, Xb, Xc, ↓reduceIte, Nat.reduceLT, Nat.reduceEqDiff, Nat.reduceBEq, Nat.reduceLeDiff, Nat.reduceAdd, Nat.reduceMul]
        refine Settle.now ?_
        simp (disch := first | assumption | (apply Ap.symm; assumption) | omega | decide | (simp only [U_len, List.length_append, List.length_replicate, List.length_cons, List.length_nil, List.length_set] <;> omega) | fail) only [↓Xa, Xb, Xc, ↓reduceIte, Nat.reduceLT, Nat.reduceEqDiff, Nat.reduceBEq, Nat.reduceLeDiff, Nat.reduceAdd, Nat.reduceMul]
        have hv : v < 4294967296 ^ 8192 := by
          rw [hd2]
          refine Nat.lt_of_lt_of_le (decV_lt fun b hb => hdig b (by rw [hd1]; exact List.mem_append_left _ hb)) ?_
          exact ten_bound (by omega)
        have h10 := p9 i (by omega)
        refine (muls_n true (Nm.digs hv) (by omega) (by omega)).call ?_
        simp (disch := first | assumption | (apply Ap.symm; assumption) | omega | decide | (simp only [U_len, List.length_append, List.length_replicate, List.length_cons, List.length_nil, List.length_set] <;> omega) | fail) only [↓Xa, Xb, Xc, ↓reduceIte, Nat.reduceLT, Nat.reduceEqDiff, Nat.reduceBEq, Nat.reduceLeDiff, Nat.reduceAdd, Nat.reduceMul]
        refine (add_n (b := [decV z]) true true (Nm.digs (lt_mul hv (show 10 ^ i < 4294967296 ^ 1 by omega))) (Nm.one (by omega)) (by omega) (by omega)).call ?_
        simp (disch := first | assumption | (apply Ap.symm; assumption) | omega | decide | (simp only [U_len, List.length_append, List.length_replicate, List.length_cons, List.length_nil, List.length_set] <;> omega) | fail) only [slc_SxL, ↓Xa, Xb, Xc, ↓reduceIte, Nat.reduceLT, Nat.reduceEqDiff, Nat.reduceBEq, Nat.reduceLeDiff, Nat.reduceAdd, Nat.reduceMul]
        refine Settle.dropTo ((Le.refl _).updB hq') (Settle.now ⟨(y.drop i, v * 10 ^ i + decV z), ?_, ⟨d ++ z, ?_, ?_⟩, rfl⟩)
        · dsimp only; rw [List.length_drop]; omega
        · dsimp only; rw [hd1, hz, List.append_assoc, List.take_append_drop]
        · dsimp only; rw [hd2, decV_app, hzl]; grind
end Go.Proofs.YtanchgkiomfhhaaDoor.Fw

/- A number's digits gone over, as package limb tells them. -/
namespace Go.Proofs.YtanchgkiomfhhaaDoor.Fw
set_option linter.unusedSimpArgs false
set_option linter.unusedVariables false
open Go Go.Proofs.YtanchgkiomfhhaaDoor.Ma
set_option maxRecDepth 20000

theorem cW_y {P : Program} {b : Nat} {args : List AV} {H : AHeap} {K : AV → AHeap → Prop} : callW P (.yld b) args H K = YieldW P b args H K := id rfl
theorem load_cS {H : AHeap} {l : List UInt8} {K : AV → Prop} : loadW H none (.cptr [Sx l]) K = K (Sx l) := by simp [loadW, cellsAt, Sx]
theorem digits1_iter {l : List UInt8} (hg : ∀ b, b ∈ l → isDig b) (hl : l.length < 4611686018427387904) : IterW Tryd.prog 191 [.cptr [Sx l]] (fun d : Nat => [.int .i64 (d : Int)]) (l.map fun b => b.toNat - 48) := by
  intro b J Jx hy A B hd h0
  refine enter191 (by simp) ?_
  simp (disch := first | assumption | (apply Ap.symm; assumption) | omega | decide | (simp only [U_len, List.length_append, List.length_replicate, List.length_cons, List.length_nil, List.length_set] <;> omega) | fail) only [ac191, rng_Sx, load_cS, ↓Xa, Xb, Xc, ↓reduceIte, Nat.reduceLT, Nat.reduceEqDiff, Nat.reduceBEq, Nat.reduceLeDiff, Nat.reduceAdd, Nat.reduceMul]
  refine rng_i fun q hq => ?_
  obtain ⟨qa, qb⟩ := un_none.1 hq
  simp (disch := first | assumption | (apply Ap.symm; assumption) | omega | decide | (simp only [U_len, List.length_append, List.length_replicate, List.length_cons, List.length_nil, List.length_set] <;> omega) | fail) only [↓Xa, Xb, Xc, ↓reduceIte, Nat.reduceLT, Nat.reduceEqDiff, Nat.reduceBEq, Nat.reduceLeDiff, Nat.reduceAdd, Nat.reduceMul]
  refine W_loop (fun s : Nat × AHeap => ⟨[], [(0, .yld b), (6, .ptr q 0 0)], (Un s.2 B).upd q (some (.raw (.stringIter ⟨l.toArray⟩ s.1)))⟩) (fun s => s.1 ≤ l.length ∧ Dj s.2 B ∧ s.2 q = none ∧ J ((l.map fun b => b.toNat - 48).take s.1) s.2) (fun s => l.length - s.1) (0, A) (Settle.now rfl) ⟨Nat.zero_le _, hd, qa, by simpa using h0⟩ ?_
  rintro ⟨i, A1⟩ ⟨hi, hd1, hq1, hj⟩
  dsimp only at hi hd1 hq1 hj ⊢
  by_cases h : i < l.length
  · have hdg := hg _ (List.getElem_mem h)
    have eg : l.getD i 0 = l[i] := by rw [List.getD_eq_getElem?_getD, List.getElem?_eq_getElem h, Option.getD_some]
    rw [← eg] at hdg
    unfold isDig at hdg
    have h128 : (l.getD i 0).toNat < 128 := by omega
    have hx : (l.map fun b => b.toNat - 48) = (l.map fun b => b.toNat - 48).take i ++ ((l.getD i 0).toNat - 48) :: (l.map fun b => b.toNat - 48).drop (i + 1) := by
      conv => lhs; rw [← List.take_append_drop i (l.map fun b => b.toNat - 48)]
      rw [List.drop_eq_getElem_cons (by simpa using h), List.getElem_map, eg]
    have hx2 : (l.map fun b => b.toNat - 48).take (i + 1) = (l.map fun b => b.toNat - 48).take i ++ [(l.getD i 0).toNat - 48] := by
      rw [List.take_add_one, List.getElem?_map, List.getElem?_eq_getElem h, eg]; rfl
    simp (disch := first | assumption | (apply Ap.symm; assumption) | omega | decide | (simp only [U_len, List.length_append, List.length_replicate, List.length_cons, List.length_nil, List.length_set] <;> omega) | fail) only [nxt_Sl, wn_i32, cW_y, ↓Xa, Xb, Xc, ↓reduceIte, Nat.reduceLT, Nat.reduceEqDiff, Nat.reduceBEq, Nat.reduceLeDiff, Nat.reduceAdd, Nat.reduceMul]
    rw [← un_updR hq1]
    refine (hy _ _ _ A1 (B.upd q (some (.raw (.stringIter ⟨l.toArray⟩ (i + 1))))) hx (dj_updR hd1 hq1) hj).mono ?_
    rintro r H' ⟨A2, hd2, rfl, (⟨rfl, hj2⟩ | ⟨rfl, hj2⟩)⟩
    · have hq2 : A2 q = none := dj_atR hd2 (upd_same _ _ _)
      rw [un_updR hq2]
      simp (disch := first | assumption | (apply Ap.symm; assumption) | omega | decide | (simp only [U_len, List.length_append, List.length_replicate, List.length_cons, List.length_nil, List.length_set] <;> omega) | fail) only [↓Xa, Xb, Xc, ↓reduceIte, Nat.reduceLT, Nat.reduceEqDiff, Nat.reduceBEq, Nat.reduceLeDiff, Nat.reduceAdd, Nat.reduceMul]
      refine Settle.keep [0, 6] ⟨(i + 1, A2), by dsimp only; omega, ⟨by dsimp only; omega, ?_, hq2, by dsimp only; rw [hx2]; exact hj2⟩, rfl⟩
      intro k
      by_cases e : k = q
      · subst e; exact .inl hq2
      · have := hd2 k
        rwa [upd_other _ _ e] at this
    · have hq2 : A2 q = none := dj_atR hd2 (upd_same _ _ _)
      have hd3 : Dj A2 B := fun k => by
        by_cases e : k = q
        · subst e; exact .inl hq2
        · have := hd2 k
          rwa [upd_other _ _ e] at this
      rw [un_updR hq2]
      simp (disch := first | assumption | (apply Ap.symm; assumption) | omega | decide | (simp only [U_len, List.length_append, List.length_replicate, List.length_cons, List.length_nil, List.length_set] <;> omega) | fail) only [rs191, ↓Xa, Xb, Xc, ↓reduceIte, Nat.reduceLT, Nat.reduceEqDiff, Nat.reduceBEq, Nat.reduceLeDiff, Nat.reduceAdd, Nat.reduceMul]
      refine SetR.dropTo ((Le.refl _).upd (un_none.2 ⟨hq2, qb⟩)) (SetR.now ⟨A2, hd3, rfl, .inr hj2⟩)
  · obtain rfl : i = l.length := by omega
    simp (disch := first | assumption | (apply Ap.symm; assumption) | omega | decide | (simp only [U_len, List.length_append, List.length_replicate, List.length_cons, List.length_nil, List.length_set] <;> omega) | fail) only [nxt_Sg, ↓Xa, Xb, Xc, ↓reduceIte, Nat.reduceLT, Nat.reduceEqDiff, Nat.reduceBEq, Nat.reduceLeDiff, Nat.reduceAdd, Nat.reduceMul]
    refine Settle.now ?_
    simp (disch := first | assumption | (apply Ap.symm; assumption) | omega | decide | (simp only [U_len, List.length_append, List.length_replicate, List.length_cons, List.length_nil, List.length_set] <;> omega) | fail) only [rs191, ↓Xa, Xb, Xc, ↓reduceIte, Nat.reduceLT, Nat.reduceEqDiff, Nat.reduceBEq, Nat.reduceLeDiff, Nat.reduceAdd, Nat.reduceMul]
    rw [List.take_of_length_le (by simp)] at hj
    refine SetR.dropTo ((Le.refl _).upd (un_none.2 ⟨hq1, qb⟩)) (SetR.now ⟨A1, hd1, rfl, .inl hj⟩)
theorem digits_fn {l : List Nat} (t : Bool) (hl : Lim 4294967296 l) (hn : l.length ≤ 1099511627776) : PFn Tryd.prog 132 [LS l t] (.fn (.func 191) [] [.cptr [Sx (decT (val 4294967296 l))]]) := by
  intro H Q hq
  refine enter132 (by simp) ?_
  simp (disch := first | assumption | (apply Ap.symm; assumption) | omega | decide | (simp only [U_len, List.length_append, List.length_replicate, List.length_cons, List.length_nil, List.length_set] <;> omega) | fail) only [ac132, ↓Xa, Xb, Xc, ↓reduceIte, Nat.reduceLT, Nat.reduceEqDiff, Nat.reduceBEq, Nat.reduceLeDiff, Nat.reduceAdd, Nat.reduceMul]
  refine (text_fn t hl hn).call ?_
  simp (disch := first | assumption | (apply Ap.symm; assumption) | omega | decide | (simp only [U_len, List.length_append, List.length_replicate, List.length_cons, List.length_nil, List.length_set] <;> omega) | fail) only [↓Xa, Xb, Xc, ↓reduceIte, Nat.reduceLT, Nat.reduceEqDiff, Nat.reduceBEq, Nat.reduceLeDiff, Nat.reduceAdd, Nat.reduceMul]
  refine alloc_i fun p1 hp1 => ?_
  have n1 := hp1
  simp (disch := first | assumption | (apply Ap.symm; assumption) | omega | decide | (simp only [U_len, List.length_append, List.length_replicate, List.length_cons, List.length_nil, List.length_set] <;> omega) | fail) only [cells_Sx, rs132, ↓Xa, Xb, Xc, ↓reduceIte, Nat.reduceLT, Nat.reduceEqDiff, Nat.reduceBEq, Nat.reduceLeDiff, Nat.reduceAdd, Nat.reduceMul]
  refine SetR.frzP p1 (upd_same _ _ _) ?_
  rw [upd_upd, upd_back _ n1]
  simp [frzP, frzP1]
  exact SetR.now hq
end Go.Proofs.YtanchgkiomfhhaaDoor.Fw

/- A whole number's text, as package integer tells it. -/
namespace Go.Proofs.YtanchgkiomfhhaaDoor.Fw
set_option linter.unusedSimpArgs false
set_option linter.unusedVariables false
open Go Go.Proofs.YtanchgkiomfhhaaDoor.Ma
set_option maxRecDepth 20000

/-- A whole number's decimal text. -/
def iText (z : Int) : List UInt8 := (if z < 0 then [45] else []) ++ decT z.natAbs
theorem Bt_app (l m : List UInt8) : Bt (l ++ m) = Bt l ++ Bt m := by simp [Bt]
theorem Bt_one {n : Nat} (h : n < 256) : [AV.int .u8 (n : Int)] = Bt [UInt8.ofNat n] := by
  simp only [Bt, List.map_cons, List.map_nil]
  rw [UInt8.toNat_ofNat', Nat.mod_eq_of_lt (by omega)]
theorem decT_len {n k : Nat} (h : n < 10 ^ k) (hk : 0 < k) : (decT n).length ≤ k := by
  unfold decT; split
  · simp; omega
  · exact dec_len h
theorem decT_bd {x : Int} {k : Nat} (hx : Bd k x) : (decT x.natAbs).length ≤ 10 * k + 1 := by
  refine decT_len (Nat.lt_of_lt_of_le hx ?_) (by omega)
  calc 4294967296 ^ k ≤ (10 ^ 10) ^ k := Nat.pow_le_pow_left (by omega) k
    _ = 10 ^ (10 * k) := by rw [Nat.pow_mul]
    _ ≤ 10 ^ (10 * k + 1) := Nat.pow_le_pow_right (by omega) (by omega)
theorem wn_u8' {n : Nat} (h : n < 256) : IntKind.u8.wrap (n : Int) = (n : Int) := by
  unfold IntKind.wrap; simp only [IntKind.bits, IntKind.signed, Bool.false_and, Bool.false_eq_true, if_false]; omega
theorem isDig_chr {b : UInt8} (h : isDig b) : UInt8.ofNat (48 + (b.toNat - 48)) = b := by
  unfold isDig at h
  rw [show 48 + (b.toNat - 48) = b.toNat by omega]; exact UInt8.ofNat_toNat
/-- What a row of bytes in a variable's block is read as. -/
theorem b2s_B {H0 H : AHeap} {p tb ty : Nat} {l : List UInt8} (h : growB H0 p tb ty 1 l.length (Bt l) H) : ∃ x, H p = some (.row tb 0 [x]) ∧ AV.cells x = some [x] ∧ ∀ H' K, Le H H' → K (Sx l) → b2sW H' x K := by
  obtain ⟨x, hx, hc, _⟩ := growB_get h
  refine ⟨x, hx, ?_, ?_⟩
  · rcases hc with ⟨rfl, _, _⟩ | ⟨_, _, b, rfl, _⟩ <;> rfl
  · intro H' K hle k
    rcases hc with ⟨rfl, h0, hc⟩ | ⟨hn, hl, b, rfl, hb⟩
    · have : l = [] := List.eq_nil_of_length_eq_zero h0
      subst this
      exact ⟨rfl, k⟩
    · rw [Nat.mul_one, b2s_own, hle _ _ hb]
      refine ⟨by simp [Bt_len], rfl, by omega, ?_⟩
      rw [List.drop_zero, List.take_of_length_le (by simp [Bt_len]), bytesOf_Bt]
      exact k
/-- A digit's character. -/
def chD (d : Nat) : UInt8 := UInt8.ofNat (48 + d)
theorem chD_back : ∀ {l : List UInt8}, (∀ b, b ∈ l → isDig b) → (l.map fun b => b.toNat - 48).map chD = l := by
  intro l h
  rw [List.map_map]
  conv => rhs; rw [← List.map_id l]
  exact List.map_congr_left fun b hb => isDig_chr (h b hb)
theorem itext_fn {x : Int} {k : Nat} (hx : Bd k x) (hk : k ≤ 1000000) : PFn Tryd.prog 28 [IntA x] (Sx (iText x)) := by
  intro H Q hq
  have hdl := hx.len
  have hdt := decT_bd hx
  have hgd := good_decT x.natAbs
  refine enter28 (by simp) ?_
  simp (disch := first | assumption | (apply Ap.symm; assumption) | omega | decide | (simp only [U_len, List.length_append, List.length_replicate, List.length_cons, List.length_nil, List.length_set] <;> omega) | fail) only [ac28, IntA, ↓Xa, Xb, Xc, ↓reduceIte, Nat.reduceLT, Nat.reduceEqDiff, Nat.reduceBEq, Nat.reduceLeDiff, Nat.reduceAdd, Nat.reduceMul]
  refine alloc_i fun p1 hp1 => ?_
  have n1 := hp1
  simp (disch := first | assumption | (apply Ap.symm; assumption) | omega | decide | (simp only [U_len, List.length_append, List.length_replicate, List.length_cons, List.length_nil, List.length_set] <;> omega) | fail) only [↓Xa, Xb, Xc, ↓reduceIte, Nat.reduceLT, Nat.reduceEqDiff, Nat.reduceBEq, Nat.reduceLeDiff, Nat.reduceAdd, Nat.reduceMul]
  refine alloc_i fun p2 hp2 => ?_
  have n2 := hp2
  simp only [upd_none] at n2
  obtain ⟨_, n2⟩ := n2
  obtain ⟨neg, hneg⟩ : ∃ b, b = decide (x < 0) := ⟨_, rfl⟩
  rw [← hneg] at hp2 ⊢
  have tail : ∀ (pre : List UInt8) (H2 : AHeap) (v : Env), (v = [] ∨ v = [(6, .bool false)]) → pre.length ≤ 1 → pre ++ decT x.natAbs = iText x → growB (H.upd p1 (some (.row 28 0 [.bool neg, LS (digs 4294967296 x.natAbs) true]))) p2 103 5 1 pre.length (Bt pre) H2 →
      W Tryd.prog (sndC (sndC (sndC ac28))) (retN rs28 Q) ⟨[], [(1, .ptr p1 2 0), (2, Sx []), (3, .ptr p2 1 0)] ++ v, H2⟩ := by
    intro pre H2 v hv hp1 hpre hg
    have h1 : H2 p1 = some (.row 28 0 [.bool neg, LS (digs 4294967296 x.natAbs) true]) := by
      obtain ⟨_, _, _, hle⟩ := growB_get hg
      exact hle _ _ (upd_same _ _ _)
    rcases hv with rfl | rfl
    all_goals
     simp (disch := first | assumption | (apply Ap.symm; assumption) | omega | decide | (simp only [U_len, List.length_append, List.length_replicate, List.length_cons, List.length_nil, List.length_set] <;> omega) | fail) only [sndC, ac28, h1, ↓Xa, Xb, Xc, ↓reduceIte, Nat.reduceLT, Nat.reduceEqDiff, Nat.reduceBEq, Nat.reduceLeDiff, Nat.reduceAdd, Nat.reduceMul]
     refine (digits_fn true (lim_digs (by omega) _) (by omega)).call ?_
     rw [val_digs (by omega)]
     simp (disch := first | assumption | (apply Ap.symm; assumption) | omega | decide | (simp only [U_len, List.length_append, List.length_replicate, List.length_cons, List.length_nil, List.length_set] <;> omega) | fail) only [↓Xa, Xb, Xc, ↓reduceIte, Nat.reduceLT, Nat.reduceEqDiff, Nat.reduceBEq, Nat.reduceLeDiff, Nat.reduceAdd, Nat.reduceMul]
     obtain ⟨A, hd, rfl, hgA⟩ := growB_nu hg
     have hle : Le H (H.upd p1 (some (.row 28 0 [.bool neg, LS (digs 4294967296 x.natAbs) true]))) := (Le.refl H).upd n1
     refine rfn_iter (digits1_iter (fun b hb => hgd.2.1 b hb) (by omega)) (fun _ => rfl) (fun ds A => growB nilH p2 103 5 1 (pre ++ ds.map chD).length (Bt (pre ++ ds.map chD)) A) (fun _ _ => False) A _ hd rfl (by simpa using hgA) ?_ ?_ (fun _ _ _ _ _ _ h => h.elim)
     · intro ds d rest A B hds hdj hj R1 k1
       have hlen := congrArg List.length hds
       have hd10 : d < 10 := by
         have : d ∈ ((decT x.natAbs).map fun b => b.toNat - 48) := by rw [hds]; simp
         obtain ⟨b, hb, rfl⟩ := List.mem_map.1 this
         have := hgd.2.1 b hb
         unfold isDig at this; omega
       simp (disch := first | assumption | (apply Ap.symm; assumption) | omega | decide | (simp only [U_len, List.length_append, List.length_replicate, List.length_cons, List.length_nil, List.length_set] <;> omega) | fail) only [setps, ↓Xa, Xb, Xc, ↓reduceIte, Nat.reduceLT, Nat.reduceEqDiff, Nat.reduceBEq, Nat.reduceLeDiff, Nat.reduceAdd, Nat.reduceMul]
       refine k1 _ A hdj fun R2 B1 k2 hd1 => ?_
       obtain ⟨y, hy, happ⟩ := growB_app (m := 1) (bytes := 1) (growB_un hj hd1)
       have e1 : IntKind.i64.wrap ((48 : Nat) + (d : Int)) = ((48 + d : Nat) : Int) := by rw [← Int.natCast_add]; exact wn_i64 (by omega)
       simp (disch := first | assumption | (apply Ap.symm; assumption) | omega | decide | (simp only [U_len, List.length_append, List.length_replicate, List.length_cons, List.length_nil, List.length_set] <;> omega) | fail) only [hy, wn_u8', ↓Xa, Xb, Xc, ↓reduceIte, Nat.reduceLT, Nat.reduceEqDiff, Nat.reduceBEq, Nat.reduceLeDiff, Nat.reduceAdd, Nat.reduceMul]
       refine happ rfl rfl (by omega) ?_ ?_ fun x' H' hp hc hg2 => ?_
       · simp at hlen ⊢; omega
       · simp at hlen ⊢; omega
       simp (disch := first | assumption | (apply Ap.symm; assumption) | omega | decide | (simp only [U_len, List.length_append, List.length_replicate, List.length_cons, List.length_nil, List.length_set] <;> omega) | fail) only [hp, hc, ↓Xa, Xb, Xc, ↓reduceIte, Nat.reduceLT, Nat.reduceEqDiff, Nat.reduceBEq, Nat.reduceLeDiff, Nat.reduceAdd, Nat.reduceMul]
       refine k2 .normal _ (Settle.now (growB_nu ?_))
       have e : pre ++ (ds ++ [d]).map chD = (pre ++ ds.map chD) ++ [chD d] := by simp
       dsimp only
       rw [e, List.length_append, Bt_app, show Bt [chD d] = [AV.int .u8 ((48 + d : Nat) : Int)] from (Bt_one (by omega)).symm]
       exact hg2
     · intro d A' hdj hA hB hj
       rw [chD_back hgd.2.1, hpre] at hj
       have hj2 := growB_un hj hdj
       obtain ⟨y, hy, hyc, hb2⟩ := b2s_B hj2
       obtain ⟨_, _, _, hle2⟩ := growB_get hj2
       have hdn := un_none.2 ⟨hA, hB⟩
       have hy2 : ((Un A' (H.upd p1 (some (.row 28 0 [.bool neg, LS (digs 4294967296 x.natAbs) true])))).upd d (some (.raw (.deferred (some []))))) p2 = some (.row 103 0 [y]) := by
         rw [upd_other _ _ (by rintro rfl; rw [hdn] at hy; cases hy)]; exact hy
       simp (disch := first | assumption | (apply Ap.symm; assumption) | omega | decide | (simp only [U_len, List.length_append, List.length_replicate, List.length_cons, List.length_nil, List.length_set] <;> omega) | fail) only [hy2, ↓Xa, Xb, Xc, ↓reduceIte, Nat.reduceLT, Nat.reduceEqDiff, Nat.reduceBEq, Nat.reduceLeDiff, Nat.reduceAdd, Nat.reduceMul]
       refine hb2 _ _ ((Le.refl _).upd hdn) ?_
       simp (disch := first | assumption | (apply Ap.symm; assumption) | omega | decide | (simp only [U_len, List.length_append, List.length_replicate, List.length_cons, List.length_nil, List.length_set] <;> omega) | fail) only [rs28, ↓Xa, Xb, Xc, ↓reduceIte, Nat.reduceLT, Nat.reduceEqDiff, Nat.reduceBEq, Nat.reduceLeDiff, Nat.reduceAdd, Nat.reduceMul]
       rw [upd_back _ hdn]
       exact SetR.dropTo (fun b x hb => hle2 _ _ (hle _ _ hb)) (SetR.now hq)
  have g0 := growB_nil (H0 := H.upd p1 (some (.row 28 0 [.bool neg, LS (digs 4294967296 x.natAbs) true]))) (tb := 103) (ty := 5) (es := 1) hp2
  cases neg with
  | true =>
    simp (disch := first | assumption | (apply Ap.symm; assumption) | omega | decide | (simp only [U_len, List.length_append, List.length_replicate, List.length_cons, List.length_nil, List.length_set] <;> omega) | fail) only [↓Xa, Xb, Xc, ↓reduceIte, Nat.reduceLT, Nat.reduceEqDiff, Nat.reduceBEq, Nat.reduceLeDiff, Nat.reduceAdd, Nat.reduceMul]
    obtain ⟨y, hy, happ⟩ := growB_app (m := 1) (bytes := 1) g0
    obtain rfl : y = .seq 0 [] true := by rw [upd_same] at hy; injection hy with hy; injection hy with _ _ hy; injection hy with hy; exact hy.symm
    refine happ (by rfl) (by rfl) (by omega) (by omega) (by omega) fun x' H' hp hc hg2 => ?_
    simp (disch := first | assumption | (apply Ap.symm; assumption) | omega | decide | (simp only [U_len, List.length_append, List.length_replicate, List.length_cons, List.length_nil, List.length_set] <;> omega) | fail) only [hp, hc, ↓Xa, Xb, Xc, ↓reduceIte, Nat.reduceLT, Nat.reduceEqDiff, Nat.reduceBEq, Nat.reduceLeDiff, Nat.reduceAdd, Nat.reduceMul]
    have tl := tail [45] _ [] (.inl rfl) (by simp) (by simp [iText, of_decide_eq_true hneg.symm]) hg2
    simp (disch := first | assumption | (apply Ap.symm; assumption) | omega | decide | (simp only [U_len, List.length_append, List.length_replicate, List.length_cons, List.length_nil, List.length_set] <;> omega) | fail) only [sndC, ac28, ↓Xa, Xb, Xc, ↓reduceIte, Nat.reduceLT, Nat.reduceEqDiff, Nat.reduceBEq, Nat.reduceLeDiff, Nat.reduceAdd, Nat.reduceMul] at tl
    exact tl
  | false =>
    have tl := tail [] _ _ (.inr rfl) (by simp) (by simp [iText, of_decide_eq_false hneg.symm]) g0
    simp (disch := first | assumption | (apply Ap.symm; assumption) | omega | decide | (simp only [U_len, List.length_append, List.length_replicate, List.length_cons, List.length_nil, List.length_set] <;> omega) | fail) only [sndC, ac28, ↓Xa, Xb, Xc, ↓reduceIte, Nat.reduceLT, Nat.reduceEqDiff, Nat.reduceBEq, Nat.reduceLeDiff, Nat.reduceAdd, Nat.reduceMul] at tl
    simp (disch := first | assumption | (apply Ap.symm; assumption) | omega | decide | (simp only [U_len, List.length_append, List.length_replicate, List.length_cons, List.length_nil, List.length_set] <;> omega) | fail) only [↓Xa, Xb, Xc, ↓reduceIte, Nat.reduceLT, Nat.reduceEqDiff, Nat.reduceBEq, Nat.reduceLeDiff, Nat.reduceAdd, Nat.reduceMul]
    exact tl
end Go.Proofs.YtanchgkiomfhhaaDoor.Fw

/- A whole number's text read, as package integer and as its reference read it. -/
namespace Go.Proofs.YtanchgkiomfhhaaDoor.Fw
set_option linter.unusedSimpArgs false
set_option linter.unusedVariables false
open Go Go.Proofs.YtanchgkiomfhhaaDoor.Ma
set_option maxRecDepth 20000

/-- Where the digits begin. -/
def iFrom (l : List UInt8) : Nat := if (l.getD 0 0).toNat = 45 then 1 else 0
/-- No digit stands there that may. -/
def iBad (l : List UInt8) (i : Nat) : Prop := (l.getD i 0).toNat < 48 ∨ 57 < (l.getD i 0).toNat ∨ (i = iFrom l + 1 ∧ (l.getD (iFrom l) 0).toNat = 48) ∨ (i = iFrom l ∧ iFrom l = 1 ∧ (l.getD i 0).toNat = 48)
/-- The first such place. -/
def IsAt (l : List UInt8) (p : Nat) : Prop := iFrom l ≤ p ∧ p ≤ l.length ∧ iBad l p ∧ ∀ j, iFrom l ≤ j → j < p → ¬ iBad l j
theorem get_beyond {l : List UInt8} {i : Nat} (h : l.length ≤ i) : l.getD i 0 = 0 := by
  rw [List.getD_eq_getElem?_getD, List.getElem?_eq_none h]; rfl
theorem iBad_end (l : List UInt8) : iBad l l.length := .inl (by rw [get_beyond (Nat.le_refl _)]; decide)
theorem iFrom_le (l : List UInt8) : iFrom l ≤ l.length ∧ iFrom l ≤ 1 := by
  unfold iFrom; split
  · rename_i h
    cases l with
    | nil => simp at h
    | cons x l => simp
  · simp
theorem first_of {P : Nat → Prop} (lo : Nat) : ∀ n, (∃ p, lo ≤ p ∧ p < lo + n ∧ P p ∧ ∀ j, lo ≤ j → j < p → ¬ P j) ∨ ∀ j, lo ≤ j → j < lo + n → ¬ P j
  | 0 => .inr fun j h1 h2 => by omega
  | n + 1 => by
    rcases first_of (P := P) lo n with ⟨p, a, b, c, d⟩ | h
    · exact .inl ⟨p, a, by omega, c, d⟩
    · by_cases hp : P (lo + n)
      · exact .inl ⟨lo + n, by omega, by omega, hp, h⟩
      · refine .inr fun j h1 h2 => ?_
        by_cases e : j = lo + n
        · rw [e]; exact hp
        · exact h j h1 (by omega)
theorem isAt_ex (l : List UInt8) : ∃ p, IsAt l p := by
  have h0 := (iFrom_le l).1
  rcases first_of (P := iBad l) (iFrom l) (l.length - iFrom l) with ⟨p, a, b, c, d⟩ | h
  · exact ⟨p, a, by omega, c, d⟩
  · exact ⟨l.length, h0, Nat.le_refl _, iBad_end l, fun j h1 h2 => h j h1 (by omega)⟩
theorem isAt_fn {l : List UInt8} {p q : Nat} (h : IsAt l p) (h' : IsAt l q) : p = q := by
  obtain ⟨a, b, c, d⟩ := h
  obtain ⟨a', b', c', d'⟩ := h'
  rcases Nat.lt_trichotomy p q with e | e | e
  · exact absurd c (d' p a e)
  · exact e
  · exact absurd c' (d q a' e)
/-- The number of a text that is right. -/
def iVal (l : List UInt8) : Int := sg (decide (iFrom l = 1)) (decV (l.drop (iFrom l)))
theorem isAt_good {l : List UInt8} (h : IsAt l l.length) (hn : l.length ≠ iFrom l) : Good (l.drop (iFrom l)) := by
  have hf := (iFrom_le l).1
  obtain ⟨a, b, c, d⟩ := h
  refine good_of (by intro e; have := congrArg List.length e; simp at this; omega) fun i hi hb => ?_
  have hi' : iFrom l + i < l.length := by simp at hi; omega
  have e : (l.drop (iFrom l)).getD i 0 = l.getD (iFrom l + i) 0 := by simp [List.getD_eq_getElem?_getD]
  have e0 : (l.drop (iFrom l)).getD 0 0 = l.getD (iFrom l) 0 := by simp [List.getD_eq_getElem?_getD]
  unfold badAt at hb
  rw [e, e0] at hb
  rcases hb with hb | hb | ⟨hb, hb2⟩
  · exact d (iFrom l + i) (by omega) hi' (.inl hb)
  · exact d (iFrom l + i) (by omega) hi' (.inr (.inl hb))
  · exact d (iFrom l + 1) (by omega) (by omega) (.inr (.inr (.inl ⟨rfl, hb2⟩)))
/-- What is answered of a text. -/
def iReadA (l : List UInt8) (p : Nat) : AV :=
  if 65536 < l.length then .tup [IntA 0, spot 3 65536] else if p = iFrom l ∨ p < l.length then .tup [IntA 0, spot 6 p] else .tup [IntA (iVal l), spot 0 0]
theorem iread_fn {l : List UInt8} {p : Nat} (hp : IsAt l p) (hsz' : l.length < 9223372036854775808) : PFn Tryd.prog 167 [Sx l] (iReadA l p) := by
  intro H Q hq
  refine enter167 (by simp) ?_
  simp (disch := first | assumption | (apply Ap.symm; assumption) | omega | decide | (simp only [U_len, List.length_append, List.length_replicate, List.length_cons, List.length_nil, List.length_set] <;> omega) | fail) only [ac167, ↓Xa, Xb, Xc, ↓reduceIte, Nat.reduceLT, Nat.reduceEqDiff, Nat.reduceBEq, Nat.reduceLeDiff, Nat.reduceAdd, Nat.reduceMul]
  refine alloc_i fun p1 hp1 => ?_
  have n1 := hp1
  simp (disch := first | assumption | (apply Ap.symm; assumption) | omega | decide | (simp only [U_len, List.length_append, List.length_replicate, List.length_cons, List.length_nil, List.length_set] <;> omega) | fail) only [↓Xa, Xb, Xc, ↓reduceIte, Nat.reduceLT, Nat.reduceEqDiff, Nat.reduceBEq, Nat.reduceLeDiff, Nat.reduceAdd, Nat.reduceMul]
  refine alloc_i fun p2 hp2 => ?_
  have n2 := hp2
  simp only [upd_none] at n2
  obtain ⟨_, n2⟩ := n2
  have drop : ∀ {x y : ABlk} {r}, SetR Q r H → SetR Q r ((H.upd p1 (some x)).upd p2 (some y)) := fun h => SetR.dropTo (((Le.refl H).upd n1).updB n2) h
  by_cases h1 : 65536 < l.length
  · rw [iReadA, if_pos h1, ← IntA_0] at hq
    simp (disch := first | assumption | (apply Ap.symm; assumption) | omega | decide | (simp only [U_len, List.length_append, List.length_replicate, List.length_cons, List.length_nil, List.length_set] <;> omega) | fail) only [len_Sx, h1, cells_i2, rs167, ↓Xa, Xb, Xc, ↓reduceIte, Nat.reduceLT, Nat.reduceEqDiff, Nat.reduceBEq, Nat.reduceLeDiff, Nat.reduceAdd, Nat.reduceMul]
    exact drop (SetR.now hq)
  rw [iReadA, if_neg h1] at hq
  have hsz : l.length < 9223372036854775807 := by omega
  obtain ⟨hf1, hf2⟩ := iFrom_le l
  have err : (p = iFrom l ∨ p < l.length) → ∀ {x y : ABlk}, SetR Q (.tup [.agg [.bool false, .seq 0 [] true], .agg [.int .i64 ((6 : Nat) : Int), .int .i64 (p : Int)]]) ((H.upd p1 (some x)).upd p2 (some y)) := fun h => by
    rw [if_pos h, ← IntA_0] at hq
    exact drop (SetR.now hq)
  have rest : ∀ {E : Env} {x y : ABlk}, E = [(0, Sx l), (2, .ptr p1 2 0), (3, .ptr p2 2 0), (4, .int .i64 (p : Int)), (5, .int .i64 (iFrom l : Int))] → x = .row 28 0 [.bool false, .seq 0 [] true] → y = .row 105 0 [.int .i64 ((0 : Nat) : Int), .int .i64 ((0 : Nat) : Int)] →
      W Tryd.prog (sndC (sndC (sndC (sndC (sndC (sndC ac167)))))) (retN rs167 Q) ⟨[], E, (H.upd p1 (some x)).upd p2 (some y)⟩ := by
    intro E x y hE hx hy
    subst hE hx hy
    by_cases e1 : p = iFrom l
    · simp (disch := first | assumption | (apply Ap.symm; assumption) | omega | decide | (simp only [U_len, List.length_append, List.length_replicate, List.length_cons, List.length_nil, List.length_set] <;> omega) | fail) only [sndC, ac167, e1, cells_i2, rs167, ↓Xa, Xb, Xc, ↓reduceIte, Nat.reduceLT, Nat.reduceEqDiff, Nat.reduceBEq, Nat.reduceLeDiff, Nat.reduceAdd, Nat.reduceMul]
      rw [← e1]; exact err (.inl e1)
    by_cases e2 : p < l.length
    · simp (disch := first | assumption | (apply Ap.symm; assumption) | omega | decide | (simp only [U_len, List.length_append, List.length_replicate, List.length_cons, List.length_nil, List.length_set] <;> omega) | fail) only [sndC, ac167, e1, e2, len_Sx, cells_i2, rs167, ↓Xa, Xb, Xc, ↓reduceIte, Nat.reduceLT, Nat.reduceEqDiff, Nat.reduceBEq, Nat.reduceLeDiff, Nat.reduceAdd, Nat.reduceMul]
      exact err (.inr e2)
    have hpl : p = l.length := by have := hp.2.1; omega
    rw [if_neg (by omega)] at hq
    have hg := isAt_good (hpl ▸ hp) (by omega)
    simp (disch := first | assumption | (apply Ap.symm; assumption) | omega | decide | (simp only [U_len, List.length_append, List.length_replicate, List.length_cons, List.length_nil, List.length_set] <;> omega) | fail) only [sndC, ac167, e1, e2, len_Sx, slc_SxL, ↓Xa, Xb, Xc, ↓reduceIte, Nat.reduceLT, Nat.reduceEqDiff, Nat.reduceBEq, Nat.reduceLeDiff, Nat.reduceAdd, Nat.reduceMul]
    refine (read_fn (r := .tup [LS (Ma.digs 4294967296 (decV (l.drop (iFrom l)))) true, spot 0 0]) (.inr (.inr (.inr ⟨by simp; omega, hg, rfl⟩))) (by simp; omega)).call ?_
    simp (disch := first | assumption | (apply Ap.symm; assumption) | omega | decide | (simp only [U_len, List.length_append, List.length_replicate, List.length_cons, List.length_nil, List.length_set] <;> omega) | fail) only [spot, ↓Xa, Xb, Xc, ↓reduceIte, Nat.reduceLT, Nat.reduceEqDiff, Nat.reduceBEq, Nat.reduceLeDiff, Nat.reduceAdd, Nat.reduceMul]
    refine alloc_i fun p3 hp3 => ?_
    have n3 := hp3
    simp only [upd_none] at n3
    obtain ⟨_, _, n3⟩ := n3
    simp (disch := first | assumption | (apply Ap.symm; assumption) | omega | decide | (simp only [U_len, List.length_append, List.length_replicate, List.length_cons, List.length_nil, List.length_set] <;> omega) | fail) only [cells_i2, ↓Xa, Xb, Xc, ↓reduceIte, Nat.reduceLT, Nat.reduceEqDiff, Nat.reduceBEq, Nat.reduceLeDiff, Nat.reduceAdd, Nat.reduceMul]
    refine (made_fn (decide (iFrom l = 1)) _ ?_).call ?_
    · have hv : decV (l.drop (iFrom l)) < 4294967296 ^ 8192 := Nat.lt_of_lt_of_le (decV_lt fun b hb => (hg.2.1 b hb).2) (ten_bound (by simp; omega))
      have := (Nm.digs hv).len
      omega
    simp (disch := first | assumption | (apply Ap.symm; assumption) | omega | decide | (simp only [U_len, List.length_append, List.length_replicate, List.length_cons, List.length_nil, List.length_set] <;> omega) | fail) only [cells_i2, cells_IntA, IntB, IntD, rs167, ↓Xa, Xb, Xc, ↓reduceIte, Nat.reduceLT, Nat.reduceEqDiff, Nat.reduceBEq, Nat.reduceLeDiff, Nat.reduceAdd, Nat.reduceMul]
    exact SetR.dropTo ((((Le.refl H).updB n1).updB n2).updB n3) (SetR.now hq)
  have tail : ∀ {E : Env}, E = [(0, Sx l), (2, .ptr p1 2 0), (3, .ptr p2 2 0), (4, .int .i64 (iFrom l : Int))] →
      W Tryd.prog (sndC (sndC (sndC (sndC ac167)))) (retN rs167 Q) ⟨[], E, (H.upd p1 (some (.row 28 0 [.bool false, .seq 0 [] true]))).upd p2 (some (.row 105 0 [.int .i64 ((0 : Nat) : Int), .int .i64 ((0 : Nat) : Int)]))⟩ := by
    intro E hE
    subst hE
    simp (disch := first | assumption | (apply Ap.symm; assumption) | omega | decide | (simp only [U_len, List.length_append, List.length_replicate, List.length_cons, List.length_nil, List.length_set] <;> omega) | fail) only [sndC, ac167, ↓Xa, Xb, Xc, ↓reduceIte, Nat.reduceLT, Nat.reduceEqDiff, Nat.reduceBEq, Nat.reduceLeDiff, Nat.reduceAdd, Nat.reduceMul]
    refine W_loop (fun i : Nat => ⟨[], [(0, Sx l), (2, .ptr p1 2 0), (3, .ptr p2 2 0), (4, .int .i64 (i : Int)), (5, .int .i64 (iFrom l : Int))], (H.upd p1 (some (.row 28 0 [.bool false, .seq 0 [] true]))).upd p2 (some (.row 105 0 [.int .i64 ((0 : Nat) : Int), .int .i64 ((0 : Nat) : Int)]))⟩) (fun i => iFrom l ≤ i ∧ i ≤ l.length ∧ ∀ j, iFrom l ≤ j → j < i → ¬ iBad l j) (fun i => l.length - i) (iFrom l) (Settle.now rfl) ⟨Nat.le_refl _, hf1, fun j h1 h2 => by omega⟩ ?_
    rintro i ⟨hi1, hi2, hi3⟩
    have stop : iBad l i → i = p := fun hb => isAt_fn ⟨hi1, hi2, hb, hi3⟩ hp
    have step : ¬ iBad l i → ∀ j, iFrom l ≤ j → j < i + 1 → ¬ iBad l j := fun hb j h1 hj => by
      by_cases e : j = i
      · rw [e]; exact hb
      · exact hi3 j h1 (by omega)
    by_cases hi : i < l.length
    · by_cases c1 : 48 ≤ (l.getD i 0).toNat
      rotate_left
      · obtain rfl := stop (.inl (by omega))
        simp (disch := first | assumption | (apply Ap.symm; assumption) | omega | decide | (simp only [U_len, List.length_append, List.length_replicate, List.length_cons, List.length_nil, List.length_set] <;> omega) | fail) only [hi, len_Sx, idx_Sx, c1, ↓Xa, Xb, Xc, ↓reduceIte, Nat.reduceLT, Nat.reduceEqDiff, Nat.reduceBEq, Nat.reduceLeDiff, Nat.reduceAdd, Nat.reduceMul]
        refine Settle.keep [0, 2, 3, 4, 5] ?_
        exact rest (by rfl) rfl rfl
      by_cases c2 : (l.getD i 0).toNat ≤ 57
      rotate_left
      · obtain rfl := stop (.inr (.inl (by omega)))
        simp (disch := first | assumption | (apply Ap.symm; assumption) | omega | decide | (simp only [U_len, List.length_append, List.length_replicate, List.length_cons, List.length_nil, List.length_set] <;> omega) | fail) only [hi, len_Sx, idx_Sx, c1, c2, ↓Xa, Xb, Xc, ↓reduceIte, Nat.reduceLT, Nat.reduceEqDiff, Nat.reduceBEq, Nat.reduceLeDiff, Nat.reduceAdd, Nat.reduceMul]
        refine Settle.keep [0, 2, 3, 4, 5] ?_
        exact rest (by rfl) rfl rfl
      by_cases c3 : i = iFrom l + 1
      · have hfl : iFrom l < l.length := by omega
        subst c3
        by_cases c4 : (l.getD (iFrom l) 0).toNat = 48
        · have hip := stop (.inr (.inr (.inl ⟨rfl, c4⟩)))
          have rr := @rest
          rw [← hip] at rr
          simp (disch := first | assumption | (apply Ap.symm; assumption) | omega | decide | (simp only [U_len, List.length_append, List.length_replicate, List.length_cons, List.length_nil, List.length_set] <;> omega) | fail) only [hi, len_Sx, idx_Sx, c1, c2, c4, ↓Xa, Xb, Xc, ↓reduceIte, Nat.reduceLT, Nat.reduceEqDiff, Nat.reduceBEq, Nat.reduceLeDiff, Nat.reduceAdd, Nat.reduceMul]
          refine Settle.keep [0, 2, 3, 4, 5] ?_
          exact rr (by rfl) rfl rfl
        · have c5 : ¬ iFrom l + 1 = iFrom l := by omega
          have nb := step (show ¬ iBad l (iFrom l + 1) by unfold iBad; omega)
          simp (disch := first | assumption | (apply Ap.symm; assumption) | omega | decide | (simp only [U_len, List.length_append, List.length_replicate, List.length_cons, List.length_nil, List.length_set] <;> omega) | fail) only [hi, len_Sx, idx_Sx, c1, c2, c4, c5, ↓Xa, Xb, Xc, ↓reduceIte, Nat.reduceLT, Nat.reduceEqDiff, Nat.reduceBEq, Nat.reduceLeDiff, Nat.reduceAdd, Nat.reduceMul]
          exact Settle.now ⟨iFrom l + 1 + 1, by omega, ⟨by omega, by omega, nb⟩, rfl⟩
      by_cases c5 : i = iFrom l
      · subst c5
        by_cases c6 : iFrom l = 1
        · by_cases c7 : (l.getD (iFrom l) 0).toNat = 48
          · have hip := stop (.inr (.inr (.inr ⟨rfl, c6, c7⟩)))
            have rr := @rest
            rw [← hip] at rr
            rw [c6] at rr hi c1 c2 c3 c7 ⊢
            simp (disch := first | assumption | (apply Ap.symm; assumption) | omega | decide | (simp only [U_len, List.length_append, List.length_replicate, List.length_cons, List.length_nil, List.length_set] <;> omega) | fail) only [hi, len_Sx, idx_Sx, c1, c2, c3, c7, ↓Xa, Xb, Xc, ↓reduceIte, Nat.reduceLT, Nat.reduceEqDiff, Nat.reduceBEq, Nat.reduceLeDiff, Nat.reduceAdd, Nat.reduceMul]
            refine Settle.keep [0, 2, 3, 4, 5] ?_
            exact rr (by rfl) rfl rfl
          · have nb := step (show ¬ iBad l (iFrom l) by unfold iBad; omega)
            rw [c6] at hi c1 c2 c3 c7 nb ⊢
            simp (disch := first | assumption | (apply Ap.symm; assumption) | omega | decide | (simp only [U_len, List.length_append, List.length_replicate, List.length_cons, List.length_nil, List.length_set] <;> omega) | fail) only [hi, len_Sx, idx_Sx, c1, c2, c3, c7, ↓Xa, Xb, Xc, ↓reduceIte, Nat.reduceLT, Nat.reduceEqDiff, Nat.reduceBEq, Nat.reduceLeDiff, Nat.reduceAdd, Nat.reduceMul]
            exact Settle.now ⟨1 + 1, by omega, ⟨by omega, by omega, nb⟩, rfl⟩
        · have nb := step (show ¬ iBad l (iFrom l) by unfold iBad; omega)
          simp (disch := first | assumption | (apply Ap.symm; assumption) | omega | decide | (simp only [U_len, List.length_append, List.length_replicate, List.length_cons, List.length_nil, List.length_set] <;> omega) | fail) only [hi, len_Sx, idx_Sx, c1, c2, c3, c6, ↓Xa, Xb, Xc, ↓reduceIte, Nat.reduceLT, Nat.reduceEqDiff, Nat.reduceBEq, Nat.reduceLeDiff, Nat.reduceAdd, Nat.reduceMul]
          exact Settle.now ⟨iFrom l + 1, by omega, ⟨by omega, by omega, nb⟩, rfl⟩
      · have nb := step (show ¬ iBad l i by unfold iBad; omega)
        simp (disch := first | assumption | (apply Ap.symm; assumption) | omega | decide | (simp only [U_len, List.length_append, List.length_replicate, List.length_cons, List.length_nil, List.length_set] <;> omega) | fail) only [hi, len_Sx, idx_Sx, c1, c2, c3, c5, ↓Xa, Xb, Xc, ↓reduceIte, Nat.reduceLT, Nat.reduceEqDiff, Nat.reduceBEq, Nat.reduceLeDiff, Nat.reduceAdd, Nat.reduceMul]
        exact Settle.now ⟨i + 1, by omega, ⟨by omega, by omega, nb⟩, rfl⟩
    · obtain rfl := stop (.inl (by rw [get_beyond (by omega)]; decide))
      simp (disch := first | assumption | (apply Ap.symm; assumption) | omega | decide | (simp only [U_len, List.length_append, List.length_replicate, List.length_cons, List.length_nil, List.length_set] <;> omega) | fail) only [hi, len_Sx, ↓Xa, Xb, Xc, ↓reduceIte, Nat.reduceLT, Nat.reduceEqDiff, Nat.reduceBEq, Nat.reduceLeDiff, Nat.reduceAdd, Nat.reduceMul]
      refine Settle.keep [0, 2, 3, 4, 5] ?_
      exact rest (by rfl) rfl rfl
  have tl := @tail _ rfl
  by_cases h0 : l = []
  · have hf0 : iFrom l = 0 := by rw [h0]; rfl
    rw [hf0] at tl
    simp (disch := first | assumption | (apply Ap.symm; assumption) | omega | decide | (simp only [U_len, List.length_append, List.length_replicate, List.length_cons, List.length_nil, List.length_set] <;> omega) | fail) only [sndC, ac167, ↓Xa, Xb, Xc, ↓reduceIte, Nat.reduceLT, Nat.reduceEqDiff, Nat.reduceBEq, Nat.reduceLeDiff, Nat.reduceAdd, Nat.reduceMul] at tl
    simp (disch := first | assumption | (apply Ap.symm; assumption) | omega | decide | (simp only [U_len, List.length_append, List.length_replicate, List.length_cons, List.length_nil, List.length_set] <;> omega) | fail) only [len_Sx, h1, str_Sx, neq_Sx, h0, ↓Xa, Xb, Xc, ↓reduceIte, Nat.reduceLT, Nat.reduceEqDiff, Nat.reduceBEq, Nat.reduceLeDiff, Nat.reduceAdd, Nat.reduceMul]
    rw [h0] at tl
    exact tl
  have hpos : 0 < l.length := List.length_pos_iff.2 h0
  by_cases h2 : (l.getD 0 0).toNat = 45
  · have hf0 : iFrom l = 1 := by unfold iFrom; rw [if_pos h2]
    rw [hf0] at tl
    simp (disch := first | assumption | (apply Ap.symm; assumption) | omega | decide | (simp only [U_len, List.length_append, List.length_replicate, List.length_cons, List.length_nil, List.length_set] <;> omega) | fail) only [sndC, ac167, ↓Xa, Xb, Xc, ↓reduceIte, Nat.reduceLT, Nat.reduceEqDiff, Nat.reduceBEq, Nat.reduceLeDiff, Nat.reduceAdd, Nat.reduceMul] at tl
    simp (disch := first | assumption | (apply Ap.symm; assumption) | omega | decide | (simp only [U_len, List.length_append, List.length_replicate, List.length_cons, List.length_nil, List.length_set] <;> omega) | fail) only [len_Sx, h1, str_Sx, neq_Sx, h0, idx_Sx, h2, ↓Xa, Xb, Xc, ↓reduceIte, Nat.reduceLT, Nat.reduceEqDiff, Nat.reduceBEq, Nat.reduceLeDiff, Nat.reduceAdd, Nat.reduceMul]
    exact tl
  · have hf0 : iFrom l = 0 := by unfold iFrom; rw [if_neg h2]
    rw [hf0] at tl
    simp (disch := first | assumption | (apply Ap.symm; assumption) | omega | decide | (simp only [U_len, List.length_append, List.length_replicate, List.length_cons, List.length_nil, List.length_set] <;> omega) | fail) only [sndC, ac167, ↓Xa, Xb, Xc, ↓reduceIte, Nat.reduceLT, Nat.reduceEqDiff, Nat.reduceBEq, Nat.reduceLeDiff, Nat.reduceAdd, Nat.reduceMul] at tl
    simp (disch := first | assumption | (apply Ap.symm; assumption) | omega | decide | (simp only [U_len, List.length_append, List.length_replicate, List.length_cons, List.length_nil, List.length_set] <;> omega) | fail) only [len_Sx, h1, str_Sx, neq_Sx, h0, idx_Sx, h2, ↓Xa, Xb, Xc, ↓reduceIte, Nat.reduceLT, Nat.reduceEqDiff, Nat.reduceBEq, Nat.reduceLeDiff, Nat.reduceAdd, Nat.reduceMul]
    exact tl
end Go.Proofs.YtanchgkiomfhhaaDoor.Fw

/- A whole number's text, as the reference of layer 2 reads it. -/
namespace Go.Proofs.YtanchgkiomfhhaaDoor.Fw
set_option linter.unusedSimpArgs false
set_option linter.unusedVariables false
open Go Go.Proofs.YtanchgkiomfhhaaDoor.Ma
set_option maxRecDepth 20000

/-- What the reference answers of a text. -/
def rReadA (l : List UInt8) (p : Nat) : AV := if p = iFrom l ∨ p < l.length then .tup [RefA 0 true, .int .i64 (p : Int)] else .tup [RefA (iVal l) false, .int .i64 (-1)]
end Go.Proofs.YtanchgkiomfhhaaDoor.Fw

/- Fractions: what the laws' own helpers answer. -/
namespace Go.Proofs.YtanchgkiomfhhaaDoor.Fw
set_option linter.unusedSimpArgs false
set_option linter.unusedVariables false
open Go Go.Proofs.YtanchgkiomfhhaaDoor.Ma
set_option maxRecDepth 20000

/-- A fraction's text. -/
def qText (q : QQ) : List UInt8 := iText q.num ++ (if q.den = 1 then [] else 47 :: iText (q.den : Int))
theorem iText_len {x : Int} {k : Nat} (h : Bd k x) : (iText x).length ≤ 10 * k + 2 := by
  have := decT_bd h
  unfold iText; split <;> simp <;> omega
theorem rtextq_fn {q : QQ} {k : Nat} (hb : RB k q) (hk : k ≤ 1000000) : PFn Tryd.prog 128 [RatA q] (Sx (qText q)) := by
  intro H Q hq
  have l1 := iText_len hb.1
  have l2 := iText_len hb.2
  refine enter128 (by simp) ?_
  simp (disch := first | assumption | (apply Ap.symm; assumption) | omega | decide | (simp only [U_len, List.length_append, List.length_replicate, List.length_cons, List.length_nil, List.length_set] <;> omega) | fail) only [ac128, cells_RatA, ↓Xa, Xb, Xc, ↓reduceIte, Nat.reduceLT, Nat.reduceEqDiff, Nat.reduceBEq, Nat.reduceLeDiff, Nat.reduceAdd, Nat.reduceMul]
  refine alloc_i fun p1 hp1 => ?_
  have n1 := hp1
  simp (disch := first | assumption | (apply Ap.symm; assumption) | omega | decide | (simp only [U_len, List.length_append, List.length_replicate, List.length_cons, List.length_nil, List.length_set] <;> omega) | fail) only [fold_IntA, ↓Xa, Xb, Xc, ↓reduceIte, Nat.reduceLT, Nat.reduceEqDiff, Nat.reduceBEq, Nat.reduceLeDiff, Nat.reduceAdd, Nat.reduceMul]
  refine (itext_fn hb.1 hk).call ?_
  simp (disch := first | assumption | (apply Ap.symm; assumption) | omega | decide | (simp only [U_len, List.length_append, List.length_replicate, List.length_cons, List.length_nil, List.length_set] <;> omega) | fail) only [fold_Raw, fold_RatA, ↓Xa, Xb, Xc, ↓reduceIte, Nat.reduceLT, Nat.reduceEqDiff, Nat.reduceBEq, Nat.reduceLeDiff, Nat.reduceAdd, Nat.reduceMul]
  refine (rwhole_fn hb hk).call ?_
  by_cases h : q.den = 1
  · rw [qText, if_pos h, List.append_nil] at hq
    simp (disch := first | assumption | (apply Ap.symm; assumption) | omega | decide | (simp only [U_len, List.length_append, List.length_replicate, List.length_cons, List.length_nil, List.length_set] <;> omega) | fail) only [decide_eq_true h, rs128, ↓Xa, Xb, Xc, ↓reduceIte, Nat.reduceLT, Nat.reduceEqDiff, Nat.reduceBEq, Nat.reduceLeDiff, Nat.reduceAdd, Nat.reduceMul]
    exact SetR.dropTo ((Le.refl H).updB n1) (SetR.now hq)
  · rw [qText, if_neg h] at hq
    simp (disch := first | assumption | (apply Ap.symm; assumption) | omega | decide | (simp only [U_len, List.length_append, List.length_replicate, List.length_cons, List.length_nil, List.length_set] <;> omega) | fail) only [decide_eq_false h, fold_Raw, fold_RatA, ↓Xa, Xb, Xc, ↓reduceIte, Nat.reduceLT, Nat.reduceEqDiff, Nat.reduceBEq, Nat.reduceLeDiff, Nat.reduceAdd, Nat.reduceMul]
    refine (rden_fn hb hk).call ?_
    simp (disch := first | assumption | (apply Ap.symm; assumption) | omega | decide | (simp only [U_len, List.length_append, List.length_replicate, List.length_cons, List.length_nil, List.length_set] <;> omega) | fail) only [↓Xa, Xb, Xc, ↓reduceIte, Nat.reduceLT, Nat.reduceEqDiff, Nat.reduceBEq, Nat.reduceLeDiff, Nat.reduceAdd, Nat.reduceMul]
    refine (itext_fn hb.2 hk).call ?_
    have s1 : AV.str ⟨#[47]⟩ = Sx [47] := rfl
    have e1 : ∀ K, binW .add (Sx [47]) (Sx (iText (q.den : Int))) K = K (Sx (47 :: iText (q.den : Int))) := fun K => add_Sx (by simp; omega)
    have e2 : ∀ K, binW .add (Sx (iText q.num)) (Sx (47 :: iText (q.den : Int))) K = K (Sx (iText q.num ++ 47 :: iText (q.den : Int))) := fun K => add_Sx (by simp; omega)
    simp (disch := first | assumption | (apply Ap.symm; assumption) | omega | decide | (simp only [U_len, List.length_append, List.length_replicate, List.length_cons, List.length_nil, List.length_set] <;> omega) | fail) only [s1, e1, e2, rs128, ↓Xa, Xb, Xc, ↓reduceIte, Nat.reduceLT, Nat.reduceEqDiff, Nat.reduceBEq, Nat.reduceLeDiff, Nat.reduceAdd, Nat.reduceMul]
    exact SetR.dropTo ((Le.refl H).updB n1) (SetR.now hq)

theorem q_same {p q : QQ} : (decide (p.num = q.num) && decide (p.den = q.den)) = decide (p = q) := by
  by_cases h : p = q
  · subst h; simp
  · rw [decide_eq_false h]
    by_cases h1 : p.num = q.num
    · have h2 : ¬ p.den = q.den := fun h2 => h (_root_.Rat.ext h1 h2)
      simp [h1, h2]
    · simp [h1]
theorem same_q {p q : QQ} {k k' : Nat} (hp : RB k p) (hq' : RB k' q) (hk : k ≤ 1000000) (hk' : k' ≤ 1000000) : PFn Tryd.prog 96 [RatA p, RatA q] (.bool (decide (p = q))) := by
  intro H Q hq
  rw [← q_same] at hq
  refine enter96 (by simp) ?_
  simp (disch := first | assumption | (apply Ap.symm; assumption) | omega | decide | (simp only [U_len, List.length_append, List.length_replicate, List.length_cons, List.length_nil, List.length_set] <;> omega) | fail) only [ac96, cells_RatA, ↓Xa, Xb, Xc, ↓reduceIte, Nat.reduceLT, Nat.reduceEqDiff, Nat.reduceBEq, Nat.reduceLeDiff, Nat.reduceAdd, Nat.reduceMul]
  refine alloc_i fun p1 hp1 => ?_
  have n1 := hp1
  simp (disch := first | assumption | (apply Ap.symm; assumption) | omega | decide | (simp only [U_len, List.length_append, List.length_replicate, List.length_cons, List.length_nil, List.length_set] <;> omega) | fail) only [cells_RatA, ↓Xa, Xb, Xc, ↓reduceIte, Nat.reduceLT, Nat.reduceEqDiff, Nat.reduceBEq, Nat.reduceLeDiff, Nat.reduceAdd, Nat.reduceMul]
  refine alloc_i fun p2 hp2 => ?_
  have n2 := hp2
  simp only [upd_none] at n2
  obtain ⟨_, n2⟩ := n2
  simp (disch := first | assumption | (apply Ap.symm; assumption) | omega | decide | (simp only [U_len, List.length_append, List.length_replicate, List.length_cons, List.length_nil, List.length_set] <;> omega) | fail) only [fold_Raw, fold_RatA, ↓Xa, Xb, Xc, ↓reduceIte, Nat.reduceLT, Nat.reduceEqDiff, Nat.reduceBEq, Nat.reduceLeDiff, Nat.reduceAdd, Nat.reduceMul]
  refine PFn.dcall rnum_fn ?_
  simp (disch := first | assumption | (apply Ap.symm; assumption) | omega | decide | (simp only [U_len, List.length_append, List.length_replicate, List.length_cons, List.length_nil, List.length_set] <;> omega) | fail) only [fold_Raw, fold_RatA, ↓Xa, Xb, Xc, ↓reduceIte, Nat.reduceLT, Nat.reduceEqDiff, Nat.reduceBEq, Nat.reduceLeDiff, Nat.reduceAdd, Nat.reduceMul]
  refine PFn.dcall rnum_fn ?_
  simp (disch := first | assumption | (apply Ap.symm; assumption) | omega | decide | (simp only [U_len, List.length_append, List.length_replicate, List.length_cons, List.length_nil, List.length_set] <;> omega) | fail) only [↓Xa, Xb, Xc, ↓reduceIte, Nat.reduceLT, Nat.reduceEqDiff, Nat.reduceBEq, Nat.reduceLeDiff, Nat.reduceAdd, Nat.reduceMul]
  refine PFn.dcall (cmpi_fn hp.1 (by omega) hq'.1 (by omega)) ?_
  by_cases h : p.num = q.num
  · simp (disch := first | assumption | (apply Ap.symm; assumption) | omega | decide | (simp only [U_len, List.length_append, List.length_replicate, List.length_cons, List.length_nil, List.length_set] <;> omega) | fail) only [cmp_eql0, decide_eq_true h, fold_Raw, fold_RatA, ↓Xa, Xb, Xc, ↓reduceIte, Nat.reduceLT, Nat.reduceEqDiff, Nat.reduceBEq, Nat.reduceLeDiff, Nat.reduceAdd, Nat.reduceMul]
    refine PFn.dcall (rden_fn hp (by omega)) ?_
    simp (disch := first | assumption | (apply Ap.symm; assumption) | omega | decide | (simp only [U_len, List.length_append, List.length_replicate, List.length_cons, List.length_nil, List.length_set] <;> omega) | fail) only [fold_Raw, fold_RatA, ↓Xa, Xb, Xc, ↓reduceIte, Nat.reduceLT, Nat.reduceEqDiff, Nat.reduceBEq, Nat.reduceLeDiff, Nat.reduceAdd, Nat.reduceMul]
    refine (rden_fn hq' (by omega)).call ?_
    simp (disch := first | assumption | (apply Ap.symm; assumption) | omega | decide | (simp only [U_len, List.length_append, List.length_replicate, List.length_cons, List.length_nil, List.length_set] <;> omega) | fail) only [↓Xa, Xb, Xc, ↓reduceIte, Nat.reduceLT, Nat.reduceEqDiff, Nat.reduceBEq, Nat.reduceLeDiff, Nat.reduceAdd, Nat.reduceMul]
    refine (cmpi_fn hp.2 (by omega) hq'.2 (by omega)).call ?_
    have c2 : decide ((p.den : Int) = (q.den : Int)) = decide (p.den = q.den) := decide_eq_decide.2 (by omega)
    rw [decide_eq_true h, Bool.true_and] at hq
    simp (disch := first | assumption | (apply Ap.symm; assumption) | omega | decide | (simp only [U_len, List.length_append, List.length_replicate, List.length_cons, List.length_nil, List.length_set] <;> omega) | fail) only [cmp_eql0, c2, rs96, ↓Xa, Xb, Xc, ↓reduceIte, Nat.reduceLT, Nat.reduceEqDiff, Nat.reduceBEq, Nat.reduceLeDiff, Nat.reduceAdd, Nat.reduceMul]
    exact SetR.dropTo (((Le.refl H).updB n1).updB n2) (SetR.now hq)
  · rw [decide_eq_false h, Bool.false_and] at hq
    simp (disch := first | assumption | (apply Ap.symm; assumption) | omega | decide | (simp only [U_len, List.length_append, List.length_replicate, List.length_cons, List.length_nil, List.length_set] <;> omega) | fail) only [cmp_eql0, decide_eq_false h, rs96, ↓Xa, Xb, Xc, ↓reduceIte, Nat.reduceLT, Nat.reduceEqDiff, Nat.reduceBEq, Nat.reduceLeDiff, Nat.reduceAdd, Nat.reduceMul]
    exact SetR.dropTo (((Le.refl H).updB n1).updB n2) (SetR.now hq)

/-- Two texts that are handed in. -/
def FracA (q : List UInt8 × List UInt8) : AV := .agg [Sx q.1, Sx q.2]
def FracC (l : List (List UInt8 × List UInt8)) : List AV := l.flatMap fun q => [Sx q.1, Sx q.2]
theorem cells_FracA {q : List UInt8 × List UInt8} : (FracA q).cells = some [Sx q.1, Sx q.2] := id rfl
theorem fold_FracA {q : List UInt8 × List UInt8} : AV.agg [Sx q.1, Sx q.2] = FracA q := id rfl
theorem FracC_len (l : List (List UInt8 × List UInt8)) : (FracC l).length = l.length * 2 := by
  induction l with
  | nil => rfl
  | cons a l ih => simp only [FracC, List.flatMap_cons, List.length_append, List.length_cons, List.length_nil] at *; omega
theorem FracC_drop : ∀ (l : List (List UInt8 × List UInt8)) (i : Nat) (h : i < l.length), (FracC l).drop (i * 2) = Sx (l[i]).1 :: Sx (l[i]).2 :: (FracC l).drop (i * 2 + 2)
  | a :: l, 0, _ => rfl
  | a :: l, i + 1, h => by
    have := FracC_drop l i (by simpa using h)
    rw [show (i + 1) * 2 = i * 2 + 2 by omega]
    show ((Sx a.1 :: Sx a.2 :: FracC l).drop (i * 2 + 2)) = _
    simp only [List.drop_succ_cons, List.getElem_cons_succ]
    rw [this]
    show _ = _ :: _ :: ((Sx a.1 :: Sx a.2 :: FracC l).drop (i * 2 + 2 + 2))
    simp only [List.drop_succ_cons]
def lngF (q : List UInt8 × List UInt8) : Bool := decide (300 < q.1.length) || decide (300 < q.2.length)
theorem long1_fn {q : List UInt8 × List UInt8} : PFn Tryd.prog 176 [FracA q] (.bool (lngF q)) := by
  intro H Q hq
  refine enter176 (by simp) ?_
  simp (disch := first | assumption | (apply Ap.symm; assumption) | omega | decide | (simp only [U_len, List.length_append, List.length_replicate, List.length_cons, List.length_nil, List.length_set] <;> omega) | fail) only [ac176, cells_FracA, ↓Xa, Xb, Xc, ↓reduceIte, Nat.reduceLT, Nat.reduceEqDiff, Nat.reduceBEq, Nat.reduceLeDiff, Nat.reduceAdd, Nat.reduceMul]
  refine alloc_i fun p1 hp1 => ?_
  have n1 := hp1
  by_cases h : 300 < q.1.length
  · rw [lngF, decide_eq_true h, Bool.true_or] at hq
    simp (disch := first | assumption | (apply Ap.symm; assumption) | omega | decide | (simp only [U_len, List.length_append, List.length_replicate, List.length_cons, List.length_nil, List.length_set] <;> omega) | fail) only [len_Sx, decide_eq_true h, h, rs176, ↓Xa, Xb, Xc, ↓reduceIte, Nat.reduceLT, Nat.reduceEqDiff, Nat.reduceBEq, Nat.reduceLeDiff, Nat.reduceAdd, Nat.reduceMul]
    exact SetR.dropTo ((Le.refl H).updB n1) (SetR.now hq)
  · rw [lngF, decide_eq_false h, Bool.false_or] at hq
    by_cases h2 : 300 < q.2.length
    · rw [decide_eq_true h2] at hq
      simp (disch := first | assumption | (apply Ap.symm; assumption) | omega | decide | (simp only [U_len, List.length_append, List.length_replicate, List.length_cons, List.length_nil, List.length_set] <;> omega) | fail) only [len_Sx, h, h2, rs176, ↓Xa, Xb, Xc, ↓reduceIte, Nat.reduceLT, Nat.reduceEqDiff, Nat.reduceBEq, Nat.reduceLeDiff, Nat.reduceAdd, Nat.reduceMul]
      exact SetR.dropTo ((Le.refl H).updB n1) (SetR.now hq)
    · rw [decide_eq_false h2] at hq
      simp (disch := first | assumption | (apply Ap.symm; assumption) | omega | decide | (simp only [U_len, List.length_append, List.length_replicate, List.length_cons, List.length_nil, List.length_set] <;> omega) | fail) only [len_Sx, h, h2, rs176, ↓Xa, Xb, Xc, ↓reduceIte, Nat.reduceLT, Nat.reduceEqDiff, Nat.reduceBEq, Nat.reduceLeDiff, Nat.reduceAdd, Nat.reduceMul]
      exact SetR.dropTo ((Le.refl H).updB n1) (SetR.now hq)
theorem geq_int {k : IntKind} {n m : Int} {K : AV → Prop} : binW .geq (.int k n) (.int k m) K ↔ K (.bool (decide (m ≤ n))) := by simp [binW, binInt]
theorem idxF_fn (l : List (List UInt8 × List UInt8)) (t : Bool) (hl : l.length < 9223372036854775807) : ∃ r : Int, decide (((0 : Nat) : Int) ≤ r) = l.any lngF ∧ PFn Tryd.prog 208 [.seq l.length (FracC l) t, .fn (.func 176) [] []] (.int .i64 r) := by
  have len9 : ∀ {n : Nat} {c : List AV} {t : Bool} {K : AV → Prop} (_ : n < 2 ^ 63), lenW false (.seq n c t) K = K (.int .i64 ((n : Nat) : Int)) := fun h => by simp [lenW, h]
  have idx9 : ∀ {i : Nat} {K : AV → Prop} (_ : i < l.length), idxAW 2 (.seq l.length (FracC l) t) (.int .i64 (i : Int)) K = K (.cptr ((FracC l).drop (i * 2))) := fun {i K} h => by simp [idxAW, FracC_len, h]
  have ld9 : ∀ {H : AHeap} {i : Nat} {K : AV → Prop} (h : i < l.length), loadW H (some 2) (.cptr ((FracC l).drop (i * 2))) K = K (FracA (l[i])) := fun {H i K} h => by
    simp only [loadW, cellsAt, FracC_drop l i h]
    simp [FracA]
  have main : ∀ (p : Nat) (hp : p ≤ l.length) (hno : ∀ i (h : i < l.length), i < p → lngF (l[i]) = false) (hat : ∀ h : p < l.length, lngF (l[p]) = true) (r : Int) (hr : r = if p < l.length then (p : Int) else -1), PFn Tryd.prog 208 [.seq l.length (FracC l) t, .fn (.func 176) [] []] (.int .i64 r) := by
    intro p hp hno hat r hr H Q hq
    refine enter208 (by simp) ?_
    simp (disch := first | assumption | (apply Ap.symm; assumption) | omega | decide | (simp only [U_len, List.length_append, List.length_replicate, List.length_cons, List.length_nil, List.length_set] <;> omega) | fail) only [ac208, len9, hl, ↓Xa, Xb, Xc, ↓reduceIte, Nat.reduceLT, Nat.reduceEqDiff, Nat.reduceBEq, Nat.reduceLeDiff, Nat.reduceAdd, Nat.reduceMul]
    refine W_loop (fun i : Nat => ⟨[], [(0, .seq l.length (FracC l) t), (1, .fn (.func 176) [] []), (7, .int .i64 (l.length : Int)), (8, .int .i64 i)], H⟩) (fun i => i ≤ p) (fun i => l.length - i) 0 (Settle.now rfl) (Nat.zero_le _) ?_
    intro i h1
    by_cases hi : i < l.length
    · simp (disch := first | assumption | (apply Ap.symm; assumption) | omega | decide | (simp only [U_len, List.length_append, List.length_replicate, List.length_cons, List.length_nil, List.length_set] <;> omega) | fail) only [idx9, ld9, hi, ↓Xa, Xb, Xc, ↓reduceIte, Nat.reduceLT, Nat.reduceEqDiff, Nat.reduceBEq, Nat.reduceLeDiff, Nat.reduceAdd, Nat.reduceMul]
      refine long1_fn.call ?_
      by_cases e : i = p
      · subst e
        rw [if_pos hi] at hr; subst hr
        simp (disch := first | assumption | (apply Ap.symm; assumption) | omega | decide | (simp only [U_len, List.length_append, List.length_replicate, List.length_cons, List.length_nil, List.length_set] <;> omega) | fail) only [hat hi, rs208, ↓Xa, Xb, Xc, ↓reduceIte, Nat.reduceLT, Nat.reduceEqDiff, Nat.reduceBEq, Nat.reduceLeDiff, Nat.reduceAdd, Nat.reduceMul]
        exact SetR.now hq
      · simp (disch := first | assumption | (apply Ap.symm; assumption) | omega | decide | (simp only [U_len, List.length_append, List.length_replicate, List.length_cons, List.length_nil, List.length_set] <;> omega) | fail) only [hno i hi (by omega), ↓Xa, Xb, Xc, ↓reduceIte, Nat.reduceLT, Nat.reduceEqDiff, Nat.reduceBEq, Nat.reduceLeDiff, Nat.reduceAdd, Nat.reduceMul]
        exact Settle.now ⟨i + 1, by omega, by omega, rfl⟩
    · simp (disch := first | assumption | (apply Ap.symm; assumption) | omega | decide | (simp only [U_len, List.length_append, List.length_replicate, List.length_cons, List.length_nil, List.length_set] <;> omega) | fail) only [hi, ↓Xa, Xb, Xc, ↓reduceIte, Nat.reduceLT, Nat.reduceEqDiff, Nat.reduceBEq, Nat.reduceLeDiff, Nat.reduceAdd, Nat.reduceMul]
      refine Settle.now ?_
      rw [if_neg (by omega)] at hr; subst hr
      simp (disch := first | assumption | (apply Ap.symm; assumption) | omega | decide | (simp only [U_len, List.length_append, List.length_replicate, List.length_cons, List.length_nil, List.length_set] <;> omega) | fail) only [rs208, ↓Xa, Xb, Xc, ↓reduceIte, Nat.reduceLT, Nat.reduceEqDiff, Nat.reduceBEq, Nat.reduceLeDiff, Nat.reduceAdd, Nat.reduceMul]
      exact SetR.now hq
  rcases first_of (P := fun i => ∃ h : i < l.length, lngF (l[i]) = true) 0 l.length with ⟨p, _, b, ⟨hb, c⟩, d⟩ | h
  · refine ⟨(p : Int), ?_, main p (by omega) (fun i hi h => ?_) (fun _ => c) _ (by rw [if_pos (by omega)])⟩
    · rw [decide_eq_true (by omega)]
      exact (List.any_eq_true.2 ⟨_, List.getElem_mem hb, c⟩).symm
    · have := d i (by omega) h
      cases e : lngF (l[i]) with
      | false => rfl
      | true => exact absurd ⟨hi, e⟩ this
  · refine ⟨-1, ?_, main l.length (Nat.le_refl _) (fun i hi _ => ?_) (fun h => by omega) _ (by rw [if_neg (by omega)])⟩
    · rw [decide_eq_false (by omega)]
      refine (List.any_eq_false.2 fun q hq => ?_).symm
      obtain ⟨i, hi, rfl⟩ := List.getElem_of_mem hq
      exact fun e => h i (by omega) (by omega) ⟨hi, e⟩
    · cases e : lngF (l[i]) with
      | false => rfl
      | true => exact absurd ⟨hi, e⟩ (h i (by omega) (by omega))
theorem longF_fn (l : List (List UInt8 × List UInt8)) (t : Bool) (hl : l.length < 9223372036854775807) : PFn Tryd.prog 107 [.seq l.length (FracC l) t] (.bool (decide (12 < l.length) || l.any lngF)) := by
  intro H Q hq
  obtain ⟨r, hr, hf⟩ := idxF_fn l t hl
  have len9 : ∀ {n : Nat} {c : List AV} {t : Bool} {K : AV → Prop} (_ : n < 2 ^ 63), lenW false (.seq n c t) K = K (.int .i64 ((n : Nat) : Int)) := fun h => by simp [lenW, h]
  have cf : PFn Tryd.prog 175 [.seq l.length (FracC l) t, .fn (.func 176) [] []] (.bool (l.any lngF)) := by
    intro H Q hq
    refine enter175 (by simp) ?_
    simp (disch := first | assumption | (apply Ap.symm; assumption) | omega | decide | (simp only [U_len, List.length_append, List.length_replicate, List.length_cons, List.length_nil, List.length_set] <;> omega) | fail) only [ac175, ↓Xa, Xb, Xc, ↓reduceIte, Nat.reduceLT, Nat.reduceEqDiff, Nat.reduceBEq, Nat.reduceLeDiff, Nat.reduceAdd, Nat.reduceMul]
    refine hf.call ?_
    simp (disch := first | assumption | (apply Ap.symm; assumption) | omega | decide | (simp only [U_len, List.length_append, List.length_replicate, List.length_cons, List.length_nil, List.length_set] <;> omega) | fail) only [geq_int, hr, rs175, ↓Xa, Xb, Xc, ↓reduceIte, Nat.reduceLT, Nat.reduceEqDiff, Nat.reduceBEq, Nat.reduceLeDiff, Nat.reduceAdd, Nat.reduceMul]
    exact SetR.now hq
  refine enter107 (by simp) ?_
  by_cases h : 12 < l.length
  · rw [decide_eq_true h, Bool.true_or] at hq
    simp (disch := first | assumption | (apply Ap.symm; assumption) | omega | decide | (simp only [U_len, List.length_append, List.length_replicate, List.length_cons, List.length_nil, List.length_set] <;> omega) | fail) only [ac107, len9, hl, h, rs107, ↓Xa, Xb, Xc, ↓reduceIte, Nat.reduceLT, Nat.reduceEqDiff, Nat.reduceBEq, Nat.reduceLeDiff, Nat.reduceAdd, Nat.reduceMul]
    exact SetR.now hq
  · rw [decide_eq_false h, Bool.false_or] at hq
    simp (disch := first | assumption | (apply Ap.symm; assumption) | omega | decide | (simp only [U_len, List.length_append, List.length_replicate, List.length_cons, List.length_nil, List.length_set] <;> omega) | fail) only [ac107, len9, hl, h, ↓Xa, Xb, Xc, ↓reduceIte, Nat.reduceLT, Nat.reduceEqDiff, Nat.reduceBEq, Nat.reduceLeDiff, Nat.reduceAdd, Nat.reduceMul]
    refine cf.call ?_
    simp (disch := first | assumption | (apply Ap.symm; assumption) | omega | decide | (simp only [U_len, List.length_append, List.length_replicate, List.length_cons, List.length_nil, List.length_set] <;> omega) | fail) only [rs107, ↓Xa, Xb, Xc, ↓reduceIte, Nat.reduceLT, Nat.reduceEqDiff, Nat.reduceBEq, Nat.reduceLeDiff, Nat.reduceAdd, Nat.reduceMul]
    exact SetR.now hq
end Go.Proofs.YtanchgkiomfhhaaDoor.Fw

/- Fractions: the helpers that read and try. -/
namespace Go.Proofs.YtanchgkiomfhhaaDoor.Fw
set_option linter.unusedSimpArgs false
set_option linter.unusedVariables false
open Go Go.Proofs.YtanchgkiomfhhaaDoor.Ma
set_option maxRecDepth 20000

def wk1 : QQ := mkRat (-3) 2
def wk2 : QQ := mkRat (-1) 2
def wk3 : QQ := mkRat (-2) 1
theorem wk1_eq : _root_.Rat.divInt ((6 : Nat) : Int) (-4) = wk1 := by decide +kernel
theorem wk2_eq : wk1 / ((((3 : Nat) : Int)) : QQ) = wk2 := by decide +kernel
theorem wk3_eq : wk2 + wk1 = wk3 := by decide +kernel
theorem wk_q0 : ¬ ((((3 : Nat) : Int) : QQ) = 0) := by decide +kernel
theorem wk1_b : RB 1 wk1 := by unfold RB Bd; decide +kernel
theorem wk2_b : RB 1 wk2 := by unfold RB Bd; decide +kernel
theorem wk3_b : RB 1 wk3 := by unfold RB Bd; decide +kernel
theorem wk1_t : qText wk1 = [45, 51, 47, 50] := by
  have e1 : wk1.num = -3 := by decide +kernel
  have e2 : wk1.den = 2 := by decide +kernel
  rw [qText, e1, e2]; simp [iText, decT, dec, digs, chr]
theorem wk2_t : qText wk2 = [45, 49, 47, 50] := by
  have e1 : wk2.num = -1 := by decide +kernel
  have e2 : wk2.den = 2 := by decide +kernel
  rw [qText, e1, e2]; simp [iText, decT, dec, digs, chr]
theorem wk3_d : wk3.den = 1 := by decide +kernel
theorem wk3_t : qText wk3 = [45, 50] := by
  have e1 : wk3.num = -2 := by decide +kernel
  rw [qText, e1, wk3_d]; simp [iText, decT, dec, digs, chr]
theorem wk3_dt : iText (wk3.den : Int) = [49] := by rw [wk3_d]; simp [iText, decT, dec, digs, chr]
theorem wk1_f : iText (wk1.num / (wk1.den : Int)) = [45, 50] := by
  have e1 : wk1.num / (wk1.den : Int) = -2 := by decide +kernel
  rw [e1]; simp [iText, decT, dec, digs, chr]
theorem works_q : PFn Tryd.prog 94 [] (.bool true) := by
  intro H Q hq
  have s1 : AV.str ⟨#[45, 51, 47, 50]⟩ = Sx [45, 51, 47, 50] := rfl
  have s2 : AV.str ⟨#[45, 49, 47, 50]⟩ = Sx [45, 49, 47, 50] := rfl
  have s3 : AV.str ⟨#[45, 50]⟩ = Sx [45, 50] := rfl
  have s4 : AV.str ⟨#[49]⟩ = Sx [49] := rfl
  refine enter94 (by simp) ?_
  simp (disch := first | assumption | (apply Ap.symm; assumption) | omega | decide | (simp only [U_len, List.length_append, List.length_replicate, List.length_cons, List.length_nil, List.length_set] <;> omega) | fail) only [ac94, ↓Xa, Xb, Xc, ↓reduceIte, Nat.reduceLT, Nat.reduceEqDiff, Nat.reduceBEq, Nat.reduceLeDiff, Nat.reduceAdd, Nat.reduceMul]
  refine (of_fn (n := ((6 : Nat) : Int)) (by omega)).call ?_
  simp (disch := first | assumption | (apply Ap.symm; assumption) | omega | decide | (simp only [U_len, List.length_append, List.length_replicate, List.length_cons, List.length_nil, List.length_set] <;> omega) | fail) only [↓Xa, Xb, Xc, ↓reduceIte, Nat.reduceLT, Nat.reduceEqDiff, Nat.reduceBEq, Nat.reduceLeDiff, Nat.reduceAdd, Nat.reduceMul]
  refine (of_fn (n := -4) (by omega)).call ?_
  simp (disch := first | assumption | (apply Ap.symm; assumption) | omega | decide | (simp only [U_len, List.length_append, List.length_replicate, List.length_cons, List.length_nil, List.length_set] <;> omega) | fail) only [↓Xa, Xb, Xc, ↓reduceIte, Nat.reduceLT, Nat.reduceEqDiff, Nat.reduceBEq, Nat.reduceLeDiff, Nat.reduceAdd, Nat.reduceMul]
  refine (rmk_fn (k := 2) (Bd.i64 (n := ((6 : Nat) : Int)) (by omega)) (Bd.i64 (n := -4) (by omega)) (by omega)).call ?_
  rw [wk1_eq, if_neg (show ¬ ((-4 : Int) = 0) by decide)]
  simp (disch := first | assumption | (apply Ap.symm; assumption) | omega | decide | (simp only [U_len, List.length_append, List.length_replicate, List.length_cons, List.length_nil, List.length_set] <;> omega) | fail) only [RatE, ↓Xa, Xb, Xc, ↓reduceIte, Nat.reduceLT, Nat.reduceEqDiff, Nat.reduceBEq, Nat.reduceLeDiff, Nat.reduceAdd, Nat.reduceMul]
  refine alloc_i fun p1 hp1 => ?_
  have n1 := hp1
  simp (disch := first | assumption | (apply Ap.symm; assumption) | omega | decide | (simp only [U_len, List.length_append, List.length_replicate, List.length_cons, List.length_nil, List.length_set] <;> omega) | fail) only [cells_RatA, fold_Raw, fold_RatA, ↓Xa, Xb, Xc, ↓reduceIte, Nat.reduceLT, Nat.reduceEqDiff, Nat.reduceBEq, Nat.reduceLeDiff, Nat.reduceAdd, Nat.reduceMul]
  refine PFn.dcall (of_fn (n := ((3 : Nat) : Int)) (by omega)) ?_
  simp (disch := first | assumption | (apply Ap.symm; assumption) | omega | decide | (simp only [U_len, List.length_append, List.length_replicate, List.length_cons, List.length_nil, List.length_set] <;> omega) | fail) only [↓Xa, Xb, Xc, ↓reduceIte, Nat.reduceLT, Nat.reduceEqDiff, Nat.reduceBEq, Nat.reduceLeDiff, Nat.reduceAdd, Nat.reduceMul]
  refine PFn.dcall rwh_fn ?_
  simp (disch := first | assumption | (apply Ap.symm; assumption) | omega | decide | (simp only [U_len, List.length_append, List.length_replicate, List.length_cons, List.length_nil, List.length_set] <;> omega) | fail) only [↓Xa, Xb, Xc, ↓reduceIte, Nat.reduceLT, Nat.reduceEqDiff, Nat.reduceBEq, Nat.reduceLeDiff, Nat.reduceAdd, Nat.reduceMul]
  refine PFn.dcall (rover_q wk1_b (RB.int (k := 1) (Bd.i64 (n := ((3 : Nat) : Int)) (by omega))) (by omega)) ?_
  rw [wk2_eq, if_neg wk_q0]
  simp (disch := first | assumption | (apply Ap.symm; assumption) | omega | decide | (simp only [U_len, List.length_append, List.length_replicate, List.length_cons, List.length_nil, List.length_set] <;> omega) | fail) only [RatE, ↓Xa, Xb, Xc, ↓reduceIte, Nat.reduceLT, Nat.reduceEqDiff, Nat.reduceBEq, Nat.reduceLeDiff, Nat.reduceAdd, Nat.reduceMul]
  refine dalloc_i fun p2 hp2 => ?_
  have n2 := hp2
  simp only [upd_none] at n2
  obtain ⟨_, n2⟩ := n2
  simp (disch := first | assumption | (apply Ap.symm; assumption) | omega | decide | (simp only [U_len, List.length_append, List.length_replicate, List.length_cons, List.length_nil, List.length_set] <;> omega) | fail) only [cells_RatA, fold_Raw, fold_RatA, ↓Xa, Xb, Xc, ↓reduceIte, Nat.reduceLT, Nat.reduceEqDiff, Nat.reduceBEq, Nat.reduceLeDiff, Nat.reduceAdd, Nat.reduceMul]
  refine (radd_fn wk2_b wk1_b (by omega)).call ?_
  rw [wk3_eq]
  simp (disch := first | assumption | (apply Ap.symm; assumption) | omega | decide | (simp only [U_len, List.length_append, List.length_replicate, List.length_cons, List.length_nil, List.length_set] <;> omega) | fail) only [↓Xa, Xb, Xc, ↓reduceIte, Nat.reduceLT, Nat.reduceEqDiff, Nat.reduceBEq, Nat.reduceLeDiff, Nat.reduceAdd, Nat.reduceMul]
  refine alloc_i fun p3 hp3 => ?_
  have n3 := hp3
  simp only [upd_none] at n3
  obtain ⟨_, _, n3⟩ := n3
  simp (disch := first | assumption | (apply Ap.symm; assumption) | omega | decide | (simp only [U_len, List.length_append, List.length_replicate, List.length_cons, List.length_nil, List.length_set] <;> omega) | fail) only [cells_RatA, fold_Raw, fold_RatA, ↓Xa, Xb, Xc, ↓reduceIte, Nat.reduceLT, Nat.reduceEqDiff, Nat.reduceBEq, Nat.reduceLeDiff, Nat.reduceAdd, Nat.reduceMul]
  refine (rtextq_fn wk1_b (by omega)).call ?_
  simp (disch := first | assumption | (apply Ap.symm; assumption) | omega | decide | (simp only [U_len, List.length_append, List.length_replicate, List.length_cons, List.length_nil, List.length_set] <;> omega) | fail) only [wk1_t, s1, eql_Sx, fold_Raw, fold_RatA, ↓Xa, Xb, Xc, ↓reduceIte, Nat.reduceLT, Nat.reduceEqDiff, Nat.reduceBEq, Nat.reduceLeDiff, Nat.reduceAdd, Nat.reduceMul]
  refine (rtextq_fn wk2_b (by omega)).call ?_
  simp (disch := first | assumption | (apply Ap.symm; assumption) | omega | decide | (simp only [U_len, List.length_append, List.length_replicate, List.length_cons, List.length_nil, List.length_set] <;> omega) | fail) only [wk2_t, s2, eql_Sx, fold_Raw, fold_RatA, ↓Xa, Xb, Xc, ↓reduceIte, Nat.reduceLT, Nat.reduceEqDiff, Nat.reduceBEq, Nat.reduceLeDiff, Nat.reduceAdd, Nat.reduceMul]
  refine (rtextq_fn wk3_b (by omega)).call ?_
  simp (disch := first | assumption | (apply Ap.symm; assumption) | omega | decide | (simp only [U_len, List.length_append, List.length_replicate, List.length_cons, List.length_nil, List.length_set] <;> omega) | fail) only [wk3_t, s3, eql_Sx, fold_Raw, fold_RatA, ↓Xa, Xb, Xc, ↓reduceIte, Nat.reduceLT, Nat.reduceEqDiff, Nat.reduceBEq, Nat.reduceLeDiff, Nat.reduceAdd, Nat.reduceMul]
  refine (rwhole_fn wk3_b (by omega)).call ?_
  simp (disch := first | assumption | (apply Ap.symm; assumption) | omega | decide | (simp only [U_len, List.length_append, List.length_replicate, List.length_cons, List.length_nil, List.length_set] <;> omega) | fail) only [decide_eq_true wk3_d, fold_Raw, fold_RatA, ↓Xa, Xb, Xc, ↓reduceIte, Nat.reduceLT, Nat.reduceEqDiff, Nat.reduceBEq, Nat.reduceLeDiff, Nat.reduceAdd, Nat.reduceMul]
  refine (rden_fn wk3_b (by omega)).call ?_
  simp (disch := first | assumption | (apply Ap.symm; assumption) | omega | decide | (simp only [U_len, List.length_append, List.length_replicate, List.length_cons, List.length_nil, List.length_set] <;> omega) | fail) only [↓Xa, Xb, Xc, ↓reduceIte, Nat.reduceLT, Nat.reduceEqDiff, Nat.reduceBEq, Nat.reduceLeDiff, Nat.reduceAdd, Nat.reduceMul]
  refine (itext_fn wk3_b.2 (by omega)).call ?_
  simp (disch := first | assumption | (apply Ap.symm; assumption) | omega | decide | (simp only [U_len, List.length_append, List.length_replicate, List.length_cons, List.length_nil, List.length_set] <;> omega) | fail) only [wk3_dt, s4, eql_Sx, fold_Raw, fold_RatA, ↓Xa, Xb, Xc, ↓reduceIte, Nat.reduceLT, Nat.reduceEqDiff, Nat.reduceBEq, Nat.reduceLeDiff, Nat.reduceAdd, Nat.reduceMul]
  refine (rfloor_fn wk1_b (by omega)).call ?_
  simp (disch := first | assumption | (apply Ap.symm; assumption) | omega | decide | (simp only [U_len, List.length_append, List.length_replicate, List.length_cons, List.length_nil, List.length_set] <;> omega) | fail) only [↓Xa, Xb, Xc, ↓reduceIte, Nat.reduceLT, Nat.reduceEqDiff, Nat.reduceBEq, Nat.reduceLeDiff, Nat.reduceAdd, Nat.reduceMul]
  refine (itext_fn (wk1_b.1.ediv) (by omega)).call ?_
  simp (disch := first | assumption | (apply Ap.symm; assumption) | omega | decide | (simp only [U_len, List.length_append, List.length_replicate, List.length_cons, List.length_nil, List.length_set] <;> omega) | fail) only [wk1_f, s3, eql_Sx, rs94, ↓Xa, Xb, Xc, ↓reduceIte, Nat.reduceLT, Nat.reduceEqDiff, Nat.reduceBEq, Nat.reduceLeDiff, Nat.reduceAdd, Nat.reduceMul]
  exact SetR.dropTo ((((Le.refl H).updB n1).updB n2).updB n3) (SetR.now hq)

/-- What package integer answers of a text, roughly. -/
theorem iread_ex (l : List UInt8) (hl : l.length < 9223372036854775808) : ∃ (z : Int) (e a : Nat), Bd 8192 z ∧ PFn Tryd.prog 167 [Sx l] (.tup [IntA z, spot e a]) := by
  obtain ⟨p, hp⟩ := isAt_ex l
  have h := iread_fn hp hl
  unfold iReadA at h
  by_cases h1 : 65536 < l.length
  · rw [if_pos h1] at h; exact ⟨0, 3, 65536, Bd.zero _, h⟩
  rw [if_neg h1] at h
  by_cases h2 : p = iFrom l ∨ p < l.length
  · rw [if_pos h2] at h; exact ⟨0, 6, p, Bd.zero _, h⟩
  rw [if_neg h2] at h
  have hne : p ≠ iFrom l := fun e => h2 (.inl e)
  have hpl : p = l.length := by have := hp.2.1; omega
  subst hpl
  exact ⟨iVal l, 0, 0, Bd.sgn (Nat.lt_of_lt_of_le (decV_lt fun b hb => ((isAt_good hp hne).2.1 b hb).2) (ten_bound (by simp; omega))), h⟩
theorem alone_ex (a : List UInt8 × List UInt8) (h1 : a.1.length < 9223372036854775808) (h2 : a.2.length < 9223372036854775808) : ∃ (q : QQ) (ok : Bool), RB 8193 q ∧ PFn Tryd.prog 123 [FracA a] (.tup [RatA q, .bool ok]) := by
  obtain ⟨z1, e1, a1, b1, f1⟩ := iread_ex a.1 h1
  obtain ⟨z2, e2, a2, b2, f2⟩ := iread_ex a.2 h2
  refine ⟨_root_.Rat.divInt z1 z2, decide (e1 = 0) && decide (e2 = 0) && decide ((if z2 = 0 then 2 else 0 : Nat) = 0), RB.divInt b1 b2, fun H Q hq => ?_⟩
  refine enter123 (by simp) ?_
  simp (disch := first | assumption | (apply Ap.symm; assumption) | omega | decide | (simp only [U_len, List.length_append, List.length_replicate, List.length_cons, List.length_nil, List.length_set] <;> omega) | fail) only [ac123, cells_FracA, ↓Xa, Xb, Xc, ↓reduceIte, Nat.reduceLT, Nat.reduceEqDiff, Nat.reduceBEq, Nat.reduceLeDiff, Nat.reduceAdd, Nat.reduceMul]
  refine alloc_i fun p1 hp1 => ?_
  have n1 := hp1
  simp (disch := first | assumption | (apply Ap.symm; assumption) | omega | decide | (simp only [U_len, List.length_append, List.length_replicate, List.length_cons, List.length_nil, List.length_set] <;> omega) | fail) only [↓Xa, Xb, Xc, ↓reduceIte, Nat.reduceLT, Nat.reduceEqDiff, Nat.reduceBEq, Nat.reduceLeDiff, Nat.reduceAdd, Nat.reduceMul]
  refine alloc_i fun p2 hp2 => ?_
  have n2 := hp2
  simp only [upd_none] at n2
  obtain ⟨_, n2⟩ := n2
  simp (disch := first | assumption | (apply Ap.symm; assumption) | omega | decide | (simp only [U_len, List.length_append, List.length_replicate, List.length_cons, List.length_nil, List.length_set] <;> omega) | fail) only [↓Xa, Xb, Xc, ↓reduceIte, Nat.reduceLT, Nat.reduceEqDiff, Nat.reduceBEq, Nat.reduceLeDiff, Nat.reduceAdd, Nat.reduceMul]
  refine f1.call ?_
  simp (disch := first | assumption | (apply Ap.symm; assumption) | omega | decide | (simp only [U_len, List.length_append, List.length_replicate, List.length_cons, List.length_nil, List.length_set] <;> omega) | fail) only [spot, ↓Xa, Xb, Xc, ↓reduceIte, Nat.reduceLT, Nat.reduceEqDiff, Nat.reduceBEq, Nat.reduceLeDiff, Nat.reduceAdd, Nat.reduceMul]
  refine alloc_i fun p3 hp3 => ?_
  have n3 := hp3
  simp only [upd_none] at n3
  obtain ⟨_, _, n3⟩ := n3
  simp (disch := first | assumption | (apply Ap.symm; assumption) | omega | decide | (simp only [U_len, List.length_append, List.length_replicate, List.length_cons, List.length_nil, List.length_set] <;> omega) | fail) only [↓Xa, Xb, Xc, ↓reduceIte, Nat.reduceLT, Nat.reduceEqDiff, Nat.reduceBEq, Nat.reduceLeDiff, Nat.reduceAdd, Nat.reduceMul]
  refine alloc_i fun p4 hp4 => ?_
  have n4 := hp4
  simp only [upd_none] at n4
  obtain ⟨_, _, _, n4⟩ := n4
  simp (disch := first | assumption | (apply Ap.symm; assumption) | omega | decide | (simp only [U_len, List.length_append, List.length_replicate, List.length_cons, List.length_nil, List.length_set] <;> omega) | fail) only [cells_IntA, cells_i2, ↓Xa, Xb, Xc, ↓reduceIte, Nat.reduceLT, Nat.reduceEqDiff, Nat.reduceBEq, Nat.reduceLeDiff, Nat.reduceAdd, Nat.reduceMul]
  refine f2.call ?_
  simp (disch := first | assumption | (apply Ap.symm; assumption) | omega | decide | (simp only [U_len, List.length_append, List.length_replicate, List.length_cons, List.length_nil, List.length_set] <;> omega) | fail) only [spot, ↓Xa, Xb, Xc, ↓reduceIte, Nat.reduceLT, Nat.reduceEqDiff, Nat.reduceBEq, Nat.reduceLeDiff, Nat.reduceAdd, Nat.reduceMul]
  refine alloc_i fun p5 hp5 => ?_
  have n5 := hp5
  simp only [upd_none] at n5
  obtain ⟨_, _, _, _, n5⟩ := n5
  simp (disch := first | assumption | (apply Ap.symm; assumption) | omega | decide | (simp only [U_len, List.length_append, List.length_replicate, List.length_cons, List.length_nil, List.length_set] <;> omega) | fail) only [↓Xa, Xb, Xc, ↓reduceIte, Nat.reduceLT, Nat.reduceEqDiff, Nat.reduceBEq, Nat.reduceLeDiff, Nat.reduceAdd, Nat.reduceMul]
  refine alloc_i fun p6 hp6 => ?_
  have n6 := hp6
  simp only [upd_none] at n6
  obtain ⟨_, _, _, _, _, n6⟩ := n6
  simp (disch := first | assumption | (apply Ap.symm; assumption) | omega | decide | (simp only [U_len, List.length_append, List.length_replicate, List.length_cons, List.length_nil, List.length_set] <;> omega) | fail) only [cells_IntA, fold_IntA, cells_i2, ↓Xa, Xb, Xc, ↓reduceIte, Nat.reduceLT, Nat.reduceEqDiff, Nat.reduceBEq, Nat.reduceLeDiff, Nat.reduceAdd, Nat.reduceMul]
  refine (rmk_fn b1 b2 (by omega)).call ?_
  simp (disch := first | assumption | (apply Ap.symm; assumption) | omega | decide | (simp only [U_len, List.length_append, List.length_replicate, List.length_cons, List.length_nil, List.length_set] <;> omega) | fail) only [RatE, ↓Xa, Xb, Xc, ↓reduceIte, Nat.reduceLT, Nat.reduceEqDiff, Nat.reduceBEq, Nat.reduceLeDiff, Nat.reduceAdd, Nat.reduceMul]
  refine alloc_i fun p7 hp7 => ?_
  have n7 := hp7
  simp only [upd_none] at n7
  obtain ⟨_, _, _, _, _, _, n7⟩ := n7
  generalize (if z2 = 0 then 2 else 0 : Nat) = e3 at *
  have fin : ∀ {x1 x2 x3 x4 x5 x6 x7 : ABlk}, SetR Q (.tup [RatA (_root_.Rat.divInt z1 z2), .bool (decide (e1 = 0) && decide (e2 = 0) && decide (e3 = 0))]) (((((((H.upd p1 (some x1)).upd p2 (some x2)).upd p3 (some x3)).upd p4 (some x4)).upd p5 (some x5)).upd p6 (some x6)).upd p7 (some x7)) :=
    SetR.dropTo ((((((((Le.refl H).updB n1).updB n2).updB n3).updB n4).updB n5).updB n6).updB n7) (SetR.now hq)
  by_cases c1 : e1 = 0
  · rw [decide_eq_true c1, Bool.true_and] at fin
    by_cases c2 : e2 = 0
    · rw [decide_eq_true c2, Bool.true_and] at fin
      simp (disch := first | assumption | (apply Ap.symm; assumption) | omega | decide | (simp only [U_len, List.length_append, List.length_replicate, List.length_cons, List.length_nil, List.length_set] <;> omega) | fail) only [decide_eq_true c1, decide_eq_true c2, cells_RatA, fold_Raw, fold_RatA, rs123, ↓Xa, Xb, Xc, ↓reduceIte, Nat.reduceLT, Nat.reduceEqDiff, Nat.reduceBEq, Nat.reduceLeDiff, Nat.reduceAdd, Nat.reduceMul]
      exact fin
    · rw [decide_eq_false c2, Bool.false_and] at fin
      simp (disch := first | assumption | (apply Ap.symm; assumption) | omega | decide | (simp only [U_len, List.length_append, List.length_replicate, List.length_cons, List.length_nil, List.length_set] <;> omega) | fail) only [decide_eq_true c1, decide_eq_false c2, cells_RatA, fold_Raw, fold_RatA, rs123, ↓Xa, Xb, Xc, ↓reduceIte, Nat.reduceLT, Nat.reduceEqDiff, Nat.reduceBEq, Nat.reduceLeDiff, Nat.reduceAdd, Nat.reduceMul]
      exact fin
  · rw [decide_eq_false c1, Bool.false_and, Bool.false_and] at fin
    simp (disch := first | assumption | (apply Ap.symm; assumption) | omega | decide | (simp only [U_len, List.length_append, List.length_replicate, List.length_cons, List.length_nil, List.length_set] <;> omega) | fail) only [decide_eq_false c1, cells_RatA, fold_Raw, fold_RatA, rs123, ↓Xa, Xb, Xc, ↓reduceIte, Nat.reduceLT, Nat.reduceEqDiff, Nat.reduceBEq, Nat.reduceLeDiff, Nat.reduceAdd, Nat.reduceMul]
    exact fin
end Go.Proofs.YtanchgkiomfhhaaDoor.Fw

/- The looked-up code of one function, and that it is: by a program (wip/tools/ac.py); Lean checks it. -/
namespace Go.Proofs.YtanchgkiomfhhaaDoor.Fw
open Go
set_option maxRecDepth 100000
end Go.Proofs.YtanchgkiomfhhaaDoor.Fw

/- The looked-up code of one function, and that it is: by a program (wip/tools/ac.py); Lean checks it. -/
namespace Go.Proofs.YtanchgkiomfhhaaDoor.Fw
open Go
set_option maxRecDepth 100000
def ac16 : ACode := (.seq (.reg [⟨(some 3), none, (.box 119 0 (.t 0))⟩, ⟨(some 4), none, (.box 119 0 (.t 1))⟩, ⟨(some 5), none, (.box 119 0 (.t 2))⟩, ⟨(some 6), none, (.mov (.k (.bool false)))⟩] [3, 4, 5]) (.seq (.seq (.reg [⟨(some 13), none, (.call (.k (.fn (.func 94) [] [])) [])⟩, ⟨(some 14), none, (.un .not (.t 13))⟩] [3, 4, 5, 14]) (.cond (.t 14) (.seq (.reg [⟨(some 6), none, (.mov (.k (.bool false)))⟩] [6]) .ret) .skip)) (.seq (.reg [⟨(some 16), none, (.load (some 2) (.t 3))⟩, ⟨(some 17), none, (.load (some 2) (.t 4))⟩, ⟨(some 18), none, (.load (some 2) (.t 5))⟩, ⟨(some 19), none, (.call (.k (.fn (.func 95) [] [])) [(.t 16), (.t 17), (.t 18)])⟩, ⟨(some 15), none, (.mov (.t 19))⟩, ⟨(some 20), none, (.ext (.t 15) 0)⟩, ⟨(some 21), none, (.ext (.t 15) 1)⟩, ⟨(some 22), none, (.ext (.t 15) 2)⟩, ⟨(some 23), none, (.ext (.t 15) 3)⟩, ⟨(some 7), none, (.alloc 121 0 [(.bool false), (.seq 0 [] true), (.bool false), (.seq 0 [] true)])⟩, ⟨(some 8), none, (.alloc 121 0 [(.bool false), (.seq 0 [] true), (.bool false), (.seq 0 [] true)])⟩, ⟨(some 9), none, (.alloc 121 0 [(.bool false), (.seq 0 [] true), (.bool false), (.seq 0 [] true)])⟩, ⟨none, none, (.store 4 (.t 7) (.t 20))⟩, ⟨none, none, (.store 4 (.t 8) (.t 21))⟩, ⟨none, none, (.store 4 (.t 9) (.t 22))⟩, ⟨(some 10), none, (.mov (.t 23))⟩] [7, 8, 9, 10]) (.seq (.seq (.reg [⟨(some 24), none, (.mov (.t 10))⟩, ⟨(some 25), none, (.un .not (.t 24))⟩] [7, 8, 9, 25]) (.cond (.t 25) (.seq (.reg [⟨(some 6), none, (.mov (.k (.bool true)))⟩] [6]) .ret) .skip)) (.seq (.reg [⟨(some 26), none, (.load (some 4) (.t 7))⟩, ⟨(some 27), none, (.load (some 4) (.t 8))⟩, ⟨(some 28), none, (.call (.k (.fn (.func 103) [] [])) [(.t 26), (.t 27)])⟩, ⟨(some 11), none, (.mov (.t 28))⟩] [7, 8, 9, 11]) (.seq (.reg [⟨(some 29), none, (.load (some 4) (.t 7))⟩, ⟨(some 30), none, (.call (.k (.fn (.func 105) [] [])) [(.t 29)])⟩, ⟨(some 31), none, (.call (.k (.fn (.func 104) [] [])) [(.t 30)])⟩, ⟨(some 12), none, (.alloc 121 0 [(.bool false), (.seq 0 [] true), (.bool false), (.seq 0 [] true)])⟩, ⟨none, none, (.store 4 (.t 12) (.t 31))⟩] [7, 8, 9, 11, 12]) (.seq (.draw [⟨(some 32), none, (.mov (.t 11))⟩, ⟨(some 33), none, (.load (some 4) (.t 7))⟩, ⟨(some 34), none, (.load (some 4) (.t 8))⟩, ⟨(some 35), none, (.call (.k (.fn (.func 99) [] [])) [(.t 33), (.t 34)])⟩, ⟨(some 36), none, (.call (.k (.fn (.func 102) [] [])) [(.t 35)])⟩, ⟨(some 37), none, (.bin .eql (.t 32) (.t 36))⟩, ⟨(some 38), none, (.mov (.t 37))⟩, ⟨(some 39), (some (38, true)), (.load (some 4) (.t 8))⟩, ⟨(some 40), (some (38, true)), (.load (some 4) (.t 7))⟩, ⟨(some 41), (some (38, true)), (.call (.k (.fn (.func 103) [] [])) [(.t 39), (.t 40)])⟩, ⟨(some 42), (some (38, true)), (.mov (.t 11))⟩, ⟨(some 43), (some (38, true)), (.un .neg (.t 42))⟩, ⟨(some 44), (some (38, true)), (.bin .eql (.t 41) (.t 43))⟩, ⟨(some 45), none, (.pick (.t 38) (.t 44) (.k (.bool false)))⟩, ⟨(some 46), none, (.mov (.t 45))⟩, ⟨(some 47), (some (46, true)), (.load (some 4) (.t 7))⟩, ⟨(some 48), (some (46, true)), (.load (some 4) (.t 9))⟩, ⟨(some 49), (some (46, true)), (.call (.k (.fn (.func 97) [] [])) [(.t 47), (.t 48)])⟩, ⟨(some 50), (some (46, true)), (.load (some 4) (.t 8))⟩, ⟨(some 51), (some (46, true)), (.load (some 4) (.t 9))⟩, ⟨(some 52), (some (46, true)), (.call (.k (.fn (.func 97) [] [])) [(.t 50), (.t 51)])⟩, ⟨(some 53), (some (46, true)), (.call (.k (.fn (.func 103) [] [])) [(.t 49), (.t 52)])⟩, ⟨(some 54), (some (46, true)), (.mov (.t 11))⟩, ⟨(some 55), (some (46, true)), (.bin .eql (.t 53) (.t 54))⟩, ⟨(some 56), none, (.pick (.t 46) (.t 55) (.k (.bool false)))⟩, ⟨(some 57), none, (.mov (.t 56))⟩, ⟨(some 58), (some (57, true)), (.mov (.t 11))⟩, ⟨(some 59), (some (57, true)), (.bin .eql (.t 58) (.k (.int .i64 ((0 : Nat) : Int))))⟩, ⟨(some 60), (some (57, true)), (.load (some 4) (.t 7))⟩, ⟨(some 61), (some (57, true)), (.load (some 4) (.t 8))⟩, ⟨(some 62), (some (57, true)), (.call (.k (.fn (.func 96) [] [])) [(.t 60), (.t 61)])⟩, ⟨(some 63), (some (57, true)), (.binB .eql (.t 59) (.t 62))⟩, ⟨(some 64), none, (.pick (.t 57) (.t 63) (.k (.bool false)))⟩, ⟨(some 65), none, (.mov (.t 64))⟩, ⟨(some 66), (some (65, true)), (.load (some 4) (.t 12))⟩, ⟨(some 67), (some (65, true)), (.load (some 4) (.t 7))⟩, ⟨(some 68), (some (65, true)), (.call (.k (.fn (.func 103) [] [])) [(.t 66), (.t 67)])⟩, ⟨(some 69), (some (65, true)), (.bin .leq (.t 68) (.k (.int .i64 ((0 : Nat) : Int))))⟩, ⟨(some 70), none, (.pick (.t 65) (.t 69) (.k (.bool false)))⟩, ⟨(some 71), none, (.mov (.t 70))⟩, ⟨(some 72), (some (71, true)), (.load (some 4) (.t 12))⟩, ⟨(some 73), (some (71, true)), (.call (.k (.fn (.func 58) [] [])) [(.k (.int .i64 ((1 : Nat) : Int)))])⟩, ⟨(some 74), (some (71, true)), (.call (.k (.fn (.func 104) [] [])) [(.t 73)])⟩, ⟨(some 75), (some (71, true)), (.call (.k (.fn (.func 97) [] [])) [(.t 72), (.t 74)])⟩, ⟨(some 76), (some (71, true)), (.load (some 4) (.t 7))⟩, ⟨(some 77), (some (71, true)), (.call (.k (.fn (.func 103) [] [])) [(.t 75), (.t 76)])⟩, ⟨(some 78), (some (71, true)), (.bin .gtr (.t 77) (.k (.int .i64 ((0 : Nat) : Int))))⟩, ⟨(some 79), none, (.pick (.t 71) (.t 78) (.k (.bool false)))⟩, ⟨(some 80), none, (.mov (.t 79))⟩, ⟨(some 81), (some (80, true)), (.load (some 4) (.t 12))⟩, ⟨(some 82), (some (80, true)), (.load (some 4) (.t 7))⟩, ⟨(some 83), (some (80, true)), (.call (.k (.fn (.func 103) [] [])) [(.t 81), (.t 82)])⟩, ⟨(some 84), (some (80, true)), (.bin .eql (.t 83) (.k (.int .i64 ((0 : Nat) : Int))))⟩, ⟨(some 85), (some (80, true)), (.load (some 4) (.t 7))⟩, ⟨(some 86), (some (80, true)), (.call (.k (.fn (.func 106) [] [])) [(.t 85)])⟩] [⟨(some 87), (some (80, true)), (.binB .eql (.t 84) (.t 86))⟩, ⟨(some 88), none, (.pick (.t 80) (.t 87) (.k (.bool false)))⟩, ⟨(some 6), none, (.mov (.t 88))⟩] [0, 1, 3, 1, 1, 0, 0, 0, 128, 0, 896, 896, 0, 0, 0, 0, 32768, 0, 229376, 491520, 0, 0, 4161536, 0, 0, 0, 0, 0, 201326592, 469762048, 201326592, 0, 0, 0, 0, 17179869184, 0, 0, 0, 0, 0, 1099511627776, 1099511627776, 0, 16492674416640, 0, 0, 0, 0, 0, 562949953421312, 0, 0, 8444249301319680, 4503599627370496] [6]) .ret)))))))
def rs16 : List RV := [(.t 6)]
theorem co16 : compFn Go.Proofs.Tryd.prog Go.Proofs.Tryd.f16 pl16 = some (ac16, rs16) := by kernel_rfl
theorem enter16 {args : List AV} {H : AHeap} {Q : AV → AHeap → Prop} (hn : args.length ≤ 89) (h : W Go.Proofs.Tryd.prog ac16 (retN rs16 Q) ⟨[], initE args 0, H⟩) : Run Go.Proofs.Tryd.prog 16 args H Q := Run_fn2 mixed Go.Proofs.Tryd.func16 (by kernel_rfl) co16 (n := 89) (by kernel_rfl) hn h
end Go.Proofs.YtanchgkiomfhhaaDoor.Fw

/- Fractions: the laws of the field and of the order, without the reference: true. -/
namespace Go.Proofs.YtanchgkiomfhhaaDoor.Fw
set_option linter.unusedSimpArgs false
set_option linter.unusedVariables false
open Go Go.Proofs.YtanchgkiomfhhaaDoor.Ma
set_option maxRecDepth 20000

theorem rep_3_2 {a b : AV} : repA [a, b] 6 = [a, b, a, b, a, b] := by simp [repA, List.range, List.range.loop]
theorem ext_3 {a b c d : AV} {l : List AV} {K : AV → Prop} : extW (.tup (a :: b :: c :: d :: l)) 3 K = K d := id rfl
theorem three_ex (a b c : List UInt8 × List UInt8) (ha : a.1.length < 9223372036854775808 ∧ a.2.length < 9223372036854775808) (hb : b.1.length < 9223372036854775808 ∧ b.2.length < 9223372036854775808) (hc : c.1.length < 9223372036854775808 ∧ c.2.length < 9223372036854775808) :
    ∃ (x y z : QQ) (ok : Bool), RB 8193 x ∧ RB 8193 y ∧ RB 8193 z ∧ PFn Tryd.prog 95 [FracA a, FracA b, FracA c] (.tup [RatA x, RatA y, RatA z, .bool ok]) := by
  obtain ⟨x, o1, b1, f1⟩ := alone_ex a ha.1 ha.2
  obtain ⟨y, o2, b2, f2⟩ := alone_ex b hb.1 hb.2
  obtain ⟨z, o3, b3, f3⟩ := alone_ex c hc.1 hc.2
  refine ⟨x, y, z, o1 && o2 && o3 && !(decide (12 < [a, b, c].length) || [a, b, c].any lngF), b1, b2, b3, fun H Q hq => ?_⟩
  have hlong := longF_fn [a, b, c] true (by simp)
  generalize (decide (12 < [a, b, c].length) || [a, b, c].any lngF) = lg at *
  refine enter95 (by simp) ?_
  simp (disch := first | assumption | (apply Ap.symm; assumption) | omega | decide | (simp only [U_len, List.length_append, List.length_replicate, List.length_cons, List.length_nil, List.length_set] <;> omega) | fail) only [ac95, cells_FracA, ↓Xa, Xb, Xc, ↓reduceIte, Nat.reduceLT, Nat.reduceEqDiff, Nat.reduceBEq, Nat.reduceLeDiff, Nat.reduceAdd, Nat.reduceMul]
  refine alloc_i fun p1 hp1 => ?_
  have n1 := hp1
  simp (disch := first | assumption | (apply Ap.symm; assumption) | omega | decide | (simp only [U_len, List.length_append, List.length_replicate, List.length_cons, List.length_nil, List.length_set] <;> omega) | fail) only [cells_FracA, ↓Xa, Xb, Xc, ↓reduceIte, Nat.reduceLT, Nat.reduceEqDiff, Nat.reduceBEq, Nat.reduceLeDiff, Nat.reduceAdd, Nat.reduceMul]
  refine alloc_i fun p2 hp2 => ?_
  have n2 := hp2
  simp only [upd_none] at n2
  obtain ⟨_, n2⟩ := n2
  simp (disch := first | assumption | (apply Ap.symm; assumption) | omega | decide | (simp only [U_len, List.length_append, List.length_replicate, List.length_cons, List.length_nil, List.length_set] <;> omega) | fail) only [cells_FracA, ↓Xa, Xb, Xc, ↓reduceIte, Nat.reduceLT, Nat.reduceEqDiff, Nat.reduceBEq, Nat.reduceLeDiff, Nat.reduceAdd, Nat.reduceMul]
  refine alloc_i fun p3 hp3 => ?_
  have n3 := hp3
  simp only [upd_none] at n3
  obtain ⟨_, _, n3⟩ := n3
  simp (disch := first | assumption | (apply Ap.symm; assumption) | omega | decide | (simp only [U_len, List.length_append, List.length_replicate, List.length_cons, List.length_nil, List.length_set] <;> omega) | fail) only [↓Xa, Xb, Xc, ↓reduceIte, Nat.reduceLT, Nat.reduceEqDiff, Nat.reduceBEq, Nat.reduceLeDiff, Nat.reduceAdd, Nat.reduceMul]
  refine alloc_i fun p4 hp4 => ?_
  have n4 := hp4
  simp only [upd_none] at n4
  obtain ⟨_, _, _, n4⟩ := n4
  simp (disch := first | assumption | (apply Ap.symm; assumption) | omega | decide | (simp only [U_len, List.length_append, List.length_replicate, List.length_cons, List.length_nil, List.length_set] <;> omega) | fail) only [↓Xa, Xb, Xc, ↓reduceIte, Nat.reduceLT, Nat.reduceEqDiff, Nat.reduceBEq, Nat.reduceLeDiff, Nat.reduceAdd, Nat.reduceMul]
  refine alloc_i fun p5 hp5 => ?_
  have n5 := hp5
  simp only [upd_none] at n5
  obtain ⟨_, _, _, _, n5⟩ := n5
  simp (disch := first | assumption | (apply Ap.symm; assumption) | omega | decide | (simp only [U_len, List.length_append, List.length_replicate, List.length_cons, List.length_nil, List.length_set] <;> omega) | fail) only [↓Xa, Xb, Xc, ↓reduceIte, Nat.reduceLT, Nat.reduceEqDiff, Nat.reduceBEq, Nat.reduceLeDiff, Nat.reduceAdd, Nat.reduceMul]
  refine alloc_i fun p6 hp6 => ?_
  have n6 := hp6
  simp only [upd_none] at n6
  obtain ⟨_, _, _, _, _, n6⟩ := n6
  simp (disch := first | assumption | (apply Ap.symm; assumption) | omega | decide | (simp only [U_len, List.length_append, List.length_replicate, List.length_cons, List.length_nil, List.length_set] <;> omega) | fail) only [fold_FracA, ↓Xa, Xb, Xc, ↓reduceIte, Nat.reduceLT, Nat.reduceEqDiff, Nat.reduceBEq, Nat.reduceLeDiff, Nat.reduceAdd, Nat.reduceMul]
  refine f1.call ?_
  simp (disch := first | assumption | (apply Ap.symm; assumption) | omega | decide | (simp only [U_len, List.length_append, List.length_replicate, List.length_cons, List.length_nil, List.length_set] <;> omega) | fail) only [↓Xa, Xb, Xc, ↓reduceIte, Nat.reduceLT, Nat.reduceEqDiff, Nat.reduceBEq, Nat.reduceLeDiff, Nat.reduceAdd, Nat.reduceMul]
  refine alloc_i fun p7 hp7 => ?_
  have n7 := hp7
  simp only [upd_none] at n7
  obtain ⟨_, _, _, _, _, _, n7⟩ := n7
  simp (disch := first | assumption | (apply Ap.symm; assumption) | omega | decide | (simp only [U_len, List.length_append, List.length_replicate, List.length_cons, List.length_nil, List.length_set] <;> omega) | fail) only [cells_RatA, fold_FracA, ↓Xa, Xb, Xc, ↓reduceIte, Nat.reduceLT, Nat.reduceEqDiff, Nat.reduceBEq, Nat.reduceLeDiff, Nat.reduceAdd, Nat.reduceMul]
  refine f2.call ?_
  simp (disch := first | assumption | (apply Ap.symm; assumption) | omega | decide | (simp only [U_len, List.length_append, List.length_replicate, List.length_cons, List.length_nil, List.length_set] <;> omega) | fail) only [↓Xa, Xb, Xc, ↓reduceIte, Nat.reduceLT, Nat.reduceEqDiff, Nat.reduceBEq, Nat.reduceLeDiff, Nat.reduceAdd, Nat.reduceMul]
  refine alloc_i fun p8 hp8 => ?_
  have n8 := hp8
  simp only [upd_none] at n8
  obtain ⟨_, _, _, _, _, _, _, n8⟩ := n8
  simp (disch := first | assumption | (apply Ap.symm; assumption) | omega | decide | (simp only [U_len, List.length_append, List.length_replicate, List.length_cons, List.length_nil, List.length_set] <;> omega) | fail) only [cells_RatA, fold_FracA, ↓Xa, Xb, Xc, ↓reduceIte, Nat.reduceLT, Nat.reduceEqDiff, Nat.reduceBEq, Nat.reduceLeDiff, Nat.reduceAdd, Nat.reduceMul]
  refine f3.call ?_
  simp (disch := first | assumption | (apply Ap.symm; assumption) | omega | decide | (simp only [U_len, List.length_append, List.length_replicate, List.length_cons, List.length_nil, List.length_set] <;> omega) | fail) only [↓Xa, Xb, Xc, ↓reduceIte, Nat.reduceLT, Nat.reduceEqDiff, Nat.reduceBEq, Nat.reduceLeDiff, Nat.reduceAdd, Nat.reduceMul]
  refine alloc_i fun p9 hp9 => ?_
  have n9 := hp9
  simp only [upd_none] at n9
  obtain ⟨_, _, _, _, _, _, _, _, n9⟩ := n9
  have fin : ∀ {x1 x2 x3 x4 x5 x6 x7 x8 x9 : ABlk}, SetR Q (.tup [RatA x, RatA y, RatA z, .bool (o1 && o2 && o3 && !lg)]) (((((((((H.upd p1 (some x1)).upd p2 (some x2)).upd p3 (some x3)).upd p4 (some x4)).upd p5 (some x5)).upd p6 (some x6)).upd p7 (some x7)).upd p8 (some x8)).upd p9 (some x9)) :=
    SetR.dropTo ((((((((((Le.refl H).updB n1).updB n2).updB n3).updB n4).updB n5).updB n6).updB n7).updB n8).updB n9) (SetR.now hq)
  have hl3 : PFn Tryd.prog 107 [.seq 3 [Sx a.1, Sx a.2, Sx b.1, Sx b.2, Sx c.1, Sx c.2] true] (.bool lg) := hlong
  cases o1 with
  | false =>
    simp (disch := first | assumption | (apply Ap.symm; assumption) | omega | decide | (simp only [U_len, List.length_append, List.length_replicate, List.length_cons, List.length_nil, List.length_set] <;> omega) | fail) only [cells_RatA, fold_Raw, fold_RatA, fold_FracA, rs95, ↓Xa, Xb, Xc, ↓reduceIte, Nat.reduceLT, Nat.reduceEqDiff, Nat.reduceBEq, Nat.reduceLeDiff, Nat.reduceAdd, Nat.reduceMul]
    exact fin
  | true =>
  cases o2 with
  | false =>
    simp (disch := first | assumption | (apply Ap.symm; assumption) | omega | decide | (simp only [U_len, List.length_append, List.length_replicate, List.length_cons, List.length_nil, List.length_set] <;> omega) | fail) only [cells_RatA, fold_Raw, fold_RatA, fold_FracA, rs95, ↓Xa, Xb, Xc, ↓reduceIte, Nat.reduceLT, Nat.reduceEqDiff, Nat.reduceBEq, Nat.reduceLeDiff, Nat.reduceAdd, Nat.reduceMul]
    exact fin
  | true =>
  cases o3 with
  | false =>
    simp (disch := first | assumption | (apply Ap.symm; assumption) | omega | decide | (simp only [U_len, List.length_append, List.length_replicate, List.length_cons, List.length_nil, List.length_set] <;> omega) | fail) only [cells_RatA, fold_Raw, fold_RatA, fold_FracA, rs95, ↓Xa, Xb, Xc, ↓reduceIte, Nat.reduceLT, Nat.reduceEqDiff, Nat.reduceBEq, Nat.reduceLeDiff, Nat.reduceAdd, Nat.reduceMul]
    exact fin
  | true =>
    simp (disch := first | assumption | (apply Ap.symm; assumption) | omega | decide | (simp only [U_len, List.length_append, List.length_replicate, List.length_cons, List.length_nil, List.length_set] <;> omega) | fail) only [rep_3_2, cells_RatA, cells_FracA, fold_Raw, fold_RatA, fold_FracA, ↓Xa, Xb, Xc, ↓reduceIte, Nat.reduceLT, Nat.reduceEqDiff, Nat.reduceBEq, Nat.reduceLeDiff, Nat.reduceAdd, Nat.reduceMul]
    refine hl3.dcall ?_
    simp (disch := first | assumption | (apply Ap.symm; assumption) | omega | decide | (simp only [U_len, List.length_append, List.length_replicate, List.length_cons, List.length_nil, List.length_set] <;> omega) | fail) only [cells_RatA, fold_Raw, fold_RatA, rs95, ↓Xa, Xb, Xc, ↓reduceIte, Nat.reduceLT, Nat.reduceEqDiff, Nat.reduceBEq, Nat.reduceLeDiff, Nat.reduceAdd, Nat.reduceMul]
    exact fin

theorem Frac_of (a : ByteArray × ByteArray) : AV.agg [.str a.1, .str a.2] = FracA (a.1.data.toList, a.2.data.toList) := by cases a; rfl
theorem cmpQ_sgn {x y : QQ} : sgnI (x - y).num = cmpQ x y := by
  rcases cmpQ_cases x y with ⟨h, e⟩ | ⟨h, e⟩ | ⟨h, e⟩
  · have h1 : ¬ 0 ≤ (x - y).num := by
      rw [_root_.Rat.num_nonneg]
      intro h0
      exact (_root_.Rat.not_le.2 h) ((_root_.Rat.le_iff_sub_nonneg y x).2 h0)
    rw [e]; unfold sgnI; rw [if_neg (by omega), if_pos (by omega)]
  · subst h; rw [e, _root_.Rat.sub_self]; rfl
  · have h0 := (_root_.Rat.lt_iff_sub_pos y x).1 h
    have h1 : 0 ≤ (x - y).num := _root_.Rat.num_nonneg.2 (_root_.Rat.le_of_lt h0)
    have h2 : (x - y).num ≠ 0 := fun e0 => by
      rw [_root_.Rat.num_eq_zero.1 e0] at h0
      exact _root_.Rat.lt_irrefl h0
    rw [e]; unfold sgnI; rw [if_neg h2, if_neg (by omega)]; rfl
theorem cmpQ_neg {x y : QQ} : cmpQ y x = -cmpQ x y := by unfold cmpQ cmpI; (repeat' split) <;> omega
theorem cmpQ_add {x y z : QQ} : cmpQ (x + z) (y + z) = cmpQ x y := by
  rcases cmpQ_cases x y with ⟨h, e⟩ | ⟨h, e⟩ | ⟨h, e⟩
  · rw [e]; exact cmpQ_lt.2 (_root_.Rat.add_lt_add_right.2 h)
  · rw [e]; exact cmpQ_eq.2 (by rw [h])
  · rw [e]; exact cmpQ_gt.2 (_root_.Rat.add_lt_add_right.2 h)
theorem floor_le0 {x : QQ} : cmpQ ((x.num / (x.den : Int) : Int) : QQ) x ≤ 0 := by
  have h := _root_.Rat.floor_le x
  rw [_root_.Rat.floor_def] at h
  rcases cmpQ_cases ((x.num / (x.den : Int) : Int) : QQ) x with ⟨_, e⟩ | ⟨_, e⟩ | ⟨h1, _⟩
  · omega
  · omega
  · exact absurd h (_root_.Rat.not_le.2 h1)
theorem floor_gt0 {x : QQ} : 0 < cmpQ (((x.num / (x.den : Int) : Int) : QQ) + ((((1 : Nat) : Int)) : QQ)) x := by
  have h := _root_.Rat.lt_floor_add_one x
  rw [_root_.Rat.floor_def, _root_.Rat.intCast_add] at h
  have := cmpQ_gt.2 h
  have e : ((((1 : Nat) : Int)) : QQ) = (((1 : Int)) : QQ) := rfl
  rw [e, this]; omega
theorem floor_eq0 {x : QQ} : decide (cmpQ ((x.num / (x.den : Int) : Int) : QQ) x = 0) = decide (x.den = 1) := by
  refine decide_eq_decide.2 ⟨fun h => ?_, fun h => ?_⟩
  · have := cmpQ_eq.1 h
    rw [← this]; rfl
  · refine cmpQ_eq.2 (_root_.Rat.ext ?_ ?_)
    · show x.num / (x.den : Int) = x.num
      rw [h]; exact Int.ediv_one _
    · show 1 = x.den
      exact h.symm
theorem leq_int {k : IntKind} {n m : Int} {K : AV → Prop} : binW .leq (.int k n) (.int k m) K ↔ K (.bool (decide (n ≤ m))) := by simp [binW, binInt]
theorem gtr_int {k : IntKind} {n m : Int} {K : AV → Prop} : binW .gtr (.int k n) (.int k m) K ↔ K (.bool (decide (m < n))) := by simp [binW, binInt]
set_option maxHeartbeats 4000000 in
theorem order_law (a b c : List UInt8 × List UInt8) (ha : a.1.length < 9223372036854775808 ∧ a.2.length < 9223372036854775808) (hb : b.1.length < 9223372036854775808 ∧ b.2.length < 9223372036854775808) (hc : c.1.length < 9223372036854775808 ∧ c.2.length < 9223372036854775808) :
    PFn Tryd.prog 16 [FracA a, FracA b, FracA c] (.bool true) := by
  intro H Q hq
  obtain ⟨x, y, z, ok, bx, b_y, bz, f3⟩ := three_ex a b c ha hb hc
  refine enter16 (by simp) ?_
  simp (disch := first | assumption | (apply Ap.symm; assumption) | omega | decide | (simp only [U_len, List.length_append, List.length_replicate, List.length_cons, List.length_nil, List.length_set] <;> omega) | fail) only [ac16, cells_FracA, ↓Xa, Xb, Xc, ↓reduceIte, Nat.reduceLT, Nat.reduceEqDiff, Nat.reduceBEq, Nat.reduceLeDiff, Nat.reduceAdd, Nat.reduceMul]
  refine alloc_i fun p1 hp1 => ?_
  have n1 := hp1
  simp (disch := first | assumption | (apply Ap.symm; assumption) | omega | decide | (simp only [U_len, List.length_append, List.length_replicate, List.length_cons, List.length_nil, List.length_set] <;> omega) | fail) only [cells_FracA, ↓Xa, Xb, Xc, ↓reduceIte, Nat.reduceLT, Nat.reduceEqDiff, Nat.reduceBEq, Nat.reduceLeDiff, Nat.reduceAdd, Nat.reduceMul]
  refine alloc_i fun p2 hp2 => ?_
  have n2 := hp2
  simp only [upd_none] at n2
  obtain ⟨_, n2⟩ := n2
  simp (disch := first | assumption | (apply Ap.symm; assumption) | omega | decide | (simp only [U_len, List.length_append, List.length_replicate, List.length_cons, List.length_nil, List.length_set] <;> omega) | fail) only [cells_FracA, ↓Xa, Xb, Xc, ↓reduceIte, Nat.reduceLT, Nat.reduceEqDiff, Nat.reduceBEq, Nat.reduceLeDiff, Nat.reduceAdd, Nat.reduceMul]
  refine alloc_i fun p3 hp3 => ?_
  have n3 := hp3
  simp only [upd_none] at n3
  obtain ⟨_, _, n3⟩ := n3
  simp (disch := first | assumption | (apply Ap.symm; assumption) | omega | decide | (simp only [U_len, List.length_append, List.length_replicate, List.length_cons, List.length_nil, List.length_set] <;> omega) | fail) only [↓Xa, Xb, Xc, ↓reduceIte, Nat.reduceLT, Nat.reduceEqDiff, Nat.reduceBEq, Nat.reduceLeDiff, Nat.reduceAdd, Nat.reduceMul]
  refine works_q.call ?_
  simp (disch := first | assumption | (apply Ap.symm; assumption) | omega | decide | (simp only [U_len, List.length_append, List.length_replicate, List.length_cons, List.length_nil, List.length_set] <;> omega) | fail) only [fold_FracA, ↓Xa, Xb, Xc, ↓reduceIte, Nat.reduceLT, Nat.reduceEqDiff, Nat.reduceBEq, Nat.reduceLeDiff, Nat.reduceAdd, Nat.reduceMul]
  refine f3.call ?_
  simp (disch := first | assumption | (apply Ap.symm; assumption) | omega | decide | (simp only [U_len, List.length_append, List.length_replicate, List.length_cons, List.length_nil, List.length_set] <;> omega) | fail) only [ext_3, ↓Xa, Xb, Xc, ↓reduceIte, Nat.reduceLT, Nat.reduceEqDiff, Nat.reduceBEq, Nat.reduceLeDiff, Nat.reduceAdd, Nat.reduceMul]
  refine alloc_i fun p4 hp4 => ?_
  have n4 := hp4
  simp only [upd_none] at n4
  obtain ⟨_, _, _, n4⟩ := n4
  simp (disch := first | assumption | (apply Ap.symm; assumption) | omega | decide | (simp only [U_len, List.length_append, List.length_replicate, List.length_cons, List.length_nil, List.length_set] <;> omega) | fail) only [↓Xa, Xb, Xc, ↓reduceIte, Nat.reduceLT, Nat.reduceEqDiff, Nat.reduceBEq, Nat.reduceLeDiff, Nat.reduceAdd, Nat.reduceMul]
  refine alloc_i fun p5 hp5 => ?_
  have n5 := hp5
  simp only [upd_none] at n5
  obtain ⟨_, _, _, _, n5⟩ := n5
  simp (disch := first | assumption | (apply Ap.symm; assumption) | omega | decide | (simp only [U_len, List.length_append, List.length_replicate, List.length_cons, List.length_nil, List.length_set] <;> omega) | fail) only [↓Xa, Xb, Xc, ↓reduceIte, Nat.reduceLT, Nat.reduceEqDiff, Nat.reduceBEq, Nat.reduceLeDiff, Nat.reduceAdd, Nat.reduceMul]
  refine alloc_i fun p6 hp6 => ?_
  have n6 := hp6
  simp only [upd_none] at n6
  obtain ⟨_, _, _, _, _, n6⟩ := n6
  cases ok with
  | false =>
    simp (disch := first | assumption | (apply Ap.symm; assumption) | omega | decide | (simp only [U_len, List.length_append, List.length_replicate, List.length_cons, List.length_nil, List.length_set] <;> omega) | fail) only [cells_RatA, rs16, ↓Xa, Xb, Xc, ↓reduceIte, Nat.reduceLT, Nat.reduceEqDiff, Nat.reduceBEq, Nat.reduceLeDiff, Nat.reduceAdd, Nat.reduceMul]
    exact SetR.dropTo (((((((Le.refl H).updB n1).updB n2).updB n3).updB n4).updB n5).updB n6) (SetR.now hq)
  | true =>
  have bf : RB 8193 ((x.num / (x.den : Int) : Int) : QQ) := RB.int (k := 8192) bx.1.ediv
  have b1 : RB 2 ((((1 : Nat) : Int)) : QQ) := RB.int (k := 1) (Bd.i64 (n := ((1 : Nat) : Int)) (by omega))
  have s0 := cmpQ_sgn (x := x) (y := y)
  have s1 := cmpQ_neg (x := x) (y := y)
  have s2 := cmpQ_add (x := x) (y := y) (z := z)
  have s3 : decide (x = y) = decide (cmpQ x y = ((0 : Nat) : Int)) := decide_eq_decide.2 cmpQ_eq.symm
  have s4 : -9223372036854775808 < cmpQ x y ∧ cmpQ x y < 9223372036854775808 := by rcases cmpQ_cases x y with ⟨_, e⟩ | ⟨_, e⟩ | ⟨_, e⟩ <;> omega
  have s8 : IntKind.i64.wrap (0 - cmpQ x y) = -cmpQ x y := by rw [wrap_i64 (by omega) (by omega)]; omega
  have s5 : decide (cmpQ ((x.num / (x.den : Int) : Int) : QQ) x ≤ ((0 : Nat) : Int)) = true := decide_eq_true floor_le0
  have s6 : decide (((0 : Nat) : Int) < cmpQ (((x.num / (x.den : Int) : Int) : QQ) + ((((1 : Nat) : Int)) : QQ)) x) = true := decide_eq_true floor_gt0
  have s7 : decide (cmpQ ((x.num / (x.den : Int) : Int) : QQ) x = ((0 : Nat) : Int)) = decide (x.den = 1) := floor_eq0
  have beq : ∀ {u : Bool} {K : AV → Prop}, binBW .eql (.bool u) (.bool u) K ↔ K (.bool true) := fun {u K} => by simp [binBW]
  simp (disch := first | assumption | (apply Ap.symm; assumption) | omega | decide | (simp only [U_len, List.length_append, List.length_replicate, List.length_cons, List.length_nil, List.length_set] <;> omega) | fail) only [cells_RatA, fold_Raw, fold_RatA, ↓Xa, Xb, Xc, ↓reduceIte, Nat.reduceLT, Nat.reduceEqDiff, Nat.reduceBEq, Nat.reduceLeDiff, Nat.reduceAdd, Nat.reduceMul]
  refine (rcmp_q bx b_y (by omega)).call ?_
  simp (disch := first | assumption | (apply Ap.symm; assumption) | omega | decide | (simp only [U_len, List.length_append, List.length_replicate, List.length_cons, List.length_nil, List.length_set] <;> omega) | fail) only [fold_Raw, fold_RatA, ↓Xa, Xb, Xc, ↓reduceIte, Nat.reduceLT, Nat.reduceEqDiff, Nat.reduceBEq, Nat.reduceLeDiff, Nat.reduceAdd, Nat.reduceMul]
  refine (rfloor_fn bx (by omega)).call ?_
  simp (disch := first | assumption | (apply Ap.symm; assumption) | omega | decide | (simp only [U_len, List.length_append, List.length_replicate, List.length_cons, List.length_nil, List.length_set] <;> omega) | fail) only [↓Xa, Xb, Xc, ↓reduceIte, Nat.reduceLT, Nat.reduceEqDiff, Nat.reduceBEq, Nat.reduceLeDiff, Nat.reduceAdd, Nat.reduceMul]
  refine rwh_fn.call ?_
  generalize ((x.num / (x.den : Int) : Int) : QQ) = f at *
  generalize hk : cmpQ x y = k at *
  simp (disch := first | assumption | (apply Ap.symm; assumption) | omega | decide | (simp only [U_len, List.length_append, List.length_replicate, List.length_cons, List.length_nil, List.length_set] <;> omega) | fail) only [↓Xa, Xb, Xc, ↓reduceIte, Nat.reduceLT, Nat.reduceEqDiff, Nat.reduceBEq, Nat.reduceLeDiff, Nat.reduceAdd, Nat.reduceMul]
  refine alloc_i fun p7 hp7 => ?_
  have n7 := hp7
  simp only [upd_none] at n7
  obtain ⟨_, _, _, _, _, _, n7⟩ := n7
  simp (disch := first | assumption | (apply Ap.symm; assumption) | omega | decide | (simp only [U_len, List.length_append, List.length_replicate, List.length_cons, List.length_nil, List.length_set] <;> omega) | fail) only [cells_RatA, fold_Raw, fold_RatA, ↓Xa, Xb, Xc, ↓reduceIte, Nat.reduceLT, Nat.reduceEqDiff, Nat.reduceBEq, Nat.reduceLeDiff, Nat.reduceAdd, Nat.reduceMul]
  refine PFn.dcall (rsub_fn bx b_y (by omega)) ?_
  simp (disch := first | assumption | (apply Ap.symm; assumption) | omega | decide | (simp only [U_len, List.length_append, List.length_replicate, List.length_cons, List.length_nil, List.length_set] <;> omega) | fail) only [↓Xa, Xb, Xc, ↓reduceIte, Nat.reduceLT, Nat.reduceEqDiff, Nat.reduceBEq, Nat.reduceLeDiff, Nat.reduceAdd, Nat.reduceMul]
  refine PFn.dcall (rsgn_fn (bx.sub b_y) (by omega)) ?_
  simp (disch := first | assumption | (apply Ap.symm; assumption) | omega | decide | (simp only [U_len, List.length_append, List.length_replicate, List.length_cons, List.length_nil, List.length_set] <;> omega) | fail) only [s0, eql_int, fold_Raw, fold_RatA, ↓Xa, Xb, Xc, ↓reduceIte, Nat.reduceLT, Nat.reduceEqDiff, Nat.reduceBEq, Nat.reduceLeDiff, Nat.reduceAdd, Nat.reduceMul]
  refine PFn.dcall (rcmp_q b_y bx (by omega)) ?_
  simp (disch := first | assumption | (apply Ap.symm; assumption) | omega | decide | (simp only [U_len, List.length_append, List.length_replicate, List.length_cons, List.length_nil, List.length_set] <;> omega) | fail) only [s1, un_neg, s8, eql_int, fold_Raw, fold_RatA, ↓Xa, Xb, Xc, ↓reduceIte, Nat.reduceLT, Nat.reduceEqDiff, Nat.reduceBEq, Nat.reduceLeDiff, Nat.reduceAdd, Nat.reduceMul]
  refine PFn.dcall (radd_fn bx bz (by omega)) ?_
  simp (disch := first | assumption | (apply Ap.symm; assumption) | omega | decide | (simp only [U_len, List.length_append, List.length_replicate, List.length_cons, List.length_nil, List.length_set] <;> omega) | fail) only [fold_Raw, fold_RatA, ↓Xa, Xb, Xc, ↓reduceIte, Nat.reduceLT, Nat.reduceEqDiff, Nat.reduceBEq, Nat.reduceLeDiff, Nat.reduceAdd, Nat.reduceMul]
  refine PFn.dcall (radd_fn b_y bz (by omega)) ?_
  simp (disch := first | assumption | (apply Ap.symm; assumption) | omega | decide | (simp only [U_len, List.length_append, List.length_replicate, List.length_cons, List.length_nil, List.length_set] <;> omega) | fail) only [↓Xa, Xb, Xc, ↓reduceIte, Nat.reduceLT, Nat.reduceEqDiff, Nat.reduceBEq, Nat.reduceLeDiff, Nat.reduceAdd, Nat.reduceMul]
  refine PFn.dcall (rcmp_q (bx.add bz) (b_y.add bz) (by omega)) ?_
  simp (disch := first | assumption | (apply Ap.symm; assumption) | omega | decide | (simp only [U_len, List.length_append, List.length_replicate, List.length_cons, List.length_nil, List.length_set] <;> omega) | fail) only [s2, eql_int, fold_Raw, fold_RatA, ↓Xa, Xb, Xc, ↓reduceIte, Nat.reduceLT, Nat.reduceEqDiff, Nat.reduceBEq, Nat.reduceLeDiff, Nat.reduceAdd, Nat.reduceMul]
  refine PFn.dcall (same_q bx b_y (by omega) (by omega)) ?_
  simp (disch := first | assumption | (apply Ap.symm; assumption) | omega | decide | (simp only [U_len, List.length_append, List.length_replicate, List.length_cons, List.length_nil, List.length_set] <;> omega) | fail) only [s3, beq, fold_Raw, fold_RatA, ↓Xa, Xb, Xc, ↓reduceIte, Nat.reduceLT, Nat.reduceEqDiff, Nat.reduceBEq, Nat.reduceLeDiff, Nat.reduceAdd, Nat.reduceMul]
  refine PFn.dcall (rcmp_q bf bx (by omega)) ?_
  simp (disch := first | assumption | (apply Ap.symm; assumption) | omega | decide | (simp only [U_len, List.length_append, List.length_replicate, List.length_cons, List.length_nil, List.length_set] <;> omega) | fail) only [leq_int, s5, fold_Raw, fold_RatA, ↓Xa, Xb, Xc, ↓reduceIte, Nat.reduceLT, Nat.reduceEqDiff, Nat.reduceBEq, Nat.reduceLeDiff, Nat.reduceAdd, Nat.reduceMul]
  refine PFn.dcall (of_fn (n := ((1 : Nat) : Int)) (by omega)) ?_
  simp (disch := first | assumption | (apply Ap.symm; assumption) | omega | decide | (simp only [U_len, List.length_append, List.length_replicate, List.length_cons, List.length_nil, List.length_set] <;> omega) | fail) only [↓Xa, Xb, Xc, ↓reduceIte, Nat.reduceLT, Nat.reduceEqDiff, Nat.reduceBEq, Nat.reduceLeDiff, Nat.reduceAdd, Nat.reduceMul]
  refine PFn.dcall rwh_fn ?_
  simp (disch := first | assumption | (apply Ap.symm; assumption) | omega | decide | (simp only [U_len, List.length_append, List.length_replicate, List.length_cons, List.length_nil, List.length_set] <;> omega) | fail) only [fold_Raw, fold_RatA, ↓Xa, Xb, Xc, ↓reduceIte, Nat.reduceLT, Nat.reduceEqDiff, Nat.reduceBEq, Nat.reduceLeDiff, Nat.reduceAdd, Nat.reduceMul]
  refine PFn.dcall (radd_fn bf b1 (by omega)) ?_
  simp (disch := first | assumption | (apply Ap.symm; assumption) | omega | decide | (simp only [U_len, List.length_append, List.length_replicate, List.length_cons, List.length_nil, List.length_set] <;> omega) | fail) only [fold_Raw, fold_RatA, ↓Xa, Xb, Xc, ↓reduceIte, Nat.reduceLT, Nat.reduceEqDiff, Nat.reduceBEq, Nat.reduceLeDiff, Nat.reduceAdd, Nat.reduceMul]
  refine PFn.dcall (rcmp_q (bf.add b1) bx (by omega)) ?_
  simp (disch := first | assumption | (apply Ap.symm; assumption) | omega | decide | (simp only [U_len, List.length_append, List.length_replicate, List.length_cons, List.length_nil, List.length_set] <;> omega) | fail) only [gtr_int, s6, fold_Raw, fold_RatA, ↓Xa, Xb, Xc, ↓reduceIte, Nat.reduceLT, Nat.reduceEqDiff, Nat.reduceBEq, Nat.reduceLeDiff, Nat.reduceAdd, Nat.reduceMul]
  refine PFn.dcall (rcmp_q bf bx (by omega)) ?_
  simp (disch := first | assumption | (apply Ap.symm; assumption) | omega | decide | (simp only [U_len, List.length_append, List.length_replicate, List.length_cons, List.length_nil, List.length_set] <;> omega) | fail) only [eql_int, s7, fold_Raw, fold_RatA, ↓Xa, Xb, Xc, ↓reduceIte, Nat.reduceLT, Nat.reduceEqDiff, Nat.reduceBEq, Nat.reduceLeDiff, Nat.reduceAdd, Nat.reduceMul]
  refine PFn.dcall (rwhole_fn bx (by omega)) ?_
  simp (disch := first | assumption | (apply Ap.symm; assumption) | omega | decide | (simp only [U_len, List.length_append, List.length_replicate, List.length_cons, List.length_nil, List.length_set] <;> omega) | fail) only [beq, rs16, ↓Xa, Xb, Xc, ↓reduceIte, Nat.reduceLT, Nat.reduceEqDiff, Nat.reduceBEq, Nat.reduceLeDiff, Nat.reduceAdd, Nat.reduceMul]
  exact SetR.dropTo ((((((((Le.refl H).updB n1).updB n2).updB n3).updB n4).updB n5).updB n6).updB n7) (SetR.now hq)
theorem ratioOrder_law (a b c : ByteArray × ByteArray) (ha : a.1.size < 9223372036854775808 ∧ a.2.size < 9223372036854775808) (hb : b.1.size < 9223372036854775808 ∧ b.2.size < 9223372036854775808) (hc : c.1.size < 9223372036854775808 ∧ c.2.size < 9223372036854775808) :
    PFn Tryd.prog 16 [.agg [.str a.1, .str a.2], .agg [.str b.1, .str b.2], .agg [.str c.1, .str c.2]] (.bool true) := by
  rw [Frac_of, Frac_of, Frac_of]
  exact order_law _ _ _ ha hb hc
end Go.Proofs.YtanchgkiomfhhaaDoor.Fw
