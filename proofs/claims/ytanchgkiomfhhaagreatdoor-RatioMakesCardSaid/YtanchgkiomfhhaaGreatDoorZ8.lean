/- The texts Sd Se Sf Sh Nd Tb Ya Yb Yc Yd Qb Ye Qe Qc Qf Qg Al3 Al4, joined. -/
import Derived.Test.YtanchgkiomfhhaaGreatDoorZ7
/- A number's decimal text, as package limb writes it. -/
namespace Go.Proofs.YtanchgkiomfhhaaGreatDoor.Fw
set_option linter.unusedSimpArgs false
set_option linter.unusedVariables false
open Go Go.Proofs.YtanchgkiomfhhaaGreatDoor.Ma
set_option maxRecDepth 20000

theorem bld_drop {p q : Nat} {l : List UInt8} {H0 H : AHeap} {x : ABlk} (h : bld p l (H0.upd q (some x)) H) (hqp : Ap q p) (hq : H0 q = none) : ∃ H', bld p l H0 H' ∧ Le H' H := by
  have up : ∀ {M : AHeap} {r : Option ABlk}, M = (H0.upd q (some x)).upd p r → Le (H0.upd p r) M := fun {M r} e => by
    rw [e, upd_comm _ _ _ hqp]
    exact (Le.refl _).updB (by rw [upd_otherA hqp]; exact hq)
  rcases h with ⟨rfl, rfl | rfl⟩ | ⟨h0, bb, hbb, hap, rfl⟩
  · exact ⟨_, .inl ⟨rfl, .inl rfl⟩, up rfl⟩
  · exact ⟨_, .inl ⟨rfl, .inr rfl⟩, up rfl⟩
  · obtain ⟨a1, a2⟩ := upd_none.1 hbb
    refine ⟨_, .inr ⟨h0, bb, a2, hap, rfl⟩, ?_⟩
    rw [upd_comm _ _ _ hqp, upd_comm (b := q) (b' := bb) _ _ _ (Ap.symm a1)]
    exact (Le.refl _).updB (by rw [upd_otherA (Ap.symm a1), upd_otherA hqp]; exact hq)
theorem stP_Bt {H : AHeap} {K2 : AV → AHeap → Prop} {b L off ty es c : Nat} {l : List UInt8} (hL : l.length = L) (h : off < L) (hc : c < 256) : stP H 1 b L off K2 (some [.int .u8 (c : Int)]) (some (.row ty es (Bt l))) = K2 .bot (H.upd b (some (.row ty es (Bt (l.set off (UInt8.ofNat c)))))) := by
  subst hL
  have h1 : off + 1 ≤ l.length := h
  have e : splice (Bt l) off [.int .u8 (c : Int)] = Bt (l.set off (UInt8.ofNat c)) := by
    have e2 : (AV.int .u8 (c : Int)) = .int .u8 (((UInt8.ofNat c).toNat : Nat) : Int) := by
      rw [UInt8.toNat_ofNat', Nat.mod_eq_of_lt hc]
    rw [e2]
    unfold splice Bt
    rw [List.map_set, List.set_eq_take_append_cons_drop]
    simp [h]
  simp [stP, Bt_len, h1, e]
def TxI (p j : Nat) (cells : List UInt8) (x : Nat) : Prop := j ≤ 9 ∧ cells = List.replicate j 0 ++ wide (9 - j) (p % 10 ^ (9 - j)) ∧ x = p / 10 ^ (9 - j)
theorem TxI.len {p j x : Nat} {cells : List UInt8} (h : TxI p j cells x) : cells.length = 9 := by
  obtain ⟨h1, rfl, _⟩ := h
  rw [List.length_append, List.length_replicate, wide_len (Nat.mod_lt _ (Nat.pow_pos (by omega)))]; omega
theorem TxI.step {p j x : Nat} {cells : List UInt8} (h : TxI p (j + 1) cells x) : TxI p j (cells.set j (UInt8.ofNat (48 + x % 10))) (x / 10) := by
  obtain ⟨h1, rfl, rfl⟩ := h
  have e9 : 9 - j = (9 - (j + 1)) + 1 := by omega
  refine ⟨by omega, ?_, ?_⟩
  · rw [e9, wide_step]
    rw [List.replicate_succ', List.append_assoc, List.set_append_right _ _ (by simp)]
    simp [chr]
  · rw [e9, Nat.pow_succ, Nat.div_div_eq_div_mul]

theorem text_fn {l : List Nat} (t : Bool) (hl : Lim 4294967296 l) (hn : l.length ≤ 1099511627776) : PFn Tryz.prog 73 [LS l t] (Sx (decT (val 4294967296 l))) := by
  intro H Q hq
  have hP : (2 : Nat) ≤ 1000000000 := by omega
  refine enter73 (by simp) ?_
  simp (disch := first | assumption | (apply Ap.symm; assumption) | omega | decide | (simp only [U_len, List.length_append, List.length_replicate, List.length_cons, List.length_nil, List.length_set] <;> omega) | fail) only [ac73, str_Sx, ↓Xa, Xb, Xc, ↓reduceIte, Nat.reduceLT, Nat.reduceEqDiff, Nat.reduceBEq, Nat.reduceLeDiff, Nat.reduceAdd, Nat.reduceMul]
  refine (norm_fn t (by omega)).call ?_
  rw [tr_digs (by omega) hl]
  have hN : val 4294967296 l < 4294967296 ^ l.length := val_lt hl
  have hp2 : (digs 1000000000 (val 4294967296 l)).length ≤ 2 * l.length := digs_len hP _ _ (Nat.lt_of_lt_of_le hN (by rw [Nat.pow_mul]; exact Nat.pow_le_pow_left (by omega) _))
  have hdl : (dec (val 4294967296 l)).length ≤ 10 * l.length := dec_len (Nat.lt_of_lt_of_le hN (by rw [Nat.pow_mul]; exact Nat.pow_le_pow_left (by omega) _))
  generalize hNe : val 4294967296 l = N at *
  simp (disch := first | assumption | (apply Ap.symm; assumption) | omega | decide | (simp only [U_len, List.length_append, List.length_replicate, List.length_cons, List.length_nil, List.length_set] <;> omega) | fail) only [↓Xa, Xb, Xc, ↓reduceIte, Nat.reduceLT, Nat.reduceEqDiff, Nat.reduceBEq, Nat.reduceLeDiff, Nat.reduceAdd, Nat.reduceMul]
  refine W_loop (fun s : List Nat × AV × AHeap × Nat => ⟨[], [(3, s.2.1), (4, LS (digs 4294967296 s.2.2.2) true)], s.2.2.1⟩) (fun s => grow H 89 s.1 s.2.1 s.2.2.1 ∧ digs 1000000000 N = s.1 ++ digs 1000000000 s.2.2.2 ∧ s.2.2.2 ≤ N) (fun s => s.2.2.2)
    ([], .seq 0 [] true, H, N) (Settle.now rfl) ⟨grow_nil, rfl, Nat.le_refl _⟩ ?_
  rintro ⟨done, x, G, n⟩ ⟨hg, he, hle⟩
  dsimp only at hg he hle ⊢
  have hdn : (digs 4294967296 n).length ≤ l.length := digs_len (by omega) _ _ (Nat.lt_of_le_of_lt hle (hNe ▸ hN))
  have hz := digs_len0 (B := 4294967296) (n := n) (by omega)
  by_cases hn0 : n = 0
  · have h1 : (digs 4294967296 n).length = 0 := by rw [hz]; exact hn0
    simp (disch := first | assumption | (apply Ap.symm; assumption) | omega | decide | (simp only [U_len, List.length_append, List.length_replicate, List.length_cons, List.length_nil, List.length_set] <;> omega) | fail) only [h1, ↓Xa, Xb, Xc, ↓reduceIte, Nat.reduceLT, Nat.reduceEqDiff, Nat.reduceBEq, Nat.reduceLeDiff, Nat.reduceAdd, Nat.reduceMul]
    refine Settle.grown 3 rfl hg (Settle.now ?_)
    rw [hn0, digs_zero, List.append_nil] at he
    subst he
    have hlim := lim_digs hP N
    have hdig := fun k p => piece_step (n := N) (k := k) (p := p)
    have hv : val 1000000000 (digs 1000000000 N) = N := val_digs hP N
    have hlast := digs_last (B := 1000000000) (n := N) hP
    have hnil := digs_len0 (B := 1000000000) (n := N) hP
    generalize digs 1000000000 N = ps at *
    by_cases hp0 : ps.length = 0
    · rw [hnil] at hp0
      have hL : ps.length = 0 := by rw [hnil]; exact hp0
      simp (disch := first | assumption | (apply Ap.symm; assumption) | omega | decide | (simp only [U_len, List.length_append, List.length_replicate, List.length_cons, List.length_nil, List.length_set] <;> omega) | fail) only [hL, str_Sx, rs73, ↓Xa, Xb, Xc, ↓reduceIte, Nat.reduceLT, Nat.reduceEqDiff, Nat.reduceBEq, Nat.reduceLeDiff, Nat.reduceAdd, Nat.reduceMul]
      have e : decT N = [48] := by rw [hp0]; rfl
      rw [e] at hq
      exact SetR.now hq
    · have hN0 : 0 < N := by rcases Nat.eq_zero_or_pos N with h | h
                             · exact absurd (hnil ▸ h) hp0
                             · exact h
      have eT : decT N = dec N := by unfold decT; rw [if_neg (by omega)]
      rw [eT] at hq
      obtain ⟨L, hL⟩ : ∃ L, ps.length = L + 1 := ⟨ps.length - 1, by omega⟩
      have hLp : (0 < L + 1) = True := by simp
      have hL0 : (L + 1 = 0) = False := by simp
      simp (disch := first | assumption | (apply Ap.symm; assumption) | omega | decide | (simp only [U_len, List.length_append, List.length_replicate, List.length_cons, List.length_nil, List.length_set] <;> omega) | fail) only [hL, hL0, ↓Xa, Xb, Xc, ↓reduceIte, Nat.reduceLT, Nat.reduceEqDiff, Nat.reduceBEq, Nat.reduceLeDiff, Nat.reduceAdd, Nat.reduceMul]
      refine alloc_i fun p hp => ?_
      simp (disch := first | assumption | (apply Ap.symm; assumption) | omega | decide | (simp only [U_len, List.length_append, List.length_replicate, List.length_cons, List.length_nil, List.length_set] <;> omega) | fail) only [hL, dn_succ, ↓Xa, Xb, Xc, ↓reduceIte, Nat.reduceLT, Nat.reduceEqDiff, Nat.reduceBEq, Nat.reduceLeDiff, Nat.reduceAdd, Nat.reduceMul]
      refine W_atH fun M0 hM0 => ?_
      refine W_loop (fun s : Nat × AHeap => ⟨[], [(3, LS ps false), (8, .ptr p 2 0), (9, .int .i64 (dn s.1))], s.2⟩) (fun s => s.1 ≤ ps.length ∧ bld p (dec (val 1000000000 (ps.drop s.1))) H s.2) (fun s => s.1) (L + 1, M0) (Settle.now rfl) ⟨by dsimp only; omega, ?_⟩ ?_
      · dsimp only
        rw [List.drop_of_length_le (by omega), show val 1000000000 [] = 0 from rfl, dec_zero, hM0]
        exact bld_new
      rintro ⟨k, M⟩ ⟨hk, hb⟩
      dsimp only at hk hb ⊢
      cases k with
      | zero =>
        simp (disch := first | assumption | (apply Ap.symm; assumption) | omega | decide | (simp only [U_len, List.length_append, List.length_replicate, List.length_cons, List.length_nil, List.length_set] <;> omega) | fail) only [dn_zero, ↓Xa, Xb, Xc, ↓reduceIte, Nat.reduceLT, Nat.reduceEqDiff, Nat.reduceBEq, Nat.reduceLeDiff, Nat.reduceAdd, Nat.reduceMul]
        refine Settle.now ?_
        rw [List.drop_zero, hv] at hb
        simp (disch := first | assumption | (apply Ap.symm; assumption) | omega | decide | (simp only [U_len, List.length_append, List.length_replicate, List.length_cons, List.length_nil, List.length_set] <;> omega) | fail) only [↓Xa, Xb, Xc, ↓reduceIte, Nat.reduceLT, Nat.reduceEqDiff, Nat.reduceBEq, Nat.reduceLeDiff, Nat.reduceAdd, Nat.reduceMul]
        have hd0 : 0 < (dec N).length := List.length_pos_iff.2 (dec_pos hN0)
        refine run_call (bstr_run hb hp (by omega) hd0 fun H' hH' => ?_)
        simp (disch := first | assumption | (apply Ap.symm; assumption) | omega | decide | (simp only [U_len, List.length_append, List.length_replicate, List.length_cons, List.length_nil, List.length_set] <;> omega) | fail) only [rs73, ↓Xa, Xb, Xc, ↓reduceIte, Nat.reduceLT, Nat.reduceEqDiff, Nat.reduceBEq, Nat.reduceLeDiff, Nat.reduceAdd, Nat.reduceMul]
        exact SetR.dropTo hH' (SetR.now hq)
      | succ k =>
        obtain ⟨hlt, hstep⟩ := hdig k _ (by omega) rfl
        have hlt2 : ps.getD k 0 < 1000000000 := hlt
        simp (disch := first | assumption | (apply Ap.symm; assumption) | omega | decide | (simp only [U_len, List.length_append, List.length_replicate, List.length_cons, List.length_nil, List.length_set] <;> omega) | fail) only [dn_succ, hL, ↓Xa, Xb, Xc, ↓reduceIte, Nat.reduceLT, Nat.reduceEqDiff, Nat.reduceBEq, Nat.reduceLeDiff, Nat.reduceAdd, Nat.reduceMul]
        refine alloc_i fun q hq' => ?_
        generalize hpk : ps.getD k 0 = pk at *
        simp (disch := first | assumption | (apply Ap.symm; assumption) | omega | decide | (simp only [U_len, List.length_append, List.length_replicate, List.length_cons, List.length_nil, List.length_set] <;> omega) | fail) only [hpk, dn_succ, hL, ↓Xa, Xb, Xc, ↓reduceIte, Nat.reduceLT, Nat.reduceEqDiff, Nat.reduceBEq, Nat.reduceLeDiff, Nat.reduceAdd, Nat.reduceMul]
        refine W_loop (fun s : Nat × List UInt8 × Nat => ⟨[], [(3, LS ps false), (8, .ptr p 2 0), (9, .int .i64 (k : Nat)), (10, .ptr q 9 0), (11, .int .u32 (s.2.2 : Nat)), (12, .int .i64 (dn s.1))], M.upd q (some (.row 122 1 (Bt s.2.1)))⟩)
          (fun s => TxI pk s.1 s.2.1 s.2.2) (fun s => s.1) (9, List.replicate 9 0, pk) (Settle.now rfl) ⟨Nat.le_refl _, by simp [wide, pad, digs_zero, Nat.mod_one], by simp⟩ ?_
        rintro ⟨j, cells, x⟩ hx
        dsimp only at hx ⊢
        have hcl := hx.len
        have hx32 : x < 4294967296 := by
          have := hx.2.2
          have := Nat.div_le_self pk (10 ^ (9 - j))
          omega
        cases j with
        | zero =>
          have ecells : cells = wide 9 pk := by
            rw [hx.2.1]; simp [Nat.mod_eq_of_lt hlt2]
          have htk : (Bt cells).take 9 = Bt cells := List.take_of_length_le (by rw [Bt_len]; omega)
          have hbl : (Bt cells).length = 9 := by rw [Bt_len]; exact hcl
          simp (disch := first | assumption | (apply Ap.symm; assumption) | omega | decide | (simp only [U_len, List.length_append, List.length_replicate, List.length_cons, List.length_nil, List.length_set] <;> omega) | fail) only [dn_zero, ↓Xa, Xb, Xc, ↓reduceIte, Nat.reduceLT, Nat.reduceEqDiff, Nat.reduceBEq, Nat.reduceLeDiff, Nat.reduceAdd, Nat.reduceMul]
          refine Settle.now ?_
          simp (disch := first | assumption | (apply Ap.symm; assumption) | omega | decide | (simp only [U_len, List.length_append, List.length_replicate, List.length_cons, List.length_nil, List.length_set] <;> omega) | fail) only [htk, str_Sx, hL, dn_succ, ↓Xa, Xb, Xc, ↓reduceIte, Nat.reduceLT, Nat.reduceEqDiff, Nat.reduceBEq, Nat.reduceLeDiff, Nat.reduceAdd, Nat.reduceMul]
          refine ⟨by decide, ?_⟩
          obtain ⟨a1, a2, w0⟩ := bld_upd (x := .row 122 1 (Bt cells)) hb hq'
          have fin : ∀ (m : List UInt8) (M' : AHeap), bld p (dec (val 1000000000 (ps.drop (k + 1))) ++ m) (H.upd q (some (.row 122 1 (Bt cells)))) M' → dec (val 1000000000 (ps.drop k)) = dec (val 1000000000 (ps.drop (k + 1))) ++ m →
              Settle (fun s' => ∃ x' : Nat × AHeap, x'.1 < k + 1 ∧ (x'.1 ≤ L + 1 ∧ bld p (dec (val 1000000000 (ps.drop x'.1))) H x'.2) ∧ s' = ⟨[], [(3, LS ps false), (8, .ptr p 2 0), (9, .int .i64 (dn x'.1))], x'.2⟩) ⟨[], [(3, LS ps false), (8, .ptr p 2 0), (9, .int .i64 (dn k))], M'⟩ := fun m M' hb' e => by
            obtain ⟨M'', h1, h2⟩ := bld_drop hb' a1 a2
            exact Settle.dropTo h2 (Settle.now ⟨(k, M''), Nat.lt_succ_self k, ⟨by dsimp only; omega, by dsimp only; rw [e]; exact h1⟩, rfl⟩)
          have hbd : (dec (val 1000000000 (ps.drop (k + 1)))).length ≤ 9 * ps.length := by
            refine dec_len (Nat.lt_of_lt_of_le (val_lt (hlim.drop (k + 1))) ?_)
            rw [show (1000000000 : Nat) = 10 ^ 9 from rfl, ← Nat.pow_mul]
            exact Nat.pow_le_pow_right (by omega) (Nat.mul_le_mul_left _ (by simp))
          by_cases hkL : k = L
          · rw [if_pos (by omega)] at hstep
            have hpk0 : pk ≠ 0 := by
              have := hlast hN0
              rwa [hL, Nat.add_sub_cancel, ← hkL, hpk] at this
            have hm0 : 0 < (dec pk).length := List.length_pos_iff.2 (dec_pos (by omega))
            have hm9 : (dec pk).length ≤ 9 := dec_len (k := 9) hlt2
            have hd1 : decide (k = L + 1 - 1) = true := by simp [hkL]
            simp (disch := first | assumption | (apply Ap.symm; assumption) | omega | decide | (simp only [U_len, List.length_append, List.length_replicate, List.length_cons, List.length_nil, List.length_set] <;> omega) | fail) only [hd1, ↓Xa, Xb, Xc, ↓reduceIte, Nat.reduceLT, Nat.reduceEqDiff, Nat.reduceBEq, Nat.reduceLeDiff, Nat.reduceAdd, Nat.reduceMul]
            refine (trimL_fn (c := 48) (l := cells) (by omega) (by decide)).call ?_
            rw [ecells, wide_trim, ← ecells]
            simp (disch := first | assumption | (apply Ap.symm; assumption) | omega | decide | (simp only [U_len, List.length_append, List.length_replicate, List.length_cons, List.length_nil, List.length_set] <;> omega) | fail) only [↓Xa, Xb, Xc, ↓reduceIte, Nat.reduceLT, Nat.reduceEqDiff, Nat.reduceBEq, Nat.reduceLeDiff, Nat.reduceAdd, Nat.reduceMul]
            refine run_call (wstr_run w0 (by omega) hm0 fun M' hM' => ?_)
            simp (disch := first | assumption | (apply Ap.symm; assumption) | omega | decide | (simp only [U_len, List.length_append, List.length_replicate, List.length_cons, List.length_nil, List.length_set] <;> omega) | fail) only [↓Xa, Xb, Xc, ↓reduceIte, Nat.reduceLT, Nat.reduceEqDiff, Nat.reduceBEq, Nat.reduceLeDiff, Nat.reduceAdd, Nat.reduceMul]
            exact fin _ _ hM' hstep
          · rw [if_neg (by omega)] at hstep
            rw [← ecells] at hstep
            have hd1 : decide (k = L + 1 - 1) = false := by simp [hkL]
            simp (disch := first | assumption | (apply Ap.symm; assumption) | omega | decide | (simp only [U_len, List.length_append, List.length_replicate, List.length_cons, List.length_nil, List.length_set] <;> omega) | fail) only [hd1, ↓Xa, Xb, Xc, ↓reduceIte, Nat.reduceLT, Nat.reduceEqDiff, Nat.reduceBEq, Nat.reduceLeDiff, Nat.reduceAdd, Nat.reduceMul]
            refine run_call (wstr_run w0 (by omega) (by omega) fun M' hM' => ?_)
            simp (disch := first | assumption | (apply Ap.symm; assumption) | omega | decide | (simp only [U_len, List.length_append, List.length_replicate, List.length_cons, List.length_nil, List.length_set] <;> omega) | fail) only [↓Xa, Xb, Xc, ↓reduceIte, Nat.reduceLT, Nat.reduceEqDiff, Nat.reduceBEq, Nat.reduceLeDiff, Nat.reduceAdd, Nat.reduceMul]
            exact fin _ _ hM' hstep
        | succ j =>
          have hj : j < 9 := by have := hx.1; omega
          have hbl : (Bt cells).length = 9 := by rw [Bt_len]; exact hcl
          have hd : x % 10 < 10 := Nat.mod_lt _ (by omega)
          simp (disch := first | assumption | (apply Ap.symm; assumption) | omega | decide | (simp only [U_len, List.length_append, List.length_replicate, List.length_cons, List.length_nil, List.length_set] <;> omega) | fail) only [dn_succ, stP_Bt, ↓Xa, Xb, Xc, ↓reduceIte, Nat.reduceLT, Nat.reduceEqDiff, Nat.reduceBEq, Nat.reduceLeDiff, Nat.reduceAdd, Nat.reduceMul]
          exact ⟨by omega, by omega, Settle.now ⟨(j, _, x / 10), Nat.lt_succ_self j, hx.step, rfl⟩⟩
  · have h1 : 0 < (digs 4294967296 n).length := by
      have : ¬ (digs 4294967296 n).length = 0 := by rw [hz]; exact hn0
      omega
    simp (disch := first | assumption | (apply Ap.symm; assumption) | omega | decide | (simp only [U_len, List.length_append, List.length_replicate, List.length_cons, List.length_nil, List.length_set] <;> omega) | fail) only [h1, ↓Xa, Xb, Xc, ↓reduceIte, Nat.reduceLT, Nat.reduceEqDiff, Nat.reduceBEq, Nat.reduceLeDiff, Nat.reduceAdd, Nat.reduceMul]
    refine (divsmall_fn (d := 1000000000) true (lim_digs (by omega) n) (by omega) (by omega) (by omega)).call ?_
    rw [val_digs (by omega)]
    simp (disch := first | assumption | (apply Ap.symm; assumption) | omega | decide | (simp only [U_len, List.length_append, List.length_replicate, List.length_cons, List.length_nil, List.length_set] <;> omega) | fail) only [↓Xa, Xb, Xc, ↓reduceIte, Nat.reduceLT, Nat.reduceEqDiff, Nat.reduceBEq, Nat.reduceLeDiff, Nat.reduceAdd, Nat.reduceMul]
    have hlen := congrArg List.length he
    rw [List.length_append] at hlen
    refine app_grow (m := [n % 1000000000]) hg rfl (by simp) (by simp; omega) fun x' H2 hg2 => ?_
    simp (disch := first | assumption | (apply Ap.symm; assumption) | omega | decide | (simp only [U_len, List.length_append, List.length_replicate, List.length_cons, List.length_nil, List.length_set] <;> omega) | fail) only [↓Xa, Xb, Xc, ↓reduceIte, Nat.reduceLT, Nat.reduceEqDiff, Nat.reduceBEq, Nat.reduceLeDiff, Nat.reduceAdd, Nat.reduceMul]
    refine Settle.now ⟨(done ++ [n % 1000000000], x', H2, n / 1000000000), Nat.div_lt_self (by omega) (by omega), ⟨hg2, ?_, Nat.le_trans (Nat.div_le_self _ _) hle⟩, rfl⟩
    dsimp only
    rw [he, digs_pos hP (show 0 < n by omega), List.append_assoc]; rfl
end Go.Proofs.YtanchgkiomfhhaaGreatDoor.Fw

/- The laws' first question: are numbers added, multiplied, divided, told? -/
namespace Go.Proofs.YtanchgkiomfhhaaGreatDoor.Fw
set_option linter.unusedSimpArgs false
set_option linter.unusedVariables false
open Go Go.Proofs.YtanchgkiomfhhaaGreatDoor.Ma
set_option maxRecDepth 20000

end Go.Proofs.YtanchgkiomfhhaaGreatDoor.Fw

/- What package limb computes, in terms of numbers. -/
namespace Go.Proofs.YtanchgkiomfhhaaGreatDoor.Fw
set_option linter.unusedSimpArgs false
set_option linter.unusedVariables false
open Go Go.Proofs.YtanchgkiomfhhaaGreatDoor.Ma
set_option maxRecDepth 20000

/-- A row of limbs, what it is worth, how long it is at most. -/
structure Nm (l : List Nat) (n k : Nat) : Prop where
  lim : Lim 4294967296 l
  val : val 4294967296 l = n
  len : l.length ≤ k
theorem Nm.lt {l : List Nat} {n k : Nat} (h : Nm l n k) : n < 4294967296 ^ k := by
  rw [← h.val]; exact Nat.lt_of_lt_of_le (val_lt h.lim) (Nat.pow_le_pow_right (by omega) h.len)
theorem Nm.digs {n k : Nat} (h : n < 4294967296 ^ k) : Nm (digs 4294967296 n) n k := ⟨lim_digs (by omega) n, val_digs (by omega) n, digs_len (by omega) k n h⟩
theorem Nm.raw {l : List Nat} {k : Nat} (h : Lim 4294967296 l) (hk : l.length ≤ k) : Nm l (Ma.val 4294967296 l) k := ⟨h, rfl, hk⟩
theorem Nm.mono {l : List Nat} {n k k' : Nat} (h : Nm l n k) (hk : k ≤ k') : Nm l n k' := ⟨h.lim, h.val, Nat.le_trans h.len hk⟩
theorem lt_mul {m n k k' : Nat} (h : m < 4294967296 ^ k) (h' : n < 4294967296 ^ k') : m * n < 4294967296 ^ (k + k') := by
  rw [Nat.pow_add]; exact Nat.mul_lt_mul_of_lt_of_lt h h'
theorem add_n {a b : List Nat} {m n k k' : Nat} (ta tb : Bool) (ha : Nm a m k) (hb : Nm b n k') (hk : k ≤ 1000000) (hk' : k' ≤ 1000000) : PFn Tryz.prog 82 [LS a ta, LS b tb] (LS (Ma.digs 4294967296 (m + n)) true) := by
  have := add_fn ta tb ha.lim hb.lim (Nat.le_trans ha.len (by omega)) (Nat.le_trans hb.len (by omega))
  rwa [ha.val, hb.val] at this
theorem mul_n {a b : List Nat} {m n k k' : Nat} (ta tb : Bool) (ha : Nm a m k) (hb : Nm b n k') (hk : k ≤ 1000000) (hk' : k' ≤ 1000000) : PFn Tryz.prog 80 [LS a ta, LS b tb] (LS (Ma.digs 4294967296 (m * n)) true) := by
  have := mul_fn ta tb ha.lim hb.lim (Nat.le_trans ha.len (by omega)) (Nat.le_trans hb.len (by omega))
  rwa [ha.val, hb.val] at this
end Go.Proofs.YtanchgkiomfhhaaGreatDoor.Fw

/- The law of quotients and remainders of limbs, without the reference, as what its code computes: true. -/
namespace Go.Proofs.YtanchgkiomfhhaaGreatDoor.Fw
set_option linter.unusedSimpArgs false
set_option linter.unusedVariables false
open Go Go.Proofs.YtanchgkiomfhhaaGreatDoor.Ma
set_option maxRecDepth 20000

theorem Nm.one {c : Nat} (h : c < 4294967296) : Nm [c] c 1 := ⟨Lim.one h, val_one _ _, Nat.le_refl _⟩
theorem muls_n {a : List Nat} {m k c : Nat} (ta : Bool) (ha : Nm a m k) (hk : k ≤ 1000000) (hc : c < 4294967296) : PFn Tryz.prog 86 [LS a ta, .int .u32 (c : Nat)] (LS (Ma.digs 4294967296 (m * c)) true) := by
  intro H Q hq
  refine enter86 (by simp) ?_
  simp (disch := first | assumption | (apply Ap.symm; assumption) | omega | decide | (simp only [U_len, List.length_append, List.length_replicate, List.length_cons, List.length_nil, List.length_set] <;> omega) | fail) only [ac86, ↓Xa, Xb, Xc, ↓reduceIte, Nat.reduceLT, Nat.reduceEqDiff, Nat.reduceBEq, Nat.reduceLeDiff, Nat.reduceAdd, Nat.reduceMul]
  refine (mul_n (b := [c]) ta true ha (Nm.one hc) hk (by omega)).call ?_
  simp (disch := first | assumption | (apply Ap.symm; assumption) | omega | decide | (simp only [U_len, List.length_append, List.length_replicate, List.length_cons, List.length_nil, List.length_set] <;> omega) | fail) only [rs86, ↓Xa, Xb, Xc, ↓reduceIte, Nat.reduceLT, Nat.reduceEqDiff, Nat.reduceBEq, Nat.reduceLeDiff, Nat.reduceAdd, Nat.reduceMul]
  exact SetR.now hq
end Go.Proofs.YtanchgkiomfhhaaGreatDoor.Fw

/- The number of a decimal text, and back. -/
namespace Go.Proofs.YtanchgkiomfhhaaGreatDoor.Ma
set_option linter.unusedSimpArgs false
set_option linter.unusedVariables false

def decF (v : Nat) (l : List UInt8) : Nat := l.foldl (fun v b => 10 * v + (b.toNat - 48)) v
def decV (l : List UInt8) : Nat := decF 0 l
theorem decF_eq : ∀ (l : List UInt8) (v : Nat), decF v l = 10 ^ l.length * v + decV l
  | [], v => by simp [decF, decV]
  | b :: l, v => by
    have h1 := decF_eq l (10 * v + (b.toNat - 48))
    have h2 := decF_eq l (10 * 0 + (b.toNat - 48))
    have e1 : decF v (b :: l) = decF (10 * v + (b.toNat - 48)) l := rfl
    have e2 : decV (b :: l) = decF (10 * 0 + (b.toNat - 48)) l := rfl
    rw [e1, e2, h1, h2, List.length_cons, Nat.pow_succ]
    grind
theorem decV_app (l m : List UInt8) : decV (l ++ m) = 10 ^ m.length * decV l + decV m := by
  have : decV (l ++ m) = decF (decV l) m := by simp only [decV, decF, List.foldl_append]
  rw [this, decF_eq]
theorem decV_one (b : UInt8) : decV [b] = b.toNat - 48 := by simp [decV, decF]
theorem decF_lt : ∀ {l : List UInt8} {v : Nat}, (∀ b, b ∈ l → b.toNat ≤ 57) → decF v l < 10 ^ l.length * (v + 1)
  | [], v, _ => by simp [decF]
  | b :: l, v, h => by
    have h1 := decF_lt (l := l) (v := 10 * v + (b.toNat - 48)) fun x hx => h x (List.mem_cons_of_mem _ hx)
    have h2 := h b List.mem_cons_self
    have e1 : decF v (b :: l) = decF (10 * v + (b.toNat - 48)) l := rfl
    rw [e1]
    refine Nat.lt_of_lt_of_le h1 ?_
    rw [List.length_cons, Nat.pow_succ, Nat.mul_assoc]
    exact Nat.mul_le_mul_left _ (by omega)
theorem decV_lt {l : List UInt8} (h : ∀ b, b ∈ l → b.toNat ≤ 57) : decV l < 10 ^ l.length := by
  have := decF_lt (v := 0) h
  simpa [decV] using this
def isDig (b : UInt8) : Prop := 48 ≤ b.toNat ∧ b.toNat ≤ 57
/-- A text that is a number's. -/
def Good (l : List UInt8) : Prop := l ≠ [] ∧ (∀ b, b ∈ l → isDig b) ∧ (l.length = 1 ∨ (l.getD 0 0).toNat ≠ 48)
theorem good_decT (n : Nat) : Good (decT n) := by
  unfold decT
  split
  · exact ⟨by simp, by simp [isDig], .inl rfl⟩
  · rename_i h
    have hn : 0 < n := by omega
    refine ⟨dec_pos hn, fun b hb => ?_, .inr ?_⟩
    · unfold dec at hb
      obtain ⟨x, hx, rfl⟩ := List.mem_map.1 hb
      have := lim_digs (B := 10) (by omega) n x (List.mem_reverse.1 hx)
      unfold isDig; rw [chr_nat this]; omega
    · have hl := digs_last (B := 10) (by omega) hn
      have hne : digs 10 n ≠ [] := fun e => by have := (digs_nil (B := 10) (by omega)).1 e; omega
      obtain ⟨l, x, hx⟩ : ∃ l x, digs 10 n = l ++ [x] := ⟨_, _, (List.dropLast_concat_getLast hne).symm⟩
      have hx0 : x ≠ 0 := by
        rw [hx, last_append (by simp)] at hl
        simpa using hl
      have hx10 : x < 10 := lim_digs (B := 10) (by omega) n x (by rw [hx]; simp)
      have : dec n = chr x :: l.reverse.map chr := by simp [dec, hx]
      rw [this]
      show (chr x).toNat ≠ 48
      rw [chr_nat hx10]; omega
/-- Where a text goes wrong. -/
def badAt (l : List UInt8) (i : Nat) : Prop := (l.getD i 0).toNat < 48 ∨ 57 < (l.getD i 0).toNat ∨ (0 < i ∧ (l.getD 0 0).toNat = 48)
theorem good_of {l : List UInt8} (h0 : l ≠ []) (h : ∀ i, i < l.length → ¬ badAt l i) : Good l := by
  refine ⟨h0, fun b hb => ?_, ?_⟩
  · obtain ⟨i, hi, rfl⟩ := List.getElem_of_mem hb
    have := h i hi
    unfold badAt at this
    rw [List.getD_eq_getElem?_getD, List.getElem?_eq_getElem hi, Option.getD_some] at this
    unfold isDig; omega
  · by_cases hl : l.length = 1
    · exact .inl hl
    · right
      have hp : 0 < l.length := List.length_pos_iff.2 h0
      have := h 1 (by omega)
      unfold badAt at this; omega
theorem bad_of_good {l : List UInt8} (h : Good l) {i : Nat} (hi : i < l.length) : ¬ badAt l i := by
  obtain ⟨h0, h1, h2⟩ := h
  have := h1 _ (List.getElem_mem hi)
  unfold badAt isDig at *
  rw [List.getD_eq_getElem?_getD, List.getElem?_eq_getElem hi, Option.getD_some]
  omega
end Go.Proofs.YtanchgkiomfhhaaGreatDoor.Ma

/- A text read, as package limb reads it. -/
namespace Go.Proofs.YtanchgkiomfhhaaGreatDoor.Fw
set_option linter.unusedSimpArgs false
set_option linter.unusedVariables false
open Go Go.Proofs.YtanchgkiomfhhaaGreatDoor.Ma
set_option maxRecDepth 20000

def spot (e a : Nat) : AV := .agg [.int .i64 (e : Int), .int .i64 (a : Int)]
theorem cells_i2 {k k' : IntKind} {a b : Int} : (AV.agg [.int k a, .int k' b]).cells = some [.int k a, .int k' b] := id rfl
theorem min_k {a b : Nat} {K : AV → Prop} : maxW false (.int .i64 (a : Int)) (.int .i64 (b : Int)) K ↔ K (.int .i64 ((min a b : Nat) : Int)) := by
  have : (if (b : Int) < (a : Int) then (b : Int) else (a : Int)) = ((min a b : Nat) : Int) := by split <;> omega
  simp only [maxW, true_and, Bool.false_eq_true, if_false, this]
theorem rng_Sx {H : AHeap} {l : List UInt8} {K : AV → AHeap → Prop} : rngW H (Sx l) K = rngS H ⟨l.toArray⟩ K := id rfl
theorem byte_Sx {l : List UInt8} {i : Nat} : byteAt ⟨l.toArray⟩ i = (l.getD i 0).toNat := by simp [byteAt]
theorem nxt_Sl {H : AHeap} {b pos : Nat} {l : List UInt8} {K : AV → AHeap → Prop} (h : pos < l.length) (hb : (l.getD pos 0).toNat < 128) : nxtP H b K (some (.raw (.stringIter ⟨l.toArray⟩ pos))) = K (.tup [.bool true, .int .i64 (pos : Int), .int .i32 (((l.getD pos 0).toNat : Nat) : Int)]) (H.upd b (some (.raw (.stringIter ⟨l.toArray⟩ (pos + 1))))) := by
  rw [nxt_lt (by rw [size_Sx]; exact h) (by rw [byte_Sx]; exact hb), byte_Sx]
theorem nxt_Sg {H : AHeap} {b pos : Nat} {l : List UInt8} {K : AV → AHeap → Prop} (h : l.length ≤ pos) : nxtP H b K (some (.raw (.stringIter ⟨l.toArray⟩ pos))) = K (.tup [.bool false]) H := nxt_ge (by rw [size_Sx]; exact h)
theorem wn_i32 {n : Nat} (h : n < 2147483648) : IntKind.i32.wrap (n : Int) = (n : Int) := by
  unfold IntKind.wrap; simp only [IntKind.bits, IntKind.signed, Bool.true_and, decide_eq_true_eq, ge_iff_le]; split <;> omega
theorem ten_b {n m : Nat} (h : 4 * n ≤ 32 * m) : 10 ^ n ≤ 4294967296 ^ m := by
  have h1 : 10 ^ n ≤ 16 ^ n := Nat.pow_le_pow_left (by omega) n
  have h2 : (16 : Nat) ^ n = 2 ^ (4 * n) := by rw [Nat.pow_mul]
  have h3 : (4294967296 : Nat) ^ m = 2 ^ (32 * m) := by rw [Nat.pow_mul]
  rw [h3]
  exact Nat.le_trans h1 (by rw [h2]; exact Nat.pow_le_pow_right (by omega) h)
theorem ten_bound {n : Nat} (h : n ≤ 65536) : 10 ^ n ≤ 4294967296 ^ 8192 := ten_b (m := 8192) (by omega)
/-- What is answered of a text. -/
def ReadR (l : List UInt8) (r : AV) : Prop :=
  (65536 < l.length ∧ r = .tup [LS [] true, spot 3 65536]) ∨ (l = [] ∧ r = .tup [LS [] true, spot 6 0]) ∨
  (l.length ≤ 65536 ∧ ∃ i, i < l.length ∧ badAt l i ∧ (∀ j, j < i → ¬ badAt l j) ∧ r = .tup [LS [] true, spot 6 i]) ∨
  (l.length ≤ 65536 ∧ Good l ∧ r = .tup [LS (Ma.digs 4294967296 (decV l)) true, spot 0 0])
theorem readR_fn {l : List UInt8} {r r' : AV} (h : ReadR l r) (h' : ReadR l r') : r = r' := by
  have nb : ∀ {i}, Good l → i < l.length → badAt l i → False := fun g hi hb => bad_of_good g hi hb
  have ne : Good l → l = [] → False := fun g e => g.1 e
  rcases h with ⟨a, rfl⟩ | ⟨a, rfl⟩ | ⟨a, i, b, c, d, rfl⟩ | ⟨a, b, rfl⟩ <;> rcases h' with ⟨a', rfl⟩ | ⟨a', rfl⟩ | ⟨a', i', b', c', d', rfl⟩ | ⟨a', b', rfl⟩ <;>
    first
    | rfl
    | (exfalso; omega)
    | (subst a; simp at a'; done)
    | (subst a'; simp at a; done)
    | (subst a; simp at b'; done)
    | (subst a'; simp at b; done)
    | exact (ne ‹_› ‹_›).elim
    | exact (nb ‹_› ‹_› ‹_›).elim
    | (have : i = i' := by
        rcases Nat.lt_trichotomy i i' with h | h | h
        · exact absurd c (d' i h)
        · exact h
        · exact absurd c' (d i' h)
       rw [this])
theorem read_fn {l : List UInt8} {r : AV} (hr : ReadR l r) (hsz : l.length < 9223372036854775808) : PFn Tryz.prog 65 [Sx l] r := by
  intro H Q hq
  have out : ∀ {r'}, ReadR l r' → Q r' H := fun h => by rw [readR_fn h hr]; exact hq
  refine enter65 (by simp) ?_
  simp (disch := first | assumption | (apply Ap.symm; assumption) | omega | decide | (simp only [U_len, List.length_append, List.length_replicate, List.length_cons, List.length_nil, List.length_set] <;> omega) | fail) only [ac65, ↓Xa, Xb, Xc, ↓reduceIte, Nat.reduceLT, Nat.reduceEqDiff, Nat.reduceBEq, Nat.reduceLeDiff, Nat.reduceAdd, Nat.reduceMul]
  refine alloc_i fun p1 hp1 => ?_
  have n1 := hp1
  have fin : ∀ {r' : AV} {x : Option ABlk}, ReadR l r' → SetR Q r' (H.upd p1 x) := fun h => SetR.dropTo ((Le.refl H).updB n1) (SetR.now (out h))
  by_cases h1 : 65536 < l.length
  · simp (disch := first | assumption | (apply Ap.symm; assumption) | omega | decide | (simp only [U_len, List.length_append, List.length_replicate, List.length_cons, List.length_nil, List.length_set] <;> omega) | fail) only [len_Sx, h1, cells_i2, rs65, ↓Xa, Xb, Xc, ↓reduceIte, Nat.reduceLT, Nat.reduceEqDiff, Nat.reduceBEq, Nat.reduceLeDiff, Nat.reduceAdd, Nat.reduceMul]
    exact fin (.inl ⟨h1, rfl⟩)
  by_cases h2 : l = []
  · simp (disch := first | assumption | (apply Ap.symm; assumption) | omega | decide | (simp only [U_len, List.length_append, List.length_replicate, List.length_cons, List.length_nil, List.length_set] <;> omega) | fail) only [len_Sx, str_Sx, eql_Sx, h2, rs65, List.length_nil, ↓Xa, Xb, Xc, ↓reduceIte, Nat.reduceLT, Nat.reduceEqDiff, Nat.reduceBEq, Nat.reduceLeDiff, Nat.reduceAdd, Nat.reduceMul]
    exact fin (.inr (.inl ⟨h2, rfl⟩))
  have hpos : 0 < l.length := List.length_pos_iff.2 h2
  simp (disch := first | assumption | (apply Ap.symm; assumption) | omega | decide | (simp only [U_len, List.length_append, List.length_replicate, List.length_cons, List.length_nil, List.length_set] <;> omega) | fail) only [len_Sx, str_Sx, eql_Sx, h1, h2, ↓Xa, Xb, Xc, ↓reduceIte, Nat.reduceLT, Nat.reduceEqDiff, Nat.reduceBEq, Nat.reduceLeDiff, Nat.reduceAdd, Nat.reduceMul]
  refine W_loop (fun i : Nat => ⟨[], [(0, Sx l), (3, .ptr p1 2 0), (19, .int .i64 (l.length : Nat)), (20, .int .i64 (i : Nat))], H.upd p1 (some (.row 71 0 [.int .i64 ((0 : Nat) : Int), .int .i64 ((0 : Nat) : Int)]))⟩) (fun i => i ≤ l.length ∧ ∀ j, j < i → ¬ badAt l j) (fun i => l.length - i) 0 (Settle.now rfl) ⟨by simp, fun j h => by omega⟩ ?_
  rintro i ⟨hi1, hi2⟩
  by_cases hi : i < l.length
  · have bad : badAt l i → SetR Q (.tup [LS [] true, spot 6 i]) (H.upd p1 (some (.row 71 0 [.int .i64 ((6 : Nat) : Int), .int .i64 (i : Int)]))) := fun hb => fin (.inr (.inr (.inl ⟨by omega, i, hi, hb, hi2, rfl⟩)))
    have step : ¬ badAt l i → ∀ j, j < i + 1 → ¬ badAt l j := fun hb j hj => by
      by_cases e : j = i
      · rw [e]; exact hb
      · exact hi2 j (by omega)
    by_cases c1 : (l.getD i 0).toNat < 48
    · simp (disch := first | assumption | (apply Ap.symm; assumption) | omega | decide | (simp only [U_len, List.length_append, List.length_replicate, List.length_cons, List.length_nil, List.length_set] <;> omega) | fail) only [hi, idx_Sx, c1, cells_i2, rs65, ↓Xa, Xb, Xc, ↓reduceIte, Nat.reduceLT, Nat.reduceEqDiff, Nat.reduceBEq, Nat.reduceLeDiff, Nat.reduceAdd, Nat.reduceMul]
      exact bad (.inl c1)
    by_cases c2 : 57 < (l.getD i 0).toNat
    · simp (disch := first | assumption | (apply Ap.symm; assumption) | omega | decide | (simp only [U_len, List.length_append, List.length_replicate, List.length_cons, List.length_nil, List.length_set] <;> omega) | fail) only [hi, idx_Sx, c1, c2, cells_i2, rs65, ↓Xa, Xb, Xc, ↓reduceIte, Nat.reduceLT, Nat.reduceEqDiff, Nat.reduceBEq, Nat.reduceLeDiff, Nat.reduceAdd, Nat.reduceMul]
      exact bad (.inr (.inl c2))
    by_cases c3 : 0 < i
    · by_cases c4 : (l.getD 0 0).toNat = 48
      · simp (disch := first | assumption | (apply Ap.symm; assumption) | omega | decide | (simp only [U_len, List.length_append, List.length_replicate, List.length_cons, List.length_nil, List.length_set] <;> omega) | fail) only [hi, idx_Sx, c1, c2, c3, c4, cells_i2, rs65, ↓Xa, Xb, Xc, ↓reduceIte, Nat.reduceLT, Nat.reduceEqDiff, Nat.reduceBEq, Nat.reduceLeDiff, Nat.reduceAdd, Nat.reduceMul]
        exact bad (.inr (.inr ⟨c3, c4⟩))
      · simp (disch := first | assumption | (apply Ap.symm; assumption) | omega | decide | (simp only [U_len, List.length_append, List.length_replicate, List.length_cons, List.length_nil, List.length_set] <;> omega) | fail) only [hi, idx_Sx, c1, c2, c3, c4, ↓Xa, Xb, Xc, ↓reduceIte, Nat.reduceLT, Nat.reduceEqDiff, Nat.reduceBEq, Nat.reduceLeDiff, Nat.reduceAdd, Nat.reduceMul]
        exact Settle.now ⟨i + 1, by omega, ⟨by omega, step (by unfold badAt; omega)⟩, rfl⟩
    · simp (disch := first | assumption | (apply Ap.symm; assumption) | omega | decide | (simp only [U_len, List.length_append, List.length_replicate, List.length_cons, List.length_nil, List.length_set] <;> omega) | fail) only [hi, idx_Sx, c1, c2, c3, ↓Xa, Xb, Xc, ↓reduceIte, Nat.reduceLT, Nat.reduceEqDiff, Nat.reduceBEq, Nat.reduceLeDiff, Nat.reduceAdd, Nat.reduceMul]
      exact Settle.now ⟨i + 1, by omega, ⟨by omega, step (by unfold badAt; omega)⟩, rfl⟩
  · have hg : Good l := good_of h2 fun j hj => hi2 j (by omega)
    simp (disch := first | assumption | (apply Ap.symm; assumption) | omega | decide | (simp only [U_len, List.length_append, List.length_replicate, List.length_cons, List.length_nil, List.length_set] <;> omega) | fail) only [hi, ↓Xa, Xb, Xc, ↓reduceIte, Nat.reduceLT, Nat.reduceEqDiff, Nat.reduceBEq, Nat.reduceLeDiff, Nat.reduceAdd, Nat.reduceMul]
    refine Settle.now ?_
    simp (disch := first | assumption | (apply Ap.symm; assumption) | omega | decide | (simp only [U_len, List.length_append, List.length_replicate, List.length_cons, List.length_nil, List.length_set] <;> omega) | fail) only [↓Xa, Xb, Xc, ↓reduceIte, Nat.reduceLT, Nat.reduceEqDiff, Nat.reduceBEq, Nat.reduceLeDiff, Nat.reduceAdd, Nat.reduceMul]
    have hdig : ∀ b, b ∈ l → b.toNat ≤ 57 := fun b hb => (hg.2.1 b hb).2
    refine W_loop (fun s : List UInt8 × Nat => ⟨[], [(0, Sx s.1), (3, .ptr p1 2 0), (5, LS (Ma.digs 4294967296 s.2) true)], H.upd p1 (some (.row 71 0 [.int .i64 ((0 : Nat) : Int), .int .i64 ((0 : Nat) : Int)]))⟩) (fun s => ∃ d, l = d ++ s.1 ∧ s.2 = decV d) (fun s => s.1.length) (l, 0) (Settle.now (by rw [digs_zero]; rfl)) ⟨[], by simp, rfl⟩ ?_
    rintro ⟨m, v⟩ ⟨d, hd1, hd2⟩
    dsimp only at hd1 hd2 ⊢
    have hlen : l.length = d.length + m.length := by rw [hd1, List.length_append]
    cases m with
    | nil =>
      rw [List.append_nil] at hd1
      simp (disch := first | assumption | (apply Ap.symm; assumption) | omega | decide | (simp only [U_len, List.length_append, List.length_replicate, List.length_cons, List.length_nil, List.length_set] <;> omega) | fail) only [len_Sx, List.length_nil, ↓Xa, Xb, Xc, ↓reduceIte, Nat.reduceLT, Nat.reduceEqDiff, Nat.reduceBEq, Nat.reduceLeDiff, Nat.reduceAdd, Nat.reduceMul]
      refine Settle.now ?_
      simp (disch := first | assumption | (apply Ap.symm; assumption) | omega | decide | (simp only [U_len, List.length_append, List.length_replicate, List.length_cons, List.length_nil, List.length_set] <;> omega) | fail) only [cells_i2, rs65, ↓Xa, Xb, Xc, ↓reduceIte, Nat.reduceLT, Nat.reduceEqDiff, Nat.reduceBEq, Nat.reduceLeDiff, Nat.reduceAdd, Nat.reduceMul]
      rw [hd2, ← hd1]
      exact fin (.inr (.inr (.inr ⟨by omega, hg, rfl⟩)))
    | cons x m =>
      generalize hm : x :: m = y at *
      have hy0 : 0 < y.length := by rw [← hm]; simp
      simp (disch := first | assumption | (apply Ap.symm; assumption) | omega | decide | (simp only [U_len, List.length_append, List.length_replicate, List.length_cons, List.length_nil, List.length_set] <;> omega) | fail) only [len_Sx, hy0, min_k, slc_SxH, rng_Sx, ↓Xa, Xb, Xc, ↓reduceIte, Nat.reduceLT, Nat.reduceEqDiff, Nat.reduceBEq, Nat.reduceLeDiff, Nat.reduceAdd, Nat.reduceMul]
      refine rng_i fun q hq' => ?_
      obtain ⟨a1, a2⟩ := upd_none.1 hq'
      obtain ⟨n, hn⟩ : ∃ n, n = min y.length 9 := ⟨_, rfl⟩
      rw [← hn]
      obtain ⟨z, hz⟩ : ∃ z, z = y.take n := ⟨_, rfl⟩
      rw [← hz]
      have hzl : z.length = n := by rw [hz, List.length_take]; omega
      have hzd : ∀ b, b ∈ z → isDig b := fun b hb => hg.2.1 b (by rw [hd1]; exact List.mem_append_right _ (List.mem_of_mem_take (hz ▸ hb)))
      have p9 : ∀ k, k ≤ 9 → 10 ^ k ≤ 1000000000 := fun k hk => Nat.le_trans (Nat.pow_le_pow_right (by omega) hk) (by decide)
      simp (disch := first | assumption | (apply Ap.symm; assumption) | omega | decide | (simp only [U_len, List.length_append, List.length_replicate, List.length_cons, List.length_nil, List.length_set] <;> omega) | fail) only [↓Xa, Xb, Xc, ↓reduceIte, Nat.reduceLT, Nat.reduceEqDiff, Nat.reduceBEq, Nat.reduceLeDiff, Nat.reduceAdd, Nat.reduceMul]
      refine W_loop (fun s : Nat => ⟨[], [(0, Sx y), (3, .ptr p1 2 0), (5, LS (Ma.digs 4294967296 v) true), (6, .int .i64 (n : Nat)), (7, .int .u32 ((decV (z.take s) : Nat) : Int)), (8, .int .u32 ((10 ^ s : Nat) : Int)), (54, .ptr q 0 0)],
        (H.upd p1 (some (.row 71 0 [.int .i64 ((0 : Nat) : Int), .int .i64 ((0 : Nat) : Int)]))).upd q (some (.raw (.stringIter ⟨z.toArray⟩ s)))⟩) (fun s => s ≤ n) (fun s => n - s) 0 (Settle.now rfl) (Nat.zero_le _) ?_
      intro i hin
      have hzt : ∀ k, ∀ b, b ∈ z.take k → b.toNat ≤ 57 := fun k b hb => (hzd b (List.mem_of_mem_take hb)).2
      have hvt : decV (z.take i) < 10 ^ i := by
        have := decV_lt (hzt i)
        rwa [List.length_take, Nat.min_eq_left (by omega)] at this
      by_cases hi2 : i < n
      · have hzi : i < z.length := by omega
        have hdg := hzd _ (List.getElem_mem hzi)
        have eg : z.getD i 0 = z[i] := by rw [List.getD_eq_getElem?_getD, List.getElem?_eq_getElem hzi, Option.getD_some]
        rw [← eg] at hdg
        unfold isDig at hdg
        have h128 : (z.getD i 0).toNat < 128 := by omega
        have h10 := p9 i (by omega)
        have h11 := p9 (i + 1) (by omega)
        have hsucc : decV (z.take (i + 1)) = 10 * decV (z.take i) + ((z.getD i 0).toNat - 48) := by
          have : z.take (i + 1) = z.take i ++ [z.getD i 0] := by
            rw [List.take_add_one, List.getElem?_eq_getElem hzi, eg]; rfl
          rw [this, decV_app, decV_one]; simp
        rw [Nat.pow_succ] at h11
        simp (disch := first | assumption | (apply Ap.symm; assumption) | omega | decide | (simp only [U_len, List.length_append, List.length_replicate, List.length_cons, List.length_nil, List.length_set] <;> omega) | fail) only [nxt_Sl, wn_i32, ↓Xa, Xb, Xc, ↓reduceIte, Nat.reduceLT, Nat.reduceEqDiff, Nat.reduceBEq, Nat.reduceLeDiff, Nat.reduceAdd, Nat.reduceMul]
        refine Settle.now ⟨i + 1, by omega, by omega, ?_⟩
        rw [hsucc, Nat.pow_succ]
        done
      · obtain rfl : i = n := by omega
        rw [List.take_of_length_le (by omega)] at hvt ⊢
        have hge : z.length ≤ i := by omega
        simp (disch := first | assumption | (apply Ap.symm; assumption) | omega | decide | (simp only [U_len, List.length_append, List.length_replicate, List.length_cons, List.length_nil, List.length_set] <;> omega) | fail) only [nxt_Sg, ↓Xa, Xb, Xc, ↓reduceIte, Nat.reduceLT, Nat.reduceEqDiff, Nat.reduceBEq, Nat.reduceLeDiff, Nat.reduceAdd, Nat.reduceMul]
        refine Settle.now ?_
        simp (disch := first | assumption | (apply Ap.symm; assumption) | omega | decide | (simp only [U_len, List.length_append, List.length_replicate, List.length_cons, List.length_nil, List.length_set] <;> omega) | fail) only [↓Xa, Xb, Xc, ↓reduceIte, Nat.reduceLT, Nat.reduceEqDiff, Nat.reduceBEq, Nat.reduceLeDiff, Nat.reduceAdd, Nat.reduceMul]
        have hv : v < 4294967296 ^ 8192 := by
          rw [hd2]
          refine Nat.lt_of_lt_of_le (decV_lt fun b hb => hdig b (by rw [hd1]; exact List.mem_append_left _ hb)) ?_
          exact ten_bound (by omega)
        have h10 := p9 i (by omega)
        refine (muls_n true (Nm.digs hv) (by omega) (by omega)).call ?_
        simp (disch := first | assumption | (apply Ap.symm; assumption) | omega | decide | (simp only [U_len, List.length_append, List.length_replicate, List.length_cons, List.length_nil, List.length_set] <;> omega) | fail) only [↓Xa, Xb, Xc, ↓reduceIte, Nat.reduceLT, Nat.reduceEqDiff, Nat.reduceBEq, Nat.reduceLeDiff, Nat.reduceAdd, Nat.reduceMul]
        refine (add_n (b := [decV z]) true true (Nm.digs (lt_mul hv (show 10 ^ i < 4294967296 ^ 1 by omega))) (Nm.one (by omega)) (by omega) (by omega)).call ?_
        simp (disch := first | assumption | (apply Ap.symm; assumption) | omega | decide | (simp only [U_len, List.length_append, List.length_replicate, List.length_cons, List.length_nil, List.length_set] <;> omega) | fail) only [slc_SxL, ↓Xa, Xb, Xc, ↓reduceIte, Nat.reduceLT, Nat.reduceEqDiff, Nat.reduceBEq, Nat.reduceLeDiff, Nat.reduceAdd, Nat.reduceMul]
        refine Settle.dropTo ((Le.refl _).updB hq') (Settle.now ⟨(y.drop i, v * 10 ^ i + decV z), ?_, ⟨d ++ z, ?_, ?_⟩, rfl⟩)
        · dsimp only; rw [List.length_drop]; omega
        · dsimp only; rw [hd1, hz, List.append_assoc, List.take_append_drop]
        · dsimp only; rw [hd2, decV_app, hzl]; grind
end Go.Proofs.YtanchgkiomfhhaaGreatDoor.Fw

/- A number's digits gone over, as package limb tells them. -/
namespace Go.Proofs.YtanchgkiomfhhaaGreatDoor.Fw
set_option linter.unusedSimpArgs false
set_option linter.unusedVariables false
open Go Go.Proofs.YtanchgkiomfhhaaGreatDoor.Ma
set_option maxRecDepth 20000

theorem cW_y {P : Program} {b : Nat} {args : List AV} {H : AHeap} {K : AV → AHeap → Prop} : callW P (.yld b) args H K = YieldW P b args H K := id rfl
theorem load_cS {H : AHeap} {l : List UInt8} {K : AV → Prop} : loadW H none (.cptr [Sx l]) K = K (Sx l) := by simp [loadW, cellsAt, Sx]
theorem digits1_iter {l : List UInt8} (hg : ∀ b, b ∈ l → isDig b) (hl : l.length < 4611686018427387904) : IterW Tryz.prog 74 [.cptr [Sx l]] (fun d : Nat => [.int .i64 (d : Int)]) (l.map fun b => b.toNat - 48) := by
  intro b J Jx hy A B hd h0
  refine enter74 (by simp) ?_
  simp (disch := first | assumption | (apply Ap.symm; assumption) | omega | decide | (simp only [U_len, List.length_append, List.length_replicate, List.length_cons, List.length_nil, List.length_set] <;> omega) | fail) only [ac74, rng_Sx, load_cS, ↓Xa, Xb, Xc, ↓reduceIte, Nat.reduceLT, Nat.reduceEqDiff, Nat.reduceBEq, Nat.reduceLeDiff, Nat.reduceAdd, Nat.reduceMul]
  refine rng_i fun q hq => ?_
  obtain ⟨qa, qb⟩ := un_none.1 hq
  simp (disch := first | assumption | (apply Ap.symm; assumption) | omega | decide | (simp only [U_len, List.length_append, List.length_replicate, List.length_cons, List.length_nil, List.length_set] <;> omega) | fail) only [↓Xa, Xb, Xc, ↓reduceIte, Nat.reduceLT, Nat.reduceEqDiff, Nat.reduceBEq, Nat.reduceLeDiff, Nat.reduceAdd, Nat.reduceMul]
  refine W_loop (fun s : Nat × AHeap => ⟨[], [(0, .yld b), (6, .ptr q 0 0)], (Un s.2 B).upd q (some (.raw (.stringIter ⟨l.toArray⟩ s.1)))⟩) (fun s => s.1 ≤ l.length ∧ Dj s.2 B ∧ s.2 q = none ∧ J ((l.map fun b => b.toNat - 48).take s.1) s.2) (fun s => l.length - s.1) (0, A) (Settle.now rfl) ⟨Nat.zero_le _, hd, qa, by simpa using h0⟩ ?_
  rintro ⟨i, A1⟩ ⟨hi, hd1, hq1, hj⟩
  dsimp only at hi hd1 hq1 hj ⊢
  by_cases h : i < l.length
  · have hdg := hg _ (List.getElem_mem h)
    have eg : l.getD i 0 = l[i] := by rw [List.getD_eq_getElem?_getD, List.getElem?_eq_getElem h, Option.getD_some]
    rw [← eg] at hdg
    unfold isDig at hdg
    have h128 : (l.getD i 0).toNat < 128 := by omega
    have hx : (l.map fun b => b.toNat - 48) = (l.map fun b => b.toNat - 48).take i ++ ((l.getD i 0).toNat - 48) :: (l.map fun b => b.toNat - 48).drop (i + 1) := by
      conv => lhs; rw [← List.take_append_drop i (l.map fun b => b.toNat - 48)]
      rw [List.drop_eq_getElem_cons (by simpa using h), List.getElem_map, eg]
    have hx2 : (l.map fun b => b.toNat - 48).take (i + 1) = (l.map fun b => b.toNat - 48).take i ++ [(l.getD i 0).toNat - 48] := by
      rw [List.take_add_one, List.getElem?_map, List.getElem?_eq_getElem h, eg]; rfl
    simp (disch := first | assumption | (apply Ap.symm; assumption) | omega | decide | (simp only [U_len, List.length_append, List.length_replicate, List.length_cons, List.length_nil, List.length_set] <;> omega) | fail) only [nxt_Sl, wn_i32, cW_y, ↓Xa, Xb, Xc, ↓reduceIte, Nat.reduceLT, Nat.reduceEqDiff, Nat.reduceBEq, Nat.reduceLeDiff, Nat.reduceAdd, Nat.reduceMul]
    rw [← un_updR hq1]
    refine (hy _ _ _ A1 (B.upd q (some (.raw (.stringIter ⟨l.toArray⟩ (i + 1))))) hx (dj_updR hd1 hq1) hj).mono ?_
    rintro r H' ⟨A2, hd2, rfl, (⟨rfl, hj2⟩ | ⟨rfl, hj2⟩)⟩
    · have hq2 : A2 q = none := dj_atR hd2 (upd_same _ _ _)
      rw [un_updR hq2]
      simp (disch := first | assumption | (apply Ap.symm; assumption) | omega | decide | (simp only [U_len, List.length_append, List.length_replicate, List.length_cons, List.length_nil, List.length_set] <;> omega) | fail) only [↓Xa, Xb, Xc, ↓reduceIte, Nat.reduceLT, Nat.reduceEqDiff, Nat.reduceBEq, Nat.reduceLeDiff, Nat.reduceAdd, Nat.reduceMul]
      refine Settle.keep [0, 6] ⟨(i + 1, A2), by dsimp only; omega, ⟨by dsimp only; omega, ?_, hq2, by dsimp only; rw [hx2]; exact hj2⟩, rfl⟩
      intro k
      by_cases e : k = q
      · subst e; exact .inl hq2
      · have := hd2 k
        rwa [upd_other _ _ e] at this
    · have hq2 : A2 q = none := dj_atR hd2 (upd_same _ _ _)
      have hd3 : Dj A2 B := fun k => by
        by_cases e : k = q
        · subst e; exact .inl hq2
        · have := hd2 k
          rwa [upd_other _ _ e] at this
      rw [un_updR hq2]
      simp (disch := first | assumption | (apply Ap.symm; assumption) | omega | decide | (simp only [U_len, List.length_append, List.length_replicate, List.length_cons, List.length_nil, List.length_set] <;> omega) | fail) only [rs74, ↓Xa, Xb, Xc, ↓reduceIte, Nat.reduceLT, Nat.reduceEqDiff, Nat.reduceBEq, Nat.reduceLeDiff, Nat.reduceAdd, Nat.reduceMul]
      refine SetR.dropTo ((Le.refl _).upd (un_none.2 ⟨hq2, qb⟩)) (SetR.now ⟨A2, hd3, rfl, .inr hj2⟩)
  · obtain rfl : i = l.length := by omega
    simp (disch := first | assumption | (apply Ap.symm; assumption) | omega | decide | (simp only [U_len, List.length_append, List.length_replicate, List.length_cons, List.length_nil, List.length_set] <;> omega) | fail) only [nxt_Sg, ↓Xa, Xb, Xc, ↓reduceIte, Nat.reduceLT, Nat.reduceEqDiff, Nat.reduceBEq, Nat.reduceLeDiff, Nat.reduceAdd, Nat.reduceMul]
    refine Settle.now ?_
    simp (disch := first | assumption | (apply Ap.symm; assumption) | omega | decide | (simp only [U_len, List.length_append, List.length_replicate, List.length_cons, List.length_nil, List.length_set] <;> omega) | fail) only [rs74, ↓Xa, Xb, Xc, ↓reduceIte, Nat.reduceLT, Nat.reduceEqDiff, Nat.reduceBEq, Nat.reduceLeDiff, Nat.reduceAdd, Nat.reduceMul]
    rw [List.take_of_length_le (by simp)] at hj
    refine SetR.dropTo ((Le.refl _).upd (un_none.2 ⟨hq1, qb⟩)) (SetR.now ⟨A1, hd1, rfl, .inl hj⟩)
theorem digits_fn {l : List Nat} (t : Bool) (hl : Lim 4294967296 l) (hn : l.length ≤ 1099511627776) : PFn Tryz.prog 54 [LS l t] (.fn (.func 74) [] [.cptr [Sx (decT (val 4294967296 l))]]) := by
  intro H Q hq
  refine enter54 (by simp) ?_
  simp (disch := first | assumption | (apply Ap.symm; assumption) | omega | decide | (simp only [U_len, List.length_append, List.length_replicate, List.length_cons, List.length_nil, List.length_set] <;> omega) | fail) only [ac54, ↓Xa, Xb, Xc, ↓reduceIte, Nat.reduceLT, Nat.reduceEqDiff, Nat.reduceBEq, Nat.reduceLeDiff, Nat.reduceAdd, Nat.reduceMul]
  refine (text_fn t hl hn).call ?_
  simp (disch := first | assumption | (apply Ap.symm; assumption) | omega | decide | (simp only [U_len, List.length_append, List.length_replicate, List.length_cons, List.length_nil, List.length_set] <;> omega) | fail) only [↓Xa, Xb, Xc, ↓reduceIte, Nat.reduceLT, Nat.reduceEqDiff, Nat.reduceBEq, Nat.reduceLeDiff, Nat.reduceAdd, Nat.reduceMul]
  refine alloc_i fun p1 hp1 => ?_
  have n1 := hp1
  simp (disch := first | assumption | (apply Ap.symm; assumption) | omega | decide | (simp only [U_len, List.length_append, List.length_replicate, List.length_cons, List.length_nil, List.length_set] <;> omega) | fail) only [cells_Sx, rs54, ↓Xa, Xb, Xc, ↓reduceIte, Nat.reduceLT, Nat.reduceEqDiff, Nat.reduceBEq, Nat.reduceLeDiff, Nat.reduceAdd, Nat.reduceMul]
  refine SetR.frzP p1 (upd_same _ _ _) ?_
  rw [upd_upd, upd_back _ n1]
  simp [frzP, frzP1]
  exact SetR.now hq
end Go.Proofs.YtanchgkiomfhhaaGreatDoor.Fw

/- A whole number's text, as package integer tells it. -/
namespace Go.Proofs.YtanchgkiomfhhaaGreatDoor.Fw
set_option linter.unusedSimpArgs false
set_option linter.unusedVariables false
open Go Go.Proofs.YtanchgkiomfhhaaGreatDoor.Ma
set_option maxRecDepth 20000

/-- A whole number's decimal text. -/
def iText (z : Int) : List UInt8 := (if z < 0 then [45] else []) ++ decT z.natAbs
theorem Bt_app (l m : List UInt8) : Bt (l ++ m) = Bt l ++ Bt m := by simp [Bt]
theorem Bt_one {n : Nat} (h : n < 256) : [AV.int .u8 (n : Int)] = Bt [UInt8.ofNat n] := by
  simp only [Bt, List.map_cons, List.map_nil]
  rw [UInt8.toNat_ofNat', Nat.mod_eq_of_lt (by omega)]
theorem decT_len {n k : Nat} (h : n < 10 ^ k) (hk : 0 < k) : (decT n).length ≤ k := by
  unfold decT; split
  · simp; omega
  · exact dec_len h
theorem decT_bd {x : Int} {k : Nat} (hx : Bd k x) : (decT x.natAbs).length ≤ 10 * k + 1 := by
  refine decT_len (Nat.lt_of_lt_of_le hx ?_) (by omega)
  calc 4294967296 ^ k ≤ (10 ^ 10) ^ k := Nat.pow_le_pow_left (by omega) k
    _ = 10 ^ (10 * k) := by rw [Nat.pow_mul]
    _ ≤ 10 ^ (10 * k + 1) := Nat.pow_le_pow_right (by omega) (by omega)
theorem wn_u8' {n : Nat} (h : n < 256) : IntKind.u8.wrap (n : Int) = (n : Int) := by
  unfold IntKind.wrap; simp only [IntKind.bits, IntKind.signed, Bool.false_and, Bool.false_eq_true, if_false]; omega
theorem isDig_chr {b : UInt8} (h : isDig b) : UInt8.ofNat (48 + (b.toNat - 48)) = b := by
  unfold isDig at h
  rw [show 48 + (b.toNat - 48) = b.toNat by omega]; exact UInt8.ofNat_toNat
/-- What a row of bytes in a variable's block is read as. -/
theorem b2s_B {H0 H : AHeap} {p tb ty : Nat} {l : List UInt8} (h : growB H0 p tb ty 1 l.length (Bt l) H) : ∃ x, H p = some (.row tb 0 [x]) ∧ AV.cells x = some [x] ∧ ∀ H' K, Le H H' → K (Sx l) → b2sW H' x K := by
  obtain ⟨x, hx, hc, _⟩ := growB_get h
  refine ⟨x, hx, ?_, ?_⟩
  · rcases hc with ⟨rfl, _, _⟩ | ⟨_, _, b, rfl, _⟩ <;> rfl
  · intro H' K hle k
    rcases hc with ⟨rfl, h0, hc⟩ | ⟨hn, hl, b, rfl, hb⟩
    · have : l = [] := List.eq_nil_of_length_eq_zero h0
      subst this
      exact ⟨rfl, k⟩
    · rw [Nat.mul_one, b2s_own, hle _ _ hb]
      refine ⟨by simp [Bt_len], rfl, by omega, ?_⟩
      rw [List.drop_zero, List.take_of_length_le (by simp [Bt_len]), bytesOf_Bt]
      exact k
/-- A digit's character. -/
def chD (d : Nat) : UInt8 := UInt8.ofNat (48 + d)
theorem chD_back : ∀ {l : List UInt8}, (∀ b, b ∈ l → isDig b) → (l.map fun b => b.toNat - 48).map chD = l := by
  intro l h
  rw [List.map_map]
  conv => rhs; rw [← List.map_id l]
  exact List.map_congr_left fun b hb => isDig_chr (h b hb)
theorem itext_fn {x : Int} {k : Nat} (hx : Bd k x) (hk : k ≤ 1000000) : PFn Tryz.prog 20 [IntA x] (Sx (iText x)) := by
  intro H Q hq
  have hdl := hx.len
  have hdt := decT_bd hx
  have hgd := good_decT x.natAbs
  refine enter20 (by simp) ?_
  simp (disch := first | assumption | (apply Ap.symm; assumption) | omega | decide | (simp only [U_len, List.length_append, List.length_replicate, List.length_cons, List.length_nil, List.length_set] <;> omega) | fail) only [ac20, IntA, ↓Xa, Xb, Xc, ↓reduceIte, Nat.reduceLT, Nat.reduceEqDiff, Nat.reduceBEq, Nat.reduceLeDiff, Nat.reduceAdd, Nat.reduceMul]
  refine alloc_i fun p1 hp1 => ?_
  have n1 := hp1
  simp (disch := first | assumption | (apply Ap.symm; assumption) | omega | decide | (simp only [U_len, List.length_append, List.length_replicate, List.length_cons, List.length_nil, List.length_set] <;> omega) | fail) only [↓Xa, Xb, Xc, ↓reduceIte, Nat.reduceLT, Nat.reduceEqDiff, Nat.reduceBEq, Nat.reduceLeDiff, Nat.reduceAdd, Nat.reduceMul]
  refine alloc_i fun p2 hp2 => ?_
  have n2 := hp2
  simp only [upd_none] at n2
  obtain ⟨_, n2⟩ := n2
  obtain ⟨neg, hneg⟩ : ∃ b, b = decide (x < 0) := ⟨_, rfl⟩
  rw [← hneg] at hp2 ⊢
  have tail : ∀ (pre : List UInt8) (H2 : AHeap) (v : Env), (v = [] ∨ v = [(6, .bool false)]) → pre.length ≤ 1 → pre ++ decT x.natAbs = iText x → growB (H.upd p1 (some (.row 28 0 [.bool neg, LS (digs 4294967296 x.natAbs) true]))) p2 83 5 1 pre.length (Bt pre) H2 →
      W Tryz.prog (sndC (sndC (sndC ac20))) (retN rs20 Q) ⟨[], [(1, .ptr p1 2 0), (2, Sx []), (3, .ptr p2 1 0)] ++ v, H2⟩ := by
    intro pre H2 v hv hp1 hpre hg
    have h1 : H2 p1 = some (.row 28 0 [.bool neg, LS (digs 4294967296 x.natAbs) true]) := by
      obtain ⟨_, _, _, hle⟩ := growB_get hg
      exact hle _ _ (upd_same _ _ _)
    rcases hv with rfl | rfl
    all_goals
     simp (disch := first | assumption | (apply Ap.symm; assumption) | omega | decide | (simp only [U_len, List.length_append, List.length_replicate, List.length_cons, List.length_nil, List.length_set] <;> omega) | fail) only [sndC, ac20, h1, ↓Xa, Xb, Xc, ↓reduceIte, Nat.reduceLT, Nat.reduceEqDiff, Nat.reduceBEq, Nat.reduceLeDiff, Nat.reduceAdd, Nat.reduceMul]
     refine (digits_fn true (lim_digs (by omega) _) (by omega)).call ?_
     rw [val_digs (by omega)]
     simp (disch := first | assumption | (apply Ap.symm; assumption) | omega | decide | (simp only [U_len, List.length_append, List.length_replicate, List.length_cons, List.length_nil, List.length_set] <;> omega) | fail) only [↓Xa, Xb, Xc, ↓reduceIte, Nat.reduceLT, Nat.reduceEqDiff, Nat.reduceBEq, Nat.reduceLeDiff, Nat.reduceAdd, Nat.reduceMul]
     obtain ⟨A, hd, rfl, hgA⟩ := growB_nu hg
     have hle : Le H (H.upd p1 (some (.row 28 0 [.bool neg, LS (digs 4294967296 x.natAbs) true]))) := (Le.refl H).upd n1
     refine rfn_iter (digits1_iter (fun b hb => hgd.2.1 b hb) (by omega)) (fun _ => rfl) (fun ds A => growB nilH p2 83 5 1 (pre ++ ds.map chD).length (Bt (pre ++ ds.map chD)) A) (fun _ _ => False) A _ hd rfl (by simpa using hgA) ?_ ?_ (fun _ _ _ _ _ _ h => h.elim)
     · intro ds d rest A B hds hdj hj R1 k1
       have hlen := congrArg List.length hds
       have hd10 : d < 10 := by
         have : d ∈ ((decT x.natAbs).map fun b => b.toNat - 48) := by rw [hds]; simp
         obtain ⟨b, hb, rfl⟩ := List.mem_map.1 this
         have := hgd.2.1 b hb
         unfold isDig at this; omega
       simp (disch := first | assumption | (apply Ap.symm; assumption) | omega | decide | (simp only [U_len, List.length_append, List.length_replicate, List.length_cons, List.length_nil, List.length_set] <;> omega) | fail) only [setps, ↓Xa, Xb, Xc, ↓reduceIte, Nat.reduceLT, Nat.reduceEqDiff, Nat.reduceBEq, Nat.reduceLeDiff, Nat.reduceAdd, Nat.reduceMul]
       refine k1 _ A hdj fun R2 B1 k2 hd1 => ?_
       obtain ⟨y, hy, happ⟩ := growB_app (m := 1) (bytes := 1) (growB_un hj hd1)
       have e1 : IntKind.i64.wrap ((48 : Nat) + (d : Int)) = ((48 + d : Nat) : Int) := by rw [← Int.natCast_add]; exact wn_i64 (by omega)
       simp (disch := first | assumption | (apply Ap.symm; assumption) | omega | decide | (simp only [U_len, List.length_append, List.length_replicate, List.length_cons, List.length_nil, List.length_set] <;> omega) | fail) only [hy, wn_u8', ↓Xa, Xb, Xc, ↓reduceIte, Nat.reduceLT, Nat.reduceEqDiff, Nat.reduceBEq, Nat.reduceLeDiff, Nat.reduceAdd, Nat.reduceMul]
       refine happ rfl rfl (by omega) ?_ ?_ fun x' H' hp hc hg2 => ?_
       · simp at hlen ⊢; omega
       · simp at hlen ⊢; omega
       simp (disch := first | assumption | (apply Ap.symm; assumption) | omega | decide | (simp only [U_len, List.length_append, List.length_replicate, List.length_cons, List.length_nil, List.length_set] <;> omega) | fail) only [hp, hc, ↓Xa, Xb, Xc, ↓reduceIte, Nat.reduceLT, Nat.reduceEqDiff, Nat.reduceBEq, Nat.reduceLeDiff, Nat.reduceAdd, Nat.reduceMul]
       refine k2 .normal _ (Settle.now (growB_nu ?_))
       have e : pre ++ (ds ++ [d]).map chD = (pre ++ ds.map chD) ++ [chD d] := by simp
       dsimp only
       rw [e, List.length_append, Bt_app, show Bt [chD d] = [AV.int .u8 ((48 + d : Nat) : Int)] from (Bt_one (by omega)).symm]
       exact hg2
     · intro d A' hdj hA hB hj
       rw [chD_back hgd.2.1, hpre] at hj
       have hj2 := growB_un hj hdj
       obtain ⟨y, hy, hyc, hb2⟩ := b2s_B hj2
       obtain ⟨_, _, _, hle2⟩ := growB_get hj2
       have hdn := un_none.2 ⟨hA, hB⟩
       have hy2 : ((Un A' (H.upd p1 (some (.row 28 0 [.bool neg, LS (digs 4294967296 x.natAbs) true])))).upd d (some (.raw (.deferred (some []))))) p2 = some (.row 83 0 [y]) := by
         rw [upd_other _ _ (by rintro rfl; rw [hdn] at hy; cases hy)]; exact hy
       simp (disch := first | assumption | (apply Ap.symm; assumption) | omega | decide | (simp only [U_len, List.length_append, List.length_replicate, List.length_cons, List.length_nil, List.length_set] <;> omega) | fail) only [hy2, ↓Xa, Xb, Xc, ↓reduceIte, Nat.reduceLT, Nat.reduceEqDiff, Nat.reduceBEq, Nat.reduceLeDiff, Nat.reduceAdd, Nat.reduceMul]
       refine hb2 _ _ ((Le.refl _).upd hdn) ?_
       simp (disch := first | assumption | (apply Ap.symm; assumption) | omega | decide | (simp only [U_len, List.length_append, List.length_replicate, List.length_cons, List.length_nil, List.length_set] <;> omega) | fail) only [rs20, ↓Xa, Xb, Xc, ↓reduceIte, Nat.reduceLT, Nat.reduceEqDiff, Nat.reduceBEq, Nat.reduceLeDiff, Nat.reduceAdd, Nat.reduceMul]
       rw [upd_back _ hdn]
       exact SetR.dropTo (fun b x hb => hle2 _ _ (hle _ _ hb)) (SetR.now hq)
  have g0 := growB_nil (H0 := H.upd p1 (some (.row 28 0 [.bool neg, LS (digs 4294967296 x.natAbs) true]))) (tb := 83) (ty := 5) (es := 1) hp2
  cases neg with
  | true =>
    simp (disch := first | assumption | (apply Ap.symm; assumption) | omega | decide | (simp only [U_len, List.length_append, List.length_replicate, List.length_cons, List.length_nil, List.length_set] <;> omega) | fail) only [↓Xa, Xb, Xc, ↓reduceIte, Nat.reduceLT, Nat.reduceEqDiff, Nat.reduceBEq, Nat.reduceLeDiff, Nat.reduceAdd, Nat.reduceMul]
    obtain ⟨y, hy, happ⟩ := growB_app (m := 1) (bytes := 1) g0
    obtain rfl : y = .seq 0 [] true := by rw [upd_same] at hy; injection hy with hy; injection hy with _ _ hy; injection hy with hy; exact hy.symm
    refine happ (by rfl) (by rfl) (by omega) (by omega) (by omega) fun x' H' hp hc hg2 => ?_
    simp (disch := first | assumption | (apply Ap.symm; assumption) | omega | decide | (simp only [U_len, List.length_append, List.length_replicate, List.length_cons, List.length_nil, List.length_set] <;> omega) | fail) only [hp, hc, ↓Xa, Xb, Xc, ↓reduceIte, Nat.reduceLT, Nat.reduceEqDiff, Nat.reduceBEq, Nat.reduceLeDiff, Nat.reduceAdd, Nat.reduceMul]
    have tl := tail [45] _ [] (.inl rfl) (by simp) (by simp [iText, of_decide_eq_true hneg.symm]) hg2
    simp (disch := first | assumption | (apply Ap.symm; assumption) | omega | decide | (simp only [U_len, List.length_append, List.length_replicate, List.length_cons, List.length_nil, List.length_set] <;> omega) | fail) only [sndC, ac20, ↓Xa, Xb, Xc, ↓reduceIte, Nat.reduceLT, Nat.reduceEqDiff, Nat.reduceBEq, Nat.reduceLeDiff, Nat.reduceAdd, Nat.reduceMul] at tl
    exact tl
  | false =>
    have tl := tail [] _ _ (.inr rfl) (by simp) (by simp [iText, of_decide_eq_false hneg.symm]) g0
    simp (disch := first | assumption | (apply Ap.symm; assumption) | omega | decide | (simp only [U_len, List.length_append, List.length_replicate, List.length_cons, List.length_nil, List.length_set] <;> omega) | fail) only [sndC, ac20, ↓Xa, Xb, Xc, ↓reduceIte, Nat.reduceLT, Nat.reduceEqDiff, Nat.reduceBEq, Nat.reduceLeDiff, Nat.reduceAdd, Nat.reduceMul] at tl
    simp (disch := first | assumption | (apply Ap.symm; assumption) | omega | decide | (simp only [U_len, List.length_append, List.length_replicate, List.length_cons, List.length_nil, List.length_set] <;> omega) | fail) only [↓Xa, Xb, Xc, ↓reduceIte, Nat.reduceLT, Nat.reduceEqDiff, Nat.reduceBEq, Nat.reduceLeDiff, Nat.reduceAdd, Nat.reduceMul]
    exact tl
end Go.Proofs.YtanchgkiomfhhaaGreatDoor.Fw

/- A whole number's text read, as package integer and as its reference read it. -/
namespace Go.Proofs.YtanchgkiomfhhaaGreatDoor.Fw
set_option linter.unusedSimpArgs false
set_option linter.unusedVariables false
open Go Go.Proofs.YtanchgkiomfhhaaGreatDoor.Ma
set_option maxRecDepth 20000

/-- Where the digits begin. -/
def iFrom (l : List UInt8) : Nat := if (l.getD 0 0).toNat = 45 then 1 else 0
/-- No digit stands there that may. -/
def iBad (l : List UInt8) (i : Nat) : Prop := (l.getD i 0).toNat < 48 ∨ 57 < (l.getD i 0).toNat ∨ (i = iFrom l + 1 ∧ (l.getD (iFrom l) 0).toNat = 48) ∨ (i = iFrom l ∧ iFrom l = 1 ∧ (l.getD i 0).toNat = 48)
/-- The first such place. -/
def IsAt (l : List UInt8) (p : Nat) : Prop := iFrom l ≤ p ∧ p ≤ l.length ∧ iBad l p ∧ ∀ j, iFrom l ≤ j → j < p → ¬ iBad l j
theorem get_beyond {l : List UInt8} {i : Nat} (h : l.length ≤ i) : l.getD i 0 = 0 := by
  rw [List.getD_eq_getElem?_getD, List.getElem?_eq_none h]; rfl
theorem iBad_end (l : List UInt8) : iBad l l.length := .inl (by rw [get_beyond (Nat.le_refl _)]; decide)
theorem iFrom_le (l : List UInt8) : iFrom l ≤ l.length ∧ iFrom l ≤ 1 := by
  unfold iFrom; split
  · rename_i h
    cases l with
    | nil => simp at h
    | cons x l => simp
  · simp
theorem first_of {P : Nat → Prop} (lo : Nat) : ∀ n, (∃ p, lo ≤ p ∧ p < lo + n ∧ P p ∧ ∀ j, lo ≤ j → j < p → ¬ P j) ∨ ∀ j, lo ≤ j → j < lo + n → ¬ P j
  | 0 => .inr fun j h1 h2 => by omega
  | n + 1 => by
    rcases first_of (P := P) lo n with ⟨p, a, b, c, d⟩ | h
    · exact .inl ⟨p, a, by omega, c, d⟩
    · by_cases hp : P (lo + n)
      · exact .inl ⟨lo + n, by omega, by omega, hp, h⟩
      · refine .inr fun j h1 h2 => ?_
        by_cases e : j = lo + n
        · rw [e]; exact hp
        · exact h j h1 (by omega)
theorem isAt_ex (l : List UInt8) : ∃ p, IsAt l p := by
  have h0 := (iFrom_le l).1
  rcases first_of (P := iBad l) (iFrom l) (l.length - iFrom l) with ⟨p, a, b, c, d⟩ | h
  · exact ⟨p, a, by omega, c, d⟩
  · exact ⟨l.length, h0, Nat.le_refl _, iBad_end l, fun j h1 h2 => h j h1 (by omega)⟩
theorem isAt_fn {l : List UInt8} {p q : Nat} (h : IsAt l p) (h' : IsAt l q) : p = q := by
  obtain ⟨a, b, c, d⟩ := h
  obtain ⟨a', b', c', d'⟩ := h'
  rcases Nat.lt_trichotomy p q with e | e | e
  · exact absurd c (d' p a e)
  · exact e
  · exact absurd c' (d q a' e)
/-- The number of a text that is right. -/
def iVal (l : List UInt8) : Int := sg (decide (iFrom l = 1)) (decV (l.drop (iFrom l)))
theorem isAt_good {l : List UInt8} (h : IsAt l l.length) (hn : l.length ≠ iFrom l) : Good (l.drop (iFrom l)) := by
  have hf := (iFrom_le l).1
  obtain ⟨a, b, c, d⟩ := h
  refine good_of (by intro e; have := congrArg List.length e; simp at this; omega) fun i hi hb => ?_
  have hi' : iFrom l + i < l.length := by simp at hi; omega
  have e : (l.drop (iFrom l)).getD i 0 = l.getD (iFrom l + i) 0 := by simp [List.getD_eq_getElem?_getD]
  have e0 : (l.drop (iFrom l)).getD 0 0 = l.getD (iFrom l) 0 := by simp [List.getD_eq_getElem?_getD]
  unfold badAt at hb
  rw [e, e0] at hb
  rcases hb with hb | hb | ⟨hb, hb2⟩
  · exact d (iFrom l + i) (by omega) hi' (.inl hb)
  · exact d (iFrom l + i) (by omega) hi' (.inr (.inl hb))
  · exact d (iFrom l + 1) (by omega) (by omega) (.inr (.inr (.inl ⟨rfl, hb2⟩)))
/-- What is answered of a text. -/
def iReadA (l : List UInt8) (p : Nat) : AV :=
  if 65536 < l.length then .tup [IntA 0, spot 3 65536] else if p = iFrom l ∨ p < l.length then .tup [IntA 0, spot 6 p] else .tup [IntA (iVal l), spot 0 0]
theorem iread_fn {l : List UInt8} {p : Nat} (hp : IsAt l p) (hsz' : l.length < 9223372036854775808) : PFn Tryz.prog 43 [Sx l] (iReadA l p) := by
  intro H Q hq
  refine enter43 (by simp) ?_
  simp (disch := first | assumption | (apply Ap.symm; assumption) | omega | decide | (simp only [U_len, List.length_append, List.length_replicate, List.length_cons, List.length_nil, List.length_set] <;> omega) | fail) only [ac43, ↓Xa, Xb, Xc, ↓reduceIte, Nat.reduceLT, Nat.reduceEqDiff, Nat.reduceBEq, Nat.reduceLeDiff, Nat.reduceAdd, Nat.reduceMul]
  refine alloc_i fun p1 hp1 => ?_
  have n1 := hp1
  simp (disch := first | assumption | (apply Ap.symm; assumption) | omega | decide | (simp only [U_len, List.length_append, List.length_replicate, List.length_cons, List.length_nil, List.length_set] <;> omega) | fail) only [↓Xa, Xb, Xc, ↓reduceIte, Nat.reduceLT, Nat.reduceEqDiff, Nat.reduceBEq, Nat.reduceLeDiff, Nat.reduceAdd, Nat.reduceMul]
  refine alloc_i fun p2 hp2 => ?_
  have n2 := hp2
  simp only [upd_none] at n2
  obtain ⟨_, n2⟩ := n2
  have drop : ∀ {x y : ABlk} {r}, SetR Q r H → SetR Q r ((H.upd p1 (some x)).upd p2 (some y)) := fun h => SetR.dropTo (((Le.refl H).upd n1).updB n2) h
  by_cases h1 : 65536 < l.length
  · rw [iReadA, if_pos h1, ← IntA_0] at hq
    simp (disch := first | assumption | (apply Ap.symm; assumption) | omega | decide | (simp only [U_len, List.length_append, List.length_replicate, List.length_cons, List.length_nil, List.length_set] <;> omega) | fail) only [len_Sx, h1, cells_i2, rs43, ↓Xa, Xb, Xc, ↓reduceIte, Nat.reduceLT, Nat.reduceEqDiff, Nat.reduceBEq, Nat.reduceLeDiff, Nat.reduceAdd, Nat.reduceMul]
    exact drop (SetR.now hq)
  rw [iReadA, if_neg h1] at hq
  have hsz : l.length < 9223372036854775807 := by omega
  obtain ⟨hf1, hf2⟩ := iFrom_le l
  have err : (p = iFrom l ∨ p < l.length) → ∀ {x y : ABlk}, SetR Q (.tup [.agg [.bool false, .seq 0 [] true], .agg [.int .i64 ((6 : Nat) : Int), .int .i64 (p : Int)]]) ((H.upd p1 (some x)).upd p2 (some y)) := fun h => by
    rw [if_pos h, ← IntA_0] at hq
    exact drop (SetR.now hq)
  have rest : ∀ {E : Env} {x y : ABlk}, E = [(0, Sx l), (2, .ptr p1 2 0), (3, .ptr p2 2 0), (4, .int .i64 (p : Int)), (5, .int .i64 (iFrom l : Int))] → x = .row 28 0 [.bool false, .seq 0 [] true] → y = .row 71 0 [.int .i64 ((0 : Nat) : Int), .int .i64 ((0 : Nat) : Int)] →
      W Tryz.prog (sndC (sndC (sndC (sndC (sndC (sndC ac43)))))) (retN rs43 Q) ⟨[], E, (H.upd p1 (some x)).upd p2 (some y)⟩ := by
    intro E x y hE hx hy
    subst hE hx hy
    by_cases e1 : p = iFrom l
    · simp (disch := first | assumption | (apply Ap.symm; assumption) | omega | decide | (simp only [U_len, List.length_append, List.length_replicate, List.length_cons, List.length_nil, List.length_set] <;> omega) | fail) only [sndC, ac43, e1, cells_i2, rs43, ↓Xa, Xb, Xc, ↓reduceIte, Nat.reduceLT, Nat.reduceEqDiff, Nat.reduceBEq, Nat.reduceLeDiff, Nat.reduceAdd, Nat.reduceMul]
      rw [← e1]; exact err (.inl e1)
    by_cases e2 : p < l.length
    · simp (disch := first | assumption | (apply Ap.symm; assumption) | omega | decide | (simp only [U_len, List.length_append, List.length_replicate, List.length_cons, List.length_nil, List.length_set] <;> omega) | fail) only [sndC, ac43, e1, e2, len_Sx, cells_i2, rs43, ↓Xa, Xb, Xc, ↓reduceIte, Nat.reduceLT, Nat.reduceEqDiff, Nat.reduceBEq, Nat.reduceLeDiff, Nat.reduceAdd, Nat.reduceMul]
      exact err (.inr e2)
    have hpl : p = l.length := by have := hp.2.1; omega
    rw [if_neg (by omega)] at hq
    have hg := isAt_good (hpl ▸ hp) (by omega)
    simp (disch := first | assumption | (apply Ap.symm; assumption) | omega | decide | (simp only [U_len, List.length_append, List.length_replicate, List.length_cons, List.length_nil, List.length_set] <;> omega) | fail) only [sndC, ac43, e1, e2, len_Sx, slc_SxL, ↓Xa, Xb, Xc, ↓reduceIte, Nat.reduceLT, Nat.reduceEqDiff, Nat.reduceBEq, Nat.reduceLeDiff, Nat.reduceAdd, Nat.reduceMul]
    refine (read_fn (r := .tup [LS (Ma.digs 4294967296 (decV (l.drop (iFrom l)))) true, spot 0 0]) (.inr (.inr (.inr ⟨by simp; omega, hg, rfl⟩))) (by simp; omega)).call ?_
    simp (disch := first | assumption | (apply Ap.symm; assumption) | omega | decide | (simp only [U_len, List.length_append, List.length_replicate, List.length_cons, List.length_nil, List.length_set] <;> omega) | fail) only [spot, ↓Xa, Xb, Xc, ↓reduceIte, Nat.reduceLT, Nat.reduceEqDiff, Nat.reduceBEq, Nat.reduceLeDiff, Nat.reduceAdd, Nat.reduceMul]
    refine alloc_i fun p3 hp3 => ?_
    have n3 := hp3
    simp only [upd_none] at n3
    obtain ⟨_, _, n3⟩ := n3
    simp (disch := first | assumption | (apply Ap.symm; assumption) | omega | decide | (simp only [U_len, List.length_append, List.length_replicate, List.length_cons, List.length_nil, List.length_set] <;> omega) | fail) only [cells_i2, ↓Xa, Xb, Xc, ↓reduceIte, Nat.reduceLT, Nat.reduceEqDiff, Nat.reduceBEq, Nat.reduceLeDiff, Nat.reduceAdd, Nat.reduceMul]
    refine (made_fn (decide (iFrom l = 1)) _ ?_).call ?_
    · have hv : decV (l.drop (iFrom l)) < 4294967296 ^ 8192 := Nat.lt_of_lt_of_le (decV_lt fun b hb => (hg.2.1 b hb).2) (ten_bound (by simp; omega))
      have := (Nm.digs hv).len
      omega
    simp (disch := first | assumption | (apply Ap.symm; assumption) | omega | decide | (simp only [U_len, List.length_append, List.length_replicate, List.length_cons, List.length_nil, List.length_set] <;> omega) | fail) only [cells_i2, cells_IntA, IntB, IntD, rs43, ↓Xa, Xb, Xc, ↓reduceIte, Nat.reduceLT, Nat.reduceEqDiff, Nat.reduceBEq, Nat.reduceLeDiff, Nat.reduceAdd, Nat.reduceMul]
    exact SetR.dropTo ((((Le.refl H).updB n1).updB n2).updB n3) (SetR.now hq)
  have tail : ∀ {E : Env}, E = [(0, Sx l), (2, .ptr p1 2 0), (3, .ptr p2 2 0), (4, .int .i64 (iFrom l : Int))] →
      W Tryz.prog (sndC (sndC (sndC (sndC ac43)))) (retN rs43 Q) ⟨[], E, (H.upd p1 (some (.row 28 0 [.bool false, .seq 0 [] true]))).upd p2 (some (.row 71 0 [.int .i64 ((0 : Nat) : Int), .int .i64 ((0 : Nat) : Int)]))⟩ := by
    intro E hE
    subst hE
    simp (disch := first | assumption | (apply Ap.symm; assumption) | omega | decide | (simp only [U_len, List.length_append, List.length_replicate, List.length_cons, List.length_nil, List.length_set] <;> omega) | fail) only [sndC, ac43, ↓Xa, Xb, Xc, ↓reduceIte, Nat.reduceLT, Nat.reduceEqDiff, Nat.reduceBEq, Nat.reduceLeDiff, Nat.reduceAdd, Nat.reduceMul]
    refine W_loop (fun i : Nat => ⟨[], [(0, Sx l), (2, .ptr p1 2 0), (3, .ptr p2 2 0), (4, .int .i64 (i : Int)), (5, .int .i64 (iFrom l : Int))], (H.upd p1 (some (.row 28 0 [.bool false, .seq 0 [] true]))).upd p2 (some (.row 71 0 [.int .i64 ((0 : Nat) : Int), .int .i64 ((0 : Nat) : Int)]))⟩) (fun i => iFrom l ≤ i ∧ i ≤ l.length ∧ ∀ j, iFrom l ≤ j → j < i → ¬ iBad l j) (fun i => l.length - i) (iFrom l) (Settle.now rfl) ⟨Nat.le_refl _, hf1, fun j h1 h2 => by omega⟩ ?_
    rintro i ⟨hi1, hi2, hi3⟩
    have stop : iBad l i → i = p := fun hb => isAt_fn ⟨hi1, hi2, hb, hi3⟩ hp
    have step : ¬ iBad l i → ∀ j, iFrom l ≤ j → j < i + 1 → ¬ iBad l j := fun hb j h1 hj => by
      by_cases e : j = i
      · rw [e]; exact hb
      · exact hi3 j h1 (by omega)
    by_cases hi : i < l.length
    · by_cases c1 : 48 ≤ (l.getD i 0).toNat
      rotate_left
      · obtain rfl := stop (.inl (by omega))
        simp (disch := first | assumption | (apply Ap.symm; assumption) | omega | decide | (simp only [U_len, List.length_append, List.length_replicate, List.length_cons, List.length_nil, List.length_set] <;> omega) | fail) only [hi, len_Sx, idx_Sx, c1, ↓Xa, Xb, Xc, ↓reduceIte, Nat.reduceLT, Nat.reduceEqDiff, Nat.reduceBEq, Nat.reduceLeDiff, Nat.reduceAdd, Nat.reduceMul]
        refine Settle.keep [0, 2, 3, 4, 5] ?_
        exact rest (by rfl) rfl rfl
      by_cases c2 : (l.getD i 0).toNat ≤ 57
      rotate_left
      · obtain rfl := stop (.inr (.inl (by omega)))
        simp (disch := first | assumption | (apply Ap.symm; assumption) | omega | decide | (simp only [U_len, List.length_append, List.length_replicate, List.length_cons, List.length_nil, List.length_set] <;> omega) | fail) only [hi, len_Sx, idx_Sx, c1, c2, ↓Xa, Xb, Xc, ↓reduceIte, Nat.reduceLT, Nat.reduceEqDiff, Nat.reduceBEq, Nat.reduceLeDiff, Nat.reduceAdd, Nat.reduceMul]
        refine Settle.keep [0, 2, 3, 4, 5] ?_
        exact rest (by rfl) rfl rfl
      by_cases c3 : i = iFrom l + 1
      · have hfl : iFrom l < l.length := by omega
        subst c3
        by_cases c4 : (l.getD (iFrom l) 0).toNat = 48
        · have hip := stop (.inr (.inr (.inl ⟨rfl, c4⟩)))
          have rr := @rest
          rw [← hip] at rr
          simp (disch := first | assumption | (apply Ap.symm; assumption) | omega | decide | (simp only [U_len, List.length_append, List.length_replicate, List.length_cons, List.length_nil, List.length_set] <;> omega) | fail) only [hi, len_Sx, idx_Sx, c1, c2, c4, ↓Xa, Xb, Xc, ↓reduceIte, Nat.reduceLT, Nat.reduceEqDiff, Nat.reduceBEq, Nat.reduceLeDiff, Nat.reduceAdd, Nat.reduceMul]
          refine Settle.keep [0, 2, 3, 4, 5] ?_
          exact rr (by rfl) rfl rfl
        · have c5 : ¬ iFrom l + 1 = iFrom l := by omega
          have nb := step (show ¬ iBad l (iFrom l + 1) by unfold iBad; omega)
          simp (disch := first | assumption | (apply Ap.symm; assumption) | omega | decide | (simp only [U_len, List.length_append, List.length_replicate, List.length_cons, List.length_nil, List.length_set] <;> omega) | fail) only [hi, len_Sx, idx_Sx, c1, c2, c4, c5, ↓Xa, Xb, Xc, ↓reduceIte, Nat.reduceLT, Nat.reduceEqDiff, Nat.reduceBEq, Nat.reduceLeDiff, Nat.reduceAdd, Nat.reduceMul]
          exact Settle.now ⟨iFrom l + 1 + 1, by omega, ⟨by omega, by omega, nb⟩, rfl⟩
      by_cases c5 : i = iFrom l
      · subst c5
        by_cases c6 : iFrom l = 1
        · by_cases c7 : (l.getD (iFrom l) 0).toNat = 48
          · have hip := stop (.inr (.inr (.inr ⟨rfl, c6, c7⟩)))
            have rr := @rest
            rw [← hip] at rr
            rw [c6] at rr hi c1 c2 c3 c7 ⊢
            simp (disch := first | assumption | (apply Ap.symm; assumption) | omega | decide | (simp only [U_len, List.length_append, List.length_replicate, List.length_cons, List.length_nil, List.length_set] <;> omega) | fail) only [hi, len_Sx, idx_Sx, c1, c2, c3, c7, ↓Xa, Xb, Xc, ↓reduceIte, Nat.reduceLT, Nat.reduceEqDiff, Nat.reduceBEq, Nat.reduceLeDiff, Nat.reduceAdd, Nat.reduceMul]
            refine Settle.keep [0, 2, 3, 4, 5] ?_
            exact rr (by rfl) rfl rfl
          · have nb := step (show ¬ iBad l (iFrom l) by unfold iBad; omega)
            rw [c6] at hi c1 c2 c3 c7 nb ⊢
            simp (disch := first | assumption | (apply Ap.symm; assumption) | omega | decide | (simp only [U_len, List.length_append, List.length_replicate, List.length_cons, List.length_nil, List.length_set] <;> omega) | fail) only [hi, len_Sx, idx_Sx, c1, c2, c3, c7, ↓Xa, Xb, Xc, ↓reduceIte, Nat.reduceLT, Nat.reduceEqDiff, Nat.reduceBEq, Nat.reduceLeDiff, Nat.reduceAdd, Nat.reduceMul]
            exact Settle.now ⟨1 + 1, by omega, ⟨by omega, by omega, nb⟩, rfl⟩
        · have nb := step (show ¬ iBad l (iFrom l) by unfold iBad; omega)
          simp (disch := first | assumption | (apply Ap.symm; assumption) | omega | decide | (simp only [U_len, List.length_append, List.length_replicate, List.length_cons, List.length_nil, List.length_set] <;> omega) | fail) only [hi, len_Sx, idx_Sx, c1, c2, c3, c6, ↓Xa, Xb, Xc, ↓reduceIte, Nat.reduceLT, Nat.reduceEqDiff, Nat.reduceBEq, Nat.reduceLeDiff, Nat.reduceAdd, Nat.reduceMul]
          exact Settle.now ⟨iFrom l + 1, by omega, ⟨by omega, by omega, nb⟩, rfl⟩
      · have nb := step (show ¬ iBad l i by unfold iBad; omega)
        simp (disch := first | assumption | (apply Ap.symm; assumption) | omega | decide | (simp only [U_len, List.length_append, List.length_replicate, List.length_cons, List.length_nil, List.length_set] <;> omega) | fail) only [hi, len_Sx, idx_Sx, c1, c2, c3, c5, ↓Xa, Xb, Xc, ↓reduceIte, Nat.reduceLT, Nat.reduceEqDiff, Nat.reduceBEq, Nat.reduceLeDiff, Nat.reduceAdd, Nat.reduceMul]
        exact Settle.now ⟨i + 1, by omega, ⟨by omega, by omega, nb⟩, rfl⟩
    · obtain rfl := stop (.inl (by rw [get_beyond (by omega)]; decide))
      simp (disch := first | assumption | (apply Ap.symm; assumption) | omega | decide | (simp only [U_len, List.length_append, List.length_replicate, List.length_cons, List.length_nil, List.length_set] <;> omega) | fail) only [hi, len_Sx, ↓Xa, Xb, Xc, ↓reduceIte, Nat.reduceLT, Nat.reduceEqDiff, Nat.reduceBEq, Nat.reduceLeDiff, Nat.reduceAdd, Nat.reduceMul]
      refine Settle.keep [0, 2, 3, 4, 5] ?_
      exact rest (by rfl) rfl rfl
  have tl := @tail _ rfl
  by_cases h0 : l = []
  · have hf0 : iFrom l = 0 := by rw [h0]; rfl
    rw [hf0] at tl
    simp (disch := first | assumption | (apply Ap.symm; assumption) | omega | decide | (simp only [U_len, List.length_append, List.length_replicate, List.length_cons, List.length_nil, List.length_set] <;> omega) | fail) only [sndC, ac43, ↓Xa, Xb, Xc, ↓reduceIte, Nat.reduceLT, Nat.reduceEqDiff, Nat.reduceBEq, Nat.reduceLeDiff, Nat.reduceAdd, Nat.reduceMul] at tl
    simp (disch := first | assumption | (apply Ap.symm; assumption) | omega | decide | (simp only [U_len, List.length_append, List.length_replicate, List.length_cons, List.length_nil, List.length_set] <;> omega) | fail) only [len_Sx, h1, str_Sx, neq_Sx, h0, ↓Xa, Xb, Xc, ↓reduceIte, Nat.reduceLT, Nat.reduceEqDiff, Nat.reduceBEq, Nat.reduceLeDiff, Nat.reduceAdd, Nat.reduceMul]
    rw [h0] at tl
    exact tl
  have hpos : 0 < l.length := List.length_pos_iff.2 h0
  by_cases h2 : (l.getD 0 0).toNat = 45
  · have hf0 : iFrom l = 1 := by unfold iFrom; rw [if_pos h2]
    rw [hf0] at tl
    simp (disch := first | assumption | (apply Ap.symm; assumption) | omega | decide | (simp only [U_len, List.length_append, List.length_replicate, List.length_cons, List.length_nil, List.length_set] <;> omega) | fail) only [sndC, ac43, ↓Xa, Xb, Xc, ↓reduceIte, Nat.reduceLT, Nat.reduceEqDiff, Nat.reduceBEq, Nat.reduceLeDiff, Nat.reduceAdd, Nat.reduceMul] at tl
    simp (disch := first | assumption | (apply Ap.symm; assumption) | omega | decide | (simp only [U_len, List.length_append, List.length_replicate, List.length_cons, List.length_nil, List.length_set] <;> omega) | fail) only [len_Sx, h1, str_Sx, neq_Sx, h0, idx_Sx, h2, ↓Xa, Xb, Xc, ↓reduceIte, Nat.reduceLT, Nat.reduceEqDiff, Nat.reduceBEq, Nat.reduceLeDiff, Nat.reduceAdd, Nat.reduceMul]
    exact tl
  · have hf0 : iFrom l = 0 := by unfold iFrom; rw [if_neg h2]
    rw [hf0] at tl
    simp (disch := first | assumption | (apply Ap.symm; assumption) | omega | decide | (simp only [U_len, List.length_append, List.length_replicate, List.length_cons, List.length_nil, List.length_set] <;> omega) | fail) only [sndC, ac43, ↓Xa, Xb, Xc, ↓reduceIte, Nat.reduceLT, Nat.reduceEqDiff, Nat.reduceBEq, Nat.reduceLeDiff, Nat.reduceAdd, Nat.reduceMul] at tl
    simp (disch := first | assumption | (apply Ap.symm; assumption) | omega | decide | (simp only [U_len, List.length_append, List.length_replicate, List.length_cons, List.length_nil, List.length_set] <;> omega) | fail) only [len_Sx, h1, str_Sx, neq_Sx, h0, idx_Sx, h2, ↓Xa, Xb, Xc, ↓reduceIte, Nat.reduceLT, Nat.reduceEqDiff, Nat.reduceBEq, Nat.reduceLeDiff, Nat.reduceAdd, Nat.reduceMul]
    exact tl
end Go.Proofs.YtanchgkiomfhhaaGreatDoor.Fw

/- A whole number's text, as the reference of layer 2 reads it. -/
namespace Go.Proofs.YtanchgkiomfhhaaGreatDoor.Fw
set_option linter.unusedSimpArgs false
set_option linter.unusedVariables false
open Go Go.Proofs.YtanchgkiomfhhaaGreatDoor.Ma
set_option maxRecDepth 20000

theorem RefA_nat {n : Nat} {t : Bool} : AV.agg [.bool false, LS (digs 65536 n) t] = RefA (n : Int) t := by
  have : ¬ (n : Int) < 0 := by omega
  simp [RefA, this]
theorem cells_RefN {n : Nat} {t : Bool} : (RefA (n : Int) t).cells = some [.bool false, LS (digs 65536 n) t] := by rw [← RefA_nat]; rfl
theorem decV_take {l : List UInt8} {i : Nat} (h : i < l.length) : decV (l.take (i + 1)) = decV (l.take i) * 10 + ((l.getD i 0).toNat - 48) := by
  have : l.take (i + 1) = l.take i ++ [l.getD i 0] := by
    rw [List.take_add_one, List.getElem?_eq_getElem h, List.getD_eq_getElem?_getD, List.getElem?_eq_getElem h]; rfl
  rw [this, decV_app, decV_one]; simp; omega
/-- What the reference answers of a text. -/
def rReadA (l : List UInt8) (p : Nat) : AV := if p = iFrom l ∨ p < l.length then .tup [RefA 0 true, .int .i64 (p : Int)] else .tup [RefA (iVal l) false, .int .i64 (-1)]
set_option maxHeartbeats 2000000 in
theorem rread_fn {l : List UInt8} {p : Nat} (hp : IsAt l p) (hsz : l.length ≤ 65536) : PFn Tryz.prog 42 [Sx l] (rReadA l p) := by
  intro H Q hq
  obtain ⟨hf1, hf2⟩ := iFrom_le l
  refine enter42 (by simp) ?_
  simp (disch := first | assumption | (apply Ap.symm; assumption) | omega | decide | (simp only [U_len, List.length_append, List.length_replicate, List.length_cons, List.length_nil, List.length_set] <;> omega) | fail) only [ac42, ↓Xa, Xb, Xc, ↓reduceIte, Nat.reduceLT, Nat.reduceEqDiff, Nat.reduceBEq, Nat.reduceLeDiff, Nat.reduceAdd, Nat.reduceMul]
  refine alloc_i fun p1 hp1 => ?_
  have n1 := hp1
  simp (disch := first | assumption | (apply Ap.symm; assumption) | omega | decide | (simp only [U_len, List.length_append, List.length_replicate, List.length_cons, List.length_nil, List.length_set] <;> omega) | fail) only [↓Xa, Xb, Xc, ↓reduceIte, Nat.reduceLT, Nat.reduceEqDiff, Nat.reduceBEq, Nat.reduceLeDiff, Nat.reduceAdd, Nat.reduceMul]
  have early : (p = iFrom l ∨ p < l.length) → SetR Q (.tup [.agg [.bool false, .seq 0 [] true], .int .i64 (p : Int)]) (H.upd p1 (some (.row 30 0 [.bool false, .seq 0 [] true]))) := fun h => by
    rw [rReadA, if_pos h, ← RefA_0t] at hq
    exact SetR.dropTo ((Le.refl H).updB n1) (SetR.now hq)
  have loop : iFrom l < l.length → ¬ (iFrom l = 1 ∧ (l.getD (iFrom l) 0).toNat = 48) → ∀ {E : Env}, E = [(0, Sx l), (2, .ptr p1 2 0), (4, .int .i64 (iFrom l : Int))] →
      W Tryz.prog (sndC (sndC (sndC (sndC ac42)))) (retN rs42 Q) ⟨[], E, H.upd p1 (some (.row 30 0 [.bool false, .seq 0 [] true]))⟩ := by
    intro h0l c3 E hE
    subst hE
    simp (disch := first | assumption | (apply Ap.symm; assumption) | omega | decide | (simp only [U_len, List.length_append, List.length_replicate, List.length_cons, List.length_nil, List.length_set] <;> omega) | fail) only [sndC, ac42, ↓Xa, Xb, Xc, ↓reduceIte, Nat.reduceLT, Nat.reduceEqDiff, Nat.reduceBEq, Nat.reduceLeDiff, Nat.reduceAdd, Nat.reduceMul]
    refine alloc_i fun p2 hp2 => ?_
    have n2 := hp2
    simp only [upd_none] at n2
    obtain ⟨_, n2⟩ := n2
    simp (disch := first | assumption | (apply Ap.symm; assumption) | omega | decide | (simp only [U_len, List.length_append, List.length_replicate, List.length_cons, List.length_nil, List.length_set] <;> omega) | fail) only [↓Xa, Xb, Xc, ↓reduceIte, Nat.reduceLT, Nat.reduceEqDiff, Nat.reduceBEq, Nat.reduceLeDiff, Nat.reduceAdd, Nat.reduceMul]
    refine W_loop (fun s : Nat × Bool => ⟨[], [(0, Sx l), (2, .ptr p1 2 0), (4, .int .i64 (iFrom l : Int)), (5, .ptr p2 2 0), (6, .int .i64 ((iFrom l + s.1 : Nat) : Int))], (H.upd p1 (some (.row 30 0 [.bool false, .seq 0 [] true]))).upd p2 (some (.row 30 0 [.bool false, LS (digs 65536 (decV ((l.drop (iFrom l)).take s.1))) s.2]))⟩)
      (fun s => iFrom l + s.1 ≤ l.length ∧ ∀ j, iFrom l ≤ j → j < iFrom l + s.1 → ¬ iBad l j) (fun s => l.length - (iFrom l + s.1)) (0, true) (Settle.now ?_) ⟨hf1, fun j h1 h2 => by dsimp only at h2; omega⟩ ?_
    · simp [decV, decF, digs_zero, LS, U]
    rintro ⟨i, t⟩ ⟨hi1, hi2⟩
    dsimp only at hi1 hi2 ⊢
    obtain ⟨q, hq'⟩ : ∃ q, q = iFrom l + i := ⟨_, rfl⟩
    rw [← hq'] at hi1 hi2 ⊢
    have stop : iBad l q → q = p := fun hb => isAt_fn ⟨by omega, hi1, hb, hi2⟩ hp
    have out : ∀ {x : ABlk}, q = p → q < l.length → SetR Q (.tup [.agg [.bool false, .seq 0 [] true], .int .i64 (q : Int)]) ((H.upd p1 (some (.row 30 0 [.bool false, .seq 0 [] true]))).upd p2 (some x)) := fun e h => by
      rw [e]; exact SetR.dropTo ((Le.refl _).upd hp2) (early (.inr (e ▸ h)))
    have hb1 : Bd 8192 ((decV ((l.drop (iFrom l)).take i) : Nat) : Int) := by
      unfold Bd
      rw [Int.natAbs_natCast]
      refine Nat.lt_of_lt_of_le (decV_lt fun b hb => ?_) (ten_bound (by simp; omega))
      obtain ⟨k, hk, rfl⟩ := List.getElem_of_mem hb
      simp only [List.length_take, List.length_drop] at hk
      have := hi2 (iFrom l + k) (by omega) (by omega)
      unfold iBad at this
      simp only [List.getElem_take, List.getElem_drop]
      have e : l.getD (iFrom l + k) 0 = l[iFrom l + k] := by rw [List.getD_eq_getElem?_getD, List.getElem?_eq_getElem (by omega), Option.getD_some]
      rw [e] at this; omega
    by_cases h : q < l.length
    · by_cases d1 : (l.getD q 0).toNat < 48
      · simp (disch := first | assumption | (apply Ap.symm; assumption) | omega | decide | (simp only [U_len, List.length_append, List.length_replicate, List.length_cons, List.length_nil, List.length_set] <;> omega) | fail) only [h, len_Sx, idx_Sx, d1, rs42, ↓Xa, Xb, Xc, ↓reduceIte, Nat.reduceLT, Nat.reduceEqDiff, Nat.reduceBEq, Nat.reduceLeDiff, Nat.reduceAdd, Nat.reduceMul]
        exact out (stop (.inl d1)) h
      by_cases d2 : 57 < (l.getD q 0).toNat
      · simp (disch := first | assumption | (apply Ap.symm; assumption) | omega | decide | (simp only [U_len, List.length_append, List.length_replicate, List.length_cons, List.length_nil, List.length_set] <;> omega) | fail) only [h, len_Sx, idx_Sx, d1, d2, rs42, ↓Xa, Xb, Xc, ↓reduceIte, Nat.reduceLT, Nat.reduceEqDiff, Nat.reduceBEq, Nat.reduceLeDiff, Nat.reduceAdd, Nat.reduceMul]
        exact out (stop (.inr (.inl d2))) h
      have nxt : ¬ iBad l q → ∀ j, iFrom l ≤ j → j < iFrom l + (i + 1) → ¬ iBad l j := fun hb j h1 hj => by
        by_cases e : j = q
        · rw [e]; exact hb
        · exact hi2 j h1 (by omega)
      have hx : iFrom l + i < l.length := by omega
      have hdr : i < (l.drop (iFrom l)).length := by simp; omega
      have eg : (l.drop (iFrom l)).getD i 0 = l.getD q 0 := by rw [hq']; simp [List.getD_eq_getElem?_getD]
      have hsucc := decV_take hdr
      rw [eg] at hsucc
      have hx2 : (l.getD q 0).toNat < 256 := UInt8.toNat_lt _
      have hsum : ((decV ((l.drop (iFrom l)).take i) : Nat) : Int) * ((10 : Nat) : Int) + (((l.getD q 0).toNat - 48 : Nat) : Int) = ((decV ((l.drop (iFrom l)).take (i + 1)) : Nat) : Int) := by rw [hsucc]; push_cast; rfl
      have hres : ∀ {x : ABlk} {v' : Nat}, v' = decV ((l.drop (iFrom l)).take (i + 1)) → (∀ j, iFrom l ≤ j → j < iFrom l + (i + 1) → ¬ iBad l j) → x = .row 30 0 [.bool false, LS (digs 65536 v') false] →
          Settle (fun s' => ∃ x' : Nat × Bool, l.length - (iFrom l + x'.1) < l.length - q ∧ (iFrom l + x'.1 ≤ l.length ∧ ∀ j, iFrom l ≤ j → j < iFrom l + x'.1 → ¬ iBad l j) ∧ s' = ⟨[], [(0, Sx l), (2, .ptr p1 2 0), (4, .int .i64 (iFrom l : Int)), (5, .ptr p2 2 0), (6, .int .i64 ((iFrom l + x'.1 : Nat) : Int))], (H.upd p1 (some (.row 30 0 [.bool false, .seq 0 [] true]))).upd p2 (some (.row 30 0 [.bool false, LS (digs 65536 (decV ((l.drop (iFrom l)).take x'.1))) x'.2]))⟩)
            ⟨[], [(0, Sx l), (2, .ptr p1 2 0), (4, .int .i64 (iFrom l : Int)), (5, .ptr p2 2 0), (6, .int .i64 ((q + 1 : Nat) : Int))], (H.upd p1 (some (.row 30 0 [.bool false, .seq 0 [] true]))).upd p2 (some x)⟩ := by
        rintro x v' rfl h1 rfl
        refine Settle.now ⟨(i + 1, false), by dsimp only; omega, ⟨by dsimp only; omega, h1⟩, ?_⟩
        rw [hq', Nat.add_assoc]
      generalize decV ((l.drop (iFrom l)).take (i + 1)) = w at *
      generalize decV ((l.drop (iFrom l)).take i) = v at *
      have nb0 : (q = iFrom l + 1 → (l.getD (iFrom l) 0).toNat ≠ 48) → ¬ iBad l q := fun k hb => by
        rcases hb with hb | hb | ⟨e1, e2⟩ | ⟨e1, e2, e3⟩
        · omega
        · omega
        · exact k e1 e2
        · exact c3 ⟨e2, e1 ▸ e3⟩
      by_cases d3 : q = iFrom l + 1
      · subst d3
        by_cases d4 : (l.getD (iFrom l) 0).toNat = 48
        · simp (disch := first | assumption | (apply Ap.symm; assumption) | omega | decide | (simp only [U_len, List.length_append, List.length_replicate, List.length_cons, List.length_nil, List.length_set] <;> omega) | fail) only [h, len_Sx, idx_Sx, d1, d2, d4, rs42, ↓Xa, Xb, Xc, ↓reduceIte, Nat.reduceLT, Nat.reduceEqDiff, Nat.reduceBEq, Nat.reduceLeDiff, Nat.reduceAdd, Nat.reduceMul]
          exact out (stop (.inr (.inr (.inl ⟨rfl, d4⟩)))) h
        have nb := nb0 fun _ => d4
        simp (disch := first | assumption | (apply Ap.symm; assumption) | omega | decide | (simp only [U_len, List.length_append, List.length_replicate, List.length_cons, List.length_nil, List.length_set] <;> omega) | fail) only [h, len_Sx, idx_Sx, d1, d2, d4, RefA_nat, ↓Xa, Xb, Xc, ↓reduceIte, Nat.reduceLT, Nat.reduceEqDiff, Nat.reduceBEq, Nat.reduceLeDiff, Nat.reduceAdd, Nat.reduceMul]
        refine PFn.dcall (rof_fn (n := ((10 : Nat) : Int)) (by omega)) ?_
        simp (disch := first | assumption | (apply Ap.symm; assumption) | omega | decide | (simp only [U_len, List.length_append, List.length_replicate, List.length_cons, List.length_nil, List.length_set] <;> omega) | fail) only [↓Xa, Xb, Xc, ↓reduceIte, Nat.reduceLT, Nat.reduceEqDiff, Nat.reduceBEq, Nat.reduceLeDiff, Nat.reduceAdd, Nat.reduceMul]
        refine PFn.dcall (rmuli_fn t false hb1 (by omega) (Bd.i64 (n := ((10 : Nat) : Int)) (by omega)) (by omega)) ?_
        simp (disch := first | assumption | (apply Ap.symm; assumption) | omega | decide | (simp only [U_len, List.length_append, List.length_replicate, List.length_cons, List.length_nil, List.length_set] <;> omega) | fail) only [idx_Sx, ↓Xa, Xb, Xc, ↓reduceIte, Nat.reduceLT, Nat.reduceEqDiff, Nat.reduceBEq, Nat.reduceLeDiff, Nat.reduceAdd, Nat.reduceMul]
        refine (rof_fn (by omega)).call ?_
        simp (disch := first | assumption | (apply Ap.symm; assumption) | omega | decide | (simp only [U_len, List.length_append, List.length_replicate, List.length_cons, List.length_nil, List.length_set] <;> omega) | fail) only [↓Xa, Xb, Xc, ↓reduceIte, Nat.reduceLT, Nat.reduceEqDiff, Nat.reduceBEq, Nat.reduceLeDiff, Nat.reduceAdd, Nat.reduceMul]
        refine (raddi_fn false false (hb1.mul (Bd.i64 (n := ((10 : Nat) : Int)) (by omega))) (by omega) (Bd.i64 (by omega)) (by omega)).call ?_
        rw [hsum]
        simp (disch := first | assumption | (apply Ap.symm; assumption) | omega | decide | (simp only [U_len, List.length_append, List.length_replicate, List.length_cons, List.length_nil, List.length_set] <;> omega) | fail) only [cells_RefN, ↓Xa, Xb, Xc, ↓reduceIte, Nat.reduceLT, Nat.reduceEqDiff, Nat.reduceBEq, Nat.reduceLeDiff, Nat.reduceAdd, Nat.reduceMul]
        exact hres rfl (nxt nb) rfl
      · have nb := nb0 fun e => absurd e d3
        simp (disch := first | assumption | (apply Ap.symm; assumption) | omega | decide | (simp only [U_len, List.length_append, List.length_replicate, List.length_cons, List.length_nil, List.length_set] <;> omega) | fail) only [h, len_Sx, idx_Sx, d1, d2, d3, RefA_nat, ↓Xa, Xb, Xc, ↓reduceIte, Nat.reduceLT, Nat.reduceEqDiff, Nat.reduceBEq, Nat.reduceLeDiff, Nat.reduceAdd, Nat.reduceMul]
        refine PFn.dcall (rof_fn (n := ((10 : Nat) : Int)) (by omega)) ?_
        simp (disch := first | assumption | (apply Ap.symm; assumption) | omega | decide | (simp only [U_len, List.length_append, List.length_replicate, List.length_cons, List.length_nil, List.length_set] <;> omega) | fail) only [↓Xa, Xb, Xc, ↓reduceIte, Nat.reduceLT, Nat.reduceEqDiff, Nat.reduceBEq, Nat.reduceLeDiff, Nat.reduceAdd, Nat.reduceMul]
        refine PFn.dcall (rmuli_fn t false hb1 (by omega) (Bd.i64 (n := ((10 : Nat) : Int)) (by omega)) (by omega)) ?_
        simp (disch := first | assumption | (apply Ap.symm; assumption) | omega | decide | (simp only [U_len, List.length_append, List.length_replicate, List.length_cons, List.length_nil, List.length_set] <;> omega) | fail) only [idx_Sx, ↓Xa, Xb, Xc, ↓reduceIte, Nat.reduceLT, Nat.reduceEqDiff, Nat.reduceBEq, Nat.reduceLeDiff, Nat.reduceAdd, Nat.reduceMul]
        refine (rof_fn (by omega)).call ?_
        simp (disch := first | assumption | (apply Ap.symm; assumption) | omega | decide | (simp only [U_len, List.length_append, List.length_replicate, List.length_cons, List.length_nil, List.length_set] <;> omega) | fail) only [↓Xa, Xb, Xc, ↓reduceIte, Nat.reduceLT, Nat.reduceEqDiff, Nat.reduceBEq, Nat.reduceLeDiff, Nat.reduceAdd, Nat.reduceMul]
        refine (raddi_fn false false (hb1.mul (Bd.i64 (n := ((10 : Nat) : Int)) (by omega))) (by omega) (Bd.i64 (by omega)) (by omega)).call ?_
        rw [hsum]
        simp (disch := first | assumption | (apply Ap.symm; assumption) | omega | decide | (simp only [U_len, List.length_append, List.length_replicate, List.length_cons, List.length_nil, List.length_set] <;> omega) | fail) only [cells_RefN, ↓Xa, Xb, Xc, ↓reduceIte, Nat.reduceLT, Nat.reduceEqDiff, Nat.reduceBEq, Nat.reduceLeDiff, Nat.reduceAdd, Nat.reduceMul]
        exact hres rfl (nxt nb) rfl
    · have e : q = l.length := by omega
      have e2 := stop (by rw [e]; exact iBad_end l)
      simp (disch := first | assumption | (apply Ap.symm; assumption) | omega | decide | (simp only [U_len, List.length_append, List.length_replicate, List.length_cons, List.length_nil, List.length_set] <;> omega) | fail) only [h, len_Sx, ↓Xa, Xb, Xc, ↓reduceIte, Nat.reduceLT, Nat.reduceEqDiff, Nat.reduceBEq, Nat.reduceLeDiff, Nat.reduceAdd, Nat.reduceMul]
      refine Settle.now ?_
      simp (disch := first | assumption | (apply Ap.symm; assumption) | omega | decide | (simp only [U_len, List.length_append, List.length_replicate, List.length_cons, List.length_nil, List.length_set] <;> omega) | fail) only [↓Xa, Xb, Xc, ↓reduceIte, Nat.reduceLT, Nat.reduceEqDiff, Nat.reduceBEq, Nat.reduceLeDiff, Nat.reduceAdd, Nat.reduceMul]
      refine (rnorm_fn (decide (iFrom l = 1)) t (lim_digs (by omega) _) ?_).call ?_
      · have := hb1.rlen; rw [Int.natAbs_natCast] at this; omega
      rw [val_digs (by omega)]
      simp (disch := first | assumption | (apply Ap.symm; assumption) | omega | decide | (simp only [U_len, List.length_append, List.length_replicate, List.length_cons, List.length_nil, List.length_set] <;> omega) | fail) only [cells_RefA, rs42, ↓Xa, Xb, Xc, ↓reduceIte, Nat.reduceLT, Nat.reduceEqDiff, Nat.reduceBEq, Nat.reduceLeDiff, Nat.reduceAdd, Nat.reduceMul]
      have e3 : (l.drop (iFrom l)).take i = l.drop (iFrom l) := List.take_of_length_le (by simp; omega)
      rw [e3]
      rw [rReadA, if_neg (by omega)] at hq
      exact SetR.dropTo (((Le.refl H).updB n1).updB n2) (SetR.now hq)
  have tail : ∀ {E : Env}, (E = [(0, Sx l), (2, .ptr p1 2 0), (4, .int .i64 (iFrom l : Int))] ∨ E = [(0, Sx l), (2, .ptr p1 2 0), (4, .int .i64 (iFrom l : Int)), (14, .bool false)]) →
      W Tryz.prog (sndC (sndC (sndC ac42))) (retN rs42 Q) ⟨[], E, H.upd p1 (some (.row 30 0 [.bool false, .seq 0 [] true]))⟩ := by
    intro E hE
    rcases hE with rfl | rfl
    all_goals
     by_cases c0 : l.length ≤ iFrom l
     · have e : p = iFrom l := by have := hp.1; have := hp.2.1; omega
       simp (disch := first | assumption | (apply Ap.symm; assumption) | omega | decide | (simp only [U_len, List.length_append, List.length_replicate, List.length_cons, List.length_nil, List.length_set] <;> omega) | fail) only [sndC, ac42, len_Sx, c0, rs42, ↓Xa, Xb, Xc, ↓reduceIte, Nat.reduceLT, Nat.reduceEqDiff, Nat.reduceBEq, Nat.reduceLeDiff, Nat.reduceAdd, Nat.reduceMul]
       rw [← e]; exact early (.inl e)
     have hat : iBad l (iFrom l) → p = iFrom l := fun hb => isAt_fn hp ⟨Nat.le_refl _, hf1, hb, fun j h1 h2 => by omega⟩
     have h0l : iFrom l < l.length := by omega
     by_cases c1 : (l.getD (iFrom l) 0).toNat < 48
     · have e := hat (.inl c1)
       simp (disch := first | assumption | (apply Ap.symm; assumption) | omega | decide | (simp only [U_len, List.length_append, List.length_replicate, List.length_cons, List.length_nil, List.length_set] <;> omega) | fail) only [sndC, ac42, len_Sx, idx_Sx, c0, c1, rs42, ↓Xa, Xb, Xc, ↓reduceIte, Nat.reduceLT, Nat.reduceEqDiff, Nat.reduceBEq, Nat.reduceLeDiff, Nat.reduceAdd, Nat.reduceMul]
       rw [← e]; exact early (.inl e)
     by_cases c2 : 57 < (l.getD (iFrom l) 0).toNat
     · have e := hat (.inr (.inl c2))
       simp (disch := first | assumption | (apply Ap.symm; assumption) | omega | decide | (simp only [U_len, List.length_append, List.length_replicate, List.length_cons, List.length_nil, List.length_set] <;> omega) | fail) only [sndC, ac42, len_Sx, idx_Sx, c0, c1, c2, rs42, ↓Xa, Xb, Xc, ↓reduceIte, Nat.reduceLT, Nat.reduceEqDiff, Nat.reduceBEq, Nat.reduceLeDiff, Nat.reduceAdd, Nat.reduceMul]
       rw [← e]; exact early (.inl e)
     by_cases c3 : iFrom l = 1
     · rw [c3] at h0l c0 c1 c2 ⊢
       by_cases c4 : (l.getD 1 0).toNat = 48
       · have e := hat (.inr (.inr (.inr ⟨rfl, c3, by rw [c3]; exact c4⟩)))
         simp (disch := first | assumption | (apply Ap.symm; assumption) | omega | decide | (simp only [U_len, List.length_append, List.length_replicate, List.length_cons, List.length_nil, List.length_set] <;> omega) | fail) only [sndC, ac42, len_Sx, idx_Sx, c0, c1, c2, c4, rs42, ↓Xa, Xb, Xc, ↓reduceIte, Nat.reduceLT, Nat.reduceEqDiff, Nat.reduceBEq, Nat.reduceLeDiff, Nat.reduceAdd, Nat.reduceMul]
         have := early (.inl e)
         rw [e, c3] at this; exact this
       · have lp := loop (by omega) (fun h => c4 (by have := h.2; rwa [c3] at this)) rfl
         rw [c3] at lp
         simp (disch := first | assumption | (apply Ap.symm; assumption) | omega | decide | (simp only [U_len, List.length_append, List.length_replicate, List.length_cons, List.length_nil, List.length_set] <;> omega) | fail) only [sndC, ac42, ↓Xa, Xb, Xc, ↓reduceIte, Nat.reduceLT, Nat.reduceEqDiff, Nat.reduceBEq, Nat.reduceLeDiff, Nat.reduceAdd, Nat.reduceMul] at lp
         simp (disch := first | assumption | (apply Ap.symm; assumption) | omega | decide | (simp only [U_len, List.length_append, List.length_replicate, List.length_cons, List.length_nil, List.length_set] <;> omega) | fail) only [sndC, ac42, len_Sx, idx_Sx, c0, c1, c2, c4, ↓Xa, Xb, Xc, ↓reduceIte, Nat.reduceLT, Nat.reduceEqDiff, Nat.reduceBEq, Nat.reduceLeDiff, Nat.reduceAdd, Nat.reduceMul]
         exact lp
     · have lp := loop h0l (fun h => c3 h.1) rfl
       simp (disch := first | assumption | (apply Ap.symm; assumption) | omega | decide | (simp only [U_len, List.length_append, List.length_replicate, List.length_cons, List.length_nil, List.length_set] <;> omega) | fail) only [sndC, ac42, ↓Xa, Xb, Xc, ↓reduceIte, Nat.reduceLT, Nat.reduceEqDiff, Nat.reduceBEq, Nat.reduceLeDiff, Nat.reduceAdd, Nat.reduceMul] at lp
       simp (disch := first | assumption | (apply Ap.symm; assumption) | omega | decide | (simp only [U_len, List.length_append, List.length_replicate, List.length_cons, List.length_nil, List.length_set] <;> omega) | fail) only [sndC, ac42, len_Sx, idx_Sx, c0, c1, c2, c3, ↓Xa, Xb, Xc, ↓reduceIte, Nat.reduceLT, Nat.reduceEqDiff, Nat.reduceBEq, Nat.reduceLeDiff, Nat.reduceAdd, Nat.reduceMul]
       exact lp
  by_cases h0 : l = []
  · have tl := @tail _ (.inr rfl)
    have hf0 : iFrom l = 0 := by rw [h0]; rfl
    rw [hf0] at tl
    rw [h0] at tl
    simp (disch := first | assumption | (apply Ap.symm; assumption) | omega | decide | (simp only [U_len, List.length_append, List.length_replicate, List.length_cons, List.length_nil, List.length_set] <;> omega) | fail) only [sndC, ac42, len_Sx, List.length_nil, ↓Xa, Xb, Xc, ↓reduceIte, Nat.reduceLT, Nat.reduceEqDiff, Nat.reduceBEq, Nat.reduceLeDiff, Nat.reduceAdd, Nat.reduceMul] at tl
    simp (disch := first | assumption | (apply Ap.symm; assumption) | omega | decide | (simp only [U_len, List.length_append, List.length_replicate, List.length_cons, List.length_nil, List.length_set] <;> omega) | fail) only [len_Sx, h0, List.length_nil, ↓Xa, Xb, Xc, ↓reduceIte, Nat.reduceLT, Nat.reduceEqDiff, Nat.reduceBEq, Nat.reduceLeDiff, Nat.reduceAdd, Nat.reduceMul]
    exact tl
  have hpos : 0 < l.length := List.length_pos_iff.2 h0
  by_cases h2 : (l.getD 0 0).toNat = 45
  · have tl := @tail _ (.inl rfl)
    have hf0 : iFrom l = 1 := by unfold iFrom; rw [if_pos h2]
    rw [hf0] at tl
    simp (disch := first | assumption | (apply Ap.symm; assumption) | omega | decide | (simp only [U_len, List.length_append, List.length_replicate, List.length_cons, List.length_nil, List.length_set] <;> omega) | fail) only [sndC, ac42, len_Sx, hpos, idx_Sx, h2, ↓Xa, Xb, Xc, ↓reduceIte, Nat.reduceLT, Nat.reduceEqDiff, Nat.reduceBEq, Nat.reduceLeDiff, Nat.reduceAdd, Nat.reduceMul] at tl
    simp (disch := first | assumption | (apply Ap.symm; assumption) | omega | decide | (simp only [U_len, List.length_append, List.length_replicate, List.length_cons, List.length_nil, List.length_set] <;> omega) | fail) only [len_Sx, hpos, idx_Sx, h2, ↓Xa, Xb, Xc, ↓reduceIte, Nat.reduceLT, Nat.reduceEqDiff, Nat.reduceBEq, Nat.reduceLeDiff, Nat.reduceAdd, Nat.reduceMul]
    exact tl
  · have tl := @tail _ (.inr rfl)
    have hf0 : iFrom l = 0 := by unfold iFrom; rw [if_neg h2]
    rw [hf0] at tl
    simp (disch := first | assumption | (apply Ap.symm; assumption) | omega | decide | (simp only [U_len, List.length_append, List.length_replicate, List.length_cons, List.length_nil, List.length_set] <;> omega) | fail) only [sndC, ac42, len_Sx, hpos, idx_Sx, h2, ↓Xa, Xb, Xc, ↓reduceIte, Nat.reduceLT, Nat.reduceEqDiff, Nat.reduceBEq, Nat.reduceLeDiff, Nat.reduceAdd, Nat.reduceMul] at tl
    simp (disch := first | assumption | (apply Ap.symm; assumption) | omega | decide | (simp only [U_len, List.length_append, List.length_replicate, List.length_cons, List.length_nil, List.length_set] <;> omega) | fail) only [len_Sx, hpos, idx_Sx, h2, ↓Xa, Xb, Xc, ↓reduceIte, Nat.reduceLT, Nat.reduceEqDiff, Nat.reduceBEq, Nat.reduceLeDiff, Nat.reduceAdd, Nat.reduceMul]
    exact tl
end Go.Proofs.YtanchgkiomfhhaaGreatDoor.Fw

/- Fractions: what the laws' own helpers answer. -/
namespace Go.Proofs.YtanchgkiomfhhaaGreatDoor.Fw
set_option linter.unusedSimpArgs false
set_option linter.unusedVariables false
open Go Go.Proofs.YtanchgkiomfhhaaGreatDoor.Ma
set_option maxRecDepth 20000

/-- A fraction's text. -/
def qText (q : QQ) : List UInt8 := iText q.num ++ (if q.den = 1 then [] else 47 :: iText (q.den : Int))
theorem iText_len {x : Int} {k : Nat} (h : Bd k x) : (iText x).length ≤ 10 * k + 2 := by
  have := decT_bd h
  unfold iText; split <;> simp <;> omega
theorem rtextq_fn {q : QQ} {k : Nat} (hb : RB k q) (hk : k ≤ 1000000) : PFn Tryz.prog 23 [RatA q] (Sx (qText q)) := by
  intro H Q hq
  have l1 := iText_len hb.1
  have l2 := iText_len hb.2
  refine enter23 (by simp) ?_
  simp (disch := first | assumption | (apply Ap.symm; assumption) | omega | decide | (simp only [U_len, List.length_append, List.length_replicate, List.length_cons, List.length_nil, List.length_set] <;> omega) | fail) only [ac23, cells_RatA, ↓Xa, Xb, Xc, ↓reduceIte, Nat.reduceLT, Nat.reduceEqDiff, Nat.reduceBEq, Nat.reduceLeDiff, Nat.reduceAdd, Nat.reduceMul]
  refine alloc_i fun p1 hp1 => ?_
  have n1 := hp1
  simp (disch := first | assumption | (apply Ap.symm; assumption) | omega | decide | (simp only [U_len, List.length_append, List.length_replicate, List.length_cons, List.length_nil, List.length_set] <;> omega) | fail) only [fold_IntA, ↓Xa, Xb, Xc, ↓reduceIte, Nat.reduceLT, Nat.reduceEqDiff, Nat.reduceBEq, Nat.reduceLeDiff, Nat.reduceAdd, Nat.reduceMul]
  refine (itext_fn hb.1 hk).call ?_
  simp (disch := first | assumption | (apply Ap.symm; assumption) | omega | decide | (simp only [U_len, List.length_append, List.length_replicate, List.length_cons, List.length_nil, List.length_set] <;> omega) | fail) only [fold_Raw, fold_RatA, ↓Xa, Xb, Xc, ↓reduceIte, Nat.reduceLT, Nat.reduceEqDiff, Nat.reduceBEq, Nat.reduceLeDiff, Nat.reduceAdd, Nat.reduceMul]
  refine (rwhole_fn hb hk).call ?_
  by_cases h : q.den = 1
  · rw [qText, if_pos h, List.append_nil] at hq
    simp (disch := first | assumption | (apply Ap.symm; assumption) | omega | decide | (simp only [U_len, List.length_append, List.length_replicate, List.length_cons, List.length_nil, List.length_set] <;> omega) | fail) only [decide_eq_true h, rs23, ↓Xa, Xb, Xc, ↓reduceIte, Nat.reduceLT, Nat.reduceEqDiff, Nat.reduceBEq, Nat.reduceLeDiff, Nat.reduceAdd, Nat.reduceMul]
    exact SetR.dropTo ((Le.refl H).updB n1) (SetR.now hq)
  · rw [qText, if_neg h] at hq
    simp (disch := first | assumption | (apply Ap.symm; assumption) | omega | decide | (simp only [U_len, List.length_append, List.length_replicate, List.length_cons, List.length_nil, List.length_set] <;> omega) | fail) only [decide_eq_false h, fold_Raw, fold_RatA, ↓Xa, Xb, Xc, ↓reduceIte, Nat.reduceLT, Nat.reduceEqDiff, Nat.reduceBEq, Nat.reduceLeDiff, Nat.reduceAdd, Nat.reduceMul]
    refine (rden_fn hb hk).call ?_
    simp (disch := first | assumption | (apply Ap.symm; assumption) | omega | decide | (simp only [U_len, List.length_append, List.length_replicate, List.length_cons, List.length_nil, List.length_set] <;> omega) | fail) only [↓Xa, Xb, Xc, ↓reduceIte, Nat.reduceLT, Nat.reduceEqDiff, Nat.reduceBEq, Nat.reduceLeDiff, Nat.reduceAdd, Nat.reduceMul]
    refine (itext_fn hb.2 hk).call ?_
    have s1 : AV.str ⟨#[47]⟩ = Sx [47] := rfl
    have e1 : ∀ K, binW .add (Sx [47]) (Sx (iText (q.den : Int))) K = K (Sx (47 :: iText (q.den : Int))) := fun K => add_Sx (by simp; omega)
    have e2 : ∀ K, binW .add (Sx (iText q.num)) (Sx (47 :: iText (q.den : Int))) K = K (Sx (iText q.num ++ 47 :: iText (q.den : Int))) := fun K => add_Sx (by simp; omega)
    simp (disch := first | assumption | (apply Ap.symm; assumption) | omega | decide | (simp only [U_len, List.length_append, List.length_replicate, List.length_cons, List.length_nil, List.length_set] <;> omega) | fail) only [s1, e1, e2, rs23, ↓Xa, Xb, Xc, ↓reduceIte, Nat.reduceLT, Nat.reduceEqDiff, Nat.reduceBEq, Nat.reduceLeDiff, Nat.reduceAdd, Nat.reduceMul]
    exact SetR.dropTo ((Le.refl H).updB n1) (SetR.now hq)

/-- Two texts that are handed in. -/
def FracA (q : List UInt8 × List UInt8) : AV := .agg [Sx q.1, Sx q.2]
def FracC (l : List (List UInt8 × List UInt8)) : List AV := l.flatMap fun q => [Sx q.1, Sx q.2]
theorem cells_FracA {q : List UInt8 × List UInt8} : (FracA q).cells = some [Sx q.1, Sx q.2] := id rfl
theorem fold_FracA {q : List UInt8 × List UInt8} : AV.agg [Sx q.1, Sx q.2] = FracA q := id rfl
theorem FracC_len (l : List (List UInt8 × List UInt8)) : (FracC l).length = l.length * 2 := by
  induction l with
  | nil => rfl
  | cons a l ih => simp only [FracC, List.flatMap_cons, List.length_append, List.length_cons, List.length_nil] at *; omega
theorem FracC_drop : ∀ (l : List (List UInt8 × List UInt8)) (i : Nat) (h : i < l.length), (FracC l).drop (i * 2) = Sx (l[i]).1 :: Sx (l[i]).2 :: (FracC l).drop (i * 2 + 2)
  | a :: l, 0, _ => rfl
  | a :: l, i + 1, h => by
    have := FracC_drop l i (by simpa using h)
    rw [show (i + 1) * 2 = i * 2 + 2 by omega]
    show ((Sx a.1 :: Sx a.2 :: FracC l).drop (i * 2 + 2)) = _
    simp only [List.drop_succ_cons, List.getElem_cons_succ]
    rw [this]
    show _ = _ :: _ :: ((Sx a.1 :: Sx a.2 :: FracC l).drop (i * 2 + 2 + 2))
    simp only [List.drop_succ_cons]
def lngF (q : List UInt8 × List UInt8) : Bool := decide (300 < q.1.length) || decide (300 < q.2.length)
theorem long1_fn {q : List UInt8 × List UInt8} : PFn Tryz.prog 41 [FracA q] (.bool (lngF q)) := by
  intro H Q hq
  refine enter41 (by simp) ?_
  simp (disch := first | assumption | (apply Ap.symm; assumption) | omega | decide | (simp only [U_len, List.length_append, List.length_replicate, List.length_cons, List.length_nil, List.length_set] <;> omega) | fail) only [ac41, cells_FracA, ↓Xa, Xb, Xc, ↓reduceIte, Nat.reduceLT, Nat.reduceEqDiff, Nat.reduceBEq, Nat.reduceLeDiff, Nat.reduceAdd, Nat.reduceMul]
  refine alloc_i fun p1 hp1 => ?_
  have n1 := hp1
  by_cases h : 300 < q.1.length
  · rw [lngF, decide_eq_true h, Bool.true_or] at hq
    simp (disch := first | assumption | (apply Ap.symm; assumption) | omega | decide | (simp only [U_len, List.length_append, List.length_replicate, List.length_cons, List.length_nil, List.length_set] <;> omega) | fail) only [len_Sx, decide_eq_true h, h, rs41, ↓Xa, Xb, Xc, ↓reduceIte, Nat.reduceLT, Nat.reduceEqDiff, Nat.reduceBEq, Nat.reduceLeDiff, Nat.reduceAdd, Nat.reduceMul]
    exact SetR.dropTo ((Le.refl H).updB n1) (SetR.now hq)
  · rw [lngF, decide_eq_false h, Bool.false_or] at hq
    by_cases h2 : 300 < q.2.length
    · rw [decide_eq_true h2] at hq
      simp (disch := first | assumption | (apply Ap.symm; assumption) | omega | decide | (simp only [U_len, List.length_append, List.length_replicate, List.length_cons, List.length_nil, List.length_set] <;> omega) | fail) only [len_Sx, h, h2, rs41, ↓Xa, Xb, Xc, ↓reduceIte, Nat.reduceLT, Nat.reduceEqDiff, Nat.reduceBEq, Nat.reduceLeDiff, Nat.reduceAdd, Nat.reduceMul]
      exact SetR.dropTo ((Le.refl H).updB n1) (SetR.now hq)
    · rw [decide_eq_false h2] at hq
      simp (disch := first | assumption | (apply Ap.symm; assumption) | omega | decide | (simp only [U_len, List.length_append, List.length_replicate, List.length_cons, List.length_nil, List.length_set] <;> omega) | fail) only [len_Sx, h, h2, rs41, ↓Xa, Xb, Xc, ↓reduceIte, Nat.reduceLT, Nat.reduceEqDiff, Nat.reduceBEq, Nat.reduceLeDiff, Nat.reduceAdd, Nat.reduceMul]
      exact SetR.dropTo ((Le.refl H).updB n1) (SetR.now hq)
theorem geq_int {k : IntKind} {n m : Int} {K : AV → Prop} : binW .geq (.int k n) (.int k m) K ↔ K (.bool (decide (m ≤ n))) := by simp [binW, binInt]
theorem idxF_fn (l : List (List UInt8 × List UInt8)) (t : Bool) (hl : l.length < 9223372036854775807) : ∃ r : Int, decide (((0 : Nat) : Int) ≤ r) = l.any lngF ∧ PFn Tryz.prog 63 [.seq l.length (FracC l) t, .fn (.func 41) [] []] (.int .i64 r) := by
  have len9 : ∀ {n : Nat} {c : List AV} {t : Bool} {K : AV → Prop} (_ : n < 2 ^ 63), lenW false (.seq n c t) K = K (.int .i64 ((n : Nat) : Int)) := fun h => by simp [lenW, h]
  have idx9 : ∀ {i : Nat} {K : AV → Prop} (_ : i < l.length), idxAW 2 (.seq l.length (FracC l) t) (.int .i64 (i : Int)) K = K (.cptr ((FracC l).drop (i * 2))) := fun {i K} h => by simp [idxAW, FracC_len, h]
  have ld9 : ∀ {H : AHeap} {i : Nat} {K : AV → Prop} (h : i < l.length), loadW H (some 2) (.cptr ((FracC l).drop (i * 2))) K = K (FracA (l[i])) := fun {H i K} h => by
    simp only [loadW, cellsAt, FracC_drop l i h]
    simp [FracA]
  have main : ∀ (p : Nat) (hp : p ≤ l.length) (hno : ∀ i (h : i < l.length), i < p → lngF (l[i]) = false) (hat : ∀ h : p < l.length, lngF (l[p]) = true) (r : Int) (hr : r = if p < l.length then (p : Int) else -1), PFn Tryz.prog 63 [.seq l.length (FracC l) t, .fn (.func 41) [] []] (.int .i64 r) := by
    intro p hp hno hat r hr H Q hq
    refine enter63 (by simp) ?_
    simp (disch := first | assumption | (apply Ap.symm; assumption) | omega | decide | (simp only [U_len, List.length_append, List.length_replicate, List.length_cons, List.length_nil, List.length_set] <;> omega) | fail) only [ac63, len9, hl, ↓Xa, Xb, Xc, ↓reduceIte, Nat.reduceLT, Nat.reduceEqDiff, Nat.reduceBEq, Nat.reduceLeDiff, Nat.reduceAdd, Nat.reduceMul]
    refine W_loop (fun i : Nat => ⟨[], [(0, .seq l.length (FracC l) t), (1, .fn (.func 41) [] []), (7, .int .i64 (l.length : Int)), (8, .int .i64 i)], H⟩) (fun i => i ≤ p) (fun i => l.length - i) 0 (Settle.now rfl) (Nat.zero_le _) ?_
    intro i h1
    by_cases hi : i < l.length
    · simp (disch := first | assumption | (apply Ap.symm; assumption) | omega | decide | (simp only [U_len, List.length_append, List.length_replicate, List.length_cons, List.length_nil, List.length_set] <;> omega) | fail) only [idx9, ld9, hi, ↓Xa, Xb, Xc, ↓reduceIte, Nat.reduceLT, Nat.reduceEqDiff, Nat.reduceBEq, Nat.reduceLeDiff, Nat.reduceAdd, Nat.reduceMul]
      refine long1_fn.call ?_
      by_cases e : i = p
      · subst e
        rw [if_pos hi] at hr; subst hr
        simp (disch := first | assumption | (apply Ap.symm; assumption) | omega | decide | (simp only [U_len, List.length_append, List.length_replicate, List.length_cons, List.length_nil, List.length_set] <;> omega) | fail) only [hat hi, rs63, ↓Xa, Xb, Xc, ↓reduceIte, Nat.reduceLT, Nat.reduceEqDiff, Nat.reduceBEq, Nat.reduceLeDiff, Nat.reduceAdd, Nat.reduceMul]
        exact SetR.now hq
      · simp (disch := first | assumption | (apply Ap.symm; assumption) | omega | decide | (simp only [U_len, List.length_append, List.length_replicate, List.length_cons, List.length_nil, List.length_set] <;> omega) | fail) only [hno i hi (by omega), ↓Xa, Xb, Xc, ↓reduceIte, Nat.reduceLT, Nat.reduceEqDiff, Nat.reduceBEq, Nat.reduceLeDiff, Nat.reduceAdd, Nat.reduceMul]
        exact Settle.now ⟨i + 1, by omega, by omega, rfl⟩
    · simp (disch := first | assumption | (apply Ap.symm; assumption) | omega | decide | (simp only [U_len, List.length_append, List.length_replicate, List.length_cons, List.length_nil, List.length_set] <;> omega) | fail) only [hi, ↓Xa, Xb, Xc, ↓reduceIte, Nat.reduceLT, Nat.reduceEqDiff, Nat.reduceBEq, Nat.reduceLeDiff, Nat.reduceAdd, Nat.reduceMul]
      refine Settle.now ?_
      rw [if_neg (by omega)] at hr; subst hr
      simp (disch := first | assumption | (apply Ap.symm; assumption) | omega | decide | (simp only [U_len, List.length_append, List.length_replicate, List.length_cons, List.length_nil, List.length_set] <;> omega) | fail) only [rs63, ↓Xa, Xb, Xc, ↓reduceIte, Nat.reduceLT, Nat.reduceEqDiff, Nat.reduceBEq, Nat.reduceLeDiff, Nat.reduceAdd, Nat.reduceMul]
      exact SetR.now hq
  rcases first_of (P := fun i => ∃ h : i < l.length, lngF (l[i]) = true) 0 l.length with ⟨p, _, b, ⟨hb, c⟩, d⟩ | h
  · refine ⟨(p : Int), ?_, main p (by omega) (fun i hi h => ?_) (fun _ => c) _ (by rw [if_pos (by omega)])⟩
    · rw [decide_eq_true (by omega)]
      exact (List.any_eq_true.2 ⟨_, List.getElem_mem hb, c⟩).symm
    · have := d i (by omega) h
      cases e : lngF (l[i]) with
      | false => rfl
      | true => exact absurd ⟨hi, e⟩ this
  · refine ⟨-1, ?_, main l.length (Nat.le_refl _) (fun i hi _ => ?_) (fun h => by omega) _ (by rw [if_neg (by omega)])⟩
    · rw [decide_eq_false (by omega)]
      refine (List.any_eq_false.2 fun q hq => ?_).symm
      obtain ⟨i, hi, rfl⟩ := List.getElem_of_mem hq
      exact fun e => h i (by omega) (by omega) ⟨hi, e⟩
    · cases e : lngF (l[i]) with
      | false => rfl
      | true => exact absurd ⟨hi, e⟩ (h i (by omega) (by omega))
theorem longF_fn (l : List (List UInt8 × List UInt8)) (t : Bool) (hl : l.length < 9223372036854775807) : PFn Tryz.prog 6 [.seq l.length (FracC l) t] (.bool (decide (12 < l.length) || l.any lngF)) := by
  intro H Q hq
  obtain ⟨r, hr, hf⟩ := idxF_fn l t hl
  have len9 : ∀ {n : Nat} {c : List AV} {t : Bool} {K : AV → Prop} (_ : n < 2 ^ 63), lenW false (.seq n c t) K = K (.int .i64 ((n : Nat) : Int)) := fun h => by simp [lenW, h]
  have cf : PFn Tryz.prog 40 [.seq l.length (FracC l) t, .fn (.func 41) [] []] (.bool (l.any lngF)) := by
    intro H Q hq
    refine enter40 (by simp) ?_
    simp (disch := first | assumption | (apply Ap.symm; assumption) | omega | decide | (simp only [U_len, List.length_append, List.length_replicate, List.length_cons, List.length_nil, List.length_set] <;> omega) | fail) only [ac40, ↓Xa, Xb, Xc, ↓reduceIte, Nat.reduceLT, Nat.reduceEqDiff, Nat.reduceBEq, Nat.reduceLeDiff, Nat.reduceAdd, Nat.reduceMul]
    refine hf.call ?_
    simp (disch := first | assumption | (apply Ap.symm; assumption) | omega | decide | (simp only [U_len, List.length_append, List.length_replicate, List.length_cons, List.length_nil, List.length_set] <;> omega) | fail) only [geq_int, hr, rs40, ↓Xa, Xb, Xc, ↓reduceIte, Nat.reduceLT, Nat.reduceEqDiff, Nat.reduceBEq, Nat.reduceLeDiff, Nat.reduceAdd, Nat.reduceMul]
    exact SetR.now hq
  refine enter6 (by simp) ?_
  by_cases h : 12 < l.length
  · rw [decide_eq_true h, Bool.true_or] at hq
    simp (disch := first | assumption | (apply Ap.symm; assumption) | omega | decide | (simp only [U_len, List.length_append, List.length_replicate, List.length_cons, List.length_nil, List.length_set] <;> omega) | fail) only [ac6, len9, hl, h, rs6, ↓Xa, Xb, Xc, ↓reduceIte, Nat.reduceLT, Nat.reduceEqDiff, Nat.reduceBEq, Nat.reduceLeDiff, Nat.reduceAdd, Nat.reduceMul]
    exact SetR.now hq
  · rw [decide_eq_false h, Bool.false_or] at hq
    simp (disch := first | assumption | (apply Ap.symm; assumption) | omega | decide | (simp only [U_len, List.length_append, List.length_replicate, List.length_cons, List.length_nil, List.length_set] <;> omega) | fail) only [ac6, len9, hl, h, ↓Xa, Xb, Xc, ↓reduceIte, Nat.reduceLT, Nat.reduceEqDiff, Nat.reduceBEq, Nat.reduceLeDiff, Nat.reduceAdd, Nat.reduceMul]
    refine cf.call ?_
    simp (disch := first | assumption | (apply Ap.symm; assumption) | omega | decide | (simp only [U_len, List.length_append, List.length_replicate, List.length_cons, List.length_nil, List.length_set] <;> omega) | fail) only [rs6, ↓Xa, Xb, Xc, ↓reduceIte, Nat.reduceLT, Nat.reduceEqDiff, Nat.reduceBEq, Nat.reduceLeDiff, Nat.reduceAdd, Nat.reduceMul]
    exact SetR.now hq
end Go.Proofs.YtanchgkiomfhhaaGreatDoor.Fw

/- A whole number's text, as the reference of layer 2 tells it. -/
namespace Go.Proofs.YtanchgkiomfhhaaGreatDoor.Fw
set_option linter.unusedSimpArgs false
set_option linter.unusedVariables false
open Go Go.Proofs.YtanchgkiomfhhaaGreatDoor.Ma
set_option maxRecDepth 20000

/-- The first and the last i bytes turned about. -/
def revI (i : Nat) (l : List UInt8) : List UInt8 := (List.range l.length).map fun j => if j < i ∨ l.length - i ≤ j then l.getD (l.length - 1 - j) 0 else l.getD j 0
theorem revI_len (i : Nat) (l : List UInt8) : (revI i l).length = l.length := by simp [revI]
theorem revI_zero (l : List UInt8) : revI 0 l = l := by
  refine List.ext_getElem (revI_len 0 l) fun j h1 h2 => ?_
  simp only [revI, List.getElem_map, List.getElem_range]
  rw [if_neg (by omega), List.getD_eq_getElem?_getD, List.getElem?_eq_getElem h2, Option.getD_some]
theorem revI_get {i j : Nat} {l : List UInt8} (h : j < l.length) : (revI i l).getD j 0 = if j < i ∨ l.length - i ≤ j then l.getD (l.length - 1 - j) 0 else l.getD j 0 := by
  rw [List.getD_eq_getElem?_getD, List.getElem?_eq_getElem (by rw [revI_len]; exact h), Option.getD_some]
  simp [revI]
theorem revI_half {i : Nat} {l : List UInt8} (h : l.length ≤ 2 * i + 1) : revI i l = l.reverse := by
  refine List.ext_getElem (by simp [revI_len]) fun j h1 h2 => ?_
  have hj : j < l.length := by simpa using h2
  have e := revI_get (i := i) hj
  rw [List.getD_eq_getElem?_getD, List.getElem?_eq_getElem h1, Option.getD_some] at e
  rw [e, List.getElem_reverse]
  have hk : l.length - 1 - j < l.length := by omega
  by_cases c : j < i ∨ l.length - i ≤ j
  · rw [if_pos c, List.getD_eq_getElem?_getD, List.getElem?_eq_getElem hk, Option.getD_some]
  · rw [if_neg c, List.getD_eq_getElem?_getD, List.getElem?_eq_getElem hj, Option.getD_some]
    congr 1
    omega
theorem revI_step {i : Nat} {l : List UInt8} (h : i < l.length / 2) : ((revI i l).set i (l.getD (l.length - 1 - i) 0)).set (l.length - 1 - i) (l.getD i 0) = revI (i + 1) l := by
  refine List.ext_getElem (by simp [revI_len]) fun j h1 h2 => ?_
  have hj : j < l.length := by simpa [revI_len] using h2
  have e2 := revI_get (i := i + 1) hj
  have e1 := revI_get (i := i) hj
  rw [List.getD_eq_getElem?_getD, List.getElem?_eq_getElem h2, Option.getD_some] at e2
  rw [e2]
  simp only [List.getElem_set]
  by_cases c1 : l.length - 1 - i = j
  · rw [if_pos c1, if_pos (by omega), ← c1]; congr 1; omega
  · rw [if_neg c1]
    by_cases c2 : i = j
    · rw [if_pos c2, if_pos (by omega), c2]
    · rw [if_neg c2]
      rw [List.getD_eq_getElem?_getD, List.getElem?_eq_getElem (by rw [revI_len]; exact hj), Option.getD_some] at e1
      rw [e1]
      by_cases c3 : j < i ∨ l.length - i ≤ j
      · rw [if_pos c3, if_pos (by omega)]
      · rw [if_neg c3, if_neg (by omega)]
theorem digs1 {n : Nat} (h : n < 65536) : digs 65536 n = if n = 0 then [] else [n] := by
  split
  · rename_i e; rw [e, digs_zero]
  · rename_i e; rw [digs_pos (by omega) (by omega), Nat.mod_eq_of_lt h, Nat.div_eq_of_lt h, digs_zero]
theorem Bt_drop_cons (l : List UInt8) (i : Nat) (h : i < l.length) : (Bt l).drop i = .int .u8 (((l.getD i 0).toNat : Nat) : Int) :: (Bt l).drop (i + 1) := by
  rw [List.drop_eq_getElem_cons (by simpa [Bt_len] using h)]
  congr 1
  simp [Bt, List.getD_eq_getElem?_getD, List.getElem?_eq_getElem h]
theorem ldP_Bt {K : AV → Prop} {L off ty es : Nat} {l : List UInt8} (hL : l.length = L) (h : off < L) : ldP none L off K (some (.row ty es (Bt l))) = K (.int .u8 (((l.getD off 0).toNat : Nat) : Int)) := by
  subst hL
  have : off + 1 ≤ l.length := h
  simp [ldP, this, Bt_drop_cons l off h, ldC, Bt_len]
theorem splice_Bt {off c : Nat} {l : List UInt8} (h : off < l.length) (hc : c < 256) : splice (Bt l) off [.int .u8 (c : Int)] = Bt (l.set off (UInt8.ofNat c)) := by
  have e2 : (AV.int .u8 (c : Int)) = .int .u8 (((UInt8.ofNat c).toNat : Nat) : Int) := by
    rw [UInt8.toNat_ofNat', Nat.mod_eq_of_lt hc]
  rw [e2]
  unfold splice Bt
  rw [List.map_set, List.set_eq_take_append_cons_drop]
  simp [h]
theorem dstP_Bt {b L off ty es c : Nat} {l : List UInt8} {K : AV → List Nat → Option (Nat × ABlk) → Prop} (hL : l.length = L) (h : off < L) (hc : c < 256) : dstP 1 b L off K (some [.int .u8 (c : Int)]) (some (.row ty es (Bt l))) = K .bot [b] (some (b, .row ty es (Bt (l.set off (UInt8.ofNat c))))) := by
  subst hL
  have h1 : off + 1 ≤ l.length := h
  simp [dstP, Bt_len, h1, splice_Bt h hc]
theorem load_U1 {H : AHeap} {x : Nat} {K : AV → Prop} : loadW H none (.cptr (U [x])) K = K (.int .u32 (x : Int)) := by simp [loadW, cellsAt, U]
theorem len_nil0 {K : AV → Prop} : lenW false (.seq 0 [] true) K = K (.int .i64 ((0 : Nat) : Int)) := by simp [lenW]
theorem rtext_fn {x : Int} {k : Nat} (t : Bool) (hx : Bd k x) (hk : k ≤ 1000000) : PFn Tryz.prog 21 [RefA x t] (Sx (iText x)) := by
  intro H Q hq
  have hdt := decT_bd hx
  have hl := hx.rlen
  obtain ⟨N, hN⟩ : ∃ N, N = x.natAbs := ⟨_, rfl⟩
  have hd10 : (digs 10 N).length ≤ 10 * k + 1 := by
    rw [hN]; unfold decT at hdt
    split at hdt
    · rename_i e; rw [e, digs_zero]; simp
    · simpa [dec] using hdt
  refine enter21 (by simp) ?_
  obtain ⟨neg, hneg⟩ : ∃ b, b = decide (x < 0) := ⟨_, rfl⟩
  simp (disch := first | assumption | (apply Ap.symm; assumption) | omega | decide | (simp only [U_len, List.length_append, List.length_replicate, List.length_cons, List.length_nil, List.length_set] <;> omega) | fail) only [ac21, RefA, ← hN, ← hneg, ↓Xa, Xb, Xc, ↓reduceIte, Nat.reduceLT, Nat.reduceEqDiff, Nat.reduceBEq, Nat.reduceLeDiff, Nat.reduceAdd, Nat.reduceMul]
  refine alloc_i fun p1 hp1 => ?_
  have n1 := hp1
  simp (disch := first | assumption | (apply Ap.symm; assumption) | omega | decide | (simp only [U_len, List.length_append, List.length_replicate, List.length_cons, List.length_nil, List.length_set] <;> omega) | fail) only [↓Xa, Xb, Xc, ↓reduceIte, Nat.reduceLT, Nat.reduceEqDiff, Nat.reduceBEq, Nat.reduceLeDiff, Nat.reduceAdd, Nat.reduceMul]
  refine W_loop (fun s : Nat × Bool × List Nat × AV × AHeap => ⟨[], [(1, .ptr p1 2 0), (3, s.2.2.2.1), (4, LS (digs 65536 s.1) s.2.1)], s.2.2.2.2⟩)
    (fun s => s.1 ≤ N ∧ digs 10 N = s.2.2.1 ++ digs 10 s.1 ∧ growC (H.upd p1 (some (.row 30 0 [.bool (neg), LS (digs 65536 N) t]))) 5 1 s.2.2.1.length (Bt (s.2.2.1.map chD)) s.2.2.2.1 s.2.2.2.2) (fun s => s.1) (N, t, [], .seq 0 [] true, _) (Settle.now rfl) ⟨Nat.le_refl _, rfl, growC_nil⟩ ?_
  rintro ⟨n, t', ds, y, H'⟩ ⟨hn, hds, hg⟩
  dsimp only at hn hds hg ⊢
  have hnl : (digs 65536 n).length ≤ 2 * k := digs_len (by omega) _ _ (Nat.lt_of_le_of_lt hn (by
    rw [hN]
    have h : x.natAbs < 4294967296 ^ k := hx
    rwa [show (4294967296 : Nat) = 65536 ^ 2 from rfl, ← Nat.pow_mul] at h))
  have hdsl : ds.length + (digs 10 n).length ≤ 10 * k + 1 := by rw [hds, List.length_append] at hd10; exact hd10
  rcases Nat.eq_zero_or_pos n with rfl | hpos
  · rw [digs_zero, List.append_nil] at hds
    subst hds
    simp (disch := first | assumption | (apply Ap.symm; assumption) | omega | decide | (simp only [U_len, List.length_append, List.length_replicate, List.length_cons, List.length_nil, List.length_set] <;> omega) | fail) only [digs_zero, List.length_nil, ↓Xa, Xb, Xc, ↓reduceIte, Nat.reduceLT, Nat.reduceEqDiff, Nat.reduceBEq, Nat.reduceLeDiff, Nat.reduceAdd, Nat.reduceMul]
    refine Settle.now ?_
    have hmap : ((digs 10 N).map chD).reverse = dec N := by rw [← List.map_reverse]; rfl
    rcases hg with ⟨h0, hc, rfl, rfl⟩ | ⟨hn0, hcl, b, hb, rfl, rfl⟩
    · have hN0 : N = 0 := by
        rcases Nat.eq_zero_or_pos N with e | e
        · exact e
        · rw [digs_pos (by omega) e] at h0; simp at h0
      have hx0 : x = 0 := by omega
      simp (disch := first | assumption | (apply Ap.symm; assumption) | omega | decide | (simp only [U_len, List.length_append, List.length_replicate, List.length_cons, List.length_nil, List.length_set] <;> omega) | fail) only [len_nil0, str_Sx, rs21, ↓Xa, Xb, Xc, ↓reduceIte, Nat.reduceLT, Nat.reduceEqDiff, Nat.reduceBEq, Nat.reduceLeDiff, Nat.reduceAdd, Nat.reduceMul]
      refine SetR.dropTo ((Le.refl H).upd n1) (SetR.now ?_)
      rw [hx0] at hq
      exact hq
    · have hn0' : ¬ (digs 10 N).length = 0 := by omega
      have hbp := (upd_none.1 hb).1
      have hN0 : N ≠ 0 := by rintro rfl; rw [digs_zero] at hn0; simp at hn0
      have tail : ∀ (m : List UInt8) (b : Nat), (H.upd p1 (some (.row 30 0 [.bool (neg), LS (digs 65536 N) t]))) b = none → m.length ≤ 10 * k + 2 → m.reverse = iText x →
          W Tryz.prog (sndC (sndC (sndC (sndC (sndC (sndC ac21)))))) (retN rs21 Q) ⟨[], [(3, .own b m.length 0 m.length false)], (H.upd p1 (some (.row 30 0 [.bool (neg), LS (digs 65536 N) t]))).upd b (some (.row 5 1 (Bt m)))⟩ := by
        intro m b hb hm hrev
        simp (disch := first | assumption | (apply Ap.symm; assumption) | omega | decide | (simp only [U_len, List.length_append, List.length_replicate, List.length_cons, List.length_nil, List.length_set] <;> omega) | fail) only [sndC, ac21, ↓Xa, Xb, Xc, ↓reduceIte, Nat.reduceLT, Nat.reduceEqDiff, Nat.reduceBEq, Nat.reduceLeDiff, Nat.reduceAdd, Nat.reduceMul]
        refine W_loop (fun i : Nat => ⟨[], [(3, .own b m.length 0 m.length false), (8, .int .i64 (i : Int))], (H.upd p1 (some (.row 30 0 [.bool (neg), LS (digs 65536 N) t]))).upd b (some (.row 5 1 (Bt (revI i m))))⟩) (fun i => i ≤ m.length / 2) (fun i => m.length / 2 - i) 0 (Settle.now (by rw [revI_zero])) (Nat.zero_le _) ?_
        intro i hi
        have hlr := revI_len i m
        have hbl : (Bt (revI i m)).length = m.length := by rw [Bt_len, hlr]
        by_cases hlt : i < m.length / 2
        · have hi2 : i < m.length := by omega
          have hlr2 : ((revI i m).set i (UInt8.ofNat ((revI i m).getD (m.length - 1 - i) 0).toNat)).length = m.length := by simp [hlr]
          have u1 : ((revI i m).getD (m.length - 1 - i) 0).toNat < 256 := UInt8.toNat_lt _
          have u2 : ((revI i m).getD i 0).toNat < 256 := UInt8.toNat_lt _
          simp (disch := first | assumption | (apply Ap.symm; assumption) | omega | decide | (simp only [U_len, List.length_append, List.length_replicate, List.length_cons, List.length_nil, List.length_set] <;> omega) | fail) only [len_ownk, hlt, ldP_Bt, dstP_Bt, stP_Bt, ↓Xa, Xb, Xc, ↓reduceIte, Nat.reduceLT, Nat.reduceEqDiff, Nat.reduceBEq, Nat.reduceLeDiff, Nat.reduceAdd, Nat.reduceMul]
          refine ⟨by decide, by rw [Bt_len]; exact hlr2, Settle.now ⟨i + 1, by omega, by omega, ?_⟩⟩
          rw [UInt8.ofNat_toNat, UInt8.ofNat_toNat, revI_get (by omega), if_neg (by omega), revI_get (by omega), if_neg (by omega), revI_step hlt]
        · simp (disch := first | assumption | (apply Ap.symm; assumption) | omega | decide | (simp only [U_len, List.length_append, List.length_replicate, List.length_cons, List.length_nil, List.length_set] <;> omega) | fail) only [len_ownk, hlt, ↓Xa, Xb, Xc, ↓reduceIte, Nat.reduceLT, Nat.reduceEqDiff, Nat.reduceBEq, Nat.reduceLeDiff, Nat.reduceAdd, Nat.reduceMul]
          refine ⟨by decide, Settle.now ?_⟩
          rw [revI_half (by omega), hrev]
          have hll : (iText x).length = m.length := by rw [← hrev, List.length_reverse]
          have e2 : (Bt (iText x)).length = m.length := by rw [Bt_len, hll]
          simp (disch := first | assumption | (apply Ap.symm; assumption) | omega | decide | (simp only [U_len, List.length_append, List.length_replicate, List.length_cons, List.length_nil, List.length_set] <;> omega) | fail) only [↓Xa, Xb, Xc, ↓reduceIte, Nat.reduceLT, Nat.reduceEqDiff, Nat.reduceBEq, Nat.reduceLeDiff, Nat.reduceAdd, Nat.reduceMul]
          rw [List.take_of_length_le (by omega), bytesOf_Bt]
          simp (disch := first | assumption | (apply Ap.symm; assumption) | omega | decide | (simp only [U_len, List.length_append, List.length_replicate, List.length_cons, List.length_nil, List.length_set] <;> omega) | fail) only [strK, str_Sx, rs21, ↓Xa, Xb, Xc, ↓reduceIte, Nat.reduceLT, Nat.reduceEqDiff, Nat.reduceBEq, Nat.reduceLeDiff, Nat.reduceAdd, Nat.reduceMul]
          exact SetR.dropTo ((Le.refl H).upd n1 |>.upd hb) (SetR.now hq)
      cases neg with
      | true =>
        simp (disch := first | assumption | (apply Ap.symm; assumption) | omega | decide | (simp only [U_len, List.length_append, List.length_replicate, List.length_cons, List.length_nil, List.length_set] <;> omega) | fail) only [len_ownk, hn0', ↓Xa, Xb, Xc, ↓reduceIte, Nat.reduceLT, Nat.reduceEqDiff, Nat.reduceBEq, Nat.reduceLeDiff, Nat.reduceAdd, Nat.reduceMul]
        refine app_C (.inr ⟨hn0, hcl, b, hb, by rw [Nat.mul_one], rfl⟩) rfl rfl (by omega) (by omega) (by omega) fun y' H2 hg2 => ?_
        rcases hg2 with ⟨h0, _⟩ | ⟨_, hcl2, b2, hb2, rfl, rfl⟩
        · omega
        have tl := tail ((digs 10 N).map chD ++ [45]) b2 hb2 (by simp; omega) (by rw [List.reverse_append, hmap]; simp [iText, of_decide_eq_true hneg.symm, ← hN, decT, hN0])
        rw [List.length_append, List.length_map, Bt_app] at tl
        simp (disch := first | assumption | (apply Ap.symm; assumption) | omega | decide | (simp only [U_len, List.length_append, List.length_replicate, List.length_cons, List.length_nil, List.length_set] <;> omega) | fail) only [sndC, ac21, List.length_cons, List.length_nil, ↓Xa, Xb, Xc, ↓reduceIte, Nat.reduceLT, Nat.reduceEqDiff, Nat.reduceBEq, Nat.reduceLeDiff, Nat.reduceAdd, Nat.reduceMul] at tl
        simp (disch := first | assumption | (apply Ap.symm; assumption) | omega | decide | (simp only [U_len, List.length_append, List.length_replicate, List.length_cons, List.length_nil, List.length_set] <;> omega) | fail) only [↓Xa, Xb, Xc, ↓reduceIte, Nat.reduceLT, Nat.reduceEqDiff, Nat.reduceBEq, Nat.reduceLeDiff, Nat.reduceAdd, Nat.reduceMul]
        exact tl
      | false =>
        have tl := tail ((digs 10 N).map chD) b hb (by simp; omega) (by rw [hmap]; simp [iText, of_decide_eq_false hneg.symm, ← hN, decT, hN0])
        rw [List.length_map] at tl
        simp (disch := first | assumption | (apply Ap.symm; assumption) | omega | decide | (simp only [U_len, List.length_append, List.length_replicate, List.length_cons, List.length_nil, List.length_set] <;> omega) | fail) only [sndC, ac21, ↓Xa, Xb, Xc, ↓reduceIte, Nat.reduceLT, Nat.reduceEqDiff, Nat.reduceBEq, Nat.reduceLeDiff, Nat.reduceAdd, Nat.reduceMul] at tl
        simp (disch := first | assumption | (apply Ap.symm; assumption) | omega | decide | (simp only [U_len, List.length_append, List.length_replicate, List.length_cons, List.length_nil, List.length_set] <;> omega) | fail) only [len_ownk, hn0', ↓Xa, Xb, Xc, ↓reduceIte, Nat.reduceLT, Nat.reduceEqDiff, Nat.reduceBEq, Nat.reduceLeDiff, Nat.reduceAdd, Nat.reduceMul]
        exact tl
  · have h10 : digs 65536 10 = [10] := by rw [digs1 (by omega)]; rfl
    have hdv := rdivide_fn (A := n) (V := 10) t' true (by omega) (by omega) (by rw [h10]; simp)
    rw [h10] at hdv
    have hlp : 0 < (digs 65536 n).length := by rw [digs_pos (by omega) hpos]; simp
    simp (disch := first | assumption | (apply Ap.symm; assumption) | omega | decide | (simp only [U_len, List.length_append, List.length_replicate, List.length_cons, List.length_nil, List.length_set] <;> omega) | fail) only [hlp, rep1, ↓Xa, Xb, Xc, ↓reduceIte, Nat.reduceLT, Nat.reduceEqDiff, Nat.reduceBEq, Nat.reduceLeDiff, Nat.reduceAdd, Nat.reduceMul]
    refine hdv.call ?_
    have hm : n % 10 < 10 := Nat.mod_lt _ (by omega)
    have hlt : n / 10 < n := Nat.div_lt_self hpos (by omega)
    have fin : ∀ (y' : AV) (H2 : AHeap), growC (H.upd p1 (some (.row 30 0 [.bool (neg), LS (digs 65536 N) t]))) 5 1 (ds.length + 1) (Bt (ds.map chD) ++ [.int .u8 ((48 + n % 10 : Nat) : Int)]) y' H2 →
        Settle (fun s' => ∃ x' : Nat × Bool × List Nat × AV × AHeap, x'.1 < n ∧ (x'.1 ≤ N ∧ digs 10 N = x'.2.2.1 ++ digs 10 x'.1 ∧ growC (H.upd p1 (some (.row 30 0 [.bool (neg), LS (digs 65536 N) t]))) 5 1 x'.2.2.1.length (Bt (x'.2.2.1.map chD)) x'.2.2.2.1 x'.2.2.2.2) ∧ s' = ⟨[], [(1, .ptr p1 2 0), (3, x'.2.2.2.1), (4, LS (digs 65536 x'.1) x'.2.1)], x'.2.2.2.2⟩)
          ⟨[], [(1, .ptr p1 2 0), (3, y'), (4, LS (digs 65536 (n / 10)) false)], H2⟩ := by
      intro y' H2 h
      refine Settle.now ⟨(n / 10, false, ds ++ [n % 10], y', H2), hlt, ⟨by dsimp only; omega, ?_, ?_⟩, rfl⟩
      · dsimp only; rw [hds, digs_pos (by omega) hpos]; simp
      · dsimp only
        rw [List.map_append, Bt_app, List.length_append]
        rw [Bt_one (by omega)] at h
        exact h
    have hb13 : ds.length ≤ 10000002 := by omega
    clear hd10 hdt hl hnl hdsl
    by_cases hz : n % 10 = 0
    · have e : digs 65536 (n % 10) = [] := by rw [hz, digs_zero]
      rw [e]
      simp (disch := first | assumption | (apply Ap.symm; assumption) | omega | decide | (simp only [U_len, List.length_append, List.length_replicate, List.length_cons, List.length_nil, List.length_set] <;> omega) | fail) only [List.length_nil, wn_u8', ↓Xa, Xb, Xc, ↓reduceIte, Nat.reduceLT, Nat.reduceEqDiff, Nat.reduceBEq, Nat.reduceLeDiff, Nat.reduceAdd, Nat.reduceMul]
      refine app_C hg rfl rfl (by omega) (by omega) (by omega) fun y' H2 hg2 => ?_
      simp (disch := first | assumption | (apply Ap.symm; assumption) | omega | decide | (simp only [U_len, List.length_append, List.length_replicate, List.length_cons, List.length_nil, List.length_set] <;> omega) | fail) only [↓Xa, Xb, Xc, ↓reduceIte, Nat.reduceLT, Nat.reduceEqDiff, Nat.reduceBEq, Nat.reduceLeDiff, Nat.reduceAdd, Nat.reduceMul]
      exact fin y' H2 (by rw [hz]; exact hg2)
    · have e : digs 65536 (n % 10) = [n % 10] := by rw [digs1 (by omega), if_neg hz]
      rw [e]
      simp (disch := first | assumption | (apply Ap.symm; assumption) | omega | decide | (simp only [U_len, List.length_append, List.length_replicate, List.length_cons, List.length_nil, List.length_set] <;> omega) | fail) only [List.length_cons, List.length_nil, wn_u8', load_U1, ↓Xa, Xb, Xc, ↓reduceIte, Nat.reduceLT, Nat.reduceEqDiff, Nat.reduceBEq, Nat.reduceLeDiff, Nat.reduceAdd, Nat.reduceMul]
      refine app_C (m := 1) (bytes := 1) hg rfl rfl (by omega) (by omega) (by omega) fun y' H2 hg2 => ?_
      simp (disch := first | assumption | (apply Ap.symm; assumption) | omega | decide | (simp only [U_len, List.length_append, List.length_replicate, List.length_cons, List.length_nil, List.length_set] <;> omega) | fail) only [↓Xa, Xb, Xc, ↓reduceIte, Nat.reduceLT, Nat.reduceEqDiff, Nat.reduceBEq, Nat.reduceLeDiff, Nat.reduceAdd, Nat.reduceMul]
      exact fin y' H2 hg2
end Go.Proofs.YtanchgkiomfhhaaGreatDoor.Fw

/- Fractions: what the reference's functions answer. -/
namespace Go.Proofs.YtanchgkiomfhhaaGreatDoor.Fw
set_option linter.unusedSimpArgs false
set_option linter.unusedVariables false
open Go Go.Proofs.YtanchgkiomfhhaaGreatDoor.Ma
set_option maxRecDepth 20000

/-- A fraction of the reference. -/
def RaxR (a b : Int) : AV := .agg [RefB a, RefD a, RefB b, RefD b]
def RatR (q : QQ) : AV := RaxR q.num (q.den : Int)
theorem cells_Rax {a b : Int} : (RaxR a b).cells = some [RefB a, RefD a, RefB b, RefD b] := id rfl
theorem cells_RatR {q : QQ} : (RatR q).cells = some [RefB q.num, RefD q.num, RefB (q.den : Int), RefD (q.den : Int)] := id rfl
theorem fold_Rax {a b : Int} : AV.agg [RefB a, RefD a, RefB b, RefD b] = RaxR a b := id rfl
theorem fold_RatR {q : QQ} : RaxR q.num (q.den : Int) = RatR q := id rfl

theorem rrmk_fn {n d : Int} {k : Nat} (hn : Bd k n) (hd : Bd k d) (hd0 : d ≠ 0) (hk : k ≤ 1000000) : PFn Tryz.prog 14 [RefA n false, RefA d false] (RatR (_root_.Rat.divInt n d)) := by
  intro H Q hq
  refine enter14 (by simp) ?_
  simp (disch := first | assumption | (apply Ap.symm; assumption) | omega | decide | (simp only [U_len, List.length_append, List.length_replicate, List.length_cons, List.length_nil, List.length_set] <;> omega) | fail) only [ac14, cells_RefA, ↓Xa, Xb, Xc, ↓reduceIte, Nat.reduceLT, Nat.reduceEqDiff, Nat.reduceBEq, Nat.reduceLeDiff, Nat.reduceAdd, Nat.reduceMul]
  refine alloc_i fun p1 hp1 => ?_
  have n1 := hp1
  simp (disch := first | assumption | (apply Ap.symm; assumption) | omega | decide | (simp only [U_len, List.length_append, List.length_replicate, List.length_cons, List.length_nil, List.length_set] <;> omega) | fail) only [cells_RefA, ↓Xa, Xb, Xc, ↓reduceIte, Nat.reduceLT, Nat.reduceEqDiff, Nat.reduceBEq, Nat.reduceLeDiff, Nat.reduceAdd, Nat.reduceMul]
  refine alloc_i fun p2 hp2 => ?_
  have n2 := hp2
  simp only [upd_none] at n2
  obtain ⟨_, n2⟩ := n2
  simp (disch := first | assumption | (apply Ap.symm; assumption) | omega | decide | (simp only [U_len, List.length_append, List.length_replicate, List.length_cons, List.length_nil, List.length_set] <;> omega) | fail) only [↓Xa, Xb, Xc, ↓reduceIte, Nat.reduceLT, Nat.reduceEqDiff, Nat.reduceBEq, Nat.reduceLeDiff, Nat.reduceAdd, Nat.reduceMul]
  refine alloc_i fun p3 hp3 => ?_
  have n3 := hp3
  simp only [upd_none] at n3
  obtain ⟨_, _, n3⟩ := n3
  simp (disch := first | assumption | (apply Ap.symm; assumption) | omega | decide | (simp only [U_len, List.length_append, List.length_replicate, List.length_cons, List.length_nil, List.length_set] <;> omega) | fail) only [fold_RefA, ↓Xa, Xb, Xc, ↓reduceIte, Nat.reduceLT, Nat.reduceEqDiff, Nat.reduceBEq, Nat.reduceLeDiff, Nat.reduceAdd, Nat.reduceMul]
  refine (rsign_fn false hd (by omega)).call ?_
  have hg : ∀ (z : Int) (m : Nat), 0 < m → Bd k (m : Int) → 0 < ((Int.gcd z (m : Int) : Nat) : Int) ∧ Bd k ((Int.gcd z (m : Int) : Nat) : Int) ∧ z % ((Int.gcd z (m : Int) : Nat) : Int) = 0 ∧ (m : Int) % ((Int.gcd z (m : Int) : Nat) : Int) = 0 := fun z m h0 hm =>
    ⟨q_gcd h0, hm.le (by
      have h1 : Int.gcd z (m : Int) ≤ m := Nat.le_of_dvd h0 (Int.ofNat_dvd.1 (Int.gcd_dvd_right z (m : Int)))
      omega), Int.emod_eq_zero_of_dvd (Int.gcd_dvd_left z (m : Int)), Int.emod_eq_zero_of_dvd (Int.gcd_dvd_right z (m : Int))⟩
  rcases divInt_cases n d with ⟨e0, _⟩ | ⟨m, h0, rfl, e⟩ | ⟨m, h0, rfl, e⟩
  · exact absurd e0 hd0
  · obtain ⟨g1, g2, g3, g4⟩ := hg n m h0 hd
    have er : RatR (_root_.Rat.divInt n (m : Int)) = RaxR (n / ((Int.gcd n (m : Int) : Nat) : Int)) ((m : Int) / ((Int.gcd n (m : Int) : Nat) : Int)) := by
      unfold RatR; rw [e, mk_num h0, mk_den h0]
    rw [er] at hq
    have hs : decide (((m : Nat) : Int) < 0) = false := decide_eq_false (by omega)
    have gf := rgcd_fn hn (by omega) hd
    have o1 := rover_fn hn (by omega) g2 (by omega) (by omega)
    have o2 := rover_fn hd (by omega) g2 (by omega) (by omega)
    rw [if_pos g3] at o1
    rw [if_pos g4] at o2
    generalize ((Int.gcd n (m : Int) : Nat) : Int) = g at *
    simp (disch := first | assumption | (apply Ap.symm; assumption) | omega | decide | (simp only [U_len, List.length_append, List.length_replicate, List.length_cons, List.length_nil, List.length_set] <;> omega) | fail) only [sgn_lss0, hs, cells_RefA, fold_RefA, ↓Xa, Xb, Xc, ↓reduceIte, Nat.reduceLT, Nat.reduceEqDiff, Nat.reduceBEq, Nat.reduceLeDiff, Nat.reduceAdd, Nat.reduceMul]
    refine gf.call ?_
    simp (disch := first | assumption | (apply Ap.symm; assumption) | omega | decide | (simp only [U_len, List.length_append, List.length_replicate, List.length_cons, List.length_nil, List.length_set] <;> omega) | fail) only [↓Xa, Xb, Xc, ↓reduceIte, Nat.reduceLT, Nat.reduceEqDiff, Nat.reduceBEq, Nat.reduceLeDiff, Nat.reduceAdd, Nat.reduceMul]
    refine alloc_i fun p4 hp4 => ?_
    have n4 := hp4
    simp only [upd_none] at n4
    obtain ⟨_, _, _, n4⟩ := n4
    simp (disch := first | assumption | (apply Ap.symm; assumption) | omega | decide | (simp only [U_len, List.length_append, List.length_replicate, List.length_cons, List.length_nil, List.length_set] <;> omega) | fail) only [cells_RefA, fold_RefA, ↓Xa, Xb, Xc, ↓reduceIte, Nat.reduceLT, Nat.reduceEqDiff, Nat.reduceBEq, Nat.reduceLeDiff, Nat.reduceAdd, Nat.reduceMul]
    refine o1.call ?_
    simp (disch := first | assumption | (apply Ap.symm; assumption) | omega | decide | (simp only [U_len, List.length_append, List.length_replicate, List.length_cons, List.length_nil, List.length_set] <;> omega) | fail) only [↓Xa, Xb, Xc, ↓reduceIte, Nat.reduceLT, Nat.reduceEqDiff, Nat.reduceBEq, Nat.reduceLeDiff, Nat.reduceAdd, Nat.reduceMul]
    refine alloc_i fun p5 hp5 => ?_
    have n5 := hp5
    simp only [upd_none] at n5
    obtain ⟨_, _, _, _, n5⟩ := n5
    simp (disch := first | assumption | (apply Ap.symm; assumption) | omega | decide | (simp only [U_len, List.length_append, List.length_replicate, List.length_cons, List.length_nil, List.length_set] <;> omega) | fail) only [cells_RefA, fold_RefA, ↓Xa, Xb, Xc, ↓reduceIte, Nat.reduceLT, Nat.reduceEqDiff, Nat.reduceBEq, Nat.reduceLeDiff, Nat.reduceAdd, Nat.reduceMul]
    refine o2.call ?_
    simp (disch := first | assumption | (apply Ap.symm; assumption) | omega | decide | (simp only [U_len, List.length_append, List.length_replicate, List.length_cons, List.length_nil, List.length_set] <;> omega) | fail) only [↓Xa, Xb, Xc, ↓reduceIte, Nat.reduceLT, Nat.reduceEqDiff, Nat.reduceBEq, Nat.reduceLeDiff, Nat.reduceAdd, Nat.reduceMul]
    refine alloc_i fun p6 hp6 => ?_
    have n6 := hp6
    simp only [upd_none] at n6
    obtain ⟨_, _, _, _, _, n6⟩ := n6
    simp (disch := first | assumption | (apply Ap.symm; assumption) | omega | decide | (simp only [U_len, List.length_append, List.length_replicate, List.length_cons, List.length_nil, List.length_set] <;> omega) | fail) only [cells_RefA, fold_RefA, fold_Rax, cells_Rax, rs14, ↓Xa, Xb, Xc, ↓reduceIte, Nat.reduceLT, Nat.reduceEqDiff, Nat.reduceBEq, Nat.reduceLeDiff, Nat.reduceAdd, Nat.reduceMul]
    exact SetR.dropTo (((((((Le.refl H).updB n1).updB n2).updB n3).updB n4).updB n5).updB n6) (SetR.now hq)
  · have hd' : Bd k ((m : Nat) : Int) := by have := hd.neg; rwa [Int.neg_neg] at this
    obtain ⟨g1, g2, g3, g4⟩ := hg (-n) m h0 hd'
    have er : RatR (_root_.Rat.divInt n (-(m : Int))) = RaxR (-n / ((Int.gcd (-n) (m : Int) : Nat) : Int)) ((m : Int) / ((Int.gcd (-n) (m : Int) : Nat) : Int)) := by
      unfold RatR; rw [e, mk_num h0, mk_den h0]
    rw [er] at hq
    have hs : decide (-((m : Nat) : Int) < 0) = true := decide_eq_true (by omega)
    have gf := rgcd_fn hn.neg (by omega) hd'
    have o1 := rover_fn hn.neg (by omega) g2 (by omega) (by omega)
    have o2 := rover_fn hd' (by omega) g2 (by omega) (by omega)
    rw [if_pos g3] at o1
    rw [if_pos g4] at o2
    generalize ((Int.gcd (-n) (m : Int) : Nat) : Int) = g at *
    simp (disch := first | assumption | (apply Ap.symm; assumption) | omega | decide | (simp only [U_len, List.length_append, List.length_replicate, List.length_cons, List.length_nil, List.length_set] <;> omega) | fail) only [sgn_lss0, hs, cells_RefA, fold_RefA, ↓Xa, Xb, Xc, ↓reduceIte, Nat.reduceLT, Nat.reduceEqDiff, Nat.reduceBEq, Nat.reduceLeDiff, Nat.reduceAdd, Nat.reduceMul]
    refine PFn.dcall (rneg_fn false hn (by omega)) ?_
    simp (disch := first | assumption | (apply Ap.symm; assumption) | omega | decide | (simp only [U_len, List.length_append, List.length_replicate, List.length_cons, List.length_nil, List.length_set] <;> omega) | fail) only [fold_RefA, ↓Xa, Xb, Xc, ↓reduceIte, Nat.reduceLT, Nat.reduceEqDiff, Nat.reduceBEq, Nat.reduceLeDiff, Nat.reduceAdd, Nat.reduceMul]
    refine (rneg_fn false hd (by omega)).call ?_
    simp (disch := first | assumption | (apply Ap.symm; assumption) | omega | decide | (simp only [U_len, List.length_append, List.length_replicate, List.length_cons, List.length_nil, List.length_set] <;> omega) | fail) only [Int.neg_neg, cells_RefA, fold_RefA, ↓Xa, Xb, Xc, ↓reduceIte, Nat.reduceLT, Nat.reduceEqDiff, Nat.reduceBEq, Nat.reduceLeDiff, Nat.reduceAdd, Nat.reduceMul]
    refine gf.call ?_
    simp (disch := first | assumption | (apply Ap.symm; assumption) | omega | decide | (simp only [U_len, List.length_append, List.length_replicate, List.length_cons, List.length_nil, List.length_set] <;> omega) | fail) only [↓Xa, Xb, Xc, ↓reduceIte, Nat.reduceLT, Nat.reduceEqDiff, Nat.reduceBEq, Nat.reduceLeDiff, Nat.reduceAdd, Nat.reduceMul]
    refine alloc_i fun p4 hp4 => ?_
    have n4 := hp4
    simp only [upd_none] at n4
    obtain ⟨_, _, _, n4⟩ := n4
    simp (disch := first | assumption | (apply Ap.symm; assumption) | omega | decide | (simp only [U_len, List.length_append, List.length_replicate, List.length_cons, List.length_nil, List.length_set] <;> omega) | fail) only [cells_RefA, fold_RefA, ↓Xa, Xb, Xc, ↓reduceIte, Nat.reduceLT, Nat.reduceEqDiff, Nat.reduceBEq, Nat.reduceLeDiff, Nat.reduceAdd, Nat.reduceMul]
    refine o1.call ?_
    simp (disch := first | assumption | (apply Ap.symm; assumption) | omega | decide | (simp only [U_len, List.length_append, List.length_replicate, List.length_cons, List.length_nil, List.length_set] <;> omega) | fail) only [↓Xa, Xb, Xc, ↓reduceIte, Nat.reduceLT, Nat.reduceEqDiff, Nat.reduceBEq, Nat.reduceLeDiff, Nat.reduceAdd, Nat.reduceMul]
    refine alloc_i fun p5 hp5 => ?_
    have n5 := hp5
    simp only [upd_none] at n5
    obtain ⟨_, _, _, _, n5⟩ := n5
    simp (disch := first | assumption | (apply Ap.symm; assumption) | omega | decide | (simp only [U_len, List.length_append, List.length_replicate, List.length_cons, List.length_nil, List.length_set] <;> omega) | fail) only [cells_RefA, fold_RefA, ↓Xa, Xb, Xc, ↓reduceIte, Nat.reduceLT, Nat.reduceEqDiff, Nat.reduceBEq, Nat.reduceLeDiff, Nat.reduceAdd, Nat.reduceMul]
    refine o2.call ?_
    simp (disch := first | assumption | (apply Ap.symm; assumption) | omega | decide | (simp only [U_len, List.length_append, List.length_replicate, List.length_cons, List.length_nil, List.length_set] <;> omega) | fail) only [↓Xa, Xb, Xc, ↓reduceIte, Nat.reduceLT, Nat.reduceEqDiff, Nat.reduceBEq, Nat.reduceLeDiff, Nat.reduceAdd, Nat.reduceMul]
    refine alloc_i fun p6 hp6 => ?_
    have n6 := hp6
    simp only [upd_none] at n6
    obtain ⟨_, _, _, _, _, n6⟩ := n6
    simp (disch := first | assumption | (apply Ap.symm; assumption) | omega | decide | (simp only [U_len, List.length_append, List.length_replicate, List.length_cons, List.length_nil, List.length_set] <;> omega) | fail) only [cells_RefA, fold_RefA, fold_Rax, cells_Rax, rs14, ↓Xa, Xb, Xc, ↓reduceIte, Nat.reduceLT, Nat.reduceEqDiff, Nat.reduceBEq, Nat.reduceLeDiff, Nat.reduceAdd, Nat.reduceMul]
    exact SetR.dropTo (((((((Le.refl H).updB n1).updB n2).updB n3).updB n4).updB n5).updB n6) (SetR.now hq)

theorem rrwh_fn {z : Int} : PFn Tryz.prog 11 [RefA z false] (RatR (z : QQ)) := by
  intro H Q hq
  refine enter11 (by simp) ?_
  simp (disch := first | assumption | (apply Ap.symm; assumption) | omega | decide | (simp only [U_len, List.length_append, List.length_replicate, List.length_cons, List.length_nil, List.length_set] <;> omega) | fail) only [ac11, cells_RefA, ↓Xa, Xb, Xc, ↓reduceIte, Nat.reduceLT, Nat.reduceEqDiff, Nat.reduceBEq, Nat.reduceLeDiff, Nat.reduceAdd, Nat.reduceMul]
  refine alloc_i fun p1 hp1 => ?_
  have n1 := hp1
  simp (disch := first | assumption | (apply Ap.symm; assumption) | omega | decide | (simp only [U_len, List.length_append, List.length_replicate, List.length_cons, List.length_nil, List.length_set] <;> omega) | fail) only [↓Xa, Xb, Xc, ↓reduceIte, Nat.reduceLT, Nat.reduceEqDiff, Nat.reduceBEq, Nat.reduceLeDiff, Nat.reduceAdd, Nat.reduceMul]
  refine alloc_i fun p2 hp2 => ?_
  have n2 := hp2
  simp only [upd_none] at n2
  obtain ⟨_, n2⟩ := n2
  simp (disch := first | assumption | (apply Ap.symm; assumption) | omega | decide | (simp only [U_len, List.length_append, List.length_replicate, List.length_cons, List.length_nil, List.length_set] <;> omega) | fail) only [fold_RefA, ↓Xa, Xb, Xc, ↓reduceIte, Nat.reduceLT, Nat.reduceEqDiff, Nat.reduceBEq, Nat.reduceLeDiff, Nat.reduceAdd, Nat.reduceMul]
  refine PFn.dcall (rof_fn (n := ((1 : Nat) : Int)) (by omega)) ?_
  simp (disch := first | assumption | (apply Ap.symm; assumption) | omega | decide | (simp only [U_len, List.length_append, List.length_replicate, List.length_cons, List.length_nil, List.length_set] <;> omega) | fail) only [cells_RefA, fold_RefA, fold_Rax, cells_Rax, rs11, ↓Xa, Xb, Xc, ↓reduceIte, Nat.reduceLT, Nat.reduceEqDiff, Nat.reduceBEq, Nat.reduceLeDiff, Nat.reduceAdd, Nat.reduceMul]
  exact SetR.dropTo (((Le.refl H).updB n1).updB n2) (SetR.now hq)
theorem rrzero_fn : PFn Tryz.prog 13 [] (RatR 0) := by
  intro H Q hq
  refine enter13 (by simp) ?_
  simp (disch := first | assumption | (apply Ap.symm; assumption) | omega | decide | (simp only [U_len, List.length_append, List.length_replicate, List.length_cons, List.length_nil, List.length_set] <;> omega) | fail) only [ac13, ↓Xa, Xb, Xc, ↓reduceIte, Nat.reduceLT, Nat.reduceEqDiff, Nat.reduceBEq, Nat.reduceLeDiff, Nat.reduceAdd, Nat.reduceMul]
  refine alloc_i fun p1 hp1 => ?_
  have n1 := hp1
  simp (disch := first | assumption | (apply Ap.symm; assumption) | omega | decide | (simp only [U_len, List.length_append, List.length_replicate, List.length_cons, List.length_nil, List.length_set] <;> omega) | fail) only [↓Xa, Xb, Xc, ↓reduceIte, Nat.reduceLT, Nat.reduceEqDiff, Nat.reduceBEq, Nat.reduceLeDiff, Nat.reduceAdd, Nat.reduceMul]
  refine (rof_fn (n := ((0 : Nat) : Int)) (by omega)).call ?_
  simp (disch := first | assumption | (apply Ap.symm; assumption) | omega | decide | (simp only [U_len, List.length_append, List.length_replicate, List.length_cons, List.length_nil, List.length_set] <;> omega) | fail) only [↓Xa, Xb, Xc, ↓reduceIte, Nat.reduceLT, Nat.reduceEqDiff, Nat.reduceBEq, Nat.reduceLeDiff, Nat.reduceAdd, Nat.reduceMul]
  refine rrwh_fn.call ?_
  simp (disch := first | assumption | (apply Ap.symm; assumption) | omega | decide | (simp only [U_len, List.length_append, List.length_replicate, List.length_cons, List.length_nil, List.length_set] <;> omega) | fail) only [cells_RatR, fold_Rax, fold_RatR, rs13, ↓Xa, Xb, Xc, ↓reduceIte, Nat.reduceLT, Nat.reduceEqDiff, Nat.reduceBEq, Nat.reduceLeDiff, Nat.reduceAdd, Nat.reduceMul]
  exact SetR.dropTo ((Le.refl H).updB n1) (SetR.now hq)
theorem rrsign_fn {q : QQ} {k : Nat} (hb : RB k q) (hk : k ≤ 1000000) : PFn Tryz.prog 16 [RatR q] (.int .i64 (sgnI q.num)) := by
  intro H Q hq
  refine enter16 (by simp) ?_
  simp (disch := first | assumption | (apply Ap.symm; assumption) | omega | decide | (simp only [U_len, List.length_append, List.length_replicate, List.length_cons, List.length_nil, List.length_set] <;> omega) | fail) only [ac16, cells_RatR, ↓Xa, Xb, Xc, ↓reduceIte, Nat.reduceLT, Nat.reduceEqDiff, Nat.reduceBEq, Nat.reduceLeDiff, Nat.reduceAdd, Nat.reduceMul]
  refine alloc_i fun p1 hp1 => ?_
  have n1 := hp1
  simp (disch := first | assumption | (apply Ap.symm; assumption) | omega | decide | (simp only [U_len, List.length_append, List.length_replicate, List.length_cons, List.length_nil, List.length_set] <;> omega) | fail) only [fold_RefA, ↓Xa, Xb, Xc, ↓reduceIte, Nat.reduceLT, Nat.reduceEqDiff, Nat.reduceBEq, Nat.reduceLeDiff, Nat.reduceAdd, Nat.reduceMul]
  refine (rsign_fn false hb.1 (by omega)).call ?_
  simp (disch := first | assumption | (apply Ap.symm; assumption) | omega | decide | (simp only [U_len, List.length_append, List.length_replicate, List.length_cons, List.length_nil, List.length_set] <;> omega) | fail) only [rs16, ↓Xa, Xb, Xc, ↓reduceIte, Nat.reduceLT, Nat.reduceEqDiff, Nat.reduceBEq, Nat.reduceLeDiff, Nat.reduceAdd, Nat.reduceMul]
  exact SetR.dropTo ((Le.refl H).updB n1) (SetR.now hq)
end Go.Proofs.YtanchgkiomfhhaaGreatDoor.Fw

/- Fractions: the helpers that read and try. -/
namespace Go.Proofs.YtanchgkiomfhhaaGreatDoor.Fw
set_option linter.unusedSimpArgs false
set_option linter.unusedVariables false
open Go Go.Proofs.YtanchgkiomfhhaaGreatDoor.Ma
set_option maxRecDepth 20000

def wk1 : QQ := mkRat (-3) 2
def wk2 : QQ := mkRat (-1) 2
def wk3 : QQ := mkRat (-2) 1
theorem wk1_eq : _root_.Rat.divInt ((6 : Nat) : Int) (-4) = wk1 := by decide +kernel
theorem wk2_eq : wk1 / ((((3 : Nat) : Int)) : QQ) = wk2 := by decide +kernel
theorem wk3_eq : wk2 + wk1 = wk3 := by decide +kernel
theorem wk_q0 : ¬ ((((3 : Nat) : Int) : QQ) = 0) := by decide +kernel
theorem wk1_b : RB 1 wk1 := by unfold RB Bd; decide +kernel
theorem wk2_b : RB 1 wk2 := by unfold RB Bd; decide +kernel
theorem wk3_b : RB 1 wk3 := by unfold RB Bd; decide +kernel
theorem wk1_t : qText wk1 = [45, 51, 47, 50] := by
  have e1 : wk1.num = -3 := by decide +kernel
  have e2 : wk1.den = 2 := by decide +kernel
  rw [qText, e1, e2]; simp [iText, decT, dec, digs, chr]
theorem wk2_t : qText wk2 = [45, 49, 47, 50] := by
  have e1 : wk2.num = -1 := by decide +kernel
  have e2 : wk2.den = 2 := by decide +kernel
  rw [qText, e1, e2]; simp [iText, decT, dec, digs, chr]
theorem wk3_d : wk3.den = 1 := by decide +kernel
theorem wk3_t : qText wk3 = [45, 50] := by
  have e1 : wk3.num = -2 := by decide +kernel
  rw [qText, e1, wk3_d]; simp [iText, decT, dec, digs, chr]
theorem wk3_dt : iText (wk3.den : Int) = [49] := by rw [wk3_d]; simp [iText, decT, dec, digs, chr]
theorem wk1_f : iText (wk1.num / (wk1.den : Int)) = [45, 50] := by
  have e1 : wk1.num / (wk1.den : Int) = -2 := by decide +kernel
  rw [e1]; simp [iText, decT, dec, digs, chr]
theorem works_q : PFn Tryz.prog 5 [] (.bool true) := by
  intro H Q hq
  have s1 : AV.str ⟨#[45, 51, 47, 50]⟩ = Sx [45, 51, 47, 50] := rfl
  have s2 : AV.str ⟨#[45, 49, 47, 50]⟩ = Sx [45, 49, 47, 50] := rfl
  have s3 : AV.str ⟨#[45, 50]⟩ = Sx [45, 50] := rfl
  have s4 : AV.str ⟨#[49]⟩ = Sx [49] := rfl
  refine enter5 (by simp) ?_
  simp (disch := first | assumption | (apply Ap.symm; assumption) | omega | decide | (simp only [U_len, List.length_append, List.length_replicate, List.length_cons, List.length_nil, List.length_set] <;> omega) | fail) only [ac5, ↓Xa, Xb, Xc, ↓reduceIte, Nat.reduceLT, Nat.reduceEqDiff, Nat.reduceBEq, Nat.reduceLeDiff, Nat.reduceAdd, Nat.reduceMul]
  refine (of_fn (n := ((6 : Nat) : Int)) (by omega)).call ?_
  simp (disch := first | assumption | (apply Ap.symm; assumption) | omega | decide | (simp only [U_len, List.length_append, List.length_replicate, List.length_cons, List.length_nil, List.length_set] <;> omega) | fail) only [↓Xa, Xb, Xc, ↓reduceIte, Nat.reduceLT, Nat.reduceEqDiff, Nat.reduceBEq, Nat.reduceLeDiff, Nat.reduceAdd, Nat.reduceMul]
  refine (of_fn (n := -4) (by omega)).call ?_
  simp (disch := first | assumption | (apply Ap.symm; assumption) | omega | decide | (simp only [U_len, List.length_append, List.length_replicate, List.length_cons, List.length_nil, List.length_set] <;> omega) | fail) only [↓Xa, Xb, Xc, ↓reduceIte, Nat.reduceLT, Nat.reduceEqDiff, Nat.reduceBEq, Nat.reduceLeDiff, Nat.reduceAdd, Nat.reduceMul]
  refine (rmk_fn (k := 2) (Bd.i64 (n := ((6 : Nat) : Int)) (by omega)) (Bd.i64 (n := -4) (by omega)) (by omega)).call ?_
  rw [wk1_eq, if_neg (show ¬ ((-4 : Int) = 0) by decide)]
  simp (disch := first | assumption | (apply Ap.symm; assumption) | omega | decide | (simp only [U_len, List.length_append, List.length_replicate, List.length_cons, List.length_nil, List.length_set] <;> omega) | fail) only [RatE, ↓Xa, Xb, Xc, ↓reduceIte, Nat.reduceLT, Nat.reduceEqDiff, Nat.reduceBEq, Nat.reduceLeDiff, Nat.reduceAdd, Nat.reduceMul]
  refine alloc_i fun p1 hp1 => ?_
  have n1 := hp1
  simp (disch := first | assumption | (apply Ap.symm; assumption) | omega | decide | (simp only [U_len, List.length_append, List.length_replicate, List.length_cons, List.length_nil, List.length_set] <;> omega) | fail) only [cells_RatA, fold_Raw, fold_RatA, ↓Xa, Xb, Xc, ↓reduceIte, Nat.reduceLT, Nat.reduceEqDiff, Nat.reduceBEq, Nat.reduceLeDiff, Nat.reduceAdd, Nat.reduceMul]
  refine PFn.dcall (of_fn (n := ((3 : Nat) : Int)) (by omega)) ?_
  simp (disch := first | assumption | (apply Ap.symm; assumption) | omega | decide | (simp only [U_len, List.length_append, List.length_replicate, List.length_cons, List.length_nil, List.length_set] <;> omega) | fail) only [↓Xa, Xb, Xc, ↓reduceIte, Nat.reduceLT, Nat.reduceEqDiff, Nat.reduceBEq, Nat.reduceLeDiff, Nat.reduceAdd, Nat.reduceMul]
  refine PFn.dcall rwh_fn ?_
  simp (disch := first | assumption | (apply Ap.symm; assumption) | omega | decide | (simp only [U_len, List.length_append, List.length_replicate, List.length_cons, List.length_nil, List.length_set] <;> omega) | fail) only [↓Xa, Xb, Xc, ↓reduceIte, Nat.reduceLT, Nat.reduceEqDiff, Nat.reduceBEq, Nat.reduceLeDiff, Nat.reduceAdd, Nat.reduceMul]
  refine PFn.dcall (rover_q wk1_b (RB.int (k := 1) (Bd.i64 (n := ((3 : Nat) : Int)) (by omega))) (by omega)) ?_
  rw [wk2_eq, if_neg wk_q0]
  simp (disch := first | assumption | (apply Ap.symm; assumption) | omega | decide | (simp only [U_len, List.length_append, List.length_replicate, List.length_cons, List.length_nil, List.length_set] <;> omega) | fail) only [RatE, ↓Xa, Xb, Xc, ↓reduceIte, Nat.reduceLT, Nat.reduceEqDiff, Nat.reduceBEq, Nat.reduceLeDiff, Nat.reduceAdd, Nat.reduceMul]
  refine dalloc_i fun p2 hp2 => ?_
  have n2 := hp2
  simp only [upd_none] at n2
  obtain ⟨_, n2⟩ := n2
  simp (disch := first | assumption | (apply Ap.symm; assumption) | omega | decide | (simp only [U_len, List.length_append, List.length_replicate, List.length_cons, List.length_nil, List.length_set] <;> omega) | fail) only [cells_RatA, fold_Raw, fold_RatA, ↓Xa, Xb, Xc, ↓reduceIte, Nat.reduceLT, Nat.reduceEqDiff, Nat.reduceBEq, Nat.reduceLeDiff, Nat.reduceAdd, Nat.reduceMul]
  refine (radd_fn wk2_b wk1_b (by omega)).call ?_
  rw [wk3_eq]
  simp (disch := first | assumption | (apply Ap.symm; assumption) | omega | decide | (simp only [U_len, List.length_append, List.length_replicate, List.length_cons, List.length_nil, List.length_set] <;> omega) | fail) only [↓Xa, Xb, Xc, ↓reduceIte, Nat.reduceLT, Nat.reduceEqDiff, Nat.reduceBEq, Nat.reduceLeDiff, Nat.reduceAdd, Nat.reduceMul]
  refine alloc_i fun p3 hp3 => ?_
  have n3 := hp3
  simp only [upd_none] at n3
  obtain ⟨_, _, n3⟩ := n3
  simp (disch := first | assumption | (apply Ap.symm; assumption) | omega | decide | (simp only [U_len, List.length_append, List.length_replicate, List.length_cons, List.length_nil, List.length_set] <;> omega) | fail) only [cells_RatA, fold_Raw, fold_RatA, ↓Xa, Xb, Xc, ↓reduceIte, Nat.reduceLT, Nat.reduceEqDiff, Nat.reduceBEq, Nat.reduceLeDiff, Nat.reduceAdd, Nat.reduceMul]
  refine (rtextq_fn wk1_b (by omega)).call ?_
  simp (disch := first | assumption | (apply Ap.symm; assumption) | omega | decide | (simp only [U_len, List.length_append, List.length_replicate, List.length_cons, List.length_nil, List.length_set] <;> omega) | fail) only [wk1_t, s1, eql_Sx, fold_Raw, fold_RatA, ↓Xa, Xb, Xc, ↓reduceIte, Nat.reduceLT, Nat.reduceEqDiff, Nat.reduceBEq, Nat.reduceLeDiff, Nat.reduceAdd, Nat.reduceMul]
  refine (rtextq_fn wk2_b (by omega)).call ?_
  simp (disch := first | assumption | (apply Ap.symm; assumption) | omega | decide | (simp only [U_len, List.length_append, List.length_replicate, List.length_cons, List.length_nil, List.length_set] <;> omega) | fail) only [wk2_t, s2, eql_Sx, fold_Raw, fold_RatA, ↓Xa, Xb, Xc, ↓reduceIte, Nat.reduceLT, Nat.reduceEqDiff, Nat.reduceBEq, Nat.reduceLeDiff, Nat.reduceAdd, Nat.reduceMul]
  refine (rtextq_fn wk3_b (by omega)).call ?_
  simp (disch := first | assumption | (apply Ap.symm; assumption) | omega | decide | (simp only [U_len, List.length_append, List.length_replicate, List.length_cons, List.length_nil, List.length_set] <;> omega) | fail) only [wk3_t, s3, eql_Sx, fold_Raw, fold_RatA, ↓Xa, Xb, Xc, ↓reduceIte, Nat.reduceLT, Nat.reduceEqDiff, Nat.reduceBEq, Nat.reduceLeDiff, Nat.reduceAdd, Nat.reduceMul]
  refine (rwhole_fn wk3_b (by omega)).call ?_
  simp (disch := first | assumption | (apply Ap.symm; assumption) | omega | decide | (simp only [U_len, List.length_append, List.length_replicate, List.length_cons, List.length_nil, List.length_set] <;> omega) | fail) only [decide_eq_true wk3_d, fold_Raw, fold_RatA, ↓Xa, Xb, Xc, ↓reduceIte, Nat.reduceLT, Nat.reduceEqDiff, Nat.reduceBEq, Nat.reduceLeDiff, Nat.reduceAdd, Nat.reduceMul]
  refine (rden_fn wk3_b (by omega)).call ?_
  simp (disch := first | assumption | (apply Ap.symm; assumption) | omega | decide | (simp only [U_len, List.length_append, List.length_replicate, List.length_cons, List.length_nil, List.length_set] <;> omega) | fail) only [↓Xa, Xb, Xc, ↓reduceIte, Nat.reduceLT, Nat.reduceEqDiff, Nat.reduceBEq, Nat.reduceLeDiff, Nat.reduceAdd, Nat.reduceMul]
  refine (itext_fn wk3_b.2 (by omega)).call ?_
  simp (disch := first | assumption | (apply Ap.symm; assumption) | omega | decide | (simp only [U_len, List.length_append, List.length_replicate, List.length_cons, List.length_nil, List.length_set] <;> omega) | fail) only [wk3_dt, s4, eql_Sx, fold_Raw, fold_RatA, ↓Xa, Xb, Xc, ↓reduceIte, Nat.reduceLT, Nat.reduceEqDiff, Nat.reduceBEq, Nat.reduceLeDiff, Nat.reduceAdd, Nat.reduceMul]
  refine (rfloor_fn wk1_b (by omega)).call ?_
  simp (disch := first | assumption | (apply Ap.symm; assumption) | omega | decide | (simp only [U_len, List.length_append, List.length_replicate, List.length_cons, List.length_nil, List.length_set] <;> omega) | fail) only [↓Xa, Xb, Xc, ↓reduceIte, Nat.reduceLT, Nat.reduceEqDiff, Nat.reduceBEq, Nat.reduceLeDiff, Nat.reduceAdd, Nat.reduceMul]
  refine (itext_fn (wk1_b.1.ediv) (by omega)).call ?_
  simp (disch := first | assumption | (apply Ap.symm; assumption) | omega | decide | (simp only [U_len, List.length_append, List.length_replicate, List.length_cons, List.length_nil, List.length_set] <;> omega) | fail) only [wk1_f, s3, eql_Sx, rs5, ↓Xa, Xb, Xc, ↓reduceIte, Nat.reduceLT, Nat.reduceEqDiff, Nat.reduceBEq, Nat.reduceLeDiff, Nat.reduceAdd, Nat.reduceMul]
  exact SetR.dropTo ((((Le.refl H).updB n1).updB n2).updB n3) (SetR.now hq)

end Go.Proofs.YtanchgkiomfhhaaGreatDoor.Fw

/- Fractions: more of the reference, and what holds the two against each other. -/
namespace Go.Proofs.YtanchgkiomfhhaaGreatDoor.Fw
set_option linter.unusedSimpArgs false
set_option linter.unusedVariables false
open Go Go.Proofs.YtanchgkiomfhhaaGreatDoor.Ma
set_option maxRecDepth 20000

theorem rrwhole_fn {q : QQ} {k : Nat} (hb : RB k q) (hk : k ≤ 1000000) : PFn Tryz.prog 18 [RatR q] (.bool (decide (q.den = 1))) := by
  intro H Q hq
  have e : decide ((q.den : Int) = ((1 : Nat) : Int)) = decide (q.den = 1) := decide_eq_decide.2 (by omega)
  rw [← e] at hq
  refine enter18 (by simp) ?_
  simp (disch := first | assumption | (apply Ap.symm; assumption) | omega | decide | (simp only [U_len, List.length_append, List.length_replicate, List.length_cons, List.length_nil, List.length_set] <;> omega) | fail) only [ac18, cells_RatR, ↓Xa, Xb, Xc, ↓reduceIte, Nat.reduceLT, Nat.reduceEqDiff, Nat.reduceBEq, Nat.reduceLeDiff, Nat.reduceAdd, Nat.reduceMul]
  refine alloc_i fun p1 hp1 => ?_
  have n1 := hp1
  simp (disch := first | assumption | (apply Ap.symm; assumption) | omega | decide | (simp only [U_len, List.length_append, List.length_replicate, List.length_cons, List.length_nil, List.length_set] <;> omega) | fail) only [fold_RefA, ↓Xa, Xb, Xc, ↓reduceIte, Nat.reduceLT, Nat.reduceEqDiff, Nat.reduceBEq, Nat.reduceLeDiff, Nat.reduceAdd, Nat.reduceMul]
  refine PFn.dcall (rof_fn (n := ((1 : Nat) : Int)) (by omega)) ?_
  simp (disch := first | assumption | (apply Ap.symm; assumption) | omega | decide | (simp only [U_len, List.length_append, List.length_replicate, List.length_cons, List.length_nil, List.length_set] <;> omega) | fail) only [fold_RefA, ↓Xa, Xb, Xc, ↓reduceIte, Nat.reduceLT, Nat.reduceEqDiff, Nat.reduceBEq, Nat.reduceLeDiff, Nat.reduceAdd, Nat.reduceMul]
  refine (same_fn hb.2 (by omega) (Bd.i64 (n := ((1 : Nat) : Int)) (by omega)) (by omega)).call ?_
  simp (disch := first | assumption | (apply Ap.symm; assumption) | omega | decide | (simp only [U_len, List.length_append, List.length_replicate, List.length_cons, List.length_nil, List.length_set] <;> omega) | fail) only [rs18, ↓Xa, Xb, Xc, ↓reduceIte, Nat.reduceLT, Nat.reduceEqDiff, Nat.reduceBEq, Nat.reduceLeDiff, Nat.reduceAdd, Nat.reduceMul]
  exact SetR.dropTo ((Le.refl H).updB n1) (SetR.now hq)
theorem rrfloor_fn {q : QQ} {k : Nat} (hb : RB k q) (hk : k ≤ 1000000) : PFn Tryz.prog 22 [RatR q] (RefA (q.num / (q.den : Int)) false) := by
  intro H Q hq
  refine enter22 (by simp) ?_
  simp (disch := first | assumption | (apply Ap.symm; assumption) | omega | decide | (simp only [U_len, List.length_append, List.length_replicate, List.length_cons, List.length_nil, List.length_set] <;> omega) | fail) only [ac22, cells_RatR, ↓Xa, Xb, Xc, ↓reduceIte, Nat.reduceLT, Nat.reduceEqDiff, Nat.reduceBEq, Nat.reduceLeDiff, Nat.reduceAdd, Nat.reduceMul]
  refine alloc_i fun p1 hp1 => ?_
  have n1 := hp1
  simp (disch := first | assumption | (apply Ap.symm; assumption) | omega | decide | (simp only [U_len, List.length_append, List.length_replicate, List.length_cons, List.length_nil, List.length_set] <;> omega) | fail) only [↓Xa, Xb, Xc, ↓reduceIte, Nat.reduceLT, Nat.reduceEqDiff, Nat.reduceBEq, Nat.reduceLeDiff, Nat.reduceAdd, Nat.reduceMul]
  refine alloc_i fun p2 hp2 => ?_
  have n2 := hp2
  simp only [upd_none] at n2
  obtain ⟨_, n2⟩ := n2
  simp (disch := first | assumption | (apply Ap.symm; assumption) | omega | decide | (simp only [U_len, List.length_append, List.length_replicate, List.length_cons, List.length_nil, List.length_set] <;> omega) | fail) only [fold_RefA, ↓Xa, Xb, Xc, ↓reduceIte, Nat.reduceLT, Nat.reduceEqDiff, Nat.reduceBEq, Nat.reduceLeDiff, Nat.reduceAdd, Nat.reduceMul]
  refine (rdivmod_fn hb.1 (by omega) hb.2 (by omega) (by have := q_pos q; omega)).call ?_
  simp (disch := first | assumption | (apply Ap.symm; assumption) | omega | decide | (simp only [U_len, List.length_append, List.length_replicate, List.length_cons, List.length_nil, List.length_set] <;> omega) | fail) only [↓Xa, Xb, Xc, ↓reduceIte, Nat.reduceLT, Nat.reduceEqDiff, Nat.reduceBEq, Nat.reduceLeDiff, Nat.reduceAdd, Nat.reduceMul]
  refine alloc_i fun p3 hp3 => ?_
  have n3 := hp3
  simp only [upd_none] at n3
  obtain ⟨_, _, n3⟩ := n3
  simp (disch := first | assumption | (apply Ap.symm; assumption) | omega | decide | (simp only [U_len, List.length_append, List.length_replicate, List.length_cons, List.length_nil, List.length_set] <;> omega) | fail) only [↓Xa, Xb, Xc, ↓reduceIte, Nat.reduceLT, Nat.reduceEqDiff, Nat.reduceBEq, Nat.reduceLeDiff, Nat.reduceAdd, Nat.reduceMul]
  refine alloc_i fun p4 hp4 => ?_
  have n4 := hp4
  simp only [upd_none] at n4
  obtain ⟨_, _, _, n4⟩ := n4
  simp (disch := first | assumption | (apply Ap.symm; assumption) | omega | decide | (simp only [U_len, List.length_append, List.length_replicate, List.length_cons, List.length_nil, List.length_set] <;> omega) | fail) only [cells_RefA, fold_RefA, rs22, ↓Xa, Xb, Xc, ↓reduceIte, Nat.reduceLT, Nat.reduceEqDiff, Nat.reduceBEq, Nat.reduceLeDiff, Nat.reduceAdd, Nat.reduceMul]
  exact SetR.dropTo (((((Le.refl H).updB n1).updB n2).updB n3).updB n4) (SetR.now hq)
theorem rrtext_fn {q : QQ} {k : Nat} (hb : RB k q) (hk : k ≤ 1000000) : PFn Tryz.prog 24 [RatR q] (Sx (qText q)) := by
  intro H Q hq
  have l1 := iText_len hb.1
  have l2 := iText_len hb.2
  refine enter24 (by simp) ?_
  simp (disch := first | assumption | (apply Ap.symm; assumption) | omega | decide | (simp only [U_len, List.length_append, List.length_replicate, List.length_cons, List.length_nil, List.length_set] <;> omega) | fail) only [ac24, cells_RatR, ↓Xa, Xb, Xc, ↓reduceIte, Nat.reduceLT, Nat.reduceEqDiff, Nat.reduceBEq, Nat.reduceLeDiff, Nat.reduceAdd, Nat.reduceMul]
  refine alloc_i fun p1 hp1 => ?_
  have n1 := hp1
  simp (disch := first | assumption | (apply Ap.symm; assumption) | omega | decide | (simp only [U_len, List.length_append, List.length_replicate, List.length_cons, List.length_nil, List.length_set] <;> omega) | fail) only [fold_Rax, fold_RatR, ↓Xa, Xb, Xc, ↓reduceIte, Nat.reduceLT, Nat.reduceEqDiff, Nat.reduceBEq, Nat.reduceLeDiff, Nat.reduceAdd, Nat.reduceMul]
  refine (rrwhole_fn hb hk).call ?_
  by_cases h : q.den = 1
  · rw [qText, if_pos h, List.append_nil] at hq
    simp (disch := first | assumption | (apply Ap.symm; assumption) | omega | decide | (simp only [U_len, List.length_append, List.length_replicate, List.length_cons, List.length_nil, List.length_set] <;> omega) | fail) only [decide_eq_true h, fold_RefA, ↓Xa, Xb, Xc, ↓reduceIte, Nat.reduceLT, Nat.reduceEqDiff, Nat.reduceBEq, Nat.reduceLeDiff, Nat.reduceAdd, Nat.reduceMul]
    refine (rtext_fn false hb.1 hk).call ?_
    simp (disch := first | assumption | (apply Ap.symm; assumption) | omega | decide | (simp only [U_len, List.length_append, List.length_replicate, List.length_cons, List.length_nil, List.length_set] <;> omega) | fail) only [rs24, ↓Xa, Xb, Xc, ↓reduceIte, Nat.reduceLT, Nat.reduceEqDiff, Nat.reduceBEq, Nat.reduceLeDiff, Nat.reduceAdd, Nat.reduceMul]
    exact SetR.dropTo ((Le.refl H).updB n1) (SetR.now hq)
  · rw [qText, if_neg h] at hq
    have s1 : AV.str ⟨#[47]⟩ = Sx [47] := rfl
    have e1 : ∀ K, binW .add (Sx (iText q.num)) (Sx [47]) K = K (Sx (iText q.num ++ [47])) := fun K => add_Sx (by simp; omega)
    have e2 : ∀ K, binW .add (Sx (iText q.num ++ [47])) (Sx (iText (q.den : Int))) K = K (Sx (iText q.num ++ [47] ++ iText (q.den : Int))) := fun K => add_Sx (by simp; omega)
    have e3 : iText q.num ++ [47] ++ iText (q.den : Int) = iText q.num ++ 47 :: iText (q.den : Int) := by simp
    simp (disch := first | assumption | (apply Ap.symm; assumption) | omega | decide | (simp only [U_len, List.length_append, List.length_replicate, List.length_cons, List.length_nil, List.length_set] <;> omega) | fail) only [decide_eq_false h, fold_RefA, ↓Xa, Xb, Xc, ↓reduceIte, Nat.reduceLT, Nat.reduceEqDiff, Nat.reduceBEq, Nat.reduceLeDiff, Nat.reduceAdd, Nat.reduceMul]
    refine PFn.dcall (rtext_fn false hb.1 hk) ?_
    simp (disch := first | assumption | (apply Ap.symm; assumption) | omega | decide | (simp only [U_len, List.length_append, List.length_replicate, List.length_cons, List.length_nil, List.length_set] <;> omega) | fail) only [s1, e1, fold_RefA, ↓Xa, Xb, Xc, ↓reduceIte, Nat.reduceLT, Nat.reduceEqDiff, Nat.reduceBEq, Nat.reduceLeDiff, Nat.reduceAdd, Nat.reduceMul]
    refine PFn.dcall (rtext_fn false hb.2 hk) ?_
    simp (disch := first | assumption | (apply Ap.symm; assumption) | omega | decide | (simp only [U_len, List.length_append, List.length_replicate, List.length_cons, List.length_nil, List.length_set] <;> omega) | fail) only [e2, e3, rs24, ↓Xa, Xb, Xc, ↓reduceIte, Nat.reduceLT, Nat.reduceEqDiff, Nat.reduceBEq, Nat.reduceLeDiff, Nat.reduceAdd, Nat.reduceMul]
    exact SetR.dropTo ((Le.refl H).updB n1) (SetR.now hq)
theorem isq_fn {q : QQ} {k : Nat} (hb : RB k q) (hk : k ≤ 1000000) : PFn Tryz.prog 9 [RatA q, RatR q] (.bool true) := by
  intro H Q hq
  refine enter9 (by simp) ?_
  simp (disch := first | assumption | (apply Ap.symm; assumption) | omega | decide | (simp only [U_len, List.length_append, List.length_replicate, List.length_cons, List.length_nil, List.length_set] <;> omega) | fail) only [ac9, cells_RatA, ↓Xa, Xb, Xc, ↓reduceIte, Nat.reduceLT, Nat.reduceEqDiff, Nat.reduceBEq, Nat.reduceLeDiff, Nat.reduceAdd, Nat.reduceMul]
  refine alloc_i fun p1 hp1 => ?_
  have n1 := hp1
  simp (disch := first | assumption | (apply Ap.symm; assumption) | omega | decide | (simp only [U_len, List.length_append, List.length_replicate, List.length_cons, List.length_nil, List.length_set] <;> omega) | fail) only [cells_RatR, ↓Xa, Xb, Xc, ↓reduceIte, Nat.reduceLT, Nat.reduceEqDiff, Nat.reduceBEq, Nat.reduceLeDiff, Nat.reduceAdd, Nat.reduceMul]
  refine alloc_i fun p2 hp2 => ?_
  have n2 := hp2
  simp only [upd_none] at n2
  obtain ⟨_, n2⟩ := n2
  simp (disch := first | assumption | (apply Ap.symm; assumption) | omega | decide | (simp only [U_len, List.length_append, List.length_replicate, List.length_cons, List.length_nil, List.length_set] <;> omega) | fail) only [fold_Raw, fold_RatA, ↓Xa, Xb, Xc, ↓reduceIte, Nat.reduceLT, Nat.reduceEqDiff, Nat.reduceBEq, Nat.reduceLeDiff, Nat.reduceAdd, Nat.reduceMul]
  refine PFn.dcall rnum_fn ?_
  simp (disch := first | assumption | (apply Ap.symm; assumption) | omega | decide | (simp only [U_len, List.length_append, List.length_replicate, List.length_cons, List.length_nil, List.length_set] <;> omega) | fail) only [↓Xa, Xb, Xc, ↓reduceIte, Nat.reduceLT, Nat.reduceEqDiff, Nat.reduceBEq, Nat.reduceLeDiff, Nat.reduceAdd, Nat.reduceMul]
  refine PFn.dcall (itext_fn hb.1 hk) ?_
  simp (disch := first | assumption | (apply Ap.symm; assumption) | omega | decide | (simp only [U_len, List.length_append, List.length_replicate, List.length_cons, List.length_nil, List.length_set] <;> omega) | fail) only [fold_RefA, ↓Xa, Xb, Xc, ↓reduceIte, Nat.reduceLT, Nat.reduceEqDiff, Nat.reduceBEq, Nat.reduceLeDiff, Nat.reduceAdd, Nat.reduceMul]
  refine PFn.dcall (rtext_fn false hb.1 hk) ?_
  simp (disch := first | assumption | (apply Ap.symm; assumption) | omega | decide | (simp only [U_len, List.length_append, List.length_replicate, List.length_cons, List.length_nil, List.length_set] <;> omega) | fail) only [eql_Sx, fold_Raw, fold_RatA, ↓Xa, Xb, Xc, ↓reduceIte, Nat.reduceLT, Nat.reduceEqDiff, Nat.reduceBEq, Nat.reduceLeDiff, Nat.reduceAdd, Nat.reduceMul]
  refine PFn.dcall (rden_fn hb hk) ?_
  simp (disch := first | assumption | (apply Ap.symm; assumption) | omega | decide | (simp only [U_len, List.length_append, List.length_replicate, List.length_cons, List.length_nil, List.length_set] <;> omega) | fail) only [↓Xa, Xb, Xc, ↓reduceIte, Nat.reduceLT, Nat.reduceEqDiff, Nat.reduceBEq, Nat.reduceLeDiff, Nat.reduceAdd, Nat.reduceMul]
  refine PFn.dcall (itext_fn hb.2 hk) ?_
  simp (disch := first | assumption | (apply Ap.symm; assumption) | omega | decide | (simp only [U_len, List.length_append, List.length_replicate, List.length_cons, List.length_nil, List.length_set] <;> omega) | fail) only [fold_RefA, ↓Xa, Xb, Xc, ↓reduceIte, Nat.reduceLT, Nat.reduceEqDiff, Nat.reduceBEq, Nat.reduceLeDiff, Nat.reduceAdd, Nat.reduceMul]
  refine (rtext_fn false hb.2 hk).call ?_
  simp (disch := first | assumption | (apply Ap.symm; assumption) | omega | decide | (simp only [U_len, List.length_append, List.length_replicate, List.length_cons, List.length_nil, List.length_set] <;> omega) | fail) only [eql_Sx, rs9, ↓Xa, Xb, Xc, ↓reduceIte, Nat.reduceLT, Nat.reduceEqDiff, Nat.reduceBEq, Nat.reduceLeDiff, Nat.reduceAdd, Nat.reduceMul]
  exact SetR.dropTo (((Le.refl H).updB n1).updB n2) (SetR.now hq)
end Go.Proofs.YtanchgkiomfhhaaGreatDoor.Fw

/- Fractions: the laws that hold the program against the reference: true. -/
namespace Go.Proofs.YtanchgkiomfhhaaGreatDoor.Fw
set_option linter.unusedSimpArgs false
set_option linter.unusedVariables false
open Go Go.Proofs.YtanchgkiomfhhaaGreatDoor.Ma
set_option maxRecDepth 20000

theorem repF1 {a b : AV} : repA [a, b] 2 = [a, b] := by simp [repA, List.range, List.range.loop]
theorem extF3 {a b c d : AV} {l : List AV} {K : AV → Prop} : extW (.tup (a :: b :: c :: d :: l)) 3 K = K d := id rfl
theorem extF4 {a b c d e : AV} {l : List AV} {K : AV → Prop} : extW (.tup (a :: b :: c :: d :: e :: l)) 4 K = K e := id rfl
theorem cells_RefF {z : Int} {t : Bool} : (RefA z t).cells = some [RefB z, LS (digs 65536 z.natAbs) t] := id rfl
theorem fold_RefF {z : Int} {t : Bool} : AV.agg [RefB z, LS (digs 65536 z.natAbs) t] = RefA z t := id rfl

/-- A text read by both. -/
theorem read2_ex (l : List UInt8) (hl : l.length ≤ 65536) : ∃ (z : Int) (ok : Bool) (pos : Int) (e a : Nat), Bd 8192 z ∧ decide (((0 : Nat) : Int) ≤ pos) = !ok ∧ PFn Tryz.prog 43 [Sx l] (.tup [IntA z, spot e a]) ∧ PFn Tryz.prog 42 [Sx l] (.tup [RefA z (!ok), .int .i64 pos]) := by
  obtain ⟨p, hp⟩ := isAt_ex l
  have h := iread_fn hp (by omega)
  have r := rread_fn hp hl
  unfold iReadA at h
  unfold rReadA at r
  rw [if_neg (by omega)] at h
  by_cases h2 : p = iFrom l ∨ p < l.length
  · rw [if_pos h2] at h r
    exact ⟨0, false, (p : Int), 6, p, Bd.zero _, decide_eq_true (by omega), h, r⟩
  · rw [if_neg h2] at h r
    have hne : p ≠ iFrom l := fun e => h2 (.inl e)
    have hpl : p = l.length := by have := hp.2.1; omega
    subst hpl
    exact ⟨iVal l, true, -1, 0, 0, Bd.sgn (Nat.lt_of_lt_of_le (decV_lt fun b hb => ((isAt_good hp hne).2.1 b hb).2) (ten_bound (by simp; omega))), by decide, h, r⟩
theorem numbers_ex (a : List UInt8 × List UInt8) (h1 : a.1.length ≤ 65536) (h2 : a.2.length ≤ 65536) : ∃ (z1 z2 y1 y2 : Int) (t1 t2 ok : Bool), Bd 8192 z1 ∧ Bd 8192 z2 ∧ (ok = true → y1 = z1 ∧ y2 = z2 ∧ t1 = false ∧ t2 = false) ∧ PFn Tryz.prog 7 [FracA a] (.tup [IntA z1, IntA z2, RefA y1 t1, RefA y2 t2, .bool ok]) := by
  obtain ⟨z1, o1, q1, e1, a1, b1, g1, f1, r1⟩ := read2_ex a.1 h1
  obtain ⟨z2, o2, q2, e2, a2, b2, g2, f2, r2⟩ := read2_ex a.2 h2
  refine ⟨if (o1 && o2) = true then z1 else 0, if (o1 && o2) = true then z2 else 0, z1, z2, !o1, !o2, o1 && o2, ?_, ?_, ?_, fun H Q hq => ?_⟩
  · split
    · exact b1
    · exact Bd.zero _
  · split
    · exact b2
    · exact Bd.zero _
  · intro h; cases o1 <;> cases o2 <;> simp_all
  refine enter7 (by simp) ?_
  simp (disch := first | assumption | (apply Ap.symm; assumption) | omega | decide | (simp only [U_len, List.length_append, List.length_replicate, List.length_cons, List.length_nil, List.length_set] <;> omega) | fail) only [ac7, cells_FracA, ↓Xa, Xb, Xc, ↓reduceIte, Nat.reduceLT, Nat.reduceEqDiff, Nat.reduceBEq, Nat.reduceLeDiff, Nat.reduceAdd, Nat.reduceMul]
  refine alloc_i fun p1 hp1 => ?_
  have n1 := hp1
  simp (disch := first | assumption | (apply Ap.symm; assumption) | omega | decide | (simp only [U_len, List.length_append, List.length_replicate, List.length_cons, List.length_nil, List.length_set] <;> omega) | fail) only [↓Xa, Xb, Xc, ↓reduceIte, Nat.reduceLT, Nat.reduceEqDiff, Nat.reduceBEq, Nat.reduceLeDiff, Nat.reduceAdd, Nat.reduceMul]
  refine alloc_i fun p2 hp2 => ?_
  have n2 := hp2
  simp only [upd_none] at n2
  obtain ⟨_, n2⟩ := n2
  simp (disch := first | assumption | (apply Ap.symm; assumption) | omega | decide | (simp only [U_len, List.length_append, List.length_replicate, List.length_cons, List.length_nil, List.length_set] <;> omega) | fail) only [↓Xa, Xb, Xc, ↓reduceIte, Nat.reduceLT, Nat.reduceEqDiff, Nat.reduceBEq, Nat.reduceLeDiff, Nat.reduceAdd, Nat.reduceMul]
  refine alloc_i fun p3 hp3 => ?_
  have n3 := hp3
  simp only [upd_none] at n3
  obtain ⟨_, _, n3⟩ := n3
  simp (disch := first | assumption | (apply Ap.symm; assumption) | omega | decide | (simp only [U_len, List.length_append, List.length_replicate, List.length_cons, List.length_nil, List.length_set] <;> omega) | fail) only [↓Xa, Xb, Xc, ↓reduceIte, Nat.reduceLT, Nat.reduceEqDiff, Nat.reduceBEq, Nat.reduceLeDiff, Nat.reduceAdd, Nat.reduceMul]
  refine alloc_i fun p4 hp4 => ?_
  have n4 := hp4
  simp only [upd_none] at n4
  obtain ⟨_, _, _, n4⟩ := n4
  simp (disch := first | assumption | (apply Ap.symm; assumption) | omega | decide | (simp only [U_len, List.length_append, List.length_replicate, List.length_cons, List.length_nil, List.length_set] <;> omega) | fail) only [↓Xa, Xb, Xc, ↓reduceIte, Nat.reduceLT, Nat.reduceEqDiff, Nat.reduceBEq, Nat.reduceLeDiff, Nat.reduceAdd, Nat.reduceMul]
  refine alloc_i fun p5 hp5 => ?_
  have n5 := hp5
  simp only [upd_none] at n5
  obtain ⟨_, _, _, _, n5⟩ := n5
  simp (disch := first | assumption | (apply Ap.symm; assumption) | omega | decide | (simp only [U_len, List.length_append, List.length_replicate, List.length_cons, List.length_nil, List.length_set] <;> omega) | fail) only [↓Xa, Xb, Xc, ↓reduceIte, Nat.reduceLT, Nat.reduceEqDiff, Nat.reduceBEq, Nat.reduceLeDiff, Nat.reduceAdd, Nat.reduceMul]
  refine r1.call ?_
  simp (disch := first | assumption | (apply Ap.symm; assumption) | omega | decide | (simp only [U_len, List.length_append, List.length_replicate, List.length_cons, List.length_nil, List.length_set] <;> omega) | fail) only [↓Xa, Xb, Xc, ↓reduceIte, Nat.reduceLT, Nat.reduceEqDiff, Nat.reduceBEq, Nat.reduceLeDiff, Nat.reduceAdd, Nat.reduceMul]
  refine alloc_i fun p6 hp6 => ?_
  have n6 := hp6
  simp only [upd_none] at n6
  obtain ⟨_, _, _, _, _, n6⟩ := n6
  simp (disch := first | assumption | (apply Ap.symm; assumption) | omega | decide | (simp only [U_len, List.length_append, List.length_replicate, List.length_cons, List.length_nil, List.length_set] <;> omega) | fail) only [cells_RefF, ↓Xa, Xb, Xc, ↓reduceIte, Nat.reduceLT, Nat.reduceEqDiff, Nat.reduceBEq, Nat.reduceLeDiff, Nat.reduceAdd, Nat.reduceMul]
  refine r2.call ?_
  simp (disch := first | assumption | (apply Ap.symm; assumption) | omega | decide | (simp only [U_len, List.length_append, List.length_replicate, List.length_cons, List.length_nil, List.length_set] <;> omega) | fail) only [↓Xa, Xb, Xc, ↓reduceIte, Nat.reduceLT, Nat.reduceEqDiff, Nat.reduceBEq, Nat.reduceLeDiff, Nat.reduceAdd, Nat.reduceMul]
  refine alloc_i fun p7 hp7 => ?_
  have n7 := hp7
  simp only [upd_none] at n7
  obtain ⟨_, _, _, _, _, _, n7⟩ := n7
  cases o1 with
  | false =>
    rw [Bool.false_and, if_neg (by decide), if_neg (by decide), ← IntA_0] at hq
    simp (disch := first | assumption | (apply Ap.symm; assumption) | omega | decide | (simp only [U_len, List.length_append, List.length_replicate, List.length_cons, List.length_nil, List.length_set] <;> omega) | fail) only [geq_int, g1, cells_RefF, fold_RefF, rs7, ↓Xa, Xb, Xc, ↓reduceIte, Nat.reduceLT, Nat.reduceEqDiff, Nat.reduceBEq, Nat.reduceLeDiff, Nat.reduceAdd, Nat.reduceMul]
    exact SetR.dropTo ((((((((Le.refl H).updB n1).updB n2).updB n3).updB n4).updB n5).updB n6).updB n7) (SetR.now hq)
  | true =>
  cases o2 with
  | false =>
    rw [Bool.true_and, if_neg (by decide), if_neg (by decide), ← IntA_0] at hq
    simp (disch := first | assumption | (apply Ap.symm; assumption) | omega | decide | (simp only [U_len, List.length_append, List.length_replicate, List.length_cons, List.length_nil, List.length_set] <;> omega) | fail) only [geq_int, g1, g2, cells_RefF, fold_RefF, rs7, ↓Xa, Xb, Xc, ↓reduceIte, Nat.reduceLT, Nat.reduceEqDiff, Nat.reduceBEq, Nat.reduceLeDiff, Nat.reduceAdd, Nat.reduceMul]
    exact SetR.dropTo ((((((((Le.refl H).updB n1).updB n2).updB n3).updB n4).updB n5).updB n6).updB n7) (SetR.now hq)
  | true =>
  rw [Bool.true_and, if_pos rfl, if_pos rfl] at hq
  simp (disch := first | assumption | (apply Ap.symm; assumption) | omega | decide | (simp only [U_len, List.length_append, List.length_replicate, List.length_cons, List.length_nil, List.length_set] <;> omega) | fail) only [geq_int, g1, g2, cells_RefF, ↓Xa, Xb, Xc, ↓reduceIte, Nat.reduceLT, Nat.reduceEqDiff, Nat.reduceBEq, Nat.reduceLeDiff, Nat.reduceAdd, Nat.reduceMul]
  refine f1.call ?_
  simp (disch := first | assumption | (apply Ap.symm; assumption) | omega | decide | (simp only [U_len, List.length_append, List.length_replicate, List.length_cons, List.length_nil, List.length_set] <;> omega) | fail) only [spot, ↓Xa, Xb, Xc, ↓reduceIte, Nat.reduceLT, Nat.reduceEqDiff, Nat.reduceBEq, Nat.reduceLeDiff, Nat.reduceAdd, Nat.reduceMul]
  refine alloc_i fun p8 hp8 => ?_
  have n8 := hp8
  simp only [upd_none] at n8
  obtain ⟨_, _, _, _, _, _, _, n8⟩ := n8
  simp (disch := first | assumption | (apply Ap.symm; assumption) | omega | decide | (simp only [U_len, List.length_append, List.length_replicate, List.length_cons, List.length_nil, List.length_set] <;> omega) | fail) only [↓Xa, Xb, Xc, ↓reduceIte, Nat.reduceLT, Nat.reduceEqDiff, Nat.reduceBEq, Nat.reduceLeDiff, Nat.reduceAdd, Nat.reduceMul]
  refine alloc_i fun p9 hp9 => ?_
  have n9 := hp9
  simp only [upd_none] at n9
  obtain ⟨_, _, _, _, _, _, _, _, n9⟩ := n9
  simp (disch := first | assumption | (apply Ap.symm; assumption) | omega | decide | (simp only [U_len, List.length_append, List.length_replicate, List.length_cons, List.length_nil, List.length_set] <;> omega) | fail) only [cells_IntA, cells_i2, ↓Xa, Xb, Xc, ↓reduceIte, Nat.reduceLT, Nat.reduceEqDiff, Nat.reduceBEq, Nat.reduceLeDiff, Nat.reduceAdd, Nat.reduceMul]
  refine f2.call ?_
  simp (disch := first | assumption | (apply Ap.symm; assumption) | omega | decide | (simp only [U_len, List.length_append, List.length_replicate, List.length_cons, List.length_nil, List.length_set] <;> omega) | fail) only [spot, ↓Xa, Xb, Xc, ↓reduceIte, Nat.reduceLT, Nat.reduceEqDiff, Nat.reduceBEq, Nat.reduceLeDiff, Nat.reduceAdd, Nat.reduceMul]
  refine alloc_i fun p10 hp10 => ?_
  have n10 := hp10
  simp only [upd_none] at n10
  obtain ⟨_, _, _, _, _, _, _, _, _, n10⟩ := n10
  simp (disch := first | assumption | (apply Ap.symm; assumption) | omega | decide | (simp only [U_len, List.length_append, List.length_replicate, List.length_cons, List.length_nil, List.length_set] <;> omega) | fail) only [↓Xa, Xb, Xc, ↓reduceIte, Nat.reduceLT, Nat.reduceEqDiff, Nat.reduceBEq, Nat.reduceLeDiff, Nat.reduceAdd, Nat.reduceMul]
  refine alloc_i fun p11 hp11 => ?_
  have n11 := hp11
  simp only [upd_none] at n11
  obtain ⟨_, _, _, _, _, _, _, _, _, _, n11⟩ := n11
  simp (disch := first | assumption | (apply Ap.symm; assumption) | omega | decide | (simp only [U_len, List.length_append, List.length_replicate, List.length_cons, List.length_nil, List.length_set] <;> omega) | fail) only [cells_IntA, fold_IntA, cells_i2, cells_RefF, fold_RefF, rs7, ↓Xa, Xb, Xc, ↓reduceIte, Nat.reduceLT, Nat.reduceEqDiff, Nat.reduceBEq, Nat.reduceLeDiff, Nat.reduceAdd, Nat.reduceMul]
  exact SetR.dropTo ((((((((((((((((Le.refl H).updB n1).updB n2).updB n3).updB n4).updB n5).updB n6).updB n7).updB n8).updB n9).updB n10).updB n11).updB n2).updB n3).updB n4).updB n5) (SetR.now hq)

end Go.Proofs.YtanchgkiomfhhaaGreatDoor.Fw

/- The looked-up code of one function, and that it is: by a program (wip/tools/ac.py); Lean checks it. -/
namespace Go.Proofs.YtanchgkiomfhhaaGreatDoor.Fw
open Go
set_option maxRecDepth 100000
def ac3 : ACode := (.seq (.reg [⟨(some 1), none, (.box 23 0 (.t 0))⟩, ⟨(some 2), none, (.mov (.k (.bool false)))⟩] [1]) (.seq (.seq (.reg [⟨(some 11), none, (.call (.k (.fn (.func 5) [] [])) [])⟩, ⟨(some 12), none, (.un .not (.t 11))⟩] [1, 12]) (.cond (.t 12) (.seq (.reg [⟨(some 2), none, (.mov (.k (.bool false)))⟩] [2]) .ret) .skip)) (.seq (.seq (.reg [⟨(some 13), none, (.load (some 2) (.t 1))⟩, ⟨(some 14), none, (.bsl [(.str ⟨#[]⟩), (.str ⟨#[]⟩)] 1 2 [(0, (2, (.t 13)))])⟩, ⟨(some 15), none, (.call (.k (.fn (.func 6) [] [])) [(.t 14)])⟩] [1, 15]) (.cond (.t 15) (.seq (.reg [⟨(some 2), none, (.mov (.k (.bool true)))⟩] [2]) .ret) .skip)) (.seq (.reg [⟨(some 17), none, (.load (some 2) (.t 1))⟩, ⟨(some 18), none, (.call (.k (.fn (.func 7) [] [])) [(.t 17)])⟩, ⟨(some 16), none, (.mov (.t 18))⟩, ⟨(some 19), none, (.ext (.t 16) 0)⟩, ⟨(some 20), none, (.ext (.t 16) 1)⟩, ⟨(some 21), none, (.ext (.t 16) 2)⟩, ⟨(some 22), none, (.ext (.t 16) 3)⟩, ⟨(some 23), none, (.ext (.t 16) 4)⟩, ⟨(some 3), none, (.alloc 28 0 [(.bool false), (.seq 0 [] true)])⟩, ⟨(some 4), none, (.alloc 28 0 [(.bool false), (.seq 0 [] true)])⟩, ⟨(some 5), none, (.alloc 30 0 [(.bool false), (.seq 0 [] true)])⟩, ⟨(some 6), none, (.alloc 30 0 [(.bool false), (.seq 0 [] true)])⟩, ⟨none, none, (.store 2 (.t 3) (.t 19))⟩, ⟨none, none, (.store 2 (.t 4) (.t 20))⟩, ⟨none, none, (.store 2 (.t 5) (.t 21))⟩, ⟨none, none, (.store 2 (.t 6) (.t 22))⟩, ⟨(some 7), none, (.mov (.t 23))⟩] [3, 4, 5, 6, 7]) (.seq (.seq (.reg [⟨(some 24), none, (.mov (.t 7))⟩, ⟨(some 25), none, (.un .not (.t 24))⟩] [3, 4, 5, 6, 25]) (.cond (.t 25) (.seq (.reg [⟨(some 2), none, (.mov (.k (.bool true)))⟩] [2]) .ret) .skip)) (.seq (.reg [⟨(some 27), none, (.load (some 2) (.t 3))⟩, ⟨(some 28), none, (.load (some 2) (.t 4))⟩, ⟨(some 29), none, (.call (.k (.fn (.func 8) [] [])) [(.t 27), (.t 28)])⟩, ⟨(some 26), none, (.mov (.t 29))⟩, ⟨(some 30), none, (.ext (.t 26) 0)⟩, ⟨(some 31), none, (.ext (.t 26) 1)⟩, ⟨(some 8), none, (.alloc 34 0 [(.bool false), (.seq 0 [] true), (.bool false), (.seq 0 [] true)])⟩, ⟨none, none, (.store 4 (.t 8) (.t 30))⟩, ⟨(some 9), none, (.mov (.t 31))⟩] [3, 5, 6, 8, 9]) (.seq (.seq (.draw [⟨(some 32), none, (.load (some 2) (.t 3))⟩, ⟨(some 33), none, (.call (.k (.fn (.func 10) [] [])) [(.t 32)])⟩, ⟨(some 34), none, (.load (some 2) (.t 5))⟩] [⟨(some 35), none, (.call (.k (.fn (.func 11) [] [])) [(.t 34)])⟩, ⟨(some 36), none, (.call (.k (.fn (.func 9) [] [])) [(.t 33), (.t 35)])⟩, ⟨(some 37), none, (.un .not (.t 36))⟩] [0, 0, 3] [5, 6, 8, 9, 37]) (.cond (.t 37) (.seq (.reg [⟨(some 2), none, (.mov (.k (.bool false)))⟩] [2]) .ret) .skip)) (.seq (.seq (.reg [⟨(some 38), none, (.load (some 2) (.t 6))⟩, ⟨(some 39), none, (.call (.k (.fn (.func 12) [] [])) [(.t 38)])⟩, ⟨(some 40), none, (.bin .eql (.t 39) (.k (.int .i64 ((0 : Nat) : Int))))⟩] [5, 6, 8, 9, 40]) (.cond (.t 40) (.seq (.draw [⟨(some 41), none, (.mov (.t 9))⟩, ⟨(some 42), none, (.bin .eql (.t 41) (.k (.int .i64 ((2 : Nat) : Int))))⟩, ⟨(some 43), none, (.mov (.t 42))⟩, ⟨(some 44), (some (43, true)), (.load (some 4) (.t 8))⟩, ⟨(some 45), (some (43, true)), (.call (.k (.fn (.func 13) [] [])) [])⟩] [⟨(some 46), (some (43, true)), (.call (.k (.fn (.func 9) [] [])) [(.t 44), (.t 45)])⟩, ⟨(some 47), none, (.pick (.t 43) (.t 46) (.k (.bool false)))⟩, ⟨(some 2), none, (.mov (.t 47))⟩] [0, 0, 0, 0, 8] [2]) .ret) .skip)) (.seq (.reg [⟨(some 48), none, (.load (some 2) (.t 5))⟩, ⟨(some 49), none, (.load (some 2) (.t 6))⟩, ⟨(some 50), none, (.call (.k (.fn (.func 14) [] [])) [(.t 48), (.t 49)])⟩, ⟨(some 10), none, (.alloc 41 0 [(.bool false), (.seq 0 [] true), (.bool false), (.seq 0 [] true)])⟩, ⟨none, none, (.store 4 (.t 10) (.t 50))⟩] [8, 9, 10]) (.seq (.draw [⟨(some 51), none, (.mov (.t 9))⟩, ⟨(some 52), none, (.bin .eql (.t 51) (.k (.int .i64 ((0 : Nat) : Int))))⟩, ⟨(some 53), none, (.mov (.t 52))⟩, ⟨(some 54), (some (53, true)), (.load (some 4) (.t 8))⟩, ⟨(some 55), (some (53, true)), (.load (some 4) (.t 10))⟩, ⟨(some 56), (some (53, true)), (.call (.k (.fn (.func 9) [] [])) [(.t 54), (.t 55)])⟩, ⟨(some 57), none, (.pick (.t 53) (.t 56) (.k (.bool false)))⟩, ⟨(some 58), none, (.mov (.t 57))⟩, ⟨(some 59), (some (58, true)), (.load (some 4) (.t 8))⟩, ⟨(some 60), (some (58, true)), (.call (.k (.fn (.func 15) [] [])) [(.t 59)])⟩, ⟨(some 61), (some (58, true)), (.load (some 4) (.t 10))⟩, ⟨(some 62), (some (58, true)), (.call (.k (.fn (.func 16) [] [])) [(.t 61)])⟩, ⟨(some 63), (some (58, true)), (.bin .eql (.t 60) (.t 62))⟩, ⟨(some 64), none, (.pick (.t 58) (.t 63) (.k (.bool false)))⟩, ⟨(some 65), none, (.mov (.t 64))⟩, ⟨(some 66), (some (65, true)), (.load (some 4) (.t 8))⟩, ⟨(some 67), (some (65, true)), (.call (.k (.fn (.func 17) [] [])) [(.t 66)])⟩, ⟨(some 68), (some (65, true)), (.load (some 4) (.t 10))⟩, ⟨(some 69), (some (65, true)), (.call (.k (.fn (.func 18) [] [])) [(.t 68)])⟩, ⟨(some 70), (some (65, true)), (.binB .eql (.t 67) (.t 69))⟩, ⟨(some 71), none, (.pick (.t 65) (.t 70) (.k (.bool false)))⟩, ⟨(some 72), none, (.mov (.t 71))⟩, ⟨(some 73), (some (72, true)), (.load (some 4) (.t 8))⟩, ⟨(some 74), (some (72, true)), (.call (.k (.fn (.func 19) [] [])) [(.t 73)])⟩, ⟨(some 75), (some (72, true)), (.call (.k (.fn (.func 20) [] [])) [(.t 74)])⟩, ⟨(some 76), (some (72, true)), (.load (some 4) (.t 10))⟩, ⟨(some 77), (some (72, true)), (.call (.k (.fn (.func 22) [] [])) [(.t 76)])⟩, ⟨(some 78), (some (72, true)), (.call (.k (.fn (.func 21) [] [])) [(.t 77)])⟩, ⟨(some 79), (some (72, true)), (.bin .eql (.t 75) (.t 78))⟩, ⟨(some 80), none, (.pick (.t 72) (.t 79) (.k (.bool false)))⟩, ⟨(some 81), none, (.mov (.t 80))⟩, ⟨(some 82), (some (81, true)), (.load (some 4) (.t 8))⟩, ⟨(some 83), (some (81, true)), (.call (.k (.fn (.func 23) [] [])) [(.t 82)])⟩, ⟨(some 84), (some (81, true)), (.load (some 4) (.t 10))⟩] [⟨(some 85), (some (81, true)), (.call (.k (.fn (.func 24) [] [])) [(.t 84)])⟩, ⟨(some 86), (some (81, true)), (.bin .eql (.t 83) (.t 85))⟩, ⟨(some 87), none, (.pick (.t 81) (.t 86) (.k (.bool false)))⟩, ⟨(some 2), none, (.mov (.t 87))⟩] [0, 0, 0, 0, 8, 0, 0, 0, 0, 0, 768, 0, 0, 0, 0, 0, 0, 98304, 0, 0, 0, 0, 0, 0, 0, 29360128, 0, 0, 0, 0, 0, 0, 0, 6442450944] [2]) .ret))))))))))
def rs3 : List RV := [(.t 2)]
theorem co3 : compFn Go.Proofs.Tryz.prog Go.Proofs.Tryz.f3 pl3 = some (ac3, rs3) := by kernel_rfl
theorem enter3 {args : List AV} {H : AHeap} {Q : AV → AHeap → Prop} (hn : args.length ≤ 88) (h : W Go.Proofs.Tryz.prog ac3 (retN rs3 Q) ⟨[], initE args 0, H⟩) : Run Go.Proofs.Tryz.prog 3 args H Q := Run_fn2 mixed Go.Proofs.Tryz.func3 (by kernel_rfl) co3 (n := 88) (by kernel_rfl) hn h
end Go.Proofs.YtanchgkiomfhhaaGreatDoor.Fw

/- The looked-up code of one function, and that it is: by a program (wip/tools/ac.py); Lean checks it. -/
namespace Go.Proofs.YtanchgkiomfhhaaGreatDoor.Fw
open Go
set_option maxRecDepth 100000
end Go.Proofs.YtanchgkiomfhhaaGreatDoor.Fw
