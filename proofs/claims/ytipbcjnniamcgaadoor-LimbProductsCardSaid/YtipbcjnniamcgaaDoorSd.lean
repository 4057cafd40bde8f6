/- A number's decimal text, as package limb writes it. -/
import Derived.Test.YtipbcjnniamcgaaDoorSc
import Derived.Test.YtipbcjnniamcgaaDoorLj
namespace Go.Proofs.YtipbcjnniamcgaaDoor.Fw
set_option linter.unusedSimpArgs false
set_option linter.unusedVariables false
open Go Go.Proofs.YtipbcjnniamcgaaDoor.Ma
set_option maxRecDepth 20000

theorem bld_drop {p q : Nat} {l : List UInt8} {H0 H : AHeap} {x : ABlk} (h : bld p l (H0.upd q (some x)) H) (hqp : Ap q p) (hq : H0 q = none) : ∃ H', bld p l H0 H' ∧ Le H' H := by
  have up : ∀ {M : AHeap} {r : Option ABlk}, M = (H0.upd q (some x)).upd p r → Le (H0.upd p r) M := fun {M r} e => by
    rw [e, upd_comm _ _ _ hqp]
    exact (Le.refl _).updB (by rw [upd_otherA hqp]; exact hq)
  rcases h with ⟨rfl, rfl | rfl⟩ | ⟨h0, bb, hbb, hap, rfl⟩
  · exact ⟨_, .inl ⟨rfl, .inl rfl⟩, up rfl⟩
  · exact ⟨_, .inl ⟨rfl, .inr rfl⟩, up rfl⟩
  · obtain ⟨a1, a2⟩ := upd_none.1 hbb
    refine ⟨_, .inr ⟨h0, bb, a2, hap, rfl⟩, ?_⟩
    rw [upd_comm _ _ _ hqp, upd_comm (b := q) (b' := bb) _ _ _ (Ap.symm a1)]
    exact (Le.refl _).updB (by rw [upd_otherA (Ap.symm a1), upd_otherA hqp]; exact hq)
theorem stP_Bt {H : AHeap} {K2 : AV → AHeap → Prop} {b L off ty es c : Nat} {l : List UInt8} (hL : l.length = L) (h : off < L) (hc : c < 256) : stP H 1 b L off K2 (some [.int .u8 (c : Int)]) (some (.row ty es (Bt l))) = K2 .bot (H.upd b (some (.row ty es (Bt (l.set off (UInt8.ofNat c)))))) := by
  subst hL
  have h1 : off + 1 ≤ l.length := h
  have e : splice (Bt l) off [.int .u8 (c : Int)] = Bt (l.set off (UInt8.ofNat c)) := by
    have e2 : (AV.int .u8 (c : Int)) = .int .u8 (((UInt8.ofNat c).toNat : Nat) : Int) := by
      rw [UInt8.toNat_ofNat', Nat.mod_eq_of_lt hc]
    rw [e2]
    unfold splice Bt
    rw [List.map_set, List.set_eq_take_append_cons_drop]
    simp [h]
  simp [stP, Bt_len, h1, e]
def TxI (p j : Nat) (cells : List UInt8) (x : Nat) : Prop := j ≤ 9 ∧ cells = List.replicate j 0 ++ wide (9 - j) (p % 10 ^ (9 - j)) ∧ x = p / 10 ^ (9 - j)
theorem TxI.len {p j x : Nat} {cells : List UInt8} (h : TxI p j cells x) : cells.length = 9 := by
  obtain ⟨h1, rfl, _⟩ := h
  rw [List.length_append, List.length_replicate, wide_len (Nat.mod_lt _ (Nat.pow_pos (by omega)))]; omega
theorem TxI.step {p j x : Nat} {cells : List UInt8} (h : TxI p (j + 1) cells x) : TxI p j (cells.set j (UInt8.ofNat (48 + x % 10))) (x / 10) := by
  obtain ⟨h1, rfl, rfl⟩ := h
  have e9 : 9 - j = (9 - (j + 1)) + 1 := by omega
  refine ⟨by omega, ?_, ?_⟩
  · rw [e9, wide_step]
    rw [List.replicate_succ', List.append_assoc, List.set_append_right _ _ (by simp)]
    simp [chr]
  · rw [e9, Nat.pow_succ, Nat.div_div_eq_div_mul]

theorem text_fn {l : List Nat} (t : Bool) (hl : Lim 4294967296 l) (hn : l.length ≤ 1099511627776) : PFn Tryd.prog 70 [LS l t] (Sx (decT (val 4294967296 l))) := by
  intro H Q hq
  have hP : (2 : Nat) ≤ 1000000000 := by omega
  refine enter70 (by simp) ?_
  simp (disch := first | assumption | (apply Ap.symm; assumption) | omega | decide | (simp only [U_len, List.length_append, List.length_replicate, List.length_cons, List.length_nil, List.length_set] <;> omega) | fail) only [ac70, str_Sx, ↓Xa, Xb, Xc, ↓reduceIte, Nat.reduceLT, Nat.reduceEqDiff, Nat.reduceBEq, Nat.reduceLeDiff, Nat.reduceAdd, Nat.reduceMul]
  refine (norm_fn t (by omega)).call ?_
  rw [tr_digs (by omega) hl]
  have hN : val 4294967296 l < 4294967296 ^ l.length := val_lt hl
  have hp2 : (digs 1000000000 (val 4294967296 l)).length ≤ 2 * l.length := digs_len hP _ _ (Nat.lt_of_lt_of_le hN (by rw [Nat.pow_mul]; exact Nat.pow_le_pow_left (by omega) _))
  have hdl : (dec (val 4294967296 l)).length ≤ 10 * l.length := dec_len (Nat.lt_of_lt_of_le hN (by rw [Nat.pow_mul]; exact Nat.pow_le_pow_left (by omega) _))
  generalize hNe : val 4294967296 l = N at *
  simp (disch := first | assumption | (apply Ap.symm; assumption) | omega | decide | (simp only [U_len, List.length_append, List.length_replicate, List.length_cons, List.length_nil, List.length_set] <;> omega) | fail) only [↓Xa, Xb, Xc, ↓reduceIte, Nat.reduceLT, Nat.reduceEqDiff, Nat.reduceBEq, Nat.reduceLeDiff, Nat.reduceAdd, Nat.reduceMul]
  refine W_loop (fun s : List Nat × AV × AHeap × Nat => ⟨[], [(3, s.2.1), (4, LS (digs 4294967296 s.2.2.2) true)], s.2.2.1⟩) (fun s => grow H 45 s.1 s.2.1 s.2.2.1 ∧ digs 1000000000 N = s.1 ++ digs 1000000000 s.2.2.2 ∧ s.2.2.2 ≤ N) (fun s => s.2.2.2)
    ([], .seq 0 [] true, H, N) (Settle.now rfl) ⟨grow_nil, rfl, Nat.le_refl _⟩ ?_
  rintro ⟨done, x, G, n⟩ ⟨hg, he, hle⟩
  dsimp only at hg he hle ⊢
  have hdn : (digs 4294967296 n).length ≤ l.length := digs_len (by omega) _ _ (Nat.lt_of_le_of_lt hle (hNe ▸ hN))
  have hz := digs_len0 (B := 4294967296) (n := n) (by omega)
  by_cases hn0 : n = 0
  · have h1 : (digs 4294967296 n).length = 0 := by rw [hz]; exact hn0
    simp (disch := first | assumption | (apply Ap.symm; assumption) | omega | decide | (simp only [U_len, List.length_append, List.length_replicate, List.length_cons, List.length_nil, List.length_set] <;> omega) | fail) only [h1, ↓Xa, Xb, Xc, ↓reduceIte, Nat.reduceLT, Nat.reduceEqDiff, Nat.reduceBEq, Nat.reduceLeDiff, Nat.reduceAdd, Nat.reduceMul]
    refine Settle.grown 3 rfl hg (Settle.now ?_)
    rw [hn0, digs_zero, List.append_nil] at he
    subst he
    have hlim := lim_digs hP N
    have hdig := fun k p => piece_step (n := N) (k := k) (p := p)
    have hv : val 1000000000 (digs 1000000000 N) = N := val_digs hP N
    have hlast := digs_last (B := 1000000000) (n := N) hP
    have hnil := digs_len0 (B := 1000000000) (n := N) hP
    generalize digs 1000000000 N = ps at *
    by_cases hp0 : ps.length = 0
    · rw [hnil] at hp0
      have hL : ps.length = 0 := by rw [hnil]; exact hp0
      simp (disch := first | assumption | (apply Ap.symm; assumption) | omega | decide | (simp only [U_len, List.length_append, List.length_replicate, List.length_cons, List.length_nil, List.length_set] <;> omega) | fail) only [hL, str_Sx, rs70, ↓Xa, Xb, Xc, ↓reduceIte, Nat.reduceLT, Nat.reduceEqDiff, Nat.reduceBEq, Nat.reduceLeDiff, Nat.reduceAdd, Nat.reduceMul]
      have e : decT N = [48] := by rw [hp0]; rfl
      rw [e] at hq
      exact SetR.now hq
    · have hN0 : 0 < N := by rcases Nat.eq_zero_or_pos N with h | h
                             · exact absurd (hnil ▸ h) hp0
                             · exact h
      have eT : decT N = dec N := by unfold decT; rw [if_neg (by omega)]
      rw [eT] at hq
      obtain ⟨L, hL⟩ : ∃ L, ps.length = L + 1 := ⟨ps.length - 1, by omega⟩
      have hLp : (0 < L + 1) = True := by simp
      have hL0 : (L + 1 = 0) = False := by simp
      simp (disch := first | assumption | (apply Ap.symm; assumption) | omega | decide | (simp only [U_len, List.length_append, List.length_replicate, List.length_cons, List.length_nil, List.length_set] <;> omega) | fail) only [hL, hL0, ↓Xa, Xb, Xc, ↓reduceIte, Nat.reduceLT, Nat.reduceEqDiff, Nat.reduceBEq, Nat.reduceLeDiff, Nat.reduceAdd, Nat.reduceMul]
      refine alloc_i fun p hp => ?_
      simp (disch := first | assumption | (apply Ap.symm; assumption) | omega | decide | (simp only [U_len, List.length_append, List.length_replicate, List.length_cons, List.length_nil, List.length_set] <;> omega) | fail) only [hL, dn_succ, ↓Xa, Xb, Xc, ↓reduceIte, Nat.reduceLT, Nat.reduceEqDiff, Nat.reduceBEq, Nat.reduceLeDiff, Nat.reduceAdd, Nat.reduceMul]
      refine W_atH fun M0 hM0 => ?_
      refine W_loop (fun s : Nat × AHeap => ⟨[], [(3, LS ps false), (8, .ptr p 2 0), (9, .int .i64 (dn s.1))], s.2⟩) (fun s => s.1 ≤ ps.length ∧ bld p (dec (val 1000000000 (ps.drop s.1))) H s.2) (fun s => s.1) (L + 1, M0) (Settle.now rfl) ⟨by dsimp only; omega, ?_⟩ ?_
      · dsimp only
        rw [List.drop_of_length_le (by omega), show val 1000000000 [] = 0 from rfl, dec_zero, hM0]
        exact bld_new
      rintro ⟨k, M⟩ ⟨hk, hb⟩
      dsimp only at hk hb ⊢
      cases k with
      | zero =>
        simp (disch := first | assumption | (apply Ap.symm; assumption) | omega | decide | (simp only [U_len, List.length_append, List.length_replicate, List.length_cons, List.length_nil, List.length_set] <;> omega) | fail) only [dn_zero, ↓Xa, Xb, Xc, ↓reduceIte, Nat.reduceLT, Nat.reduceEqDiff, Nat.reduceBEq, Nat.reduceLeDiff, Nat.reduceAdd, Nat.reduceMul]
        refine Settle.now ?_
        rw [List.drop_zero, hv] at hb
        simp (disch := first | assumption | (apply Ap.symm; assumption) | omega | decide | (simp only [U_len, List.length_append, List.length_replicate, List.length_cons, List.length_nil, List.length_set] <;> omega) | fail) only [↓Xa, Xb, Xc, ↓reduceIte, Nat.reduceLT, Nat.reduceEqDiff, Nat.reduceBEq, Nat.reduceLeDiff, Nat.reduceAdd, Nat.reduceMul]
        have hd0 : 0 < (dec N).length := List.length_pos_iff.2 (dec_pos hN0)
        refine run_call (bstr_run hb hp (by omega) hd0 fun H' hH' => ?_)
        simp (disch := first | assumption | (apply Ap.symm; assumption) | omega | decide | (simp only [U_len, List.length_append, List.length_replicate, List.length_cons, List.length_nil, List.length_set] <;> omega) | fail) only [rs70, ↓Xa, Xb, Xc, ↓reduceIte, Nat.reduceLT, Nat.reduceEqDiff, Nat.reduceBEq, Nat.reduceLeDiff, Nat.reduceAdd, Nat.reduceMul]
        exact SetR.dropTo hH' (SetR.now hq)
      | succ k =>
        obtain ⟨hlt, hstep⟩ := hdig k _ (by omega) rfl
        have hlt2 : ps.getD k 0 < 1000000000 := hlt
        simp (disch := first | assumption | (apply Ap.symm; assumption) | omega | decide | (simp only [U_len, List.length_append, List.length_replicate, List.length_cons, List.length_nil, List.length_set] <;> omega) | fail) only [dn_succ, hL, ↓Xa, Xb, Xc, ↓reduceIte, Nat.reduceLT, Nat.reduceEqDiff, Nat.reduceBEq, Nat.reduceLeDiff, Nat.reduceAdd, Nat.reduceMul]
        refine alloc_i fun q hq' => ?_
        generalize hpk : ps.getD k 0 = pk at *
        simp (disch := first | assumption | (apply Ap.symm; assumption) | omega | decide | (simp only [U_len, List.length_append, List.length_replicate, List.length_cons, List.length_nil, List.length_set] <;> omega) | fail) only [hpk, dn_succ, hL, ↓Xa, Xb, Xc, ↓reduceIte, Nat.reduceLT, Nat.reduceEqDiff, Nat.reduceBEq, Nat.reduceLeDiff, Nat.reduceAdd, Nat.reduceMul]
        refine W_loop (fun s : Nat × List UInt8 × Nat => ⟨[], [(3, LS ps false), (8, .ptr p 2 0), (9, .int .i64 (k : Nat)), (10, .ptr q 9 0), (11, .int .u32 (s.2.2 : Nat)), (12, .int .i64 (dn s.1))], M.upd q (some (.row 114 1 (Bt s.2.1)))⟩)
          (fun s => TxI pk s.1 s.2.1 s.2.2) (fun s => s.1) (9, List.replicate 9 0, pk) (Settle.now rfl) ⟨Nat.le_refl _, by simp [wide, pad, digs_zero, Nat.mod_one], by simp⟩ ?_
        rintro ⟨j, cells, x⟩ hx
        dsimp only at hx ⊢
        have hcl := hx.len
        have hx32 : x < 4294967296 := by
          have := hx.2.2
          have := Nat.div_le_self pk (10 ^ (9 - j))
          omega
        cases j with
        | zero =>
          have ecells : cells = wide 9 pk := by
            rw [hx.2.1]; simp [Nat.mod_eq_of_lt hlt2]
          have htk : (Bt cells).take 9 = Bt cells := List.take_of_length_le (by rw [Bt_len]; omega)
          have hbl : (Bt cells).length = 9 := by rw [Bt_len]; exact hcl
          simp (disch := first | assumption | (apply Ap.symm; assumption) | omega | decide | (simp only [U_len, List.length_append, List.length_replicate, List.length_cons, List.length_nil, List.length_set] <;> omega) | fail) only [dn_zero, ↓Xa, Xb, Xc, ↓reduceIte, Nat.reduceLT, Nat.reduceEqDiff, Nat.reduceBEq, Nat.reduceLeDiff, Nat.reduceAdd, Nat.reduceMul]
          refine Settle.now ?_
          simp (disch := first | assumption | (apply Ap.symm; assumption) | omega | decide | (simp only [U_len, List.length_append, List.length_replicate, List.length_cons, List.length_nil, List.length_set] <;> omega) | fail) only [htk, str_Sx, hL, dn_succ, ↓Xa, Xb, Xc, ↓reduceIte, Nat.reduceLT, Nat.reduceEqDiff, Nat.reduceBEq, Nat.reduceLeDiff, Nat.reduceAdd, Nat.reduceMul]
          refine ⟨by decide, ?_⟩
          obtain ⟨a1, a2, w0⟩ := bld_upd (x := .row 114 1 (Bt cells)) hb hq'
          have fin : ∀ (m : List UInt8) (M' : AHeap), bld p (dec (val 1000000000 (ps.drop (k + 1))) ++ m) (H.upd q (some (.row 114 1 (Bt cells)))) M' → dec (val 1000000000 (ps.drop k)) = dec (val 1000000000 (ps.drop (k + 1))) ++ m →
              Settle (fun s' => ∃ x' : Nat × AHeap, x'.1 < k + 1 ∧ (x'.1 ≤ L + 1 ∧ bld p (dec (val 1000000000 (ps.drop x'.1))) H x'.2) ∧ s' = ⟨[], [(3, LS ps false), (8, .ptr p 2 0), (9, .int .i64 (dn x'.1))], x'.2⟩) ⟨[], [(3, LS ps false), (8, .ptr p 2 0), (9, .int .i64 (dn k))], M'⟩ := fun m M' hb' e => by
            obtain ⟨M'', h1, h2⟩ := bld_drop hb' a1 a2
            exact Settle.dropTo h2 (Settle.now ⟨(k, M''), Nat.lt_succ_self k, ⟨by dsimp only; omega, by dsimp only; rw [e]; exact h1⟩, rfl⟩)
          have hbd : (dec (val 1000000000 (ps.drop (k + 1)))).length ≤ 9 * ps.length := by
            refine dec_len (Nat.lt_of_lt_of_le (val_lt (hlim.drop (k + 1))) ?_)
            rw [show (1000000000 : Nat) = 10 ^ 9 from rfl, ← Nat.pow_mul]
            exact Nat.pow_le_pow_right (by omega) (Nat.mul_le_mul_left _ (by simp))
          by_cases hkL : k = L
          · rw [if_pos (by omega)] at hstep
            have hpk0 : pk ≠ 0 := by
              have := hlast hN0
              rwa [hL, Nat.add_sub_cancel, ← hkL, hpk] at this
            have hm0 : 0 < (dec pk).length := List.length_pos_iff.2 (dec_pos (by omega))
            have hm9 : (dec pk).length ≤ 9 := dec_len (k := 9) hlt2
            have hd1 : decide (k = L + 1 - 1) = true := by simp [hkL]
            simp (disch := first | assumption | (apply Ap.symm; assumption) | omega | decide | (simp only [U_len, List.length_append, List.length_replicate, List.length_cons, List.length_nil, List.length_set] <;> omega) | fail) only [hd1, ↓Xa, Xb, Xc, ↓reduceIte, Nat.reduceLT, Nat.reduceEqDiff, Nat.reduceBEq, Nat.reduceLeDiff, Nat.reduceAdd, Nat.reduceMul]
            refine (trimL_fn (c := 48) (l := cells) (by omega) (by decide)).call ?_
            rw [ecells, wide_trim, ← ecells]
            simp (disch := first | assumption | (apply Ap.symm; assumption) | omega | decide | (simp only [U_len, List.length_append, List.length_replicate, List.length_cons, List.length_nil, List.length_set] <;> omega) | fail) only [↓Xa, Xb, Xc, ↓reduceIte, Nat.reduceLT, Nat.reduceEqDiff, Nat.reduceBEq, Nat.reduceLeDiff, Nat.reduceAdd, Nat.reduceMul]
            refine run_call (wstr_run w0 (by omega) hm0 fun M' hM' => ?_)
            simp (disch := first | assumption | (apply Ap.symm; assumption) | omega | decide | (simp only [U_len, List.length_append, List.length_replicate, List.length_cons, List.length_nil, List.length_set] <;> omega) | fail) only [↓Xa, Xb, Xc, ↓reduceIte, Nat.reduceLT, Nat.reduceEqDiff, Nat.reduceBEq, Nat.reduceLeDiff, Nat.reduceAdd, Nat.reduceMul]
            exact fin _ _ hM' hstep
          · rw [if_neg (by omega)] at hstep
            rw [← ecells] at hstep
            have hd1 : decide (k = L + 1 - 1) = false := by simp [hkL]
            simp (disch := first | assumption | (apply Ap.symm; assumption) | omega | decide | (simp only [U_len, List.length_append, List.length_replicate, List.length_cons, List.length_nil, List.length_set] <;> omega) | fail) only [hd1, ↓Xa, Xb, Xc, ↓reduceIte, Nat.reduceLT, Nat.reduceEqDiff, Nat.reduceBEq, Nat.reduceLeDiff, Nat.reduceAdd, Nat.reduceMul]
            refine run_call (wstr_run w0 (by omega) (by omega) fun M' hM' => ?_)
            simp (disch := first | assumption | (apply Ap.symm; assumption) | omega | decide | (simp only [U_len, List.length_append, List.length_replicate, List.length_cons, List.length_nil, List.length_set] <;> omega) | fail) only [↓Xa, Xb, Xc, ↓reduceIte, Nat.reduceLT, Nat.reduceEqDiff, Nat.reduceBEq, Nat.reduceLeDiff, Nat.reduceAdd, Nat.reduceMul]
            exact fin _ _ hM' hstep
        | succ j =>
          have hj : j < 9 := by have := hx.1; omega
          have hbl : (Bt cells).length = 9 := by rw [Bt_len]; exact hcl
          have hd : x % 10 < 10 := Nat.mod_lt _ (by omega)
          simp (disch := first | assumption | (apply Ap.symm; assumption) | omega | decide | (simp only [U_len, List.length_append, List.length_replicate, List.length_cons, List.length_nil, List.length_set] <;> omega) | fail) only [dn_succ, stP_Bt, ↓Xa, Xb, Xc, ↓reduceIte, Nat.reduceLT, Nat.reduceEqDiff, Nat.reduceBEq, Nat.reduceLeDiff, Nat.reduceAdd, Nat.reduceMul]
          exact ⟨by omega, by omega, Settle.now ⟨(j, _, x / 10), Nat.lt_succ_self j, hx.step, rfl⟩⟩
  · have h1 : 0 < (digs 4294967296 n).length := by
      have : ¬ (digs 4294967296 n).length = 0 := by rw [hz]; exact hn0
      omega
    simp (disch := first | assumption | (apply Ap.symm; assumption) | omega | decide | (simp only [U_len, List.length_append, List.length_replicate, List.length_cons, List.length_nil, List.length_set] <;> omega) | fail) only [h1, ↓Xa, Xb, Xc, ↓reduceIte, Nat.reduceLT, Nat.reduceEqDiff, Nat.reduceBEq, Nat.reduceLeDiff, Nat.reduceAdd, Nat.reduceMul]
    refine (divsmall_fn (d := 1000000000) true (lim_digs (by omega) n) (by omega) (by omega) (by omega)).call ?_
    rw [val_digs (by omega)]
    simp (disch := first | assumption | (apply Ap.symm; assumption) | omega | decide | (simp only [U_len, List.length_append, List.length_replicate, List.length_cons, List.length_nil, List.length_set] <;> omega) | fail) only [↓Xa, Xb, Xc, ↓reduceIte, Nat.reduceLT, Nat.reduceEqDiff, Nat.reduceBEq, Nat.reduceLeDiff, Nat.reduceAdd, Nat.reduceMul]
    have hlen := congrArg List.length he
    rw [List.length_append] at hlen
    refine app_grow (m := [n % 1000000000]) hg rfl (by simp) (by simp; omega) fun x' H2 hg2 => ?_
    simp (disch := first | assumption | (apply Ap.symm; assumption) | omega | decide | (simp only [U_len, List.length_append, List.length_replicate, List.length_cons, List.length_nil, List.length_set] <;> omega) | fail) only [↓Xa, Xb, Xc, ↓reduceIte, Nat.reduceLT, Nat.reduceEqDiff, Nat.reduceBEq, Nat.reduceLeDiff, Nat.reduceAdd, Nat.reduceMul]
    refine Settle.now ⟨(done ++ [n % 1000000000], x', H2, n / 1000000000), Nat.div_lt_self (by omega) (by omega), ⟨hg2, ?_, Nat.le_trans (Nat.div_le_self _ _) hle⟩, rfl⟩
    dsimp only
    rw [he, digs_pos hP (show 0 < n by omega), List.append_assoc]; rfl
end Go.Proofs.YtipbcjnniamcgaaDoor.Fw
