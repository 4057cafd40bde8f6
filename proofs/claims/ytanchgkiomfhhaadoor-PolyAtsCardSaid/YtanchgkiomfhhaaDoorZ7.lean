/- The texts Ye Kf Kg Qn Qa Qb Al6 Al20 Ym Al3, joined. -/
import Derived.Test.YtanchgkiomfhhaaDoorZ6
/- A whole number's text, as the reference of layer 2 tells it. -/
namespace Go.Proofs.YtanchgkiomfhhaaDoor.Fw
set_option linter.unusedSimpArgs false
set_option linter.unusedVariables false
open Go Go.Proofs.YtanchgkiomfhhaaDoor.Ma
set_option maxRecDepth 20000

def revI (i : Nat) (l : List UInt8) : List UInt8 := (List.range l.length).map fun j => if j < i ∨ l.length - i ≤ j then l.getD (l.length - 1 - j) 0 else l.getD j 0
theorem revI_len (i : Nat) (l : List UInt8) : (revI i l).length = l.length := by simp [revI]
theorem revI_zero (l : List UInt8) : revI 0 l = l := by
  refine List.ext_getElem (revI_len 0 l) fun j h1 h2 => ?_
  simp only [revI, List.getElem_map, List.getElem_range]
  rw [if_neg (by omega), List.getD_eq_getElem?_getD, List.getElem?_eq_getElem h2, Option.getD_some]
theorem revI_get {i j : Nat} {l : List UInt8} (h : j < l.length) : (revI i l).getD j 0 = if j < i ∨ l.length - i ≤ j then l.getD (l.length - 1 - j) 0 else l.getD j 0 := by
  rw [List.getD_eq_getElem?_getD, List.getElem?_eq_getElem (by rw [revI_len]; exact h), Option.getD_some]
  simp [revI]
theorem revI_half {i : Nat} {l : List UInt8} (h : l.length ≤ 2 * i + 1) : revI i l = l.reverse := by
  refine List.ext_getElem (by simp [revI_len]) fun j h1 h2 => ?_
  have hj : j < l.length := by simpa using h2
  have e := revI_get (i := i) hj
  rw [List.getD_eq_getElem?_getD, List.getElem?_eq_getElem h1, Option.getD_some] at e
  rw [e, List.getElem_reverse]
  have hk : l.length - 1 - j < l.length := by omega
  by_cases c : j < i ∨ l.length - i ≤ j
  · rw [if_pos c, List.getD_eq_getElem?_getD, List.getElem?_eq_getElem hk, Option.getD_some]
  · rw [if_neg c, List.getD_eq_getElem?_getD, List.getElem?_eq_getElem hj, Option.getD_some]
    congr 1
    omega
theorem revI_step {i : Nat} {l : List UInt8} (h : i < l.length / 2) : ((revI i l).set i (l.getD (l.length - 1 - i) 0)).set (l.length - 1 - i) (l.getD i 0) = revI (i + 1) l := by
  refine List.ext_getElem (by simp [revI_len]) fun j h1 h2 => ?_
  have hj : j < l.length := by simpa [revI_len] using h2
  have e2 := revI_get (i := i + 1) hj
  have e1 := revI_get (i := i) hj
  rw [List.getD_eq_getElem?_getD, List.getElem?_eq_getElem h2, Option.getD_some] at e2
  rw [e2]
  simp only [List.getElem_set]
  by_cases c1 : l.length - 1 - i = j
  · rw [if_pos c1, if_pos (by omega), ← c1]; congr 1; omega
  · rw [if_neg c1]
    by_cases c2 : i = j
    · rw [if_pos c2, if_pos (by omega), c2]
    · rw [if_neg c2]
      rw [List.getD_eq_getElem?_getD, List.getElem?_eq_getElem (by rw [revI_len]; exact hj), Option.getD_some] at e1
      rw [e1]
      by_cases c3 : j < i ∨ l.length - i ≤ j
      · rw [if_pos c3, if_pos (by omega)]
      · rw [if_neg c3, if_neg (by omega)]
theorem digs1 {n : Nat} (h : n < 65536) : digs 65536 n = if n = 0 then [] else [n] := by
  split
  · rename_i e; rw [e, digs_zero]
  · rename_i e; rw [digs_pos (by omega) (by omega), Nat.mod_eq_of_lt h, Nat.div_eq_of_lt h, digs_zero]
theorem Bt_drop_cons (l : List UInt8) (i : Nat) (h : i < l.length) : (Bt l).drop i = .int .u8 (((l.getD i 0).toNat : Nat) : Int) :: (Bt l).drop (i + 1) := by
  rw [List.drop_eq_getElem_cons (by simpa [Bt_len] using h)]
  congr 1
  simp [Bt, List.getD_eq_getElem?_getD, List.getElem?_eq_getElem h]
theorem ldP_Bt {K : AV → Prop} {L off ty es : Nat} {l : List UInt8} (hL : l.length = L) (h : off < L) : ldP none L off K (some (.row ty es (Bt l))) = K (.int .u8 (((l.getD off 0).toNat : Nat) : Int)) := by
  subst hL
  have : off + 1 ≤ l.length := h
  simp [ldP, this, Bt_drop_cons l off h, ldC, Bt_len]
theorem splice_Bt {off c : Nat} {l : List UInt8} (h : off < l.length) (hc : c < 256) : splice (Bt l) off [.int .u8 (c : Int)] = Bt (l.set off (UInt8.ofNat c)) := by
  have e2 : (AV.int .u8 (c : Int)) = .int .u8 (((UInt8.ofNat c).toNat : Nat) : Int) := by
    rw [UInt8.toNat_ofNat', Nat.mod_eq_of_lt hc]
  rw [e2]
  unfold splice Bt
  rw [List.map_set, List.set_eq_take_append_cons_drop]
  simp [h]
theorem dstP_Bt {b L off ty es c : Nat} {l : List UInt8} {K : AV → List Nat → Option (Nat × ABlk) → Prop} (hL : l.length = L) (h : off < L) (hc : c < 256) : dstP 1 b L off K (some [.int .u8 (c : Int)]) (some (.row ty es (Bt l))) = K .bot [b] (some (b, .row ty es (Bt (l.set off (UInt8.ofNat c))))) := by
  subst hL
  have h1 : off + 1 ≤ l.length := h
  simp [dstP, Bt_len, h1, splice_Bt h hc]
theorem load_U1 {H : AHeap} {x : Nat} {K : AV → Prop} : loadW H none (.cptr (U [x])) K = K (.int .u32 (x : Int)) := by simp [loadW, cellsAt, U]
theorem len_nil0 {K : AV → Prop} : lenW false (.seq 0 [] true) K = K (.int .i64 ((0 : Nat) : Int)) := by simp [lenW]
theorem rtext_fn {x : Int} {k : Nat} (t : Bool) (hx : Bd k x) (hk : k ≤ 1000000) : PFn Tryd.prog 29 [RefA x t] (Sx (iText x)) := by
  intro H Q hq
  have hdt := decT_bd hx
  have hl := hx.rlen
  obtain ⟨N, hN⟩ : ∃ N, N = x.natAbs := ⟨_, rfl⟩
  have hd10 : (digs 10 N).length ≤ 10 * k + 1 := by
    rw [hN]; unfold decT at hdt
    split at hdt
    · rename_i e; rw [e, digs_zero]; simp
    · simpa [dec] using hdt
  refine enter29 (by simp) ?_
  obtain ⟨neg, hneg⟩ : ∃ b, b = decide (x < 0) := ⟨_, rfl⟩
  simp (disch := first | assumption | (apply Ap.symm; assumption) | omega | decide | (simp only [Xd] <;> omega)) only [ac29, RefA, ← hN, ← hneg, ↓Xa, Xb, Xc, ↓reduceIte, Nat.reduceLT, Nat.reduceEqDiff, Nat.reduceBEq, Nat.reduceLeDiff, Nat.reduceAdd, Nat.reduceMul]
  refine alloc_i fun p1 hp1 => ?_
  have n1 := hp1
  simp (disch := first | assumption | (apply Ap.symm; assumption) | omega | decide | (simp only [Xd] <;> omega)) only [↓Xa, Xb, Xc, ↓reduceIte, Nat.reduceLT, Nat.reduceEqDiff, Nat.reduceBEq, Nat.reduceLeDiff, Nat.reduceAdd, Nat.reduceMul]
  refine W_loop (fun s : Nat × Bool × List Nat × AV × AHeap => ⟨[], [(1, .ptr p1 2 0), (3, s.2.2.2.1), (4, LS (digs 65536 s.1) s.2.1)], s.2.2.2.2⟩)
    (fun s => s.1 ≤ N ∧ digs 10 N = s.2.2.1 ++ digs 10 s.1 ∧ growC (H.upd p1 (some (.row 39 0 [.bool (neg), LS (digs 65536 N) t]))) 5 1 s.2.2.1.length (Bt (s.2.2.1.map chD)) s.2.2.2.1 s.2.2.2.2) (fun s => s.1) (N, t, [], .seq 0 [] true, _) (Settle.now rfl) ⟨Nat.le_refl _, rfl, growC_nil⟩ ?_
  rintro ⟨n, t', ds, y, H'⟩ ⟨hn, hds, hg⟩
  dsimp only at hn hds hg ⊢
  have hnl : (digs 65536 n).length ≤ 2 * k := digs_len (by omega) _ _ (Nat.lt_of_le_of_lt hn (by
    rw [hN]
    have h : x.natAbs < 4294967296 ^ k := hx
    rwa [show (4294967296 : Nat) = 65536 ^ 2 from rfl, ← Nat.pow_mul] at h))
  have hdsl : ds.length + (digs 10 n).length ≤ 10 * k + 1 := by rw [hds, List.length_append] at hd10; exact hd10
  rcases Nat.eq_zero_or_pos n with rfl | hpos
  · rw [digs_zero, List.append_nil] at hds
    subst hds
    simp (disch := first | assumption | (apply Ap.symm; assumption) | omega | decide | (simp only [Xd] <;> omega)) only [digs_zero, List.length_nil, ↓Xa, Xb, Xc, ↓reduceIte, Nat.reduceLT, Nat.reduceEqDiff, Nat.reduceBEq, Nat.reduceLeDiff, Nat.reduceAdd, Nat.reduceMul]
    refine Settle.now ?_
    have hmap : ((digs 10 N).map chD).reverse = dec N := by rw [← List.map_reverse]; rfl
    rcases hg with ⟨h0, hc, rfl, rfl⟩ | ⟨hn0, hcl, b, hb, rfl, rfl⟩
    · have hN0 : N = 0 := by
        rcases Nat.eq_zero_or_pos N with e | e
        · exact e
        · rw [digs_pos (by omega) e] at h0; simp at h0
      have hx0 : x = 0 := by omega
      simp (disch := first | assumption | (apply Ap.symm; assumption) | omega | decide | (simp only [Xd] <;> omega)) only [len_nil0, str_Sx, rs29, ↓Xa, Xb, Xc, ↓reduceIte, Nat.reduceLT, Nat.reduceEqDiff, Nat.reduceBEq, Nat.reduceLeDiff, Nat.reduceAdd, Nat.reduceMul]
      refine SetR.dropTo ((Le.refl H).upd n1) (SetR.now ?_)
      rw [hx0] at hq
      exact hq
    · have hn0' : ¬ (digs 10 N).length = 0 := by omega
      have hbp := (upd_none.1 hb).1
      have hN0 : N ≠ 0 := by rintro rfl; rw [digs_zero] at hn0; simp at hn0
      have tail : ∀ (m : List UInt8) (b : Nat), (H.upd p1 (some (.row 39 0 [.bool (neg), LS (digs 65536 N) t]))) b = none → m.length ≤ 10 * k + 2 → m.reverse = iText x →
          W Tryd.prog (sndC (sndC (sndC (sndC (sndC (sndC ac29)))))) (retN rs29 Q) ⟨[], [(3, .own b m.length 0 m.length false)], (H.upd p1 (some (.row 39 0 [.bool (neg), LS (digs 65536 N) t]))).upd b (some (.row 5 1 (Bt m)))⟩ := by
        intro m b hb hm hrev
        simp (disch := first | assumption | (apply Ap.symm; assumption) | omega | decide | (simp only [Xd] <;> omega)) only [sndC, ac29, ↓Xa, Xb, Xc, ↓reduceIte, Nat.reduceLT, Nat.reduceEqDiff, Nat.reduceBEq, Nat.reduceLeDiff, Nat.reduceAdd, Nat.reduceMul]
        refine W_loop (fun i : Nat => ⟨[], [(3, .own b m.length 0 m.length false), (8, .int .i64 (i : Int))], (H.upd p1 (some (.row 39 0 [.bool (neg), LS (digs 65536 N) t]))).upd b (some (.row 5 1 (Bt (revI i m))))⟩) (fun i => i ≤ m.length / 2) (fun i => m.length / 2 - i) 0 (Settle.now (by rw [revI_zero])) (Nat.zero_le _) ?_
        intro i hi
        have hlr := revI_len i m
        have hbl : (Bt (revI i m)).length = m.length := by rw [Bt_len, hlr]
        by_cases hlt : i < m.length / 2
        · have hi2 : i < m.length := by omega
          have hlr2 : ((revI i m).set i (UInt8.ofNat ((revI i m).getD (m.length - 1 - i) 0).toNat)).length = m.length := by simp [hlr]
          have u1 : ((revI i m).getD (m.length - 1 - i) 0).toNat < 256 := UInt8.toNat_lt _
          have u2 : ((revI i m).getD i 0).toNat < 256 := UInt8.toNat_lt _
          simp (disch := first | assumption | (apply Ap.symm; assumption) | omega | decide | (simp only [Xd] <;> omega)) only [len_ownk, hlt, ldP_Bt, dstP_Bt, stP_Bt, ↓Xa, Xb, Xc, ↓reduceIte, Nat.reduceLT, Nat.reduceEqDiff, Nat.reduceBEq, Nat.reduceLeDiff, Nat.reduceAdd, Nat.reduceMul]
          refine ⟨by decide, by rw [Bt_len]; exact hlr2, Settle.now ⟨i + 1, by omega, by omega, ?_⟩⟩
          rw [UInt8.ofNat_toNat, UInt8.ofNat_toNat, revI_get (by omega), if_neg (by omega), revI_get (by omega), if_neg (by omega), revI_step hlt]
        · simp (disch := first | assumption | (apply Ap.symm; assumption) | omega | decide | (simp only [Xd] <;> omega)) only [len_ownk, hlt, ↓Xa, Xb, Xc, ↓reduceIte, Nat.reduceLT, Nat.reduceEqDiff, Nat.reduceBEq, Nat.reduceLeDiff, Nat.reduceAdd, Nat.reduceMul]
          refine ⟨by decide, Settle.now ?_⟩
          rw [revI_half (by omega), hrev]
          have hll : (iText x).length = m.length := by rw [← hrev, List.length_reverse]
          have e2 : (Bt (iText x)).length = m.length := by rw [Bt_len, hll]
          simp (disch := first | assumption | (apply Ap.symm; assumption) | omega | decide | (simp only [Xd] <;> omega)) only [↓Xa, Xb, Xc, ↓reduceIte, Nat.reduceLT, Nat.reduceEqDiff, Nat.reduceBEq, Nat.reduceLeDiff, Nat.reduceAdd, Nat.reduceMul]
          rw [List.take_of_length_le (by omega), bytesOf_Bt]
          simp (disch := first | assumption | (apply Ap.symm; assumption) | omega | decide | (simp only [Xd] <;> omega)) only [strK, str_Sx, rs29, ↓Xa, Xb, Xc, ↓reduceIte, Nat.reduceLT, Nat.reduceEqDiff, Nat.reduceBEq, Nat.reduceLeDiff, Nat.reduceAdd, Nat.reduceMul]
          exact SetR.dropTo ((Le.refl H).upd n1 |>.upd hb) (SetR.now hq)
      cases neg with
      | true =>
        simp (disch := first | assumption | (apply Ap.symm; assumption) | omega | decide | (simp only [Xd] <;> omega)) only [len_ownk, hn0', ↓Xa, Xb, Xc, ↓reduceIte, Nat.reduceLT, Nat.reduceEqDiff, Nat.reduceBEq, Nat.reduceLeDiff, Nat.reduceAdd, Nat.reduceMul]
        refine app_C (.inr ⟨hn0, hcl, b, hb, by rw [Nat.mul_one], rfl⟩) rfl rfl (by omega) (by omega) (by omega) fun y' H2 hg2 => ?_
        rcases hg2 with ⟨h0, _⟩ | ⟨_, hcl2, b2, hb2, rfl, rfl⟩
        · omega
        have tl := tail ((digs 10 N).map chD ++ [45]) b2 hb2 (by simp; omega) (by rw [List.reverse_append, hmap]; simp [iText, of_decide_eq_true hneg.symm, ← hN, decT, hN0])
        rw [List.length_append, List.length_map, Bt_app] at tl
        simp (disch := first | assumption | (apply Ap.symm; assumption) | omega | decide | (simp only [Xd] <;> omega)) only [sndC, ac29, List.length_cons, List.length_nil, ↓Xa, Xb, Xc, ↓reduceIte, Nat.reduceLT, Nat.reduceEqDiff, Nat.reduceBEq, Nat.reduceLeDiff, Nat.reduceAdd, Nat.reduceMul] at tl
        simp (disch := first | assumption | (apply Ap.symm; assumption) | omega | decide | (simp only [Xd] <;> omega)) only [↓Xa, Xb, Xc, ↓reduceIte, Nat.reduceLT, Nat.reduceEqDiff, Nat.reduceBEq, Nat.reduceLeDiff, Nat.reduceAdd, Nat.reduceMul]
        exact tl
      | false =>
        have tl := tail ((digs 10 N).map chD) b hb (by simp; omega) (by rw [hmap]; simp [iText, of_decide_eq_false hneg.symm, ← hN, decT, hN0])
        rw [List.length_map] at tl
        simp (disch := first | assumption | (apply Ap.symm; assumption) | omega | decide | (simp only [Xd] <;> omega)) only [sndC, ac29, ↓Xa, Xb, Xc, ↓reduceIte, Nat.reduceLT, Nat.reduceEqDiff, Nat.reduceBEq, Nat.reduceLeDiff, Nat.reduceAdd, Nat.reduceMul] at tl
        simp (disch := first | assumption | (apply Ap.symm; assumption) | omega | decide | (simp only [Xd] <;> omega)) only [len_ownk, hn0', ↓Xa, Xb, Xc, ↓reduceIte, Nat.reduceLT, Nat.reduceEqDiff, Nat.reduceBEq, Nat.reduceLeDiff, Nat.reduceAdd, Nat.reduceMul]
        exact tl
  · have h10 : digs 65536 10 = [10] := by rw [digs1 (by omega)]; rfl
    have hdv := rdivide_fn (A := n) (V := 10) t' true (by omega) (by omega) (by rw [h10]; simp)
    rw [h10] at hdv
    have hlp : 0 < (digs 65536 n).length := by rw [digs_pos (by omega) hpos]; simp
    simp (disch := first | assumption | (apply Ap.symm; assumption) | omega | decide | (simp only [Xd] <;> omega)) only [hlp, rep1, ↓Xa, Xb, Xc, ↓reduceIte, Nat.reduceLT, Nat.reduceEqDiff, Nat.reduceBEq, Nat.reduceLeDiff, Nat.reduceAdd, Nat.reduceMul]
    refine hdv.call ?_
    have hm : n % 10 < 10 := Nat.mod_lt _ (by omega)
    have hlt : n / 10 < n := Nat.div_lt_self hpos (by omega)
    have fin : ∀ (y' : AV) (H2 : AHeap), growC (H.upd p1 (some (.row 39 0 [.bool (neg), LS (digs 65536 N) t]))) 5 1 (ds.length + 1) (Bt (ds.map chD) ++ [.int .u8 ((48 + n % 10 : Nat) : Int)]) y' H2 →
        Settle (fun s' => ∃ x' : Nat × Bool × List Nat × AV × AHeap, x'.1 < n ∧ (x'.1 ≤ N ∧ digs 10 N = x'.2.2.1 ++ digs 10 x'.1 ∧ growC (H.upd p1 (some (.row 39 0 [.bool (neg), LS (digs 65536 N) t]))) 5 1 x'.2.2.1.length (Bt (x'.2.2.1.map chD)) x'.2.2.2.1 x'.2.2.2.2) ∧ s' = ⟨[], [(1, .ptr p1 2 0), (3, x'.2.2.2.1), (4, LS (digs 65536 x'.1) x'.2.1)], x'.2.2.2.2⟩)
          ⟨[], [(1, .ptr p1 2 0), (3, y'), (4, LS (digs 65536 (n / 10)) false)], H2⟩ := by
      intro y' H2 h
      refine Settle.now ⟨(n / 10, false, ds ++ [n % 10], y', H2), hlt, ⟨by dsimp only; omega, ?_, ?_⟩, rfl⟩
      · dsimp only; rw [hds, digs_pos (by omega) hpos]; simp
      · dsimp only
        rw [List.map_append, Bt_app, List.length_append]
        rw [Bt_one (by omega)] at h
        exact h
    have hb13 : ds.length ≤ 10000002 := by omega
    clear hd10 hdt hl hnl hdsl
    by_cases hz : n % 10 = 0
    · have e : digs 65536 (n % 10) = [] := by rw [hz, digs_zero]
      rw [e]
      simp (disch := first | assumption | (apply Ap.symm; assumption) | omega | decide | (simp only [Xd] <;> omega)) only [List.length_nil, wn_u8', ↓Xa, Xb, Xc, ↓reduceIte, Nat.reduceLT, Nat.reduceEqDiff, Nat.reduceBEq, Nat.reduceLeDiff, Nat.reduceAdd, Nat.reduceMul]
      refine app_C hg rfl rfl (by omega) (by omega) (by omega) fun y' H2 hg2 => ?_
      simp (disch := first | assumption | (apply Ap.symm; assumption) | omega | decide | (simp only [Xd] <;> omega)) only [↓Xa, Xb, Xc, ↓reduceIte, Nat.reduceLT, Nat.reduceEqDiff, Nat.reduceBEq, Nat.reduceLeDiff, Nat.reduceAdd, Nat.reduceMul]
      exact fin y' H2 (by rw [hz]; exact hg2)
    · have e : digs 65536 (n % 10) = [n % 10] := by rw [digs1 (by omega), if_neg hz]
      rw [e]
      simp (disch := first | assumption | (apply Ap.symm; assumption) | omega | decide | (simp only [Xd] <;> omega)) only [List.length_cons, List.length_nil, wn_u8', load_U1, ↓Xa, Xb, Xc, ↓reduceIte, Nat.reduceLT, Nat.reduceEqDiff, Nat.reduceBEq, Nat.reduceLeDiff, Nat.reduceAdd, Nat.reduceMul]
      refine app_C (m := 1) (bytes := 1) hg rfl rfl (by omega) (by omega) (by omega) fun y' H2 hg2 => ?_
      simp (disch := first | assumption | (apply Ap.symm; assumption) | omega | decide | (simp only [Xd] <;> omega)) only [↓Xa, Xb, Xc, ↓reduceIte, Nat.reduceLT, Nat.reduceEqDiff, Nat.reduceBEq, Nat.reduceLeDiff, Nat.reduceAdd, Nat.reduceMul]
      exact fin y' H2 hg2
end Go.Proofs.YtanchgkiomfhhaaDoor.Fw

/- Rows of whole numbers: what the functions that read them answer, the program's and the reference's. -/
namespace Go.Proofs.YtanchgkiomfhhaaDoor.Fw
set_option linter.unusedSimpArgs false
set_option linter.unusedVariables false
open Go Go.Proofs.YtanchgkiomfhhaaDoor.Ma
set_option maxRecDepth 20000

abbrev RowA (zs : List Int) (t : Bool) : AV := .seq zs.length (IC zs) t
def RC (zs : List Int) : List AV := zs.flatMap fun z => [RefB z, RefD z]
abbrev RefR (zs : List Int) (t : Bool) : AV := .seq zs.length (RC zs) t
theorem RC_len (zs : List Int) : (RC zs).length = zs.length * 2 := by
  induction zs with
  | nil => rfl
  | cons a l ih => simp only [RC, List.flatMap_cons, List.length_append, List.length_cons, List.length_nil] at *; omega
theorem RC_snoc (zs : List Int) (z : Int) : RC (zs ++ [z]) = RC zs ++ [RefB z, RefD z] := by simp [RC, List.flatMap_append]
theorem RC_drop : ∀ (l : List Int) (i : Nat) (h : i < l.length), (RC l).drop (i * 2) = RefB (l[i]) :: RefD (l[i]) :: (RC l).drop (i * 2 + 2)
  | a :: l, 0, _ => rfl
  | a :: l, i + 1, h => by
    have := RC_drop l i (by simpa using h)
    rw [show (i + 1) * 2 = i * 2 + 2 by omega]
    show ((RefB a :: RefD a :: RC l).drop (i * 2 + 2)) = _
    simp only [List.drop_succ_cons, List.getElem_cons_succ]
    rw [this]
    show _ = _ :: _ :: ((RefB a :: RefD a :: RC l).drop (i * 2 + 2 + 2))
    simp only [List.drop_succ_cons]
section
variable {K : AV → Prop} {H : AHeap} {k : IntKind} {t : Bool} {zs : List Int} {i : Nat}
theorem idx_IC (h : i < zs.length) : idxAW 2 (.seq zs.length (IC zs) t) (.int k (i : Int)) K = K (.cptr ((IC zs).drop (i * 2))) := idx_rw (IC_len zs) h
theorem idx_RC (h : i < zs.length) : idxAW 2 (.seq zs.length (RC zs) t) (.int k (i : Int)) K = K (.cptr ((RC zs).drop (i * 2))) := idx_rw (RC_len zs) h
theorem load_IC (h : i < zs.length) : loadW H (some 2) (.cptr ((IC zs).drop (i * 2))) K = K (IntA (zs[i])) := by
  simp only [loadW, cellsAt, IC_drop zs i h]; simp [IntA_eq]
theorem load_RC (h : i < zs.length) : loadW H (some 2) (.cptr ((RC zs).drop (i * 2))) K = K (RefA (zs[i]) false) := by
  simp only [loadW, cellsAt, RC_drop zs i h]; simp [RefA, RefB, RefD]
end
def RB4 (k : Nat) (zs : List Int) : Prop := (∀ z, z ∈ zs → Bd k z) ∧ zs.length < 4611686018427387904
theorem RB4.at {k : Nat} {zs : List Int} (h : RB4 k zs) {i : Nat} (hi : i < zs.length) : Bd k (zs[i]) := h.1 _ (List.getElem_mem hi)

/-! ### the reference -/
end Go.Proofs.YtanchgkiomfhhaaDoor.Fw

/- Rows of whole numbers: what is made of them. -/
namespace Go.Proofs.YtanchgkiomfhhaaDoor.Fw
set_option linter.unusedSimpArgs false
set_option linter.unusedVariables false
open Go Go.Proofs.YtanchgkiomfhhaaDoor.Ma
set_option maxRecDepth 20000

theorem repI1 {a b : AV} : repA [a, b] 2 = [a, b] := by simp [repA, List.range, List.range.loop]
theorem cellI {z : Int} : [IntB z, IntD z].all AV.cell = true := rfl
section
variable {H : AHeap} {Q : AV → AHeap → Prop} {zs ws : List Int} {t t' : Bool} {k : Nat}
theorem zip_len {f : Int → Int → Int} (h : zs.length = ws.length) : (zipI f zs ws).length = zs.length := by simp [zipI, h]
theorem zip_at {f : Int → Int → Int} (h : zs.length = ws.length) {i : Nat} (hi : i < zs.length) (hi2 : i < (zipI f zs ws).length) : (zipI f zs ws)[i] = f (zs[i]) (ws[i]'(by omega)) := by simp [zipI]
end
end Go.Proofs.YtanchgkiomfhhaaDoor.Fw

/- Fractions: plain numbers. -/
namespace Go.Proofs.YtanchgkiomfhhaaDoor.Fw
set_option linter.unusedSimpArgs false
set_option linter.unusedVariables false
open Go Go.Proofs.YtanchgkiomfhhaaDoor.Ma

abbrev QQ := _root_.Rat
theorem q_pos (q : QQ) : 0 < (q.den : Int) := by have := q.den_pos; omega
theorem mk_num {n : Int} {d : Nat} (hd : 0 < d) : (mkRat n d).num = n / ((Int.gcd n (d : Int) : Nat) : Int) := by
  rw [_root_.Rat.num_mkRat, if_neg (by omega), Nat.gcd_comm]; rfl
theorem mk_den {n : Int} {d : Nat} (hd : 0 < d) : (((mkRat n d).den : Nat) : Int) = (d : Int) / ((Int.gcd n (d : Int) : Nat) : Int) := by
  rw [_root_.Rat.den_mkRat, if_neg (by omega), Nat.gcd_comm]; rfl
theorem q_lt {p q : QQ} : p < q ↔ p.num * (q.den : Int) < q.num * (p.den : Int) := _root_.Rat.lt_iff p q
def cmpQ (p q : QQ) : Int := cmpI (p.num * (q.den : Int)) (q.num * (p.den : Int))
theorem Bd.oneQ (k : Nat) : Bd (k + 1) 1 := by
  unfold Bd
  have : 4294967296 ^ 1 ≤ 4294967296 ^ (k + 1) := Nat.pow_le_pow_right (by omega) (by omega)
  have e : (1 : Int).natAbs = 1 := rfl
  omega
def RB (k : Nat) (q : QQ) : Prop := Bd k q.num ∧ Bd k (q.den : Int)
theorem RB.mk {n : Int} {d k : Nat} (hn : Bd k n) (hd : Bd k (d : Int)) (h0 : 0 < d) : RB k (mkRat n d) := by
  refine ⟨?_, ?_⟩
  · rw [mk_num h0]; exact hn.ediv
  · rw [mk_den h0]; exact hd.ediv
theorem RB.mono {q : QQ} {k k' : Nat} (h : RB k q) (hk : k ≤ k') : RB k' q := ⟨h.1.mono hk, h.2.mono hk⟩
theorem RB.neg {q : QQ} {k : Nat} (h : RB k q) : RB k (-q) := ⟨h.1.neg, h.2⟩
theorem RB.add {p q : QQ} {k k' : Nat} (h : RB k p) (h' : RB k' q) : RB (k + k' + 1) (p + q) := by
  rw [_root_.Rat.add_def']
  refine RB.mk (Bd.add (h.1.mul h'.2) ?_) ?_ (Nat.mul_pos p.den_pos q.den_pos)
  · have := h'.1.mul h.2; rw [Nat.add_comm]; exact this
  · rw [Int.natCast_mul]; exact (h.2.mul h'.2).mono (by omega)
theorem RB.sub {p q : QQ} {k k' : Nat} (h : RB k p) (h' : RB k' q) : RB (k + k' + 1) (p - q) := by
  rw [_root_.Rat.sub_eq_add_neg]; exact h.add h'.neg
theorem RB.mul {p q : QQ} {k k' : Nat} (h : RB k p) (h' : RB k' q) : RB (k + k') (p * q) := by
  rw [_root_.Rat.mul_def']
  refine RB.mk (h.1.mul h'.1) ?_ (Nat.mul_pos p.den_pos q.den_pos)
  rw [Int.natCast_mul]; exact h.2.mul h'.2
theorem RB.int {z : Int} {k : Nat} (h : Bd (k + 1) z) : RB (k + 1) (z : QQ) := ⟨h, Bd.oneQ k⟩
theorem RB.less {q : QQ} {k : Nat} (h : RB k q) : Bd k ((q.den : Int) - 1) := h.2.le (by have := q_pos q; omega)
end Go.Proofs.YtanchgkiomfhhaaDoor.Fw

/- Fractions: what package ratio's functions answer. -/
namespace Go.Proofs.YtanchgkiomfhhaaDoor.Fw
set_option linter.unusedSimpArgs false
set_option linter.unusedVariables false
open Go Go.Proofs.YtanchgkiomfhhaaDoor.Ma
set_option maxRecDepth 20000

def RawR (a b : Int) : AV := .agg [IntB a, IntD a, IntB b, IntD b]
def RatA (q : QQ) : AV := RawR q.num ((q.den : Int) - 1)
def RatE (q : QQ) (e : Nat) : AV := .tup [RatA q, .int .i64 ((e : Nat) : Int)]
end Go.Proofs.YtanchgkiomfhhaaDoor.Fw

/- Fractions: what the laws' own helpers answer. -/
namespace Go.Proofs.YtanchgkiomfhhaaDoor.Fw
set_option linter.unusedSimpArgs false
set_option linter.unusedVariables false
open Go Go.Proofs.YtanchgkiomfhhaaDoor.Ma
set_option maxRecDepth 20000

def qText (q : QQ) : List UInt8 := iText q.num ++ (if q.den = 1 then [] else 47 :: iText (q.den : Int))
theorem iText_len {x : Int} {k : Nat} (h : Bd k x) : (iText x).length ≤ 10 * k + 2 := by
  have := decT_bd h
  unfold iText; split <;> simp <;> omega
def FracA (q : List UInt8 × List UInt8) : AV := .agg [Sx q.1, Sx q.2]
def FracC (l : List (List UInt8 × List UInt8)) : List AV := l.flatMap fun q => [Sx q.1, Sx q.2]
def lngF (q : List UInt8 × List UInt8) : Bool := decide (300 < q.1.length) || decide (300 < q.2.length)
theorem geq_int {k : IntKind} {n m : Int} {K : AV → Prop} : binW .geq (.int k n) (.int k m) K ↔ K (.bool (decide (m ≤ n))) := by simp [binW, binInt]
end Go.Proofs.YtanchgkiomfhhaaDoor.Fw

/- The looked-up code of one function, and that it is: by a program (wip/tools/ac.py); Lean checks it. -/
namespace Go.Proofs.YtanchgkiomfhhaaDoor.Fw
open Go
set_option maxRecDepth 100000
end Go.Proofs.YtanchgkiomfhhaaDoor.Fw

/- The looked-up code of one function, and that it is: by a program (wip/tools/ac.py); Lean checks it. -/
namespace Go.Proofs.YtanchgkiomfhhaaDoor.Fw
open Go
set_option maxRecDepth 100000
end Go.Proofs.YtanchgkiomfhhaaDoor.Fw

/- A number's text is read as it; what is read has its text. -/
namespace Go.Proofs.YtanchgkiomfhhaaDoor.Fw
set_option linter.unusedSimpArgs false
set_option linter.unusedVariables false
open Go Go.Proofs.YtanchgkiomfhhaaDoor.Ma
set_option maxRecDepth 20000

theorem isAt_of_good {m : List UInt8} (neg : Bool) (hg : Good m) (h0 : neg = true → (m.getD 0 0).toNat ≠ 48) :
    iFrom ((if neg then [45] else []) ++ m) = (if neg then 1 else 0) ∧ IsAt ((if neg then [45] else []) ++ m) ((if neg then [45] else []) ++ m).length ∧ ((if neg then [45] else []) ++ m).drop (iFrom ((if neg then [45] else []) ++ m)) = m := by
  obtain ⟨g1, g2, g3⟩ := hg
  have hpos : 0 < m.length := List.length_pos_iff.2 g1
  have dig : ∀ i, i < m.length → 48 ≤ (m.getD i 0).toNat ∧ (m.getD i 0).toNat ≤ 57 := fun i hi => by
    have := g2 _ (List.getElem_mem hi)
    rw [List.getD_eq_getElem?_getD, List.getElem?_eq_getElem hi, Option.getD_some]; exact this
  have hf : iFrom ((if neg then [45] else []) ++ m) = (if neg then 1 else 0) := by
    cases neg with
    | true => simp [iFrom]
    | false =>
      have := dig 0 hpos
      simp only [iFrom, Bool.false_eq_true, if_false, List.nil_append]
      rw [if_neg (by omega)]
  refine ⟨hf, ⟨(iFrom_le _).1, Nat.le_refl _, iBad_end _, fun j h1 h2 hb => ?_⟩, ?_⟩
  · rw [hf] at h1
    unfold iBad at hb
    rw [hf] at hb
    cases neg with
    | true =>
      simp only [if_true, List.length_append, List.length_cons, List.length_nil] at h1 h2 hb
      obtain ⟨i, rfl⟩ : ∃ i, j = i + 1 := ⟨j - 1, by omega⟩
      have e : ([45] ++ m).getD (i + 1) 0 = m.getD i 0 := by simp [List.getD_eq_getElem?_getD]
      have e1 : ([45] ++ m).getD 1 0 = m.getD 0 0 := by simp [List.getD_eq_getElem?_getD]
      have d := dig i (by omega)
      have := h0 rfl
      rw [e, e1] at hb
      rcases hb with hb | hb | ⟨hb, _⟩ | ⟨hb, _, hb2⟩
      · omega
      · omega
      · omega
      · have : i = 0 := by omega
        subst this; omega
    | false =>
      simp only [Bool.false_eq_true, if_false, List.nil_append] at h1 h2 hb
      have d := dig j h2
      rcases hb with hb | hb | ⟨hb, hb2⟩ | ⟨_, hb, _⟩
      · omega
      · omega
      · rcases g3 with g3 | g3
        · omega
        · exact g3 hb2
      · omega
  · rw [hf]; cases neg <;> simp
theorem iText_at (x : Int) : IsAt (iText x) (iText x).length ∧ (iText x).length ≠ iFrom (iText x) ∧ iVal (iText x) = x := by
  have hg := good_decT x.natAbs
  have hpos : 0 < (decT x.natAbs).length := List.length_pos_iff.2 hg.1
  have h0 : decide (x < 0) = true → ((decT x.natAbs).getD 0 0).toNat ≠ 48 := fun h hz => by
    have h := of_decide_eq_true h
    rcases hg.2.2 with g | g
    · have hd : decT x.natAbs = [48] := by
        match hm : decT x.natAbs, g with
        | [b], _ =>
          rw [hm] at hz
          have hz2 : b.toNat = 48 := by simpa using hz
          have : b = 48 := UInt8.toNat_inj.1 hz2
          rw [this]
      have := decV_decT x.natAbs
      rw [hd] at this
      have e : decV [48] = 0 := rfl
      omega
    · exact g hz
  obtain ⟨a, b, c⟩ := isAt_of_good (decide (x < 0)) hg h0
  have e : (if decide (x < 0) then [45] else []) ++ decT x.natAbs = iText x := by simp [iText]
  rw [e] at a b c
  refine ⟨b, ?_, ?_⟩
  · intro k
    have := congrArg List.length c
    rw [List.length_drop, ← k] at this
    omega
  · unfold iVal
    rw [c, decV_decT, a]
    by_cases h : x < 0 <;> simp [h, sg] <;> omega
end Go.Proofs.YtanchgkiomfhhaaDoor.Fw

/- The looked-up code of one function, and that it is: by a program (wip/tools/ac.py); Lean checks it. -/
namespace Go.Proofs.YtanchgkiomfhhaaDoor.Fw
open Go
set_option maxRecDepth 100000
def ac3 : ACode := (.seq (.reg [⟨(some 3), none, (.box 24 0 (.t 1))⟩, ⟨(some 4), none, (.mov (.k (.bool false)))⟩] [0, 3]) (.seq (.seq (.reg [⟨(some 7), none, (.call (.k (.fn (.func 23) [] [])) [])⟩, ⟨(some 8), none, (.un .not (.t 7))⟩] [0, 3, 8]) (.cond (.t 8) (.seq (.reg [⟨(some 4), none, (.mov (.k (.bool false)))⟩] [4]) .ret) .skip)) (.seq (.seq (.reg [⟨(some 9), none, (.mov (.t 0))⟩, ⟨(some 10), none, (.len false (.t 9))⟩, ⟨(some 11), none, (.bin .gtr (.t 10) (.k (.int .i64 ((60 : Nat) : Int))))⟩] [0, 3, 11]) (.cond (.t 11) (.seq (.reg [⟨(some 4), none, (.mov (.k (.bool true)))⟩] [4]) .ret) .skip)) (.seq (.draw [⟨(some 13), none, (.mov (.t 0))⟩, ⟨(some 14), none, (.call (.k (.fn (.func 25) [] [])) [(.t 13)])⟩, ⟨(some 15), none, (.load (some 2) (.t 3))⟩, ⟨(some 16), none, (.call (.k (.fn (.func 24) [] [])) [(.t 14), (.t 15)])⟩, ⟨(some 12), none, (.mov (.t 16))⟩, ⟨(some 17), none, (.ext (.t 12) 0)⟩, ⟨(some 18), none, (.ext (.t 12) 1)⟩, ⟨(some 5), none, (.alloc 28 0 [(.bool false), (.seq 0 [] true)])⟩, ⟨none, none, (.store 2 (.t 5) (.t 17))⟩] [⟨(some 6), none, (.mov (.t 18))⟩] [0, 0, 3, 0, 0, 0, 32, 127, 64] [0, 3, 5, 6]) (.seq (.seq (.reg [⟨(some 19), none, (.mov (.t 0))⟩, ⟨(some 20), none, (.len false (.t 19))⟩, ⟨(some 21), none, (.bin .eql (.t 20) (.k (.int .i64 ((0 : Nat) : Int))))⟩, ⟨(some 22), none, (.mov (.t 21))⟩, ⟨(some 23), (some (22, false)), (.load (some 2) (.t 3))⟩, ⟨(some 24), (some (22, false)), (.call (.k (.fn (.func 26) [] [])) [(.t 23)])⟩, ⟨(some 25), (some (22, false)), (.un .not (.t 24))⟩, ⟨(some 26), none, (.pick (.t 22) (.k (.bool true)) (.t 25))⟩] [0, 3, 5, 6, 26]) (.cond (.t 26) (.seq (.reg [⟨(some 27), none, (.load (some 2) (.t 5))⟩, ⟨(some 28), none, (.call (.k (.fn (.func 27) [] [])) [(.t 27)])⟩, ⟨(some 29), none, (.bin .eql (.t 28) (.k (.int .i64 ((0 : Nat) : Int))))⟩, ⟨(some 30), none, (.mov (.t 29))⟩, ⟨(some 31), (some (30, true)), (.mov (.t 6))⟩, ⟨(some 32), (some (30, true)), (.bin .eql (.t 31) (.k (.int .i64 ((2 : Nat) : Int))))⟩, ⟨(some 33), none, (.pick (.t 30) (.t 32) (.k (.bool false)))⟩, ⟨(some 4), none, (.mov (.t 33))⟩] [4]) .ret) .skip)) (.seq (.draw [⟨(some 34), none, (.mov (.t 6))⟩, ⟨(some 35), none, (.bin .eql (.t 34) (.k (.int .i64 ((0 : Nat) : Int))))⟩, ⟨(some 36), none, (.mov (.t 35))⟩, ⟨(some 37), (some (36, true)), (.load (some 2) (.t 5))⟩, ⟨(some 38), (some (36, true)), (.call (.k (.fn (.func 28) [] [])) [(.t 37)])⟩, ⟨(some 39), (some (36, true)), (.mov (.t 0))⟩, ⟨(some 40), (some (36, true)), (.call (.k (.fn (.func 31) [] [])) [(.t 39)])⟩, ⟨(some 41), (some (36, true)), (.load (some 2) (.t 3))⟩] [⟨(some 42), (some (36, true)), (.call (.k (.fn (.func 30) [] [])) [(.t 40), (.t 41)])⟩, ⟨(some 43), (some (36, true)), (.call (.k (.fn (.func 29) [] [])) [(.t 42)])⟩, ⟨(some 44), (some (36, true)), (.bin .eql (.t 38) (.t 43))⟩, ⟨(some 45), none, (.pick (.t 36) (.t 44) (.k (.bool false)))⟩, ⟨(some 4), none, (.mov (.t 45))⟩] [0, 0, 0, 0, 0, 24, 0, 120] [4]) .ret))))))
def rs3 : List RV := [(.t 4)]
theorem co3 : compFn Go.Proofs.Tryd.prog Go.Proofs.Tryd.f3 pl3 = some (ac3, rs3) := by kernel_rfl
theorem enter3 {args : List AV} {H : AHeap} {Q : AV → AHeap → Prop} (hn : args.length ≤ 46) (h : W Go.Proofs.Tryd.prog ac3 (retN rs3 Q) ⟨[], initE args 0, H⟩) : Run Go.Proofs.Tryd.prog 3 args H Q := Run_fn2 mixed Go.Proofs.Tryd.func3 (by kernel_rfl) co3 (n := 46) (by kernel_rfl) hn h
end Go.Proofs.YtanchgkiomfhhaaDoor.Fw
