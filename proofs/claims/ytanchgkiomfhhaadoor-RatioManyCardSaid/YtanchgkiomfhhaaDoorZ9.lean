/- The texts Qb Ye Qe Qc Qf Qg Qi Kc Kd Ea Ka Kn Kb Kf Kg Qk Al17, joined. -/
import Derived.Test.YtanchgkiomfhhaaDoorZ8
/- Fractions: what the laws' own helpers answer. -/
namespace Go.Proofs.YtanchgkiomfhhaaDoor.Fw
set_option linter.unusedSimpArgs false
set_option linter.unusedVariables false
open Go Go.Proofs.YtanchgkiomfhhaaDoor.Ma
set_option maxRecDepth 20000

def qText (q : QQ) : List UInt8 := iText q.num ++ (if q.den = 1 then [] else 47 :: iText (q.den : Int))
theorem iText_len {x : Int} {k : Nat} (h : Bd k x) : (iText x).length ≤ 10 * k + 2 := by
  have := decT_bd h
  unfold iText; split <;> simp <;> omega
theorem rtextq_fn {q : QQ} {k : Nat} (hb : RB k q) (hk : k ≤ 1000000) : PFn Tryd.prog 128 [RatA q] (Sx (qText q)) := by
  intro H Q hq
  have l1 := iText_len hb.1
  have l2 := iText_len hb.2
  refine enter128 (by simp) ?_
  simp (disch := first|exact Xe|fail) only [ac128, cells_RatA, ↓Xa,Xb,Xc,↓reduceIte,Nat.reduceLT,Nat.reduceEqDiff,Nat.reduceBEq,Nat.reduceLeDiff,Nat.reduceAdd,Nat.reduceMul]
  refine alloc_i fun p1 hp1 => ?_
  have n1 := hp1
  simp (disch := first|exact Xe|fail) only [fold_IntA, ↓Xa,Xb,Xc,↓reduceIte,Nat.reduceLT,Nat.reduceEqDiff,Nat.reduceBEq,Nat.reduceLeDiff,Nat.reduceAdd,Nat.reduceMul]
  refine (itext_fn hb.1 hk).call ?_
  simp (disch := first|exact Xe|fail) only [fold_Raw, fold_RatA, ↓Xa,Xb,Xc,↓reduceIte,Nat.reduceLT,Nat.reduceEqDiff,Nat.reduceBEq,Nat.reduceLeDiff,Nat.reduceAdd,Nat.reduceMul]
  refine (rwhole_fn hb hk).call ?_
  by_cases h : q.den = 1
  · rw [qText, if_pos h, List.append_nil] at hq
    simp (disch := first|exact Xe|fail) only [decide_eq_true h, rs128, ↓Xa,Xb,Xc,↓reduceIte,Nat.reduceLT,Nat.reduceEqDiff,Nat.reduceBEq,Nat.reduceLeDiff,Nat.reduceAdd,Nat.reduceMul]
    exact SetR.dropTo ((Le.refl H).updB n1) (SetR.now hq)
  · rw [qText, if_neg h] at hq
    simp (disch := first|exact Xe|fail) only [decide_eq_false h, fold_Raw, fold_RatA, ↓Xa,Xb,Xc,↓reduceIte,Nat.reduceLT,Nat.reduceEqDiff,Nat.reduceBEq,Nat.reduceLeDiff,Nat.reduceAdd,Nat.reduceMul]
    refine (rden_fn hb hk).call ?_
    simp (disch := first|exact Xe|fail) only [↓Xa,Xb,Xc,↓reduceIte,Nat.reduceLT,Nat.reduceEqDiff,Nat.reduceBEq,Nat.reduceLeDiff,Nat.reduceAdd,Nat.reduceMul]
    refine (itext_fn hb.2 hk).call ?_
    have s1 : AV.str ⟨#[47]⟩ = Sx [47] := rfl
    have e1 : ∀ K, binW .add (Sx [47]) (Sx (iText (q.den : Int))) K = K (Sx (47 :: iText (q.den : Int))) := fun K => add_Sx (by simp; omega)
    have e2 : ∀ K, binW .add (Sx (iText q.num)) (Sx (47 :: iText (q.den : Int))) K = K (Sx (iText q.num ++ 47 :: iText (q.den : Int))) := fun K => add_Sx (by simp; omega)
    simp (disch := first|exact Xe|fail) only [s1, e1, e2, rs128, ↓Xa,Xb,Xc,↓reduceIte,Nat.reduceLT,Nat.reduceEqDiff,Nat.reduceBEq,Nat.reduceLeDiff,Nat.reduceAdd,Nat.reduceMul]
    exact SetR.dropTo ((Le.refl H).updB n1) (SetR.now hq)

def FracA (q : List UInt8 × List UInt8) : AV := .agg [Sx q.1, Sx q.2]
def FracC (l : List (List UInt8 × List UInt8)) : List AV := l.flatMap fun q => [Sx q.1, Sx q.2]
theorem cells_FracA {q : List UInt8 × List UInt8} : (FracA q).cells = some [Sx q.1, Sx q.2] := id rfl
theorem fold_FracA {q : List UInt8 × List UInt8} : AV.agg [Sx q.1, Sx q.2] = FracA q := id rfl
theorem FracC_len (l : List (List UInt8 × List UInt8)) : (FracC l).length = l.length * 2 := by
  induction l with
  | nil => rfl
  | cons a l ih => simp only [FracC, List.flatMap_cons, List.length_append, List.length_cons, List.length_nil] at *; omega
theorem FracC_drop : ∀ (l : List (List UInt8 × List UInt8)) (i : Nat) (h : i < l.length), (FracC l).drop (i * 2) = Sx (l[i]).1 :: Sx (l[i]).2 :: (FracC l).drop (i * 2 + 2)
  | a :: l, 0, _ => rfl
  | a :: l, i + 1, h => by
    have := FracC_drop l i (by simpa using h)
    rw [show (i + 1) * 2 = i * 2 + 2 by omega]
    show ((Sx a.1 :: Sx a.2 :: FracC l).drop (i * 2 + 2)) = _
    simp only [List.drop_succ_cons, List.getElem_cons_succ]
    rw [this]
    show _ = _ :: _ :: ((Sx a.1 :: Sx a.2 :: FracC l).drop (i * 2 + 2 + 2))
    simp only [List.drop_succ_cons]
def lngF (q : List UInt8 × List UInt8) : Bool := decide (300 < q.1.length) || decide (300 < q.2.length)
theorem long1_fn {q : List UInt8 × List UInt8} : PFn Tryd.prog 176 [FracA q] (.bool (lngF q)) := by
  intro H Q hq
  refine enter176 (by simp) ?_
  simp (disch := first|exact Xe|fail) only [ac176, cells_FracA, ↓Xa,Xb,Xc,↓reduceIte,Nat.reduceLT,Nat.reduceEqDiff,Nat.reduceBEq,Nat.reduceLeDiff,Nat.reduceAdd,Nat.reduceMul]
  refine alloc_i fun p1 hp1 => ?_
  have n1 := hp1
  by_cases h : 300 < q.1.length
  · rw [lngF, decide_eq_true h, Bool.true_or] at hq
    simp (disch := first|exact Xe|fail) only [len_Sx, decide_eq_true h, h, rs176, ↓Xa,Xb,Xc,↓reduceIte,Nat.reduceLT,Nat.reduceEqDiff,Nat.reduceBEq,Nat.reduceLeDiff,Nat.reduceAdd,Nat.reduceMul]
    exact SetR.dropTo ((Le.refl H).updB n1) (SetR.now hq)
  · rw [lngF, decide_eq_false h, Bool.false_or] at hq
    by_cases h2 : 300 < q.2.length
    · rw [decide_eq_true h2] at hq
      simp (disch := first|exact Xe|fail) only [len_Sx, h, h2, rs176, ↓Xa,Xb,Xc,↓reduceIte,Nat.reduceLT,Nat.reduceEqDiff,Nat.reduceBEq,Nat.reduceLeDiff,Nat.reduceAdd,Nat.reduceMul]
      exact SetR.dropTo ((Le.refl H).updB n1) (SetR.now hq)
    · rw [decide_eq_false h2] at hq
      simp (disch := first|exact Xe|fail) only [len_Sx, h, h2, rs176, ↓Xa,Xb,Xc,↓reduceIte,Nat.reduceLT,Nat.reduceEqDiff,Nat.reduceBEq,Nat.reduceLeDiff,Nat.reduceAdd,Nat.reduceMul]
      exact SetR.dropTo ((Le.refl H).updB n1) (SetR.now hq)
theorem geq_int {k : IntKind} {n m : Int} {K : AV → Prop} : binW .geq (.int k n) (.int k m) K ↔ K (.bool (decide (m ≤ n))) := by simp [binW, binInt]
theorem idxF_fn (l : List (List UInt8 × List UInt8)) (t : Bool) (hl : l.length < 9223372036854775807) : ∃ r : Int, decide (((0 : Nat) : Int) ≤ r) = l.any lngF ∧ PFn Tryd.prog 208 [.seq l.length (FracC l) t, .fn (.func 176) [] []] (.int .i64 r) := by
  have len9 : ∀ {n : Nat} {c : List AV} {t : Bool} {K : AV → Prop} (_ : n < 2 ^ 63), lenW false (.seq n c t) K = K (.int .i64 ((n : Nat) : Int)) := fun h => by simp [lenW, h]
  have idx9 : ∀ {i : Nat} {K : AV → Prop} (_ : i < l.length), idxAW 2 (.seq l.length (FracC l) t) (.int .i64 (i : Int)) K = K (.cptr ((FracC l).drop (i * 2))) := fun {i K} h => by simp [idxAW, FracC_len, h]
  have ld9 : ∀ {H : AHeap} {i : Nat} {K : AV → Prop} (h : i < l.length), loadW H (some 2) (.cptr ((FracC l).drop (i * 2))) K = K (FracA (l[i])) := fun {H i K} h => by
    simp only [loadW, cellsAt, FracC_drop l i h]
    simp [FracA]
  have main : ∀ (p : Nat) (hp : p ≤ l.length) (hno : ∀ i (h : i < l.length), i < p → lngF (l[i]) = false) (hat : ∀ h : p < l.length, lngF (l[p]) = true) (r : Int) (hr : r = if p < l.length then (p : Int) else -1), PFn Tryd.prog 208 [.seq l.length (FracC l) t, .fn (.func 176) [] []] (.int .i64 r) := by
    intro p hp hno hat r hr H Q hq
    refine enter208 (by simp) ?_
    simp (disch := first|exact Xe|fail) only [ac208, len9, hl, ↓Xa,Xb,Xc,↓reduceIte,Nat.reduceLT,Nat.reduceEqDiff,Nat.reduceBEq,Nat.reduceLeDiff,Nat.reduceAdd,Nat.reduceMul]
    refine W_loop (fun i : Nat => ⟨[], [(0, .seq l.length (FracC l) t), (1, .fn (.func 176) [] []), (7, .int .i64 (l.length : Int)), (8, .int .i64 i)], H⟩) (fun i => i ≤ p) (fun i => l.length - i) 0 (Settle.now rfl) (Nat.zero_le _) ?_
    intro i h1
    by_cases hi : i < l.length
    · simp (disch := first|exact Xe|fail) only [idx9, ld9, hi, ↓Xa,Xb,Xc,↓reduceIte,Nat.reduceLT,Nat.reduceEqDiff,Nat.reduceBEq,Nat.reduceLeDiff,Nat.reduceAdd,Nat.reduceMul]
      refine long1_fn.call ?_
      by_cases e : i = p
      · subst e
        rw [if_pos hi] at hr; subst hr
        simp (disch := first|exact Xe|fail) only [hat hi, rs208, ↓Xa,Xb,Xc,↓reduceIte,Nat.reduceLT,Nat.reduceEqDiff,Nat.reduceBEq,Nat.reduceLeDiff,Nat.reduceAdd,Nat.reduceMul]
        exact SetR.now hq
      · simp (disch := first|exact Xe|fail) only [hno i hi (by omega), ↓Xa,Xb,Xc,↓reduceIte,Nat.reduceLT,Nat.reduceEqDiff,Nat.reduceBEq,Nat.reduceLeDiff,Nat.reduceAdd,Nat.reduceMul]
        exact Settle.now ⟨i + 1, by omega, by omega, rfl⟩
    · simp (disch := first|exact Xe|fail) only [hi, ↓Xa,Xb,Xc,↓reduceIte,Nat.reduceLT,Nat.reduceEqDiff,Nat.reduceBEq,Nat.reduceLeDiff,Nat.reduceAdd,Nat.reduceMul]
      refine Settle.now ?_
      rw [if_neg (by omega)] at hr; subst hr
      simp (disch := first|exact Xe|fail) only [rs208, ↓Xa,Xb,Xc,↓reduceIte,Nat.reduceLT,Nat.reduceEqDiff,Nat.reduceBEq,Nat.reduceLeDiff,Nat.reduceAdd,Nat.reduceMul]
      exact SetR.now hq
  rcases first_of (P := fun i => ∃ h : i < l.length, lngF (l[i]) = true) 0 l.length with ⟨p, _, b, ⟨hb, c⟩, d⟩ | h
  · refine ⟨(p : Int), ?_, main p (by omega) (fun i hi h => ?_) (fun _ => c) _ (by rw [if_pos (by omega)])⟩
    · rw [decide_eq_true (by omega)]
      exact (List.any_eq_true.2 ⟨_, List.getElem_mem hb, c⟩).symm
    · have := d i (by omega) h
      cases e : lngF (l[i]) with
      | false => rfl
      | true => exact absurd ⟨hi, e⟩ this
  · refine ⟨-1, ?_, main l.length (Nat.le_refl _) (fun i hi _ => ?_) (fun h => by omega) _ (by rw [if_neg (by omega)])⟩
    · rw [decide_eq_false (by omega)]
      refine (List.any_eq_false.2 fun q hq => ?_).symm
      obtain ⟨i, hi, rfl⟩ := List.getElem_of_mem hq
      exact fun e => h i (by omega) (by omega) ⟨hi, e⟩
    · cases e : lngF (l[i]) with
      | false => rfl
      | true => exact absurd ⟨hi, e⟩ (h i (by omega) (by omega))
theorem longF_fn (l : List (List UInt8 × List UInt8)) (t : Bool) (hl : l.length < 9223372036854775807) : PFn Tryd.prog 107 [.seq l.length (FracC l) t] (.bool (decide (12 < l.length) || l.any lngF)) := by
  intro H Q hq
  obtain ⟨r, hr, hf⟩ := idxF_fn l t hl
  have len9 : ∀ {n : Nat} {c : List AV} {t : Bool} {K : AV → Prop} (_ : n < 2 ^ 63), lenW false (.seq n c t) K = K (.int .i64 ((n : Nat) : Int)) := fun h => by simp [lenW, h]
  have cf : PFn Tryd.prog 175 [.seq l.length (FracC l) t, .fn (.func 176) [] []] (.bool (l.any lngF)) := by
    intro H Q hq
    refine enter175 (by simp) ?_
    simp (disch := first|exact Xe|fail) only [ac175, ↓Xa,Xb,Xc,↓reduceIte,Nat.reduceLT,Nat.reduceEqDiff,Nat.reduceBEq,Nat.reduceLeDiff,Nat.reduceAdd,Nat.reduceMul]
    refine hf.call ?_
    simp (disch := first|exact Xe|fail) only [geq_int, hr, rs175, ↓Xa,Xb,Xc,↓reduceIte,Nat.reduceLT,Nat.reduceEqDiff,Nat.reduceBEq,Nat.reduceLeDiff,Nat.reduceAdd,Nat.reduceMul]
    exact SetR.now hq
  refine enter107 (by simp) ?_
  by_cases h : 12 < l.length
  · rw [decide_eq_true h, Bool.true_or] at hq
    simp (disch := first|exact Xe|fail) only [ac107, len9, hl, h, rs107, ↓Xa,Xb,Xc,↓reduceIte,Nat.reduceLT,Nat.reduceEqDiff,Nat.reduceBEq,Nat.reduceLeDiff,Nat.reduceAdd,Nat.reduceMul]
    exact SetR.now hq
  · rw [decide_eq_false h, Bool.false_or] at hq
    simp (disch := first|exact Xe|fail) only [ac107, len9, hl, h, ↓Xa,Xb,Xc,↓reduceIte,Nat.reduceLT,Nat.reduceEqDiff,Nat.reduceBEq,Nat.reduceLeDiff,Nat.reduceAdd,Nat.reduceMul]
    refine cf.call ?_
    simp (disch := first|exact Xe|fail) only [rs107, ↓Xa,Xb,Xc,↓reduceIte,Nat.reduceLT,Nat.reduceEqDiff,Nat.reduceBEq,Nat.reduceLeDiff,Nat.reduceAdd,Nat.reduceMul]
    exact SetR.now hq
end Go.Proofs.YtanchgkiomfhhaaDoor.Fw

/- A whole number's text, as the reference of layer 2 tells it. -/
namespace Go.Proofs.YtanchgkiomfhhaaDoor.Fw
set_option linter.unusedSimpArgs false
set_option linter.unusedVariables false
open Go Go.Proofs.YtanchgkiomfhhaaDoor.Ma
set_option maxRecDepth 20000

def revI (i : Nat) (l : List UInt8) : List UInt8 := (List.range l.length).map fun j => if j < i ∨ l.length - i ≤ j then l.getD (l.length - 1 - j) 0 else l.getD j 0
theorem revI_len (i : Nat) (l : List UInt8) : (revI i l).length = l.length := by simp [revI]
theorem revI_zero (l : List UInt8) : revI 0 l = l := by
  refine List.ext_getElem (revI_len 0 l) fun j h1 h2 => ?_
  simp only [revI, List.getElem_map, List.getElem_range]
  rw [if_neg (by omega), List.getD_eq_getElem?_getD, List.getElem?_eq_getElem h2, Option.getD_some]
theorem revI_get {i j : Nat} {l : List UInt8} (h : j < l.length) : (revI i l).getD j 0 = if j < i ∨ l.length - i ≤ j then l.getD (l.length - 1 - j) 0 else l.getD j 0 := by
  rw [List.getD_eq_getElem?_getD, List.getElem?_eq_getElem (by rw [revI_len]; exact h), Option.getD_some]
  simp [revI]
theorem revI_half {i : Nat} {l : List UInt8} (h : l.length ≤ 2 * i + 1) : revI i l = l.reverse := by
  refine List.ext_getElem (by simp [revI_len]) fun j h1 h2 => ?_
  have hj : j < l.length := by simpa using h2
  have e := revI_get (i := i) hj
  rw [List.getD_eq_getElem?_getD, List.getElem?_eq_getElem h1, Option.getD_some] at e
  rw [e, List.getElem_reverse]
  have hk : l.length - 1 - j < l.length := by omega
  by_cases c : j < i ∨ l.length - i ≤ j
  · rw [if_pos c, List.getD_eq_getElem?_getD, List.getElem?_eq_getElem hk, Option.getD_some]
  · rw [if_neg c, List.getD_eq_getElem?_getD, List.getElem?_eq_getElem hj, Option.getD_some]
    congr 1
    omega
theorem revI_step {i : Nat} {l : List UInt8} (h : i < l.length / 2) : ((revI i l).set i (l.getD (l.length - 1 - i) 0)).set (l.length - 1 - i) (l.getD i 0) = revI (i + 1) l := by
  refine List.ext_getElem (by simp [revI_len]) fun j h1 h2 => ?_
  have hj : j < l.length := by simpa [revI_len] using h2
  have e2 := revI_get (i := i + 1) hj
  have e1 := revI_get (i := i) hj
  rw [List.getD_eq_getElem?_getD, List.getElem?_eq_getElem h2, Option.getD_some] at e2
  rw [e2]
  simp only [List.getElem_set]
  by_cases c1 : l.length - 1 - i = j
  · rw [if_pos c1, if_pos (by omega), ← c1]; congr 1; omega
  · rw [if_neg c1]
    by_cases c2 : i = j
    · rw [if_pos c2, if_pos (by omega), c2]
    · rw [if_neg c2]
      rw [List.getD_eq_getElem?_getD, List.getElem?_eq_getElem (by rw [revI_len]; exact hj), Option.getD_some] at e1
      rw [e1]
      by_cases c3 : j < i ∨ l.length - i ≤ j
      · rw [if_pos c3, if_pos (by omega)]
      · rw [if_neg c3, if_neg (by omega)]
theorem digs1 {n : Nat} (h : n < 65536) : digs 65536 n = if n = 0 then [] else [n] := by
  split
  · rename_i e; rw [e, digs_zero]
  · rename_i e; rw [digs_pos (by omega) (by omega), Nat.mod_eq_of_lt h, Nat.div_eq_of_lt h, digs_zero]
theorem Bt_drop_cons (l : List UInt8) (i : Nat) (h : i < l.length) : (Bt l).drop i = .int .u8 (((l.getD i 0).toNat : Nat) : Int) :: (Bt l).drop (i + 1) := by
  rw [List.drop_eq_getElem_cons (by simpa [Bt_len] using h)]
  congr 1
  simp [Bt, List.getD_eq_getElem?_getD, List.getElem?_eq_getElem h]
theorem ldP_Bt {K : AV → Prop} {L off ty es : Nat} {l : List UInt8} (hL : l.length = L) (h : off < L) : ldP none L off K (some (.row ty es (Bt l))) = K (.int .u8 (((l.getD off 0).toNat : Nat) : Int)) := by
  subst hL
  have : off + 1 ≤ l.length := h
  simp [ldP, this, Bt_drop_cons l off h, ldC, Bt_len]
theorem splice_Bt {off c : Nat} {l : List UInt8} (h : off < l.length) (hc : c < 256) : splice (Bt l) off [.int .u8 (c : Int)] = Bt (l.set off (UInt8.ofNat c)) := by
  have e2 : (AV.int .u8 (c : Int)) = .int .u8 (((UInt8.ofNat c).toNat : Nat) : Int) := by
    rw [UInt8.toNat_ofNat', Nat.mod_eq_of_lt hc]
  rw [e2]
  unfold splice Bt
  rw [List.map_set, List.set_eq_take_append_cons_drop]
  simp [h]
theorem dstP_Bt {b L off ty es c : Nat} {l : List UInt8} {K : AV → List Nat → Option (Nat × ABlk) → Prop} (hL : l.length = L) (h : off < L) (hc : c < 256) : dstP 1 b L off K (some [.int .u8 (c : Int)]) (some (.row ty es (Bt l))) = K .bot [b] (some (b, .row ty es (Bt (l.set off (UInt8.ofNat c))))) := by
  subst hL
  have h1 : off + 1 ≤ l.length := h
  simp [dstP, Bt_len, h1, splice_Bt h hc]
theorem load_U1 {H : AHeap} {x : Nat} {K : AV → Prop} : loadW H none (.cptr (U [x])) K = K (.int .u32 (x : Int)) := by simp [loadW, cellsAt, U]
theorem len_nil0 {K : AV → Prop} : lenW false (.seq 0 [] true) K = K (.int .i64 ((0 : Nat) : Int)) := by simp [lenW]
theorem rtext_fn {x : Int} {k : Nat} (t : Bool) (hx : Bd k x) (hk : k ≤ 1000000) : PFn Tryd.prog 29 [RefA x t] (Sx (iText x)) := by
  intro H Q hq
  have hdt := decT_bd hx
  have hl := hx.rlen
  obtain ⟨N, hN⟩ : ∃ N, N = x.natAbs := ⟨_, rfl⟩
  have hd10 : (digs 10 N).length ≤ 10 * k + 1 := by
    rw [hN]; unfold decT at hdt
    split at hdt
    · rename_i e; rw [e, digs_zero]; simp
    · simpa [dec] using hdt
  refine enter29 (by simp) ?_
  obtain ⟨neg, hneg⟩ : ∃ b, b = decide (x < 0) := ⟨_, rfl⟩
  simp (disch := first|exact Xe|fail) only [ac29, RefA, ← hN, ← hneg, ↓Xa,Xb,Xc,↓reduceIte,Nat.reduceLT,Nat.reduceEqDiff,Nat.reduceBEq,Nat.reduceLeDiff,Nat.reduceAdd,Nat.reduceMul]
  refine alloc_i fun p1 hp1 => ?_
  have n1 := hp1
  simp (disch := first|exact Xe|fail) only [↓Xa,Xb,Xc,↓reduceIte,Nat.reduceLT,Nat.reduceEqDiff,Nat.reduceBEq,Nat.reduceLeDiff,Nat.reduceAdd,Nat.reduceMul]
  refine W_loop (fun s : Nat × Bool × List Nat × AV × AHeap => ⟨[], [(1, .ptr p1 2 0), (3, s.2.2.2.1), (4, LS (digs 65536 s.1) s.2.1)], s.2.2.2.2⟩)
    (fun s => s.1 ≤ N ∧ digs 10 N = s.2.2.1 ++ digs 10 s.1 ∧ growC (H.upd p1 (some (.row 39 0 [.bool (neg), LS (digs 65536 N) t]))) 5 1 s.2.2.1.length (Bt (s.2.2.1.map chD)) s.2.2.2.1 s.2.2.2.2) (fun s => s.1) (N, t, [], .seq 0 [] true, _) (Settle.now rfl) ⟨Nat.le_refl _, rfl, growC_nil⟩ ?_
  rintro ⟨n, t', ds, y, H'⟩ ⟨hn, hds, hg⟩
  dsimp only at hn hds hg ⊢
  have hnl : (digs 65536 n).length ≤ 2 * k := digs_len (by omega) _ _ (Nat.lt_of_le_of_lt hn (by
    rw [hN]
    have h : x.natAbs < 4294967296 ^ k := hx
    rwa [show (4294967296 : Nat) = 65536 ^ 2 from rfl, ← Nat.pow_mul] at h))
  have hdsl : ds.length + (digs 10 n).length ≤ 10 * k + 1 := by rw [hds, List.length_append] at hd10; exact hd10
  rcases Nat.eq_zero_or_pos n with rfl | hpos
  · rw [digs_zero, List.append_nil] at hds
    subst hds
    simp (disch := first|exact Xe|fail) only [digs_zero, List.length_nil, ↓Xa,Xb,Xc,↓reduceIte,Nat.reduceLT,Nat.reduceEqDiff,Nat.reduceBEq,Nat.reduceLeDiff,Nat.reduceAdd,Nat.reduceMul]
    refine Settle.now ?_
    have hmap : ((digs 10 N).map chD).reverse = dec N := by rw [← List.map_reverse]; rfl
    rcases hg with ⟨h0, hc, rfl, rfl⟩ | ⟨hn0, hcl, b, hb, rfl, rfl⟩
    · have hN0 : N = 0 := by
        rcases Nat.eq_zero_or_pos N with e | e
        · exact e
        · rw [digs_pos (by omega) e] at h0; simp at h0
      have hx0 : x = 0 := by omega
      simp (disch := first|exact Xe|fail) only [len_nil0, str_Sx, rs29, ↓Xa,Xb,Xc,↓reduceIte,Nat.reduceLT,Nat.reduceEqDiff,Nat.reduceBEq,Nat.reduceLeDiff,Nat.reduceAdd,Nat.reduceMul]
      refine SetR.dropTo ((Le.refl H).upd n1) (SetR.now ?_)
      rw [hx0] at hq
      exact hq
    · have hn0' : ¬ (digs 10 N).length = 0 := by omega
      have hbp := (upd_none.1 hb).1
      have hN0 : N ≠ 0 := by rintro rfl; rw [digs_zero] at hn0; simp at hn0
      have tail : ∀ (m : List UInt8) (b : Nat), (H.upd p1 (some (.row 39 0 [.bool (neg), LS (digs 65536 N) t]))) b = none → m.length ≤ 10 * k + 2 → m.reverse = iText x →
          W Tryd.prog (sndC (sndC (sndC (sndC (sndC (sndC ac29)))))) (retN rs29 Q) ⟨[], [(3, .own b m.length 0 m.length false)], (H.upd p1 (some (.row 39 0 [.bool (neg), LS (digs 65536 N) t]))).upd b (some (.row 5 1 (Bt m)))⟩ := by
        intro m b hb hm hrev
        simp (disch := first|exact Xe|fail) only [sndC, ac29, ↓Xa,Xb,Xc,↓reduceIte,Nat.reduceLT,Nat.reduceEqDiff,Nat.reduceBEq,Nat.reduceLeDiff,Nat.reduceAdd,Nat.reduceMul]
        refine W_loop (fun i : Nat => ⟨[], [(3, .own b m.length 0 m.length false), (8, .int .i64 (i : Int))], (H.upd p1 (some (.row 39 0 [.bool (neg), LS (digs 65536 N) t]))).upd b (some (.row 5 1 (Bt (revI i m))))⟩) (fun i => i ≤ m.length / 2) (fun i => m.length / 2 - i) 0 (Settle.now (by rw [revI_zero])) (Nat.zero_le _) ?_
        intro i hi
        have hlr := revI_len i m
        have hbl : (Bt (revI i m)).length = m.length := by rw [Bt_len, hlr]
        by_cases hlt : i < m.length / 2
        · have hi2 : i < m.length := by omega
          have hlr2 : ((revI i m).set i (UInt8.ofNat ((revI i m).getD (m.length - 1 - i) 0).toNat)).length = m.length := by simp [hlr]
          have u1 : ((revI i m).getD (m.length - 1 - i) 0).toNat < 256 := UInt8.toNat_lt _
          have u2 : ((revI i m).getD i 0).toNat < 256 := UInt8.toNat_lt _
          simp (disch := first|exact Xe|fail) only [len_ownk, hlt, ldP_Bt, dstP_Bt, stP_Bt, ↓Xa,Xb,Xc,↓reduceIte,Nat.reduceLT,Nat.reduceEqDiff,Nat.reduceBEq,Nat.reduceLeDiff,Nat.reduceAdd,Nat.reduceMul]
          refine ⟨by decide, by rw [Bt_len]; exact hlr2, Settle.now ⟨i + 1, by omega, by omega, ?_⟩⟩
          rw [UInt8.ofNat_toNat, UInt8.ofNat_toNat, revI_get (by omega), if_neg (by omega), revI_get (by omega), if_neg (by omega), revI_step hlt]
        · simp (disch := first|exact Xe|fail) only [len_ownk, hlt, ↓Xa,Xb,Xc,↓reduceIte,Nat.reduceLT,Nat.reduceEqDiff,Nat.reduceBEq,Nat.reduceLeDiff,Nat.reduceAdd,Nat.reduceMul]
          refine ⟨by decide, Settle.now ?_⟩
          rw [revI_half (by omega), hrev]
          have hll : (iText x).length = m.length := by rw [← hrev, List.length_reverse]
          have e2 : (Bt (iText x)).length = m.length := by rw [Bt_len, hll]
          simp (disch := first|exact Xe|fail) only [↓Xa,Xb,Xc,↓reduceIte,Nat.reduceLT,Nat.reduceEqDiff,Nat.reduceBEq,Nat.reduceLeDiff,Nat.reduceAdd,Nat.reduceMul]
          rw [List.take_of_length_le (by omega), bytesOf_Bt]
          simp (disch := first|exact Xe|fail) only [strK, str_Sx, rs29, ↓Xa,Xb,Xc,↓reduceIte,Nat.reduceLT,Nat.reduceEqDiff,Nat.reduceBEq,Nat.reduceLeDiff,Nat.reduceAdd,Nat.reduceMul]
          exact SetR.dropTo ((Le.refl H).upd n1 |>.upd hb) (SetR.now hq)
      cases neg with
      | true =>
        simp (disch := first|exact Xe|fail) only [len_ownk, hn0', ↓Xa,Xb,Xc,↓reduceIte,Nat.reduceLT,Nat.reduceEqDiff,Nat.reduceBEq,Nat.reduceLeDiff,Nat.reduceAdd,Nat.reduceMul]
        refine app_C (.inr ⟨hn0, hcl, b, hb, by rw [Nat.mul_one], rfl⟩) rfl rfl (by omega) (by omega) (by omega) fun y' H2 hg2 => ?_
        rcases hg2 with ⟨h0, _⟩ | ⟨_, hcl2, b2, hb2, rfl, rfl⟩
        · omega
        have tl := tail ((digs 10 N).map chD ++ [45]) b2 hb2 (by simp; omega) (by rw [List.reverse_append, hmap]; simp [iText, of_decide_eq_true hneg.symm, ← hN, decT, hN0])
        rw [List.length_append, List.length_map, Bt_app] at tl
        simp (disch := first|exact Xe|fail) only [sndC, ac29, List.length_cons, List.length_nil, ↓Xa,Xb,Xc,↓reduceIte,Nat.reduceLT,Nat.reduceEqDiff,Nat.reduceBEq,Nat.reduceLeDiff,Nat.reduceAdd,Nat.reduceMul] at tl
        simp (disch := first|exact Xe|fail) only [↓Xa,Xb,Xc,↓reduceIte,Nat.reduceLT,Nat.reduceEqDiff,Nat.reduceBEq,Nat.reduceLeDiff,Nat.reduceAdd,Nat.reduceMul]
        exact tl
      | false =>
        have tl := tail ((digs 10 N).map chD) b hb (by simp; omega) (by rw [hmap]; simp [iText, of_decide_eq_false hneg.symm, ← hN, decT, hN0])
        rw [List.length_map] at tl
        simp (disch := first|exact Xe|fail) only [sndC, ac29, ↓Xa,Xb,Xc,↓reduceIte,Nat.reduceLT,Nat.reduceEqDiff,Nat.reduceBEq,Nat.reduceLeDiff,Nat.reduceAdd,Nat.reduceMul] at tl
        simp (disch := first|exact Xe|fail) only [len_ownk, hn0', ↓Xa,Xb,Xc,↓reduceIte,Nat.reduceLT,Nat.reduceEqDiff,Nat.reduceBEq,Nat.reduceLeDiff,Nat.reduceAdd,Nat.reduceMul]
        exact tl
  · have h10 : digs 65536 10 = [10] := by rw [digs1 (by omega)]; rfl
    have hdv := rdivide_fn (A := n) (V := 10) t' true (by omega) (by omega) (by rw [h10]; simp)
    rw [h10] at hdv
    have hlp : 0 < (digs 65536 n).length := by rw [digs_pos (by omega) hpos]; simp
    simp (disch := first|exact Xe|fail) only [hlp, rep1, ↓Xa,Xb,Xc,↓reduceIte,Nat.reduceLT,Nat.reduceEqDiff,Nat.reduceBEq,Nat.reduceLeDiff,Nat.reduceAdd,Nat.reduceMul]
    refine hdv.call ?_
    have hm : n % 10 < 10 := Nat.mod_lt _ (by omega)
    have hlt : n / 10 < n := Nat.div_lt_self hpos (by omega)
    have fin : ∀ (y' : AV) (H2 : AHeap), growC (H.upd p1 (some (.row 39 0 [.bool (neg), LS (digs 65536 N) t]))) 5 1 (ds.length + 1) (Bt (ds.map chD) ++ [.int .u8 ((48 + n % 10 : Nat) : Int)]) y' H2 →
        Settle (fun s' => ∃ x' : Nat × Bool × List Nat × AV × AHeap, x'.1 < n ∧ (x'.1 ≤ N ∧ digs 10 N = x'.2.2.1 ++ digs 10 x'.1 ∧ growC (H.upd p1 (some (.row 39 0 [.bool (neg), LS (digs 65536 N) t]))) 5 1 x'.2.2.1.length (Bt (x'.2.2.1.map chD)) x'.2.2.2.1 x'.2.2.2.2) ∧ s' = ⟨[], [(1, .ptr p1 2 0), (3, x'.2.2.2.1), (4, LS (digs 65536 x'.1) x'.2.1)], x'.2.2.2.2⟩)
          ⟨[], [(1, .ptr p1 2 0), (3, y'), (4, LS (digs 65536 (n / 10)) false)], H2⟩ := by
      intro y' H2 h
      refine Settle.now ⟨(n / 10, false, ds ++ [n % 10], y', H2), hlt, ⟨by dsimp only; omega, ?_, ?_⟩, rfl⟩
      · dsimp only; rw [hds, digs_pos (by omega) hpos]; simp
      · dsimp only
        rw [List.map_append, Bt_app, List.length_append]
        rw [Bt_one (by omega)] at h
        exact h
    have hb13 : ds.length ≤ 10000002 := by omega
    clear hd10 hdt hl hnl hdsl
    by_cases hz : n % 10 = 0
    · have e : digs 65536 (n % 10) = [] := by rw [hz, digs_zero]
      rw [e]
      simp (disch := first|exact Xe|fail) only [List.length_nil, wn_u8', ↓Xa,Xb,Xc,↓reduceIte,Nat.reduceLT,Nat.reduceEqDiff,Nat.reduceBEq,Nat.reduceLeDiff,Nat.reduceAdd,Nat.reduceMul]
      refine app_C hg rfl rfl (by omega) (by omega) (by omega) fun y' H2 hg2 => ?_
      simp (disch := first|exact Xe|fail) only [↓Xa,Xb,Xc,↓reduceIte,Nat.reduceLT,Nat.reduceEqDiff,Nat.reduceBEq,Nat.reduceLeDiff,Nat.reduceAdd,Nat.reduceMul]
      exact fin y' H2 (by rw [hz]; exact hg2)
    · have e : digs 65536 (n % 10) = [n % 10] := by rw [digs1 (by omega), if_neg hz]
      rw [e]
      simp (disch := first|exact Xe|fail) only [List.length_cons, List.length_nil, wn_u8', load_U1, ↓Xa,Xb,Xc,↓reduceIte,Nat.reduceLT,Nat.reduceEqDiff,Nat.reduceBEq,Nat.reduceLeDiff,Nat.reduceAdd,Nat.reduceMul]
      refine app_C (m := 1) (bytes := 1) hg rfl rfl (by omega) (by omega) (by omega) fun y' H2 hg2 => ?_
      simp (disch := first|exact Xe|fail) only [↓Xa,Xb,Xc,↓reduceIte,Nat.reduceLT,Nat.reduceEqDiff,Nat.reduceBEq,Nat.reduceLeDiff,Nat.reduceAdd,Nat.reduceMul]
      exact fin y' H2 hg2
end Go.Proofs.YtanchgkiomfhhaaDoor.Fw

/- Fractions: what the reference's functions answer. -/
namespace Go.Proofs.YtanchgkiomfhhaaDoor.Fw
set_option linter.unusedSimpArgs false
set_option linter.unusedVariables false
open Go Go.Proofs.YtanchgkiomfhhaaDoor.Ma
set_option maxRecDepth 20000

def RaxR (a b : Int) : AV := .agg [RefB a, RefD a, RefB b, RefD b]
def RatR (q : QQ) : AV := RaxR q.num (q.den : Int)
theorem cells_Rax {a b : Int} : (RaxR a b).cells = some [RefB a, RefD a, RefB b, RefD b] := id rfl
theorem cells_RatR {q : QQ} : (RatR q).cells = some [RefB q.num, RefD q.num, RefB (q.den : Int), RefD (q.den : Int)] := id rfl
theorem fold_Rax {a b : Int} : AV.agg [RefB a, RefD a, RefB b, RefD b] = RaxR a b := id rfl
theorem fold_RatR {q : QQ} : RaxR q.num (q.den : Int) = RatR q := id rfl

theorem rrmk_fn {n d : Int} {k : Nat} (hn : Bd k n) (hd : Bd k d) (hd0 : d ≠ 0) (hk : k ≤ 1000000) : PFn Tryd.prog 178 [RefA n false, RefA d false] (RatR (_root_.Rat.divInt n d)) := by
  intro H Q hq
  refine enter178 (by simp) ?_
  simp (disch := first|exact Xe|fail) only [ac178, cells_RefA, ↓Xa,Xb,Xc,↓reduceIte,Nat.reduceLT,Nat.reduceEqDiff,Nat.reduceBEq,Nat.reduceLeDiff,Nat.reduceAdd,Nat.reduceMul]
  refine alloc_i fun p1 hp1 => ?_
  have n1 := hp1
  simp (disch := first|exact Xe|fail) only [cells_RefA, ↓Xa,Xb,Xc,↓reduceIte,Nat.reduceLT,Nat.reduceEqDiff,Nat.reduceBEq,Nat.reduceLeDiff,Nat.reduceAdd,Nat.reduceMul]
  refine alloc_i fun p2 hp2 => ?_
  have n2 := hp2
  simp only [upd_none] at n2
  obtain ⟨_, n2⟩ := n2
  simp (disch := first|exact Xe|fail) only [↓Xa,Xb,Xc,↓reduceIte,Nat.reduceLT,Nat.reduceEqDiff,Nat.reduceBEq,Nat.reduceLeDiff,Nat.reduceAdd,Nat.reduceMul]
  refine alloc_i fun p3 hp3 => ?_
  have n3 := hp3
  simp only [upd_none] at n3
  obtain ⟨_, _, n3⟩ := n3
  simp (disch := first|exact Xe|fail) only [fold_RefA, ↓Xa,Xb,Xc,↓reduceIte,Nat.reduceLT,Nat.reduceEqDiff,Nat.reduceBEq,Nat.reduceLeDiff,Nat.reduceAdd,Nat.reduceMul]
  refine (rsign_fn false hd (by omega)).call ?_
  have hg : ∀ (z : Int) (m : Nat), 0 < m → Bd k (m : Int) → 0 < ((Int.gcd z (m : Int) : Nat) : Int) ∧ Bd k ((Int.gcd z (m : Int) : Nat) : Int) ∧ z % ((Int.gcd z (m : Int) : Nat) : Int) = 0 ∧ (m : Int) % ((Int.gcd z (m : Int) : Nat) : Int) = 0 := fun z m h0 hm =>
    ⟨q_gcd h0, hm.le (by
      have h1 : Int.gcd z (m : Int) ≤ m := Nat.le_of_dvd h0 (Int.ofNat_dvd.1 (Int.gcd_dvd_right z (m : Int)))
      omega), Int.emod_eq_zero_of_dvd (Int.gcd_dvd_left z (m : Int)), Int.emod_eq_zero_of_dvd (Int.gcd_dvd_right z (m : Int))⟩
  rcases divInt_cases n d with ⟨e0, _⟩ | ⟨m, h0, rfl, e⟩ | ⟨m, h0, rfl, e⟩
  · exact absurd e0 hd0
  · obtain ⟨g1, g2, g3, g4⟩ := hg n m h0 hd
    have er : RatR (_root_.Rat.divInt n (m : Int)) = RaxR (n / ((Int.gcd n (m : Int) : Nat) : Int)) ((m : Int) / ((Int.gcd n (m : Int) : Nat) : Int)) := by
      unfold RatR; rw [e, mk_num h0, mk_den h0]
    rw [er] at hq
    have hs : decide (((m : Nat) : Int) < 0) = false := decide_eq_false (by omega)
    have gf := rgcd_fn hn (by omega) hd
    have o1 := rover_fn hn (by omega) g2 (by omega) (by omega)
    have o2 := rover_fn hd (by omega) g2 (by omega) (by omega)
    rw [if_pos g3] at o1
    rw [if_pos g4] at o2
    generalize ((Int.gcd n (m : Int) : Nat) : Int) = g at *
    simp (disch := first|exact Xe|fail) only [sgn_lss0, hs, cells_RefA, fold_RefA, ↓Xa,Xb,Xc,↓reduceIte,Nat.reduceLT,Nat.reduceEqDiff,Nat.reduceBEq,Nat.reduceLeDiff,Nat.reduceAdd,Nat.reduceMul]
    refine gf.call ?_
    simp (disch := first|exact Xe|fail) only [↓Xa,Xb,Xc,↓reduceIte,Nat.reduceLT,Nat.reduceEqDiff,Nat.reduceBEq,Nat.reduceLeDiff,Nat.reduceAdd,Nat.reduceMul]
    refine alloc_i fun p4 hp4 => ?_
    have n4 := hp4
    simp only [upd_none] at n4
    obtain ⟨_, _, _, n4⟩ := n4
    simp (disch := first|exact Xe|fail) only [cells_RefA, fold_RefA, ↓Xa,Xb,Xc,↓reduceIte,Nat.reduceLT,Nat.reduceEqDiff,Nat.reduceBEq,Nat.reduceLeDiff,Nat.reduceAdd,Nat.reduceMul]
    refine o1.call ?_
    simp (disch := first|exact Xe|fail) only [↓Xa,Xb,Xc,↓reduceIte,Nat.reduceLT,Nat.reduceEqDiff,Nat.reduceBEq,Nat.reduceLeDiff,Nat.reduceAdd,Nat.reduceMul]
    refine alloc_i fun p5 hp5 => ?_
    have n5 := hp5
    simp only [upd_none] at n5
    obtain ⟨_, _, _, _, n5⟩ := n5
    simp (disch := first|exact Xe|fail) only [cells_RefA, fold_RefA, ↓Xa,Xb,Xc,↓reduceIte,Nat.reduceLT,Nat.reduceEqDiff,Nat.reduceBEq,Nat.reduceLeDiff,Nat.reduceAdd,Nat.reduceMul]
    refine o2.call ?_
    simp (disch := first|exact Xe|fail) only [↓Xa,Xb,Xc,↓reduceIte,Nat.reduceLT,Nat.reduceEqDiff,Nat.reduceBEq,Nat.reduceLeDiff,Nat.reduceAdd,Nat.reduceMul]
    refine alloc_i fun p6 hp6 => ?_
    have n6 := hp6
    simp only [upd_none] at n6
    obtain ⟨_, _, _, _, _, n6⟩ := n6
    simp (disch := first|exact Xe|fail) only [cells_RefA, fold_RefA, fold_Rax, cells_Rax, rs178, ↓Xa,Xb,Xc,↓reduceIte,Nat.reduceLT,Nat.reduceEqDiff,Nat.reduceBEq,Nat.reduceLeDiff,Nat.reduceAdd,Nat.reduceMul]
    exact SetR.dropTo (((((((Le.refl H).updB n1).updB n2).updB n3).updB n4).updB n5).updB n6) (SetR.now hq)
  · have hd' : Bd k ((m : Nat) : Int) := by have := hd.neg; rwa [Int.neg_neg] at this
    obtain ⟨g1, g2, g3, g4⟩ := hg (-n) m h0 hd'
    have er : RatR (_root_.Rat.divInt n (-(m : Int))) = RaxR (-n / ((Int.gcd (-n) (m : Int) : Nat) : Int)) ((m : Int) / ((Int.gcd (-n) (m : Int) : Nat) : Int)) := by
      unfold RatR; rw [e, mk_num h0, mk_den h0]
    rw [er] at hq
    have hs : decide (-((m : Nat) : Int) < 0) = true := decide_eq_true (by omega)
    have gf := rgcd_fn hn.neg (by omega) hd'
    have o1 := rover_fn hn.neg (by omega) g2 (by omega) (by omega)
    have o2 := rover_fn hd' (by omega) g2 (by omega) (by omega)
    rw [if_pos g3] at o1
    rw [if_pos g4] at o2
    generalize ((Int.gcd (-n) (m : Int) : Nat) : Int) = g at *
    simp (disch := first|exact Xe|fail) only [sgn_lss0, hs, cells_RefA, fold_RefA, ↓Xa,Xb,Xc,↓reduceIte,Nat.reduceLT,Nat.reduceEqDiff,Nat.reduceBEq,Nat.reduceLeDiff,Nat.reduceAdd,Nat.reduceMul]
    refine PFn.dcall (rneg_fn false hn (by omega)) ?_
    simp (disch := first|exact Xe|fail) only [fold_RefA, ↓Xa,Xb,Xc,↓reduceIte,Nat.reduceLT,Nat.reduceEqDiff,Nat.reduceBEq,Nat.reduceLeDiff,Nat.reduceAdd,Nat.reduceMul]
    refine (rneg_fn false hd (by omega)).call ?_
    simp (disch := first|exact Xe|fail) only [Int.neg_neg, cells_RefA, fold_RefA, ↓Xa,Xb,Xc,↓reduceIte,Nat.reduceLT,Nat.reduceEqDiff,Nat.reduceBEq,Nat.reduceLeDiff,Nat.reduceAdd,Nat.reduceMul]
    refine gf.call ?_
    simp (disch := first|exact Xe|fail) only [↓Xa,Xb,Xc,↓reduceIte,Nat.reduceLT,Nat.reduceEqDiff,Nat.reduceBEq,Nat.reduceLeDiff,Nat.reduceAdd,Nat.reduceMul]
    refine alloc_i fun p4 hp4 => ?_
    have n4 := hp4
    simp only [upd_none] at n4
    obtain ⟨_, _, _, n4⟩ := n4
    simp (disch := first|exact Xe|fail) only [cells_RefA, fold_RefA, ↓Xa,Xb,Xc,↓reduceIte,Nat.reduceLT,Nat.reduceEqDiff,Nat.reduceBEq,Nat.reduceLeDiff,Nat.reduceAdd,Nat.reduceMul]
    refine o1.call ?_
    simp (disch := first|exact Xe|fail) only [↓Xa,Xb,Xc,↓reduceIte,Nat.reduceLT,Nat.reduceEqDiff,Nat.reduceBEq,Nat.reduceLeDiff,Nat.reduceAdd,Nat.reduceMul]
    refine alloc_i fun p5 hp5 => ?_
    have n5 := hp5
    simp only [upd_none] at n5
    obtain ⟨_, _, _, _, n5⟩ := n5
    simp (disch := first|exact Xe|fail) only [cells_RefA, fold_RefA, ↓Xa,Xb,Xc,↓reduceIte,Nat.reduceLT,Nat.reduceEqDiff,Nat.reduceBEq,Nat.reduceLeDiff,Nat.reduceAdd,Nat.reduceMul]
    refine o2.call ?_
    simp (disch := first|exact Xe|fail) only [↓Xa,Xb,Xc,↓reduceIte,Nat.reduceLT,Nat.reduceEqDiff,Nat.reduceBEq,Nat.reduceLeDiff,Nat.reduceAdd,Nat.reduceMul]
    refine alloc_i fun p6 hp6 => ?_
    have n6 := hp6
    simp only [upd_none] at n6
    obtain ⟨_, _, _, _, _, n6⟩ := n6
    simp (disch := first|exact Xe|fail) only [cells_RefA, fold_RefA, fold_Rax, cells_Rax, rs178, ↓Xa,Xb,Xc,↓reduceIte,Nat.reduceLT,Nat.reduceEqDiff,Nat.reduceBEq,Nat.reduceLeDiff,Nat.reduceAdd,Nat.reduceMul]
    exact SetR.dropTo (((((((Le.refl H).updB n1).updB n2).updB n3).updB n4).updB n5).updB n6) (SetR.now hq)

theorem rrwh_fn {z : Int} : PFn Tryd.prog 210 [RefA z false] (RatR (z : QQ)) := by
  intro H Q hq
  refine enter210 (by simp) ?_
  simp (disch := first|exact Xe|fail) only [ac210, cells_RefA, ↓Xa,Xb,Xc,↓reduceIte,Nat.reduceLT,Nat.reduceEqDiff,Nat.reduceBEq,Nat.reduceLeDiff,Nat.reduceAdd,Nat.reduceMul]
  refine alloc_i fun p1 hp1 => ?_
  have n1 := hp1
  simp (disch := first|exact Xe|fail) only [↓Xa,Xb,Xc,↓reduceIte,Nat.reduceLT,Nat.reduceEqDiff,Nat.reduceBEq,Nat.reduceLeDiff,Nat.reduceAdd,Nat.reduceMul]
  refine alloc_i fun p2 hp2 => ?_
  have n2 := hp2
  simp only [upd_none] at n2
  obtain ⟨_, n2⟩ := n2
  simp (disch := first|exact Xe|fail) only [fold_RefA, ↓Xa,Xb,Xc,↓reduceIte,Nat.reduceLT,Nat.reduceEqDiff,Nat.reduceBEq,Nat.reduceLeDiff,Nat.reduceAdd,Nat.reduceMul]
  refine PFn.dcall (rof_fn (n := ((1 : Nat) : Int)) (by omega)) ?_
  simp (disch := first|exact Xe|fail) only [cells_RefA, fold_RefA, fold_Rax, cells_Rax, rs210, ↓Xa,Xb,Xc,↓reduceIte,Nat.reduceLT,Nat.reduceEqDiff,Nat.reduceBEq,Nat.reduceLeDiff,Nat.reduceAdd,Nat.reduceMul]
  exact SetR.dropTo (((Le.refl H).updB n1).updB n2) (SetR.now hq)
theorem rrzero_fn : PFn Tryd.prog 181 [] (RatR 0) := by
  intro H Q hq
  refine enter181 (by simp) ?_
  simp (disch := first|exact Xe|fail) only [ac181, ↓Xa,Xb,Xc,↓reduceIte,Nat.reduceLT,Nat.reduceEqDiff,Nat.reduceBEq,Nat.reduceLeDiff,Nat.reduceAdd,Nat.reduceMul]
  refine alloc_i fun p1 hp1 => ?_
  have n1 := hp1
  simp (disch := first|exact Xe|fail) only [↓Xa,Xb,Xc,↓reduceIte,Nat.reduceLT,Nat.reduceEqDiff,Nat.reduceBEq,Nat.reduceLeDiff,Nat.reduceAdd,Nat.reduceMul]
  refine (rof_fn (n := ((0 : Nat) : Int)) (by omega)).call ?_
  simp (disch := first|exact Xe|fail) only [↓Xa,Xb,Xc,↓reduceIte,Nat.reduceLT,Nat.reduceEqDiff,Nat.reduceBEq,Nat.reduceLeDiff,Nat.reduceAdd,Nat.reduceMul]
  refine rrwh_fn.call ?_
  simp (disch := first|exact Xe|fail) only [cells_RatR, fold_Rax, fold_RatR, rs181, ↓Xa,Xb,Xc,↓reduceIte,Nat.reduceLT,Nat.reduceEqDiff,Nat.reduceBEq,Nat.reduceLeDiff,Nat.reduceAdd,Nat.reduceMul]
  exact SetR.dropTo ((Le.refl H).updB n1) (SetR.now hq)
theorem rradd_fn {p q : QQ} {k k' : Nat} (hp : RB k p) (hq' : RB k' q) (hk : k + k' ≤ 999999) : PFn Tryd.prog 182 [RatR p, RatR q] (RatR (p + q)) := by
  intro H Q hq
  have h0 : 0 < p.den * q.den := Nat.mul_pos p.den_pos q.den_pos
  have e : (p.den : Int) * (q.den : Int) = ((p.den * q.den : Nat) : Int) := (Int.natCast_mul _ _).symm
  have b1 : Bd (k + k' + 1) (p.num * (q.den : Int) + q.num * (p.den : Int)) := Bd.add (hp.1.mul hq'.2) (by rw [Nat.add_comm]; exact hq'.1.mul hp.2)
  have b2 : Bd (k + k' + 1) ((p.den : Int) * (q.den : Int)) := (hp.2.mul hq'.2).mono (by omega)
  rw [_root_.Rat.add_def', ← _root_.Rat.divInt_ofNat, ← e] at hq
  refine enter182 (by simp) ?_
  simp (disch := first|exact Xe|fail) only [ac182, cells_RatR, ↓Xa,Xb,Xc,↓reduceIte,Nat.reduceLT,Nat.reduceEqDiff,Nat.reduceBEq,Nat.reduceLeDiff,Nat.reduceAdd,Nat.reduceMul]
  refine alloc_i fun p1 hp1 => ?_
  have n1 := hp1
  simp (disch := first|exact Xe|fail) only [cells_RatR, ↓Xa,Xb,Xc,↓reduceIte,Nat.reduceLT,Nat.reduceEqDiff,Nat.reduceBEq,Nat.reduceLeDiff,Nat.reduceAdd,Nat.reduceMul]
  refine alloc_i fun p2 hp2 => ?_
  have n2 := hp2
  simp only [upd_none] at n2
  obtain ⟨_, n2⟩ := n2
  simp (disch := first|exact Xe|fail) only [↓Xa,Xb,Xc,↓reduceIte,Nat.reduceLT,Nat.reduceEqDiff,Nat.reduceBEq,Nat.reduceLeDiff,Nat.reduceAdd,Nat.reduceMul]
  refine alloc_i fun p3 hp3 => ?_
  have n3 := hp3
  simp only [upd_none] at n3
  obtain ⟨_, _, n3⟩ := n3
  simp (disch := first|exact Xe|fail) only [fold_RefA, ↓Xa,Xb,Xc,↓reduceIte,Nat.reduceLT,Nat.reduceEqDiff,Nat.reduceBEq,Nat.reduceLeDiff,Nat.reduceAdd,Nat.reduceMul]
  refine PFn.dcall (rmuli_fn false false hp.1 (by omega) hq'.2 (by omega)) ?_
  simp (disch := first|exact Xe|fail) only [fold_RefA, ↓Xa,Xb,Xc,↓reduceIte,Nat.reduceLT,Nat.reduceEqDiff,Nat.reduceBEq,Nat.reduceLeDiff,Nat.reduceAdd,Nat.reduceMul]
  refine PFn.dcall (rmuli_fn false false hq'.1 (by omega) hp.2 (by omega)) ?_
  simp (disch := first|exact Xe|fail) only [↓Xa,Xb,Xc,↓reduceIte,Nat.reduceLT,Nat.reduceEqDiff,Nat.reduceBEq,Nat.reduceLeDiff,Nat.reduceAdd,Nat.reduceMul]
  refine PFn.dcall (raddi_fn false false (hp.1.mul hq'.2) (by omega) (hq'.1.mul hp.2) (by omega)) ?_
  simp (disch := first|exact Xe|fail) only [fold_RefA, ↓Xa,Xb,Xc,↓reduceIte,Nat.reduceLT,Nat.reduceEqDiff,Nat.reduceBEq,Nat.reduceLeDiff,Nat.reduceAdd,Nat.reduceMul]
  refine (rmuli_fn false false hp.2 (by omega) hq'.2 (by omega)).call ?_
  simp (disch := first|exact Xe|fail) only [↓Xa,Xb,Xc,↓reduceIte,Nat.reduceLT,Nat.reduceEqDiff,Nat.reduceBEq,Nat.reduceLeDiff,Nat.reduceAdd,Nat.reduceMul]
  refine (rrmk_fn b1 b2 (by omega) (by omega)).call ?_
  simp (disch := first|exact Xe|fail) only [cells_RatR, fold_Rax, fold_RatR, rs182, ↓Xa,Xb,Xc,↓reduceIte,Nat.reduceLT,Nat.reduceEqDiff,Nat.reduceBEq,Nat.reduceLeDiff,Nat.reduceAdd,Nat.reduceMul]
  exact SetR.dropTo ((((Le.refl H).updB n1).updB n2).updB n3) (SetR.now hq)
end Go.Proofs.YtanchgkiomfhhaaDoor.Fw

/- Fractions: the helpers that read and try. -/
namespace Go.Proofs.YtanchgkiomfhhaaDoor.Fw
set_option linter.unusedSimpArgs false
set_option linter.unusedVariables false
open Go Go.Proofs.YtanchgkiomfhhaaDoor.Ma
set_option maxRecDepth 20000

def wk1 : QQ := mkRat (-3) 2
def wk2 : QQ := mkRat (-1) 2
def wk3 : QQ := mkRat (-2) 1
theorem wk1_eq : _root_.Rat.divInt ((6 : Nat) : Int) (-4) = wk1 := by decide +kernel
theorem wk2_eq : wk1 / ((((3 : Nat) : Int)) : QQ) = wk2 := by decide +kernel
theorem wk3_eq : wk2 + wk1 = wk3 := by decide +kernel
theorem wk_q0 : ¬ ((((3 : Nat) : Int) : QQ) = 0) := by decide +kernel
theorem wk1_b : RB 1 wk1 := by unfold RB Bd; decide +kernel
theorem wk2_b : RB 1 wk2 := by unfold RB Bd; decide +kernel
theorem wk3_b : RB 1 wk3 := by unfold RB Bd; decide +kernel
theorem wk1_t : qText wk1 = [45, 51, 47, 50] := by
  have e1 : wk1.num = -3 := by decide +kernel
  have e2 : wk1.den = 2 := by decide +kernel
  rw [qText, e1, e2]; simp [iText, decT, dec, digs, chr]
theorem wk2_t : qText wk2 = [45, 49, 47, 50] := by
  have e1 : wk2.num = -1 := by decide +kernel
  have e2 : wk2.den = 2 := by decide +kernel
  rw [qText, e1, e2]; simp [iText, decT, dec, digs, chr]
theorem wk3_d : wk3.den = 1 := by decide +kernel
theorem wk3_t : qText wk3 = [45, 50] := by
  have e1 : wk3.num = -2 := by decide +kernel
  rw [qText, e1, wk3_d]; simp [iText, decT, dec, digs, chr]
theorem wk3_dt : iText (wk3.den : Int) = [49] := by rw [wk3_d]; simp [iText, decT, dec, digs, chr]
theorem wk1_f : iText (wk1.num / (wk1.den : Int)) = [45, 50] := by
  have e1 : wk1.num / (wk1.den : Int) = -2 := by decide +kernel
  rw [e1]; simp [iText, decT, dec, digs, chr]
theorem works_q : PFn Tryd.prog 94 [] (.bool true) := by
  intro H Q hq
  have s1 : AV.str ⟨#[45, 51, 47, 50]⟩ = Sx [45, 51, 47, 50] := rfl
  have s2 : AV.str ⟨#[45, 49, 47, 50]⟩ = Sx [45, 49, 47, 50] := rfl
  have s3 : AV.str ⟨#[45, 50]⟩ = Sx [45, 50] := rfl
  have s4 : AV.str ⟨#[49]⟩ = Sx [49] := rfl
  refine enter94 (by simp) ?_
  simp (disch := first|exact Xe|fail) only [ac94, ↓Xa,Xb,Xc,↓reduceIte,Nat.reduceLT,Nat.reduceEqDiff,Nat.reduceBEq,Nat.reduceLeDiff,Nat.reduceAdd,Nat.reduceMul]
  refine (of_fn (n := ((6 : Nat) : Int)) (by omega)).call ?_
  simp (disch := first|exact Xe|fail) only [↓Xa,Xb,Xc,↓reduceIte,Nat.reduceLT,Nat.reduceEqDiff,Nat.reduceBEq,Nat.reduceLeDiff,Nat.reduceAdd,Nat.reduceMul]
  refine (of_fn (n := -4) (by omega)).call ?_
  simp (disch := first|exact Xe|fail) only [↓Xa,Xb,Xc,↓reduceIte,Nat.reduceLT,Nat.reduceEqDiff,Nat.reduceBEq,Nat.reduceLeDiff,Nat.reduceAdd,Nat.reduceMul]
  refine (rmk_fn (k := 2) (Bd.i64 (n := ((6 : Nat) : Int)) (by omega)) (Bd.i64 (n := -4) (by omega)) (by omega)).call ?_
  rw [wk1_eq, if_neg (show ¬ ((-4 : Int) = 0) by decide)]
  simp (disch := first|exact Xe|fail) only [RatE, ↓Xa,Xb,Xc,↓reduceIte,Nat.reduceLT,Nat.reduceEqDiff,Nat.reduceBEq,Nat.reduceLeDiff,Nat.reduceAdd,Nat.reduceMul]
  refine alloc_i fun p1 hp1 => ?_
  have n1 := hp1
  simp (disch := first|exact Xe|fail) only [cells_RatA, fold_Raw, fold_RatA, ↓Xa,Xb,Xc,↓reduceIte,Nat.reduceLT,Nat.reduceEqDiff,Nat.reduceBEq,Nat.reduceLeDiff,Nat.reduceAdd,Nat.reduceMul]
  refine PFn.dcall (of_fn (n := ((3 : Nat) : Int)) (by omega)) ?_
  simp (disch := first|exact Xe|fail) only [↓Xa,Xb,Xc,↓reduceIte,Nat.reduceLT,Nat.reduceEqDiff,Nat.reduceBEq,Nat.reduceLeDiff,Nat.reduceAdd,Nat.reduceMul]
  refine PFn.dcall rwh_fn ?_
  simp (disch := first|exact Xe|fail) only [↓Xa,Xb,Xc,↓reduceIte,Nat.reduceLT,Nat.reduceEqDiff,Nat.reduceBEq,Nat.reduceLeDiff,Nat.reduceAdd,Nat.reduceMul]
  refine PFn.dcall (rover_q wk1_b (RB.int (k := 1) (Bd.i64 (n := ((3 : Nat) : Int)) (by omega))) (by omega)) ?_
  rw [wk2_eq, if_neg wk_q0]
  simp (disch := first|exact Xe|fail) only [RatE, ↓Xa,Xb,Xc,↓reduceIte,Nat.reduceLT,Nat.reduceEqDiff,Nat.reduceBEq,Nat.reduceLeDiff,Nat.reduceAdd,Nat.reduceMul]
  refine dalloc_i fun p2 hp2 => ?_
  have n2 := hp2
  simp only [upd_none] at n2
  obtain ⟨_, n2⟩ := n2
  simp (disch := first|exact Xe|fail) only [cells_RatA, fold_Raw, fold_RatA, ↓Xa,Xb,Xc,↓reduceIte,Nat.reduceLT,Nat.reduceEqDiff,Nat.reduceBEq,Nat.reduceLeDiff,Nat.reduceAdd,Nat.reduceMul]
  refine (radd_fn wk2_b wk1_b (by omega)).call ?_
  rw [wk3_eq]
  simp (disch := first|exact Xe|fail) only [↓Xa,Xb,Xc,↓reduceIte,Nat.reduceLT,Nat.reduceEqDiff,Nat.reduceBEq,Nat.reduceLeDiff,Nat.reduceAdd,Nat.reduceMul]
  refine alloc_i fun p3 hp3 => ?_
  have n3 := hp3
  simp only [upd_none] at n3
  obtain ⟨_, _, n3⟩ := n3
  simp (disch := first|exact Xe|fail) only [cells_RatA, fold_Raw, fold_RatA, ↓Xa,Xb,Xc,↓reduceIte,Nat.reduceLT,Nat.reduceEqDiff,Nat.reduceBEq,Nat.reduceLeDiff,Nat.reduceAdd,Nat.reduceMul]
  refine (rtextq_fn wk1_b (by omega)).call ?_
  simp (disch := first|exact Xe|fail) only [wk1_t, s1, eql_Sx, fold_Raw, fold_RatA, ↓Xa,Xb,Xc,↓reduceIte,Nat.reduceLT,Nat.reduceEqDiff,Nat.reduceBEq,Nat.reduceLeDiff,Nat.reduceAdd,Nat.reduceMul]
  refine (rtextq_fn wk2_b (by omega)).call ?_
  simp (disch := first|exact Xe|fail) only [wk2_t, s2, eql_Sx, fold_Raw, fold_RatA, ↓Xa,Xb,Xc,↓reduceIte,Nat.reduceLT,Nat.reduceEqDiff,Nat.reduceBEq,Nat.reduceLeDiff,Nat.reduceAdd,Nat.reduceMul]
  refine (rtextq_fn wk3_b (by omega)).call ?_
  simp (disch := first|exact Xe|fail) only [wk3_t, s3, eql_Sx, fold_Raw, fold_RatA, ↓Xa,Xb,Xc,↓reduceIte,Nat.reduceLT,Nat.reduceEqDiff,Nat.reduceBEq,Nat.reduceLeDiff,Nat.reduceAdd,Nat.reduceMul]
  refine (rwhole_fn wk3_b (by omega)).call ?_
  simp (disch := first|exact Xe|fail) only [decide_eq_true wk3_d, fold_Raw, fold_RatA, ↓Xa,Xb,Xc,↓reduceIte,Nat.reduceLT,Nat.reduceEqDiff,Nat.reduceBEq,Nat.reduceLeDiff,Nat.reduceAdd,Nat.reduceMul]
  refine (rden_fn wk3_b (by omega)).call ?_
  simp (disch := first|exact Xe|fail) only [↓Xa,Xb,Xc,↓reduceIte,Nat.reduceLT,Nat.reduceEqDiff,Nat.reduceBEq,Nat.reduceLeDiff,Nat.reduceAdd,Nat.reduceMul]
  refine (itext_fn wk3_b.2 (by omega)).call ?_
  simp (disch := first|exact Xe|fail) only [wk3_dt, s4, eql_Sx, fold_Raw, fold_RatA, ↓Xa,Xb,Xc,↓reduceIte,Nat.reduceLT,Nat.reduceEqDiff,Nat.reduceBEq,Nat.reduceLeDiff,Nat.reduceAdd,Nat.reduceMul]
  refine (rfloor_fn wk1_b (by omega)).call ?_
  simp (disch := first|exact Xe|fail) only [↓Xa,Xb,Xc,↓reduceIte,Nat.reduceLT,Nat.reduceEqDiff,Nat.reduceBEq,Nat.reduceLeDiff,Nat.reduceAdd,Nat.reduceMul]
  refine (itext_fn (wk1_b.1.ediv) (by omega)).call ?_
  simp (disch := first|exact Xe|fail) only [wk1_f, s3, eql_Sx, rs94, ↓Xa,Xb,Xc,↓reduceIte,Nat.reduceLT,Nat.reduceEqDiff,Nat.reduceBEq,Nat.reduceLeDiff,Nat.reduceAdd,Nat.reduceMul]
  exact SetR.dropTo ((((Le.refl H).updB n1).updB n2).updB n3) (SetR.now hq)

end Go.Proofs.YtanchgkiomfhhaaDoor.Fw

/- Fractions: more of the reference, and what holds the two against each other. -/
namespace Go.Proofs.YtanchgkiomfhhaaDoor.Fw
set_option linter.unusedSimpArgs false
set_option linter.unusedVariables false
open Go Go.Proofs.YtanchgkiomfhhaaDoor.Ma
set_option maxRecDepth 20000

theorem isq_fn {q : QQ} {k : Nat} (hb : RB k q) (hk : k ≤ 1000000) : PFn Tryd.prog 111 [RatA q, RatR q] (.bool true) := by
  intro H Q hq
  refine enter111 (by simp) ?_
  simp (disch := first|exact Xe|fail) only [ac111, cells_RatA, ↓Xa,Xb,Xc,↓reduceIte,Nat.reduceLT,Nat.reduceEqDiff,Nat.reduceBEq,Nat.reduceLeDiff,Nat.reduceAdd,Nat.reduceMul]
  refine alloc_i fun p1 hp1 => ?_
  have n1 := hp1
  simp (disch := first|exact Xe|fail) only [cells_RatR, ↓Xa,Xb,Xc,↓reduceIte,Nat.reduceLT,Nat.reduceEqDiff,Nat.reduceBEq,Nat.reduceLeDiff,Nat.reduceAdd,Nat.reduceMul]
  refine alloc_i fun p2 hp2 => ?_
  have n2 := hp2
  simp only [upd_none] at n2
  obtain ⟨_, n2⟩ := n2
  simp (disch := first|exact Xe|fail) only [fold_Raw, fold_RatA, ↓Xa,Xb,Xc,↓reduceIte,Nat.reduceLT,Nat.reduceEqDiff,Nat.reduceBEq,Nat.reduceLeDiff,Nat.reduceAdd,Nat.reduceMul]
  refine PFn.dcall rnum_fn ?_
  simp (disch := first|exact Xe|fail) only [↓Xa,Xb,Xc,↓reduceIte,Nat.reduceLT,Nat.reduceEqDiff,Nat.reduceBEq,Nat.reduceLeDiff,Nat.reduceAdd,Nat.reduceMul]
  refine PFn.dcall (itext_fn hb.1 hk) ?_
  simp (disch := first|exact Xe|fail) only [fold_RefA, ↓Xa,Xb,Xc,↓reduceIte,Nat.reduceLT,Nat.reduceEqDiff,Nat.reduceBEq,Nat.reduceLeDiff,Nat.reduceAdd,Nat.reduceMul]
  refine PFn.dcall (rtext_fn false hb.1 hk) ?_
  simp (disch := first|exact Xe|fail) only [eql_Sx, fold_Raw, fold_RatA, ↓Xa,Xb,Xc,↓reduceIte,Nat.reduceLT,Nat.reduceEqDiff,Nat.reduceBEq,Nat.reduceLeDiff,Nat.reduceAdd,Nat.reduceMul]
  refine PFn.dcall (rden_fn hb hk) ?_
  simp (disch := first|exact Xe|fail) only [↓Xa,Xb,Xc,↓reduceIte,Nat.reduceLT,Nat.reduceEqDiff,Nat.reduceBEq,Nat.reduceLeDiff,Nat.reduceAdd,Nat.reduceMul]
  refine PFn.dcall (itext_fn hb.2 hk) ?_
  simp (disch := first|exact Xe|fail) only [fold_RefA, ↓Xa,Xb,Xc,↓reduceIte,Nat.reduceLT,Nat.reduceEqDiff,Nat.reduceBEq,Nat.reduceLeDiff,Nat.reduceAdd,Nat.reduceMul]
  refine (rtext_fn false hb.2 hk).call ?_
  simp (disch := first|exact Xe|fail) only [eql_Sx, rs111, ↓Xa,Xb,Xc,↓reduceIte,Nat.reduceLT,Nat.reduceEqDiff,Nat.reduceBEq,Nat.reduceLeDiff,Nat.reduceAdd,Nat.reduceMul]
  exact SetR.dropTo (((Le.refl H).updB n1).updB n2) (SetR.now hq)
end Go.Proofs.YtanchgkiomfhhaaDoor.Fw

/- Fractions: the laws that hold the program against the reference: true. -/
namespace Go.Proofs.YtanchgkiomfhhaaDoor.Fw
set_option linter.unusedSimpArgs false
set_option linter.unusedVariables false
open Go Go.Proofs.YtanchgkiomfhhaaDoor.Ma
set_option maxRecDepth 20000

theorem extF3 {a b c d : AV} {l : List AV} {K : AV → Prop} : extW (.tup (a :: b :: c :: d :: l)) 3 K = K d := id rfl
theorem extF4 {a b c d e : AV} {l : List AV} {K : AV → Prop} : extW (.tup (a :: b :: c :: d :: e :: l)) 4 K = K e := id rfl
theorem cells_RefF {z : Int} {t : Bool} : (RefA z t).cells = some [RefB z, LS (digs 65536 z.natAbs) t] := id rfl
theorem fold_RefF {z : Int} {t : Bool} : AV.agg [RefB z, LS (digs 65536 z.natAbs) t] = RefA z t := id rfl

theorem read2_ex (l : List UInt8) (hl : l.length ≤ 65536) : ∃ (z : Int) (ok : Bool) (pos : Int) (e a : Nat), Bd 8192 z ∧ decide (((0 : Nat) : Int) ≤ pos) = !ok ∧ PFn Tryd.prog 167 [Sx l] (.tup [IntA z, spot e a]) ∧ PFn Tryd.prog 172 [Sx l] (.tup [RefA z (!ok), .int .i64 pos]) := by
  obtain ⟨p, hp⟩ := isAt_ex l
  have h := iread_fn hp (by omega)
  have r := rread_fn hp hl
  unfold iReadA at h
  unfold rReadA at r
  rw [if_neg (by omega)] at h
  by_cases h2 : p = iFrom l ∨ p < l.length
  · rw [if_pos h2] at h r
    exact ⟨0, false, (p : Int), 6, p, Bd.zero _, decide_eq_true (by omega), h, r⟩
  · rw [if_neg h2] at h r
    have hne : p ≠ iFrom l := fun e => h2 (.inl e)
    have hpl : p = l.length := by have := hp.2.1; omega
    subst hpl
    exact ⟨iVal l, true, -1, 0, 0, Bd.sgn (Nat.lt_of_lt_of_le (decV_lt fun b hb => ((isAt_good hp hne).2.1 b hb).2) (ten_bound (by simp; omega))), by decide, h, r⟩
theorem numbers_ex (a : List UInt8 × List UInt8) (h1 : a.1.length ≤ 65536) (h2 : a.2.length ≤ 65536) : ∃ (z1 z2 y1 y2 : Int) (t1 t2 ok : Bool), Bd 8192 z1 ∧ Bd 8192 z2 ∧ (ok = true → y1 = z1 ∧ y2 = z2 ∧ t1 = false ∧ t2 = false) ∧ PFn Tryd.prog 177 [FracA a] (.tup [IntA z1, IntA z2, RefA y1 t1, RefA y2 t2, .bool ok]) := by
  obtain ⟨z1, o1, q1, e1, a1, b1, g1, f1, r1⟩ := read2_ex a.1 h1
  obtain ⟨z2, o2, q2, e2, a2, b2, g2, f2, r2⟩ := read2_ex a.2 h2
  refine ⟨if (o1 && o2) = true then z1 else 0, if (o1 && o2) = true then z2 else 0, z1, z2, !o1, !o2, o1 && o2, ?_, ?_, ?_, fun H Q hq => ?_⟩
  · split
    · exact b1
    · exact Bd.zero _
  · split
    · exact b2
    · exact Bd.zero _
  · intro h; cases o1 <;> cases o2 <;> simp_all
  refine enter177 (by simp) ?_
  simp (disch := first|exact Xe|fail) only [ac177, cells_FracA, ↓Xa,Xb,Xc,↓reduceIte,Nat.reduceLT,Nat.reduceEqDiff,Nat.reduceBEq,Nat.reduceLeDiff,Nat.reduceAdd,Nat.reduceMul]
  refine alloc_i fun p1 hp1 => ?_
  have n1 := hp1
  simp (disch := first|exact Xe|fail) only [↓Xa,Xb,Xc,↓reduceIte,Nat.reduceLT,Nat.reduceEqDiff,Nat.reduceBEq,Nat.reduceLeDiff,Nat.reduceAdd,Nat.reduceMul]
  refine alloc_i fun p2 hp2 => ?_
  have n2 := hp2
  simp only [upd_none] at n2
  obtain ⟨_, n2⟩ := n2
  simp (disch := first|exact Xe|fail) only [↓Xa,Xb,Xc,↓reduceIte,Nat.reduceLT,Nat.reduceEqDiff,Nat.reduceBEq,Nat.reduceLeDiff,Nat.reduceAdd,Nat.reduceMul]
  refine alloc_i fun p3 hp3 => ?_
  have n3 := hp3
  simp only [upd_none] at n3
  obtain ⟨_, _, n3⟩ := n3
  simp (disch := first|exact Xe|fail) only [↓Xa,Xb,Xc,↓reduceIte,Nat.reduceLT,Nat.reduceEqDiff,Nat.reduceBEq,Nat.reduceLeDiff,Nat.reduceAdd,Nat.reduceMul]
  refine alloc_i fun p4 hp4 => ?_
  have n4 := hp4
  simp only [upd_none] at n4
  obtain ⟨_, _, _, n4⟩ := n4
  simp (disch := first|exact Xe|fail) only [↓Xa,Xb,Xc,↓reduceIte,Nat.reduceLT,Nat.reduceEqDiff,Nat.reduceBEq,Nat.reduceLeDiff,Nat.reduceAdd,Nat.reduceMul]
  refine alloc_i fun p5 hp5 => ?_
  have n5 := hp5
  simp only [upd_none] at n5
  obtain ⟨_, _, _, _, n5⟩ := n5
  simp (disch := first|exact Xe|fail) only [↓Xa,Xb,Xc,↓reduceIte,Nat.reduceLT,Nat.reduceEqDiff,Nat.reduceBEq,Nat.reduceLeDiff,Nat.reduceAdd,Nat.reduceMul]
  refine r1.call ?_
  simp (disch := first|exact Xe|fail) only [↓Xa,Xb,Xc,↓reduceIte,Nat.reduceLT,Nat.reduceEqDiff,Nat.reduceBEq,Nat.reduceLeDiff,Nat.reduceAdd,Nat.reduceMul]
  refine alloc_i fun p6 hp6 => ?_
  have n6 := hp6
  simp only [upd_none] at n6
  obtain ⟨_, _, _, _, _, n6⟩ := n6
  simp (disch := first|exact Xe|fail) only [cells_RefF, ↓Xa,Xb,Xc,↓reduceIte,Nat.reduceLT,Nat.reduceEqDiff,Nat.reduceBEq,Nat.reduceLeDiff,Nat.reduceAdd,Nat.reduceMul]
  refine r2.call ?_
  simp (disch := first|exact Xe|fail) only [↓Xa,Xb,Xc,↓reduceIte,Nat.reduceLT,Nat.reduceEqDiff,Nat.reduceBEq,Nat.reduceLeDiff,Nat.reduceAdd,Nat.reduceMul]
  refine alloc_i fun p7 hp7 => ?_
  have n7 := hp7
  simp only [upd_none] at n7
  obtain ⟨_, _, _, _, _, _, n7⟩ := n7
  cases o1 with
  | false =>
    rw [Bool.false_and, if_neg (by decide), if_neg (by decide), ← IntA_0] at hq
    simp (disch := first|exact Xe|fail) only [geq_int, g1, cells_RefF, fold_RefF, rs177, ↓Xa,Xb,Xc,↓reduceIte,Nat.reduceLT,Nat.reduceEqDiff,Nat.reduceBEq,Nat.reduceLeDiff,Nat.reduceAdd,Nat.reduceMul]
    exact SetR.dropTo ((((((((Le.refl H).updB n1).updB n2).updB n3).updB n4).updB n5).updB n6).updB n7) (SetR.now hq)
  | true =>
  cases o2 with
  | false =>
    rw [Bool.true_and, if_neg (by decide), if_neg (by decide), ← IntA_0] at hq
    simp (disch := first|exact Xe|fail) only [geq_int, g1, g2, cells_RefF, fold_RefF, rs177, ↓Xa,Xb,Xc,↓reduceIte,Nat.reduceLT,Nat.reduceEqDiff,Nat.reduceBEq,Nat.reduceLeDiff,Nat.reduceAdd,Nat.reduceMul]
    exact SetR.dropTo ((((((((Le.refl H).updB n1).updB n2).updB n3).updB n4).updB n5).updB n6).updB n7) (SetR.now hq)
  | true =>
  rw [Bool.true_and, if_pos rfl, if_pos rfl] at hq
  simp (disch := first|exact Xe|fail) only [geq_int, g1, g2, cells_RefF, ↓Xa,Xb,Xc,↓reduceIte,Nat.reduceLT,Nat.reduceEqDiff,Nat.reduceBEq,Nat.reduceLeDiff,Nat.reduceAdd,Nat.reduceMul]
  refine f1.call ?_
  simp (disch := first|exact Xe|fail) only [spot, ↓Xa,Xb,Xc,↓reduceIte,Nat.reduceLT,Nat.reduceEqDiff,Nat.reduceBEq,Nat.reduceLeDiff,Nat.reduceAdd,Nat.reduceMul]
  refine alloc_i fun p8 hp8 => ?_
  have n8 := hp8
  simp only [upd_none] at n8
  obtain ⟨_, _, _, _, _, _, _, n8⟩ := n8
  simp (disch := first|exact Xe|fail) only [↓Xa,Xb,Xc,↓reduceIte,Nat.reduceLT,Nat.reduceEqDiff,Nat.reduceBEq,Nat.reduceLeDiff,Nat.reduceAdd,Nat.reduceMul]
  refine alloc_i fun p9 hp9 => ?_
  have n9 := hp9
  simp only [upd_none] at n9
  obtain ⟨_, _, _, _, _, _, _, _, n9⟩ := n9
  simp (disch := first|exact Xe|fail) only [cells_IntA, cells_i2, ↓Xa,Xb,Xc,↓reduceIte,Nat.reduceLT,Nat.reduceEqDiff,Nat.reduceBEq,Nat.reduceLeDiff,Nat.reduceAdd,Nat.reduceMul]
  refine f2.call ?_
  simp (disch := first|exact Xe|fail) only [spot, ↓Xa,Xb,Xc,↓reduceIte,Nat.reduceLT,Nat.reduceEqDiff,Nat.reduceBEq,Nat.reduceLeDiff,Nat.reduceAdd,Nat.reduceMul]
  refine alloc_i fun p10 hp10 => ?_
  have n10 := hp10
  simp only [upd_none] at n10
  obtain ⟨_, _, _, _, _, _, _, _, _, n10⟩ := n10
  simp (disch := first|exact Xe|fail) only [↓Xa,Xb,Xc,↓reduceIte,Nat.reduceLT,Nat.reduceEqDiff,Nat.reduceBEq,Nat.reduceLeDiff,Nat.reduceAdd,Nat.reduceMul]
  refine alloc_i fun p11 hp11 => ?_
  have n11 := hp11
  simp only [upd_none] at n11
  obtain ⟨_, _, _, _, _, _, _, _, _, _, n11⟩ := n11
  simp (disch := first|exact Xe|fail) only [cells_IntA, fold_IntA, cells_i2, cells_RefF, fold_RefF, rs177, ↓Xa,Xb,Xc,↓reduceIte,Nat.reduceLT,Nat.reduceEqDiff,Nat.reduceBEq,Nat.reduceLeDiff,Nat.reduceAdd,Nat.reduceMul]
  exact SetR.dropTo ((((((((((((((((Le.refl H).updB n1).updB n2).updB n3).updB n4).updB n5).updB n6).updB n7).updB n8).updB n9).updB n10).updB n11).updB n2).updB n3).updB n4).updB n5) (SetR.now hq)

theorem rat_ex (a : List UInt8 × List UInt8) (h1 : a.1.length ≤ 65536) (h2 : a.2.length ≤ 65536) : ∃ (x : QQ) (c1 c2 c3 c4 : AV) (ok : Bool), RB 8193 x ∧ (AV.agg [c1, c2, c3, c4]).cells = some [c1, c2, c3, c4] ∧ (ok = true → AV.agg [c1, c2, c3, c4] = RatR x) ∧ PFn Tryd.prog 108 [FracA a] (.tup [RatA x, .agg [c1, c2, c3, c4], .bool ok]) := by
  obtain ⟨z1, z2, y1, y2, t1, t2, ok, b1, b2, hok, hf⟩ := numbers_ex a h1 h2
  by_cases hc : ok = true ∧ z2 ≠ 0
  · obtain ⟨rfl, hz⟩ := hc
    obtain ⟨rfl, rfl, rfl, rfl⟩ := hok rfl
    refine ⟨_root_.Rat.divInt y1 y2, _, _, _, _, true, RB.divInt b1 b2, cells_RatR, fun _ => fold_Rax.trans fold_RatR, fun H Q hq => ?_⟩
    have hs : decide (y2 = 0) = false := decide_eq_false hz
    refine enter108 (by simp) ?_
    simp (disch := first|exact Xe|fail) only [ac108, cells_FracA, ↓Xa,Xb,Xc,↓reduceIte,Nat.reduceLT,Nat.reduceEqDiff,Nat.reduceBEq,Nat.reduceLeDiff,Nat.reduceAdd,Nat.reduceMul]
    refine alloc_i fun p1 hp1 => ?_
    have n1 := hp1
    simp (disch := first|exact Xe|fail) only [↓Xa,Xb,Xc,↓reduceIte,Nat.reduceLT,Nat.reduceEqDiff,Nat.reduceBEq,Nat.reduceLeDiff,Nat.reduceAdd,Nat.reduceMul]
    refine alloc_i fun p2 hp2 => ?_
    have n2 := hp2
    simp only [upd_none] at n2
    obtain ⟨_, n2⟩ := n2
    simp (disch := first|exact Xe|fail) only [↓Xa,Xb,Xc,↓reduceIte,Nat.reduceLT,Nat.reduceEqDiff,Nat.reduceBEq,Nat.reduceLeDiff,Nat.reduceAdd,Nat.reduceMul]
    refine alloc_i fun p3 hp3 => ?_
    have n3 := hp3
    simp only [upd_none] at n3
    obtain ⟨_, _, n3⟩ := n3
    simp (disch := first|exact Xe|fail) only [fold_FracA, ↓Xa,Xb,Xc,↓reduceIte,Nat.reduceLT,Nat.reduceEqDiff,Nat.reduceBEq,Nat.reduceLeDiff,Nat.reduceAdd,Nat.reduceMul]
    refine hf.call ?_
    simp (disch := first|exact Xe|fail) only [extF3, extF4, ↓Xa,Xb,Xc,↓reduceIte,Nat.reduceLT,Nat.reduceEqDiff,Nat.reduceBEq,Nat.reduceLeDiff,Nat.reduceAdd,Nat.reduceMul]
    refine alloc_i fun p4 hp4 => ?_
    have n4 := hp4
    simp only [upd_none] at n4
    obtain ⟨_, _, _, n4⟩ := n4
    simp (disch := first|exact Xe|fail) only [↓Xa,Xb,Xc,↓reduceIte,Nat.reduceLT,Nat.reduceEqDiff,Nat.reduceBEq,Nat.reduceLeDiff,Nat.reduceAdd,Nat.reduceMul]
    refine alloc_i fun p5 hp5 => ?_
    have n5 := hp5
    simp only [upd_none] at n5
    obtain ⟨_, _, _, _, n5⟩ := n5
    simp (disch := first|exact Xe|fail) only [↓Xa,Xb,Xc,↓reduceIte,Nat.reduceLT,Nat.reduceEqDiff,Nat.reduceBEq,Nat.reduceLeDiff,Nat.reduceAdd,Nat.reduceMul]
    refine alloc_i fun p6 hp6 => ?_
    have n6 := hp6
    simp only [upd_none] at n6
    obtain ⟨_, _, _, _, _, n6⟩ := n6
    simp (disch := first|exact Xe|fail) only [↓Xa,Xb,Xc,↓reduceIte,Nat.reduceLT,Nat.reduceEqDiff,Nat.reduceBEq,Nat.reduceLeDiff,Nat.reduceAdd,Nat.reduceMul]
    refine alloc_i fun p7 hp7 => ?_
    have n7 := hp7
    simp only [upd_none] at n7
    obtain ⟨_, _, _, _, _, _, n7⟩ := n7
    simp (disch := first|exact Xe|fail) only [cells_IntA, cells_RefA, fold_RefA, ↓Xa,Xb,Xc,↓reduceIte,Nat.reduceLT,Nat.reduceEqDiff,Nat.reduceBEq,Nat.reduceLeDiff,Nat.reduceAdd,Nat.reduceMul]
    refine (rsign_fn false b2 (by omega)).call ?_
    simp (disch := first|exact Xe|fail) only [sgn_eql0, hs, fold_IntA, ↓Xa,Xb,Xc,↓reduceIte,Nat.reduceLT,Nat.reduceEqDiff,Nat.reduceBEq,Nat.reduceLeDiff,Nat.reduceAdd,Nat.reduceMul]
    refine (rmk_fn b1 b2 (by omega)).call ?_
    simp (disch := first|exact Xe|fail) only [RatE, ↓Xa,Xb,Xc,↓reduceIte,Nat.reduceLT,Nat.reduceEqDiff,Nat.reduceBEq,Nat.reduceLeDiff,Nat.reduceAdd,Nat.reduceMul]
    refine alloc_i fun p8 hp8 => ?_
    have n8 := hp8
    simp only [upd_none] at n8
    obtain ⟨_, _, _, _, _, _, _, n8⟩ := n8
    simp (disch := first|exact Xe|fail) only [cells_RatA, fold_Raw, fold_RatA, fold_RefA, ↓Xa,Xb,Xc,↓reduceIte,Nat.reduceLT,Nat.reduceEqDiff,Nat.reduceBEq,Nat.reduceLeDiff,Nat.reduceAdd,Nat.reduceMul]
    refine PFn.dcall (rrmk_fn b1 b2 hz (by omega)) ?_
    simp (disch := first|exact Xe|fail) only [cells_RatA, cells_RatR, fold_Raw, fold_RatA, rs108, ↓Xa,Xb,Xc,↓reduceIte,Nat.reduceLT,Nat.reduceEqDiff,Nat.reduceBEq,Nat.reduceLeDiff,Nat.reduceAdd,Nat.reduceMul]
    exact SetR.dropTo (((((((((((Le.refl H).updB n1).updB n2).updB n3).updB n4).updB n5).updB n6).updB n7).updB n8).updB n2).updB n3) (SetR.now hq)
  · refine ⟨0, .bool false, .seq 0 [] true, .bool false, .seq 0 [] true, false, ⟨Bd.zero _, Bd.oneQ 8192⟩, id rfl, (fun e => by cases e), fun H Q hq => ?_⟩
    rw [← RawR_0] at hq
    refine enter108 (by simp) ?_
    simp (disch := first|exact Xe|fail) only [ac108, cells_FracA, ↓Xa,Xb,Xc,↓reduceIte,Nat.reduceLT,Nat.reduceEqDiff,Nat.reduceBEq,Nat.reduceLeDiff,Nat.reduceAdd,Nat.reduceMul]
    refine alloc_i fun p1 hp1 => ?_
    have n1 := hp1
    simp (disch := first|exact Xe|fail) only [↓Xa,Xb,Xc,↓reduceIte,Nat.reduceLT,Nat.reduceEqDiff,Nat.reduceBEq,Nat.reduceLeDiff,Nat.reduceAdd,Nat.reduceMul]
    refine alloc_i fun p2 hp2 => ?_
    have n2 := hp2
    simp only [upd_none] at n2
    obtain ⟨_, n2⟩ := n2
    simp (disch := first|exact Xe|fail) only [↓Xa,Xb,Xc,↓reduceIte,Nat.reduceLT,Nat.reduceEqDiff,Nat.reduceBEq,Nat.reduceLeDiff,Nat.reduceAdd,Nat.reduceMul]
    refine alloc_i fun p3 hp3 => ?_
    have n3 := hp3
    simp only [upd_none] at n3
    obtain ⟨_, _, n3⟩ := n3
    simp (disch := first|exact Xe|fail) only [fold_FracA, ↓Xa,Xb,Xc,↓reduceIte,Nat.reduceLT,Nat.reduceEqDiff,Nat.reduceBEq,Nat.reduceLeDiff,Nat.reduceAdd,Nat.reduceMul]
    refine hf.call ?_
    simp (disch := first|exact Xe|fail) only [extF3, extF4, ↓Xa,Xb,Xc,↓reduceIte,Nat.reduceLT,Nat.reduceEqDiff,Nat.reduceBEq,Nat.reduceLeDiff,Nat.reduceAdd,Nat.reduceMul]
    refine alloc_i fun p4 hp4 => ?_
    have n4 := hp4
    simp only [upd_none] at n4
    obtain ⟨_, _, _, n4⟩ := n4
    simp (disch := first|exact Xe|fail) only [↓Xa,Xb,Xc,↓reduceIte,Nat.reduceLT,Nat.reduceEqDiff,Nat.reduceBEq,Nat.reduceLeDiff,Nat.reduceAdd,Nat.reduceMul]
    refine alloc_i fun p5 hp5 => ?_
    have n5 := hp5
    simp only [upd_none] at n5
    obtain ⟨_, _, _, _, n5⟩ := n5
    simp (disch := first|exact Xe|fail) only [↓Xa,Xb,Xc,↓reduceIte,Nat.reduceLT,Nat.reduceEqDiff,Nat.reduceBEq,Nat.reduceLeDiff,Nat.reduceAdd,Nat.reduceMul]
    refine alloc_i fun p6 hp6 => ?_
    have n6 := hp6
    simp only [upd_none] at n6
    obtain ⟨_, _, _, _, _, n6⟩ := n6
    simp (disch := first|exact Xe|fail) only [↓Xa,Xb,Xc,↓reduceIte,Nat.reduceLT,Nat.reduceEqDiff,Nat.reduceBEq,Nat.reduceLeDiff,Nat.reduceAdd,Nat.reduceMul]
    refine alloc_i fun p7 hp7 => ?_
    have n7 := hp7
    simp only [upd_none] at n7
    obtain ⟨_, _, _, _, _, _, n7⟩ := n7
    cases ok with
    | false =>
      simp (disch := first|exact Xe|fail) only [cells_IntA, cells_RefF, rs108, ↓Xa,Xb,Xc,↓reduceIte,Nat.reduceLT,Nat.reduceEqDiff,Nat.reduceBEq,Nat.reduceLeDiff,Nat.reduceAdd,Nat.reduceMul]
      exact SetR.dropTo ((((((((Le.refl H).updB n1).updB n2).updB n3).updB n4).updB n5).updB n6).updB n7) (SetR.now hq)
    | true =>
      have hz : z2 = 0 := by
        by_cases hz : z2 = 0
        · exact hz
        · exact absurd ⟨rfl, hz⟩ hc
      obtain ⟨rfl, rfl, rfl, rfl⟩ := hok rfl
      have hs : decide (y2 = 0) = true := decide_eq_true hz
      simp (disch := first|exact Xe|fail) only [cells_IntA, cells_RefA, fold_RefA, ↓Xa,Xb,Xc,↓reduceIte,Nat.reduceLT,Nat.reduceEqDiff,Nat.reduceBEq,Nat.reduceLeDiff,Nat.reduceAdd,Nat.reduceMul]
      refine (rsign_fn false b2 (by omega)).call ?_
      simp (disch := first|exact Xe|fail) only [sgn_eql0, hs, rs108, ↓Xa,Xb,Xc,↓reduceIte,Nat.reduceLT,Nat.reduceEqDiff,Nat.reduceBEq,Nat.reduceLeDiff,Nat.reduceAdd,Nat.reduceMul]
      exact SetR.dropTo ((((((((Le.refl H).updB n1).updB n2).updB n3).updB n4).updB n5).updB n6).updB n7) (SetR.now hq)
end Go.Proofs.YtanchgkiomfhhaaDoor.Fw

/- Fractions: all over one denominator: plain numbers. -/
namespace Go.Proofs.YtanchgkiomfhhaaDoor.Fw
set_option linter.unusedSimpArgs false
set_option linter.unusedVariables false
open Go Go.Proofs.YtanchgkiomfhhaaDoor.Ma

def comS (d : Int) (q : QQ) : Int := d * ((q.den : Int) / ((Int.gcd d (q.den : Int) : Nat) : Int))
def comD : Int → List QQ → Int
  | d, [] => d
  | d, q :: l => comD (comS d q) l
def comN (d : Int) (q : QQ) : Int := q.num * (d / (q.den : Int))
theorem com_g (d : Int) (q : QQ) : (q.den : Int) = ((Int.gcd d (q.den : Int) : Nat) : Int) * ((q.den : Int) / ((Int.gcd d (q.den : Int) : Nat) : Int)) := (Int.mul_ediv_cancel' (Int.gcd_dvd_right ..)).symm
theorem com_gpos (d : Int) (q : QQ) : 0 < ((Int.gcd d (q.den : Int) : Nat) : Int) := q_gcd q.den_pos
theorem com_q0 (d : Int) (q : QQ) : 0 < (q.den : Int) / ((Int.gcd d (q.den : Int) : Nat) : Int) :=
  Int.ediv_pos_of_pos_of_dvd (q_pos q) (by omega) (Int.gcd_dvd_right ..)
theorem com_mod (d : Int) (q : QQ) : (q.den : Int) % ((Int.gcd d (q.den : Int) : Nat) : Int) = 0 := Int.emod_eq_zero_of_dvd (Int.gcd_dvd_right ..)
theorem comS_pos {d : Int} (q : QQ) (h : 0 < d) : 0 < comS d q := Int.mul_pos h (com_q0 d q)
theorem comS_dvd1 (d : Int) (q : QQ) : d ∣ comS d q := Int.dvd_mul_right ..
theorem comS_dvd2 (d : Int) (q : QQ) : (q.den : Int) ∣ comS d q := by
  obtain ⟨a, ha⟩ := Int.gcd_dvd_left d (q.den : Int)
  refine ⟨a, ?_⟩
  have hg := com_g d q
  unfold comS
  generalize (q.den : Int) / ((Int.gcd d (q.den : Int) : Nat) : Int) = c at *
  generalize ((Int.gcd d (q.den : Int) : Nat) : Int) = g at *
  rw [hg, ha, Int.mul_assoc, Int.mul_assoc, Int.mul_comm a c]
theorem comS_bd {d : Int} {q : QQ} {k k' : Nat} (hd : Bd k d) (hq : RB k' q) : Bd (k + k') (comS d q) := hd.mul hq.2.ediv
theorem comD_dvd : ∀ (l : List QQ) (d : Int), d ∣ comD d l
  | [], d => Int.dvd_refl d
  | q :: l, d => Int.dvd_trans (comS_dvd1 d q) (comD_dvd l _)
theorem comD_den : ∀ (l : List QQ) (d : Int) (q : QQ), q ∈ l → (q.den : Int) ∣ comD d l
  | p :: l, d, q, h => by
    rcases List.mem_cons.1 h with rfl | h
    · exact Int.dvd_trans (comS_dvd2 d q) (comD_dvd l _)
    · exact comD_den l _ q h
theorem comD_bd {k' : Nat} : ∀ (l : List QQ) (d : Int) (k : Nat), Bd k d → (∀ q, q ∈ l → RB k' q) → Bd (k + k' * l.length) (comD d l)
  | [], d, k, h, _ => h
  | q :: l, d, k, h, hq => by
    have := comD_bd l _ (k + k') (comS_bd h (hq q (by simp))) (fun p hp => hq p (by simp [hp]))
    rw [List.length_cons, Nat.mul_add, Nat.mul_one]
    rwa [show k + (k' * l.length + k') = k + k' + k' * l.length by omega]
def sumQ : QQ → List QQ → QQ
  | s, [] => s
  | s, q :: l => sumQ (s + q) l
theorem sumQ_bd {k' : Nat} : ∀ (l : List QQ) (s : QQ) (k : Nat), RB k s → (∀ q, q ∈ l → RB k' q) → RB (k + (k' + 1) * l.length) (sumQ s l)
  | [], s, k, h, _ => h
  | q :: l, s, k, h, hq => by
    have := sumQ_bd l _ (k + k' + 1) (h.add (hq q (by simp))) (fun p hp => hq p (by simp [hp]))
    rw [List.length_cons, Nat.mul_add, Nat.mul_one]
    rwa [show k + ((k' + 1) * l.length + (k' + 1)) = k + k' + 1 + (k' + 1) * l.length by omega]
end Go.Proofs.YtanchgkiomfhhaaDoor.Fw

/- Rows that grow, two at once, or beside memory that turns. -/
namespace Go.Proofs.YtanchgkiomfhhaaDoor.Fw
set_option linter.unusedSimpArgs false
set_option linter.unusedVariables false
open Go Go.Proofs.YtanchgkiomfhhaaDoor.Ma
set_option maxRecDepth 20000

theorem growC_move {H0 H M : AHeap} {ty es n : Nat} {cells : List AV} {y : AV} (h : growC H0 ty es n cells y H) (hm : ∀ b, H0 b = none → H b ≠ none → M b = H b) : ∃ H1, growC H1 ty es n cells y M ∧ ∀ H2, Le H2 M → (∀ b, H0 b = none → H2 b = none) → Le H2 H1 := by
  rcases h with ⟨rfl, rfl, rfl, rfl⟩ | ⟨hn, hl, b, hb, rfl, rfl⟩
  · exact ⟨M, growC_nil, fun _ h _ => h⟩
  · have e := hm b hb (by rw [upd_same]; simp)
    rw [upd_same] at e
    refine ⟨M.upd b none, .inr ⟨hn, hl, b, upd_same _ _ _, rfl, by rw [upd_upd, upd_back _ e]⟩, fun H2 h h3 i x hi => ?_⟩
    have hib : i ≠ b := by rintro rfl; rw [h3 _ hb] at hi; cases hi
    rw [upd_other _ _ hib]; exact h i x hi
theorem growC_le2 {H1 H2 M : AHeap} {ty es n : Nat} {cells : List AV} {y : AV} (h : growC H1 ty es n cells y M) (hl : Le H2 H1) : ∃ M2, growC H2 ty es n cells y M2 ∧ Le M2 M := by
  rcases h with ⟨rfl, rfl, rfl, rfl⟩ | ⟨hn, hlen, b, hb, rfl, rfl⟩
  · exact ⟨H2, growC_nil, hl⟩
  · have hb2 : H2 b = none := by
      cases e : H2 b with
      | none => rfl
      | some x => have := hl b x e; rw [hb] at this; cases this
    refine ⟨_, .inr ⟨hn, hlen, b, hb2, rfl, rfl⟩, fun i x hi => ?_⟩
    by_cases e : i = b
    · subst e; rw [upd_same] at hi ⊢; exact hi
    · rw [upd_other _ _ e] at hi ⊢; exact hl i x hi
theorem growC_none {H0 H : AHeap} {ty es n : Nat} {cells : List AV} {y : AV} (h : growC H0 ty es n cells y H) {b : Nat} (hb : H b = none) : H0 b = none := by
  cases e : H0 b with
  | none => rfl
  | some x => rw [growC_le h b x e] at hb; cases hb
theorem growC_upd {H0 H : AHeap} {ty es n : Nat} {cells : List AV} {y : AV} (h : growC H0 ty es n cells y H) {q : Nat} {r : ABlk} (hq : H q = none) : growC (H0.upd q (some r)) ty es n cells y (H.upd q (some r)) := by
  rcases h with ⟨rfl, rfl, rfl, rfl⟩ | ⟨hn, hlen, b, hb, rfl, rfl⟩
  · exact growC_nil
  · obtain ⟨e, e2⟩ := upd_none.1 hq
    refine .inr ⟨hn, hlen, b, upd_none.2 ⟨Ne.symm e, hb⟩, rfl, upd_comm _ _ _ (Ne.symm e)⟩
end Go.Proofs.YtanchgkiomfhhaaDoor.Fw

/- Rows lent: what only reads may be handed rows that are one's own. -/
namespace Go.Proofs.YtanchgkiomfhhaaDoor.Fw
set_option linter.unusedSimpArgs false
set_option linter.unusedVariables false
open Go Go.Proofs.YtanchgkiomfhhaaDoor.Ma
set_option maxRecDepth 20000

def scal : AV → Bool
  | .int _ _ => true
  | .bool _ => true
  | .str _ => true
  | _ => false
theorem le_nil {H : AHeap} : Le nilH H := fun _ _ h => by cases h
def Lent (H : AHeap) (x y : AV) : Prop := ∀ (c : Ctx), c.H = H → Ok c → ∀ v, Enc c x v → Enc (c.dropTo nilH) y v
theorem Lent.same {H : AHeap} {x : AV} : Lent H x x := fun c _ _ _ h => h.later (c.dropTo_later le_nil)
theorem Lent.own {H : AHeap} {b ty es n : Nat} {t : Bool} {cells : List AV} (hH : H b = some (.row ty es cells)) (hL : cells.length = n * es) : Lent H (.own b (n * es) 0 n t) (.seq n cells t) := by
  intro c hc hok v he
  have h1 := Enc.freeze hok he (hc ▸ hH) hL (.inr (by omega))
  rw [List.drop_zero, List.take_of_length_le (by omega)] at h1
  exact h1.later ((c.drop b).dropTo_later le_nil)
theorem Lent.grown {H0 H : AHeap} {ty es n : Nat} {cells : List AV} {x : AV} (h : growC H0 ty es n cells x H) : Lent H x (.seq n cells false) := by
  rcases h with ⟨rfl, rfl, rfl, rfl⟩ | ⟨hn, hl, b, hb, rfl, rfl⟩
  · intro c _ _ v he
    exact enc_loose _ _ (he.later (c.dropTo_later le_nil))
  · exact Lent.own (upd_same _ _ _) hl
def LentL (H : AHeap) : List AV → List AV → Prop
  | [], [] => True
  | x :: xs, y :: ys => Lent H x y ∧ LentL H xs ys
  | _, _ => False
theorem LentL.len {H : AHeap} : ∀ {xs ys : List AV}, LentL H xs ys → ys.length = xs.length
  | [], [], _ => rfl
  | _ :: _, _ :: _, h => by simp [LentL.len h.2]
  | [], _ :: _, h => h.elim
  | _ :: _, [], h => h.elim
theorem LentL.get {H : AHeap} : ∀ {xs ys : List AV}, LentL H xs ys → ∀ i (h : i < xs.length) (h' : i < ys.length), Lent H (xs[i]) (ys[i])
  | _ :: _, _ :: _, h, 0, _, _ => h.1
  | _ :: _, _ :: _, h, i + 1, a, b => LentL.get h.2 i (by simpa using a) (by simpa using b)
  | [], [], _, _, a, _ => absurd a (by simp)
  | [], _ :: _, h, _, _, _ => h.elim
  | _ :: _, [], h, _, _, _ => h.elim
theorem PFn.frozen {P : Program} {f : FuncId} {args : List AV} {ty es n : Nat} {cells : List AV} (h : ∀ (H : AHeap) (Q : AV → AHeap → Prop), (∀ x H', growC H ty es n cells x H' → Q x H') → Run P f args H Q) : PFn P f args (.seq n cells false) := fun H Q hq =>
  Run.settle (h H _ fun _ _ g => growC_fin g hq)
/-! ### integers and rows, as they are read -/
section
variable {K : AV → Prop} {K2 : AV → AHeap → Prop} {H : AHeap} {k : IntKind} {n m : Int} {t : Bool}
theorem neq_int : binW .neq (.int k n) (.int k m) K ↔ K (.bool (!decide (n = m))) := by simp [binW, binInt]
theorem len_rw {n : Nat} {c : List AV} (h : n < 9223372036854775808) : lenW false (.seq n c t) K = K (.int .i64 ((n : Nat) : Int)) := by simp [lenW, h]
theorem idx_rw {es n i : Nat} {c : List AV} (hl : c.length = n * es) (h : i < n) : idxAW es (.seq n c t) (.int k (i : Int)) K = K (.cptr (c.drop (i * es))) := by simp [idxAW, hl, h]
end
end Go.Proofs.YtanchgkiomfhhaaDoor.Fw

/- Programs, grids, points: how they stand in memory. -/
namespace Go.Proofs.YtanchgkiomfhhaaDoor.Fw
set_option linter.unusedSimpArgs false
set_option linter.unusedVariables false
open Go Go.Proofs.YtanchgkiomfhhaaDoor.Ma
set_option maxRecDepth 20000

theorem flat_len {α : Type} {f : α → List AV} {es : Nat} (hf : ∀ q, (f q).length = es) : ∀ l : List α, (l.flatMap f).length = l.length * es
  | [] => by simp
  | a :: l => by rw [List.flatMap_cons, List.length_append, hf, flat_len hf l, List.length_cons, Nat.add_mul]; omega
theorem drop_past {l m : List AV} {n k : Nat} (h : l.length = n) : (l ++ m).drop (n + k) = m.drop k := by subst h; simp
theorem flat_drop {α : Type} {f : α → List AV} {es : Nat} (hf : ∀ q, (f q).length = es) : ∀ (l : List α) (i : Nat) (h : i < l.length), (l.flatMap f).drop (i * es) = f (l[i]) ++ (l.flatMap f).drop ((i + 1) * es)
  | a :: l, 0, _ => by
    have e := drop_past (m := l.flatMap f) (k := 0) (hf a)
    rw [List.flatMap_cons, Nat.zero_mul, List.drop_zero, Nat.zero_add, Nat.one_mul, show es = es + 0 from rfl, e]; rfl
  | a :: l, i + 1, h => by
    have ih := flat_drop hf l i (by simpa using h)
    rw [List.flatMap_cons, show (i + 1) * es = es + i * es by rw [Nat.add_mul]; omega, show (i + 1 + 1) * es = es + (i + 1) * es by simp only [Nat.add_mul]; omega, drop_past (hf a), drop_past (hf a), ih]; rfl
structure Ins where
  op : Int
  to : Int
  a : Int
  b : Int
  c : Int
def I64 (n : Int) : Prop := -9223372036854775808 ≤ n ∧ n < 9223372036854775808
def Ins.ok (i : Ins) : Prop := I64 i.op ∧ I64 i.to ∧ I64 i.a ∧ I64 i.b ∧ I64 i.c
def insC (i : Ins) : List AV := [.int .i64 i.op, .int .i64 i.to, .int .i64 i.a, .int .i64 i.b, .int .i64 i.c]
structure PR where
  ins : Int
  regs : Int
  code : List Ins
  outs : List Int
def outC (n : Int) : List AV := [.int .i64 n]
def CodeA (l : List Ins) (t : Bool) : AV := .seq l.length (l.flatMap insC) t
def OutsA (l : List Int) (t : Bool) : AV := .seq l.length (l.map fun n => .int .i64 n) t
def ProgA (p : PR) : AV := .agg [.int .i64 p.ins, .int .i64 p.regs, CodeA p.code false, OutsA p.outs false]
def PR.ok (p : PR) : Prop := I64 p.ins ∧ I64 p.regs ∧ (∀ i, i ∈ p.code → i.ok) ∧ p.code.length ≤ 140737488355328 ∧ (∀ n, n ∈ p.outs → I64 n) ∧ p.outs.length ≤ 140737488355328
def gridC (l : List Int) : List AV := [OutsA l false]
def GridA (g : List (List Int)) : AV := .seq g.length (g.flatMap gridC) false
def GoodRow (l : List Int) : Prop := (∀ n, n ∈ l → I64 n) ∧ l.length ≤ 140737488355328
structure Pt where
  a : Int
  b : Int
def ptC (p : Pt) : List AV := [.int .i64 p.a, .int .i64 p.b]
def Pt.ok (p : Pt) : Prop := I64 p.a ∧ I64 p.b
def PtsA (l : List Pt) (t : Bool) : AV := .seq l.length (l.flatMap ptC) t
structure Cl where
  kind : Int
  who : Int
  k : Int
def clC (p : Cl) : List AV := [.int .i64 p.kind, .int .i64 p.who, .int .i64 p.k]
def Cl.ok (p : Cl) : Prop := I64 p.kind ∧ I64 p.who ∧ I64 p.k
def ClsA (l : List Cl) (t : Bool) : AV := .seq l.length (l.flatMap clC) t
end Go.Proofs.YtanchgkiomfhhaaDoor.Fw

/- Rows of whole numbers: frozen or owned, read alike. -/
namespace Go.Proofs.YtanchgkiomfhhaaDoor.Fw
set_option linter.unusedSimpArgs false
set_option linter.unusedVariables false
open Go Go.Proofs.YtanchgkiomfhhaaDoor.Ma
set_option maxRecDepth 20000

def IC (zs : List Int) : List AV := zs.flatMap fun z => [IntB z, IntD z]
theorem IC_len (zs : List Int) : (IC zs).length = zs.length * 2 := by
  induction zs with
  | nil => rfl
  | cons a l ih => simp only [IC, List.flatMap_cons, List.length_append, List.length_cons, List.length_nil] at *; omega
theorem IC_snoc (zs : List Int) (z : Int) : IC (zs ++ [z]) = IC zs ++ [IntB z, IntD z] := by simp [IC, List.flatMap_append]
theorem IC_drop : ∀ (l : List Int) (i : Nat) (h : i < l.length), (IC l).drop (i * 2) = IntB (l[i]) :: IntD (l[i]) :: (IC l).drop (i * 2 + 2)
  | a :: l, 0, _ => rfl
  | a :: l, i + 1, h => by
    have := IC_drop l i (by simpa using h)
    rw [show (i + 1) * 2 = i * 2 + 2 by omega]
    show ((IntB a :: IntD a :: IC l).drop (i * 2 + 2)) = _
    simp only [List.drop_succ_cons, List.getElem_cons_succ]
    rw [this]
    show _ = _ :: _ :: ((IntB a :: IntD a :: IC l).drop (i * 2 + 2 + 2))
    simp only [List.drop_succ_cons]
def RowI (H : AHeap) (x : AV) (zs : List Int) : Prop :=
  (∃ t, x = .seq zs.length (IC zs) t) ∨ ∃ b ty t, x = .own b (zs.length * 2) 0 zs.length t ∧ H b = some (.row ty 2 (IC zs))
theorem RowI.le {H H' : AHeap} {x : AV} {zs : List Int} (h : RowI H x zs) (hl : Le H H') : RowI H' x zs := by
  rcases h with h | ⟨b, ty, t, e, hb⟩
  · exact .inl h
  · exact .inr ⟨b, ty, t, e, hl b _ hb⟩
theorem RowI.nil {H : AHeap} : RowI H (.seq 0 [] true) [] := .inl ⟨true, rfl⟩
theorem RowI.grown {H0 H : AHeap} {ty : TypeId} {x : AV} {zs : List Int} (h : growC H0 ty 2 zs.length (IC zs) x H) : RowI H x zs := by
  rcases h with ⟨h1, h2, rfl, rfl⟩ | ⟨h1, h2, b, hb, rfl, rfl⟩
  · have : zs = [] := List.length_eq_zero_iff.1 h1
    subst this; exact RowI.nil
  · exact .inr ⟨b, ty, false, rfl, upd_same _ _ _⟩
theorem RowI.len {H : AHeap} {x : AV} {zs : List Int} (h : RowI H x zs) (hn : zs.length < 9223372036854775808) {K : AV → Prop} : lenW false x K = K (.int .i64 ((zs.length : Nat) : Int)) := by
  rcases h with ⟨t, rfl⟩ | ⟨b, ty, t, rfl, hb⟩ <;> simp [lenW, hn]
theorem RowI.get {H : AHeap} {x : AV} {zs : List Int} (h : RowI H x zs) {i : Nat} (hi : i < zs.length) : ∃ p, (∀ {k : IntKind} {K : AV → Prop}, (liveS H x ∧ idxAW 2 x (.int k (i : Int)) K) ↔ K p) ∧ ∀ {K : AV → Prop}, loadW H (some 2) p K ↔ K (IntA (zs[i])) := by
  rcases h with ⟨t, rfl⟩ | ⟨b, ty, t, rfl, hb⟩
  · refine ⟨.cptr ((IC zs).drop (i * 2)), fun {k K} => ?_, fun {K} => ?_⟩
    · simp [liveS, idxAW, IC_len, hi]
    · simp only [loadW, cellsAt, IC_drop zs i hi]; simp [IntA_eq]
  · have hl := IC_len zs
    refine ⟨.ptr b (zs.length * 2) (i * 2), fun {k K} => ?_, fun {K} => ?_⟩
    · simp [liveS, idxAW, hb, hl, hi]
    · simp only [loadW, cellsAt, hb, IC_drop zs i hi]
      simp [IntA_eq, hl]
      omega
end Go.Proofs.YtanchgkiomfhhaaDoor.Fw

/- Rows of whole numbers: plain laws. -/
namespace Go.Proofs.YtanchgkiomfhhaaDoor.Fw
set_option linter.unusedSimpArgs false
set_option linter.unusedVariables false
open Go Go.Proofs.YtanchgkiomfhhaaDoor.Ma

def cmpL : List Int → List Int → Int
  | x :: xs, y :: ys => if cmpI x y = 0 then cmpL xs ys else cmpI x y
  | _, _ => 0
def cmpR (zs ws : List Int) : Int := if zs.length < ws.length then -1 else if ws.length < zs.length then ((1 : Nat) : Int) else cmpL zs ws
def widS (w x : Int) : Int := if w < (x.natAbs : Int) then (x.natAbs : Int) else w
def widF (w : Int) (zs : List Int) : Int := zs.foldl widS w
theorem Bd.widS {k : Nat} {w x : Int} (hw : Bd k w) (hx : Bd k x) : Bd k (widS w x) := by
  unfold Fw.widS
  split
  · exact hx.abs
  · exact hw
theorem Bd.widF {k : Nat} : ∀ {zs : List Int} {w : Int}, Bd k w → (∀ z, z ∈ zs → Bd k z) → Bd k (widF w zs)
  | [], _, h, _ => h
  | z :: zs, w, h, h2 => Bd.widF (zs := zs) (h.widS (h2 z (by simp))) fun y hy => h2 y (by simp [hy])
def gcdF (g : Nat) (zs : List Int) : Nat := zs.foldl (fun g x => Int.gcd (g : Int) x) g
def contN (zs : List Int) : Nat := gcdF 0 zs
theorem Bd.gcdF {k : Nat} : ∀ {zs : List Int} {g : Nat}, Bd k (g : Int) → (∀ z, z ∈ zs → Bd k z) → Bd k ((gcdF g zs : Nat) : Int)
  | [], _, h, _ => h
  | z :: zs, g, h, h2 => by
    refine Bd.gcdF (zs := zs) (g := Int.gcd (g : Int) z) ?_ fun y hy => h2 y (by simp [hy])
    have hz := h2 z (by simp)
    unfold Bd at *
    by_cases hg : g = 0
    · subst hg
      rw [show Int.gcd ((0 : Nat) : Int) z = z.natAbs by simp [Int.gcd]]
      simpa using hz
    · have : Int.gcd (g : Int) z ≤ g := Nat.le_of_dvd (by omega) (Int.ofNat_dvd.1 (Int.gcd_dvd_left (g : Int) z))
      simp only [Int.natAbs_natCast] at h ⊢
      omega
def primG (zs : List Int) : Int := match zs.find? (fun z => decide (z ≠ 0)) with
  | some z => if z < 0 then -((contN zs : Nat) : Int) else ((contN zs : Nat) : Int)
  | none => 0
def primR (zs : List Int) : List Int := zs.map (· / primG zs)
def zipI (f : Int → Int → Int) (zs ws : List Int) : List Int := List.zipWith f zs ws
def dotF (s : Int) (zs ws : List Int) : Int := (zipI (· * ·) zs ws).foldl (· + ·) s
end Go.Proofs.YtanchgkiomfhhaaDoor.Fw

/- Rows of whole numbers: what package row's functions answer. -/
namespace Go.Proofs.YtanchgkiomfhhaaDoor.Fw
set_option linter.unusedSimpArgs false
set_option linter.unusedVariables false
open Go Go.Proofs.YtanchgkiomfhhaaDoor.Ma
set_option maxRecDepth 20000

end Go.Proofs.YtanchgkiomfhhaaDoor.Fw

/- Rows of whole numbers: what the functions that read them answer, the program's and the reference's. -/
namespace Go.Proofs.YtanchgkiomfhhaaDoor.Fw
set_option linter.unusedSimpArgs false
set_option linter.unusedVariables false
open Go Go.Proofs.YtanchgkiomfhhaaDoor.Ma
set_option maxRecDepth 20000

abbrev RowA (zs : List Int) (t : Bool) : AV := .seq zs.length (IC zs) t
def RC (zs : List Int) : List AV := zs.flatMap fun z => [RefB z, RefD z]
abbrev RefR (zs : List Int) (t : Bool) : AV := .seq zs.length (RC zs) t
theorem RC_len (zs : List Int) : (RC zs).length = zs.length * 2 := by
  induction zs with
  | nil => rfl
  | cons a l ih => simp only [RC, List.flatMap_cons, List.length_append, List.length_cons, List.length_nil] at *; omega
theorem RC_snoc (zs : List Int) (z : Int) : RC (zs ++ [z]) = RC zs ++ [RefB z, RefD z] := by simp [RC, List.flatMap_append]
theorem RC_drop : ∀ (l : List Int) (i : Nat) (h : i < l.length), (RC l).drop (i * 2) = RefB (l[i]) :: RefD (l[i]) :: (RC l).drop (i * 2 + 2)
  | a :: l, 0, _ => rfl
  | a :: l, i + 1, h => by
    have := RC_drop l i (by simpa using h)
    rw [show (i + 1) * 2 = i * 2 + 2 by omega]
    show ((RefB a :: RefD a :: RC l).drop (i * 2 + 2)) = _
    simp only [List.drop_succ_cons, List.getElem_cons_succ]
    rw [this]
    show _ = _ :: _ :: ((RefB a :: RefD a :: RC l).drop (i * 2 + 2 + 2))
    simp only [List.drop_succ_cons]
section
variable {K : AV → Prop} {H : AHeap} {k : IntKind} {t : Bool} {zs : List Int} {i : Nat}
theorem load_IC (h : i < zs.length) : loadW H (some 2) (.cptr ((IC zs).drop (i * 2))) K = K (IntA (zs[i])) := by
  simp only [loadW, cellsAt, IC_drop zs i h]; simp [IntA_eq]
theorem load_RC (h : i < zs.length) : loadW H (some 2) (.cptr ((RC zs).drop (i * 2))) K = K (RefA (zs[i]) false) := by
  simp only [loadW, cellsAt, RC_drop zs i h]; simp [RefA, RefB, RefD]
end
def RB4 (k : Nat) (zs : List Int) : Prop := (∀ z, z ∈ zs → Bd k z) ∧ zs.length < 4611686018427387904
theorem RB4.at {k : Nat} {zs : List Int} (h : RB4 k zs) {i : Nat} (hi : i < zs.length) : Bd k (zs[i]) := h.1 _ (List.getElem_mem hi)

/-! ### the reference -/
end Go.Proofs.YtanchgkiomfhhaaDoor.Fw

/- Rows of whole numbers: what is made of them. -/
namespace Go.Proofs.YtanchgkiomfhhaaDoor.Fw
set_option linter.unusedSimpArgs false
set_option linter.unusedVariables false
open Go Go.Proofs.YtanchgkiomfhhaaDoor.Ma
set_option maxRecDepth 20000

theorem repI1 {a b : AV} : repA [a, b] 2 = [a, b] := by simp [repA, List.range, List.range.loop]
theorem cellI {z : Int} : [IntB z, IntD z].all AV.cell = true := rfl
theorem IC_take {zs : List Int} {i : Nat} (h : i < zs.length) : IC (zs.take (i + 1)) = IC (zs.take i) ++ [IntB (zs[i]), IntD (zs[i])] := by
  rw [List.take_add_one, List.getElem?_eq_getElem h, Option.toList_some, IC_snoc]
theorem Le.both {A B : AHeap} {p : Nat} {x : Option ABlk} (h : Le A B) : Le (A.upd p x) (B.upd p x) := fun o y ho => by
  by_cases e : o = p
  · subst e; rw [upd_same] at ho ⊢; exact ho
  · rw [upd_other _ _ e] at ho ⊢; exact h o y ho
section
variable {H : AHeap} {Q : AV → AHeap → Prop} {zs ws : List Int} {t t' : Bool} {k : Nat}
end
end Go.Proofs.YtanchgkiomfhhaaDoor.Fw

/- Rows of fractions: summed, put over one denominator. -/
namespace Go.Proofs.YtanchgkiomfhhaaDoor.Fw
set_option linter.unusedSimpArgs false
set_option linter.unusedVariables false
open Go Go.Proofs.YtanchgkiomfhhaaDoor.Ma
set_option maxRecDepth 20000

def qC (q : QQ) : List AV := [IntB q.num, IntD q.num, IntB ((q.den : Int) - 1), IntD ((q.den : Int) - 1)]
def qR (q : QQ) : List AV := [RefB q.num, RefD q.num, RefB (q.den : Int), RefD (q.den : Int)]
theorem qC_len (q : QQ) : (qC q).length = 4 := rfl
theorem qR_len (q : QQ) : (qR q).length = 4 := rfl
def QC (l : List QQ) : List AV := l.flatMap qC
def QR (l : List QQ) : List AV := l.flatMap qR
def RatsA (l : List QQ) (t : Bool) : AV := .seq l.length (QC l) t
def RatsR (l : List QQ) (t : Bool) : AV := .seq l.length (QR l) t
section
variable {H : AHeap} {K : AV → Prop} {k : IntKind} {t : Bool} {l : List QQ} {i : Nat}
theorem idx_QC (h : i < l.length) : idxAW 4 (.seq l.length (QC l) t) (.int k (i : Int)) K = K (.cptr ((QC l).drop (i * 4))) := idx_rw (flat_len qC_len l) h
theorem idx_QR (h : i < l.length) : idxAW 4 (.seq l.length (QR l) t) (.int k (i : Int)) K = K (.cptr ((QR l).drop (i * 4))) := idx_rw (flat_len qR_len l) h
theorem load_QC (h : i < l.length) : loadW H (some 4) (.cptr ((QC l).drop (i * 4))) K = K (RatA (l[i])) := by
  have e := flat_drop qC_len l i h
  unfold QC
  rw [e]
  simp [loadW, cellsAt, qC, RatA, RawR]
theorem load_QR (h : i < l.length) : loadW H (some 4) (.cptr ((QR l).drop (i * 4))) K = K (RatR (l[i])) := by
  have e := flat_drop qR_len l i h
  unfold QR
  rw [e]
  simp [loadW, cellsAt, qR, RatR, RaxR]
end
theorem rsum_fn {l : List QQ} {t : Bool} {k : Nat} (hb : ∀ q, q ∈ l → RB k q) (hl : l.length ≤ 12) (hk : k ≤ 10000) : PFn Tryd.prog 112 [RatsA l t] (RatA (sumQ 0 l)) := by
  intro H Q hq
  refine enter112 (by simp) ?_
  simp (disch := first|exact Xe|fail) only [ac112, RatsA, ↓Xa,Xb,Xc,↓reduceIte,Nat.reduceLT,Nat.reduceEqDiff,Nat.reduceBEq,Nat.reduceLeDiff,Nat.reduceAdd,Nat.reduceMul]
  refine alloc_i fun p1 hp1 => ?_
  have n1 := hp1
  simp (disch := first|exact Xe|fail) only [↓Xa,Xb,Xc,↓reduceIte,Nat.reduceLT,Nat.reduceEqDiff,Nat.reduceBEq,Nat.reduceLeDiff,Nat.reduceAdd,Nat.reduceMul]
  refine alloc_i fun p2 hp2 => ?_
  have n2 := hp2
  simp only [upd_none] at n2
  obtain ⟨_, n2⟩ := n2
  simp (disch := first|exact Xe|fail) only [len_rw, ↓Xa,Xb,Xc,↓reduceIte,Nat.reduceLT,Nat.reduceEqDiff,Nat.reduceBEq,Nat.reduceLeDiff,Nat.reduceAdd,Nat.reduceMul]
  refine W_loop (fun s : Nat × QQ => ⟨[], [(2, .ptr p1 4 0), (3, .ptr p2 4 0), (6, .seq l.length (QC l) t), (7, .int .i64 l.length), (8, .int .i64 s.1)], (H.upd p1 (some (.row 121 0 [.bool false, .seq 0 [] true, .bool false, .seq 0 [] true]))).upd p2 (some (.row 121 0 (qC s.2)))⟩)
    (fun s => s.1 ≤ l.length ∧ RB (1 + (k + 1) * s.1) s.2 ∧ sumQ s.2 (l.drop s.1) = sumQ 0 l) (fun s => l.length - s.1) (0, 0) (Settle.now (by simp [qC, IntB, IntD, digs_zero, LS, U])) ⟨Nat.zero_le _, ⟨Bd.zero _, Bd.oneQ 0⟩, rfl⟩ ?_
  rintro ⟨i, s⟩ ⟨h3, hs, hc⟩
  dsimp only at h3 hs hc ⊢
  by_cases hi : i < l.length
  · rw [List.drop_eq_getElem_cons hi, sumQ] at hc
    have hbi := hb _ (List.getElem_mem hi)
    have hm : (k + 1) * i ≤ 10001 * 12 := Nat.mul_le_mul (by omega) (by omega)
    simp (disch := first|exact Xe|fail) only [hi, idx_QC, load_QC, ↓Xa,Xb,Xc,↓reduceIte,Nat.reduceLT,Nat.reduceEqDiff,Nat.reduceBEq,Nat.reduceLeDiff,Nat.reduceAdd,Nat.reduceMul]
    refine alloc_i fun p3 hp3 => ?_
    have n3 := hp3
    simp only [upd_none] at n3
    obtain ⟨_, _, n3⟩ := n3
    simp (disch := first|exact Xe|fail) only [cells_RatA, qC, fold_Raw, fold_RatA, ↓Xa,Xb,Xc,↓reduceIte,Nat.reduceLT,Nat.reduceEqDiff,Nat.reduceBEq,Nat.reduceLeDiff,Nat.reduceAdd,Nat.reduceMul]
    refine (radd_fn hs hbi (by omega)).call ?_
    simp (disch := first|exact Xe|fail) only [cells_RatA, ↓Xa,Xb,Xc,↓reduceIte,Nat.reduceLT,Nat.reduceEqDiff,Nat.reduceBEq,Nat.reduceLeDiff,Nat.reduceAdd,Nat.reduceMul]
    refine Settle.dropTo ((Le.refl _).updB (upd_none.2 ⟨by assumption, upd_none.2 ⟨by assumption, n3⟩⟩)) ?_
    refine Settle.now ⟨(i + 1, s + l[i]), by dsimp only; omega, ⟨by dsimp only; omega, ?_, hc⟩, rfl⟩
    have := hs.add hbi
    rwa [show 1 + (k + 1) * i + k + 1 = 1 + (k + 1) * (i + 1) by rw [Nat.mul_add]; omega] at this
  · rw [List.drop_eq_nil_of_le (by omega)] at hc
    have hc : s = sumQ 0 l := hc
    rw [← hc] at hq
    simp (disch := first|exact Xe|fail) only [hi, ↓Xa,Xb,Xc,↓reduceIte,Nat.reduceLT,Nat.reduceEqDiff,Nat.reduceBEq,Nat.reduceLeDiff,Nat.reduceAdd,Nat.reduceMul]
    refine Settle.now ?_
    simp (disch := first|exact Xe|fail) only [qC, cells_RatA, fold_Raw, fold_RatA, rs112, ↓Xa,Xb,Xc,↓reduceIte,Nat.reduceLT,Nat.reduceEqDiff,Nat.reduceBEq,Nat.reduceLeDiff,Nat.reduceAdd,Nat.reduceMul]
    exact SetR.dropTo (((Le.refl H).updB n1).updB n2) (SetR.now hq)
theorem SetR.weak {Q : AV → AHeap → Prop} {r r' : AV} {H : AHeap} (hw : Wk r r') (h : SetR Q r' H) : SetR Q r H := fun c v hH hok he => h c v hH hok (hw c v he)
theorem Wk.tup1 {a a' b : AV} (h : Wk a a') : Wk (.tup [a, b]) (.tup [a', b]) := fun c v he => by
  cases he with
  | tup _ vs hl hc =>
    refine .tup _ vs hl fun i hi hi' => ?_
    match i, hi with
    | 0, _ => exact h _ _ (hc 0 (by simp) hi')
    | 1, _ => exact hc 1 (by simp) hi'
theorem Wk.l1 {n : Nat} {cells : List AV} {t : Bool} : Wk (.seq n cells t) (.seq n cells false) := fun _ v he => enc_loose1 (.seq n cells t) v he
theorem growC_finA {H0 H : AHeap} {ty es n : Nat} {cells : List AV} {x : AV} {z : Int} {Q : AV → AHeap → Prop} (h : growC H0 ty es n cells x H) (hq : Q (.tup [.seq n cells false, IntA z]) H0) : SetR Q (.tup [x, IntA z]) H := by
  rcases h with ⟨rfl, rfl, rfl, rfl⟩ | ⟨hn, hl, b, hb, rfl, rfl⟩
  · exact SetR.weak (Wk.tup1 Wk.l1) (SetR.now hq)
  · refine SetR.frz b (upd_same _ _ _) ?_
    rw [upd_upd, upd_back _ hb]
    have e : frz b es cells (.tup [.own b (n * es) 0 n false, IntA z]) = .tup [.seq n cells false, IntA z] := by simp [frz, frz2, frz1, hl, List.take_of_length_le, IntA, LS]
    rw [e]; exact SetR.now hq
theorem growC_finR {H0 H : AHeap} {ty es n : Nat} {cells : List AV} {x : AV} {z : Int} {t : Bool} {Q : AV → AHeap → Prop} (h : growC H0 ty es n cells x H) (hq : Q (.tup [.seq n cells false, RefA z t]) H0) : SetR Q (.tup [x, RefA z t]) H := by
  rcases h with ⟨rfl, rfl, rfl, rfl⟩ | ⟨hn, hl, b, hb, rfl, rfl⟩
  · exact SetR.weak (Wk.tup1 Wk.l1) (SetR.now hq)
  · refine SetR.frz b (upd_same _ _ _) ?_
    rw [upd_upd, upd_back _ hb]
    have e : frz b es cells (.tup [.own b (n * es) 0 n false, RefA z t]) = .tup [.seq n cells false, RefA z t] := by simp [frz, frz2, frz1, hl, List.take_of_length_le, RefA, LS]
    rw [e]; exact SetR.now hq
theorem RC_take' {zs : List Int} {i : Nat} (h : i < zs.length) : RC (zs.take (i + 1)) = RC (zs.take i) ++ [RefB (zs[i]), RefD (zs[i])] := by
  rw [List.take_add_one, List.getElem?_eq_getElem h, Option.toList_some, RC_snoc]
theorem load_QRd {H : AHeap} {K : AV → Prop} {l : List QQ} {i : Nat} (h : i < l.length) : loadW H (some 2) (.cptr (((QR l).drop (i * 4)).drop 2)) K = K (RefA ((l[i]).den : Int) false) := by
  have e := flat_drop qR_len l i h
  unfold QR
  rw [e]
  simp [loadW, cellsAt, qR, RefA, RefB, RefD]
theorem load_QRn {H : AHeap} {K : AV → Prop} {l : List QQ} {i : Nat} (h : i < l.length) : loadW H (some 2) (.cptr ((QR l).drop (i * 4))) K = K (RefA ((l[i]).num) false) := by
  have e := flat_drop qR_len l i h
  unfold QR
  rw [e]
  simp [loadW, cellsAt, qR, RefA, RefB, RefD]
theorem Bd.gcd2 {d : Int} {q : QQ} {k : Nat} (hq : Bd k (q.den : Int)) : Bd k ((Int.gcd d (q.den : Int) : Nat) : Int) := hq.le (by
  have h1 : Int.gcd d (q.den : Int) ≤ q.den := Nat.le_of_dvd q.den_pos (Int.ofNat_dvd.1 (Int.gcd_dvd_right d (q.den : Int)))
  omega)
theorem rcommon_fn {l : List QQ} {t : Bool} {k : Nat} (hb : ∀ q, q ∈ l → RB k q) (hl : l.length ≤ 12) (hk : k ≤ 10000) (hk1 : 2 ≤ k) : PFn Tryd.prog 109 [RatsA l t] (.tup [.seq l.length (IC (l.map (comN (comD 1 l)))) false, IntA (comD 1 l)]) := by
  intro H Q hq
  refine enter109 (by simp) ?_
  simp (disch := first|exact Xe|fail) only [ac109, RatsA, ↓Xa,Xb,Xc,↓reduceIte,Nat.reduceLT,Nat.reduceEqDiff,Nat.reduceBEq,Nat.reduceLeDiff,Nat.reduceAdd,Nat.reduceMul]
  refine alloc_i fun p1 hp1 => ?_
  have n1 := hp1
  simp (disch := first|exact Xe|fail) only [↓Xa,Xb,Xc,↓reduceIte,Nat.reduceLT,Nat.reduceEqDiff,Nat.reduceBEq,Nat.reduceLeDiff,Nat.reduceAdd,Nat.reduceMul]
  refine (of_fn (n := ((1 : Nat) : Int)) (by omega)).call ?_
  simp (disch := first|exact Xe|fail) only [↓Xa,Xb,Xc,↓reduceIte,Nat.reduceLT,Nat.reduceEqDiff,Nat.reduceBEq,Nat.reduceLeDiff,Nat.reduceAdd,Nat.reduceMul]
  refine alloc_i fun p2 hp2 => ?_
  have n2 := hp2
  simp only [upd_none] at n2
  obtain ⟨_, n2⟩ := n2
  simp (disch := first|exact Xe|fail) only [cells_IntA, len_rw, ↓Xa,Xb,Xc,↓reduceIte,Nat.reduceLT,Nat.reduceEqDiff,Nat.reduceBEq,Nat.reduceLeDiff,Nat.reduceAdd,Nat.reduceMul]
  refine W_loop (fun s : Nat × Int => ⟨[], [(0, .seq l.length (QC l) t), (3, .ptr p1 2 0), (4, .ptr p2 2 0), (17, .seq l.length (QC l) t), (18, .int .i64 l.length), (19, .int .i64 s.1)], (H.upd p1 (some (.row 28 0 [.bool false, .seq 0 [] true]))).upd p2 (some (.row 28 0 [IntB s.2, IntD s.2]))⟩)
    (fun s => s.1 ≤ l.length ∧ Bd (2 + k * s.1) s.2 ∧ 0 < s.2 ∧ comD s.2 (l.drop s.1) = comD 1 l) (fun s => l.length - s.1) (0, ((1 : Nat) : Int)) (Settle.now rfl) ⟨Nat.zero_le _, Bd.i64 (by omega), by dsimp only; omega, rfl⟩ ?_
  rintro ⟨i, d⟩ ⟨h3, hd, h0, hc⟩
  dsimp only at h3 hd h0 hc ⊢
  by_cases hi : i < l.length
  · rw [List.drop_eq_getElem_cons hi, comD] at hc
    have hbi := hb _ (List.getElem_mem hi)
    have hm : k * i ≤ 10000 * 12 := Nat.mul_le_mul (by omega) (by omega)
    have hg0 := com_gpos d (l[i])
    simp (disch := first|exact Xe|fail) only [hi, idx_QC, load_QC, ↓Xa,Xb,Xc,↓reduceIte,Nat.reduceLT,Nat.reduceEqDiff,Nat.reduceBEq,Nat.reduceLeDiff,Nat.reduceAdd,Nat.reduceMul]
    refine alloc_i fun p3 hp3 => ?_
    have n3 := hp3
    simp only [upd_none] at n3
    obtain ⟨_, _, n3⟩ := n3
    simp (disch := first|exact Xe|fail) only [cells_RatA, fold_Raw, fold_RatA, ↓Xa,Xb,Xc,↓reduceIte,Nat.reduceLT,Nat.reduceEqDiff,Nat.reduceBEq,Nat.reduceLeDiff,Nat.reduceAdd,Nat.reduceMul]
    refine PFn.dcall (rden_fn hbi (by omega)) ?_
    simp (disch := first|exact Xe|fail) only [fold_IntA, fold_Raw, fold_RatA, ↓Xa,Xb,Xc,↓reduceIte,Nat.reduceLT,Nat.reduceEqDiff,Nat.reduceBEq,Nat.reduceLeDiff,Nat.reduceAdd,Nat.reduceMul]
    refine PFn.dcall (rden_fn hbi (by omega)) ?_
    simp (disch := first|exact Xe|fail) only [fold_IntA, ↓Xa,Xb,Xc,↓reduceIte,Nat.reduceLT,Nat.reduceEqDiff,Nat.reduceBEq,Nat.reduceLeDiff,Nat.reduceAdd,Nat.reduceMul]
    refine PFn.dcall (igcd_fn (k := 2 + k * i + k) (hd.mono (by omega)) (by omega) (hbi.2.mono (by omega))) ?_
    simp (disch := first|exact Xe|fail) only [↓Xa,Xb,Xc,↓reduceIte,Nat.reduceLT,Nat.reduceEqDiff,Nat.reduceBEq,Nat.reduceLeDiff,Nat.reduceAdd,Nat.reduceMul]
    refine PFn.dcall (idivmod_fn hbi.2 (by omega) (Bd.gcd2 hbi.2) (by omega) (by omega)) ?_
    simp (disch := first|exact Xe|fail) only [↓Xa,Xb,Xc,↓reduceIte,Nat.reduceLT,Nat.reduceEqDiff,Nat.reduceBEq,Nat.reduceLeDiff,Nat.reduceAdd,Nat.reduceMul]
    refine dalloc_i fun p4 hp4 => ?_
    have n4 := hp4
    simp only [upd_none] at n4
    obtain ⟨_, _, _, n4⟩ := n4
    simp (disch := first|exact Xe|fail) only [↓Xa,Xb,Xc,↓reduceIte,Nat.reduceLT,Nat.reduceEqDiff,Nat.reduceBEq,Nat.reduceLeDiff,Nat.reduceAdd,Nat.reduceMul]
    refine dalloc_i fun p5 hp5 => ?_
    have n5 := hp5
    simp only [upd_none] at n5
    obtain ⟨_, _, _, _, n5⟩ := n5
    simp (disch := first|exact Xe|fail) only [cells_IntA, fold_IntA, ↓Xa,Xb,Xc,↓reduceIte,Nat.reduceLT,Nat.reduceEqDiff,Nat.reduceBEq,Nat.reduceLeDiff,Nat.reduceAdd,Nat.reduceMul]
    refine (muli_fn hd (by omega) hbi.2.ediv (by omega)).call ?_
    simp (disch := first|exact Xe|fail) only [cells_IntA, ↓Xa,Xb,Xc,↓reduceIte,Nat.reduceLT,Nat.reduceEqDiff,Nat.reduceBEq,Nat.reduceLeDiff,Nat.reduceAdd,Nat.reduceMul]
    refine Settle.dropTo ((((Le.refl _).updB (upd_none.2 ⟨by assumption, upd_none.2 ⟨by assumption, n3⟩⟩)).updB (upd_none.2 ⟨by assumption, upd_none.2 ⟨by assumption, n4⟩⟩)).updB (upd_none.2 ⟨by assumption, upd_none.2 ⟨by assumption, n5⟩⟩)) ?_
    refine Settle.now ⟨(i + 1, comS d (l[i])), by dsimp only; omega, ⟨by dsimp only; omega, ?_, comS_pos _ h0, hc⟩, rfl⟩
    have := comS_bd hd hbi
    rwa [show 2 + k * i + k = 2 + k * (i + 1) by rw [Nat.mul_add]; omega] at this
  · rw [List.drop_eq_nil_of_le (by omega)] at hc
    have hc : d = comD 1 l := hc
    rw [← hc] at hq
    have hdv : ∀ q, q ∈ l → (q.den : Int) ∣ d := fun q hm => hc ▸ comD_den l 1 q hm
    have hm : k * i ≤ 10000 * 12 := Nat.mul_le_mul (by omega) (by omega)
    clear h3
    simp (disch := first|exact Xe|fail) only [hi, ↓Xa,Xb,Xc,↓reduceIte,Nat.reduceLT,Nat.reduceEqDiff,Nat.reduceBEq,Nat.reduceLeDiff,Nat.reduceAdd,Nat.reduceMul]
    refine Settle.now ?_
    simp (disch := first|exact Xe|fail) only [len_rw, ↓Xa,Xb,Xc,↓reduceIte,Nat.reduceLT,Nat.reduceEqDiff,Nat.reduceBEq,Nat.reduceLeDiff,Nat.reduceAdd,Nat.reduceMul]
    generalize hG : ((H.upd p1 (some (.row 28 0 [.bool false, .seq 0 [] true]))).upd p2 (some (.row 28 0 [IntB d, IntD d]))) = G
    have G2 : G p2 = some (.row 28 0 [IntB d, IntD d]) := by rw [← hG, upd_same]
    have G1 : G p1 = some (.row 28 0 [.bool false, .seq 0 [] true]) := by rw [← hG, upd_other _ _ (Ne.symm (by assumption)), upd_same]
    have hHG : Le H G := hG ▸ ((Le.refl H).updB n1).updB n2
    refine W_loop (fun s : Nat × AV × AHeap => ⟨[], [(3, .ptr p1 2 0), (4, .ptr p2 2 0), (10, s.2.1), (38, .seq l.length (QC l) t), (39, .int .i64 l.length), (40, .int .i64 s.1)], s.2.2⟩)
      (fun s => s.1 ≤ l.length ∧ growC G 28 2 s.1 (IC ((l.map (comN d)).take s.1)) s.2.1 s.2.2) (fun s => l.length - s.1) (0, .seq 0 [] true, _) (Settle.now rfl) ⟨Nat.zero_le _, growC_nil⟩ ?_
    rintro ⟨j, y, M⟩ ⟨h3, hg⟩
    dsimp only at h3 hg ⊢
    have m1 : M p1 = some (.row 28 0 [.bool false, .seq 0 [] true]) := growC_old hg G1
    have m2 : M p2 = some (.row 28 0 [IntB d, IntD d]) := growC_old hg G2
    by_cases hj : j < l.length
    · have hbi := hb _ (List.getElem_mem hj)
      have hj2 : j < (l.map (comN d)).length := by simpa using hj
      simp (disch := first|exact Xe|fail) only [hj, idx_QC, load_QC, ↓Xa,Xb,Xc,↓reduceIte,Nat.reduceLT,Nat.reduceEqDiff,Nat.reduceBEq,Nat.reduceLeDiff,Nat.reduceAdd,Nat.reduceMul]
      refine alloc_i fun q1 hq1 => ?_
      have a1 := ne_of_some m2 hq1
      simp (disch := first|exact Xe|fail) only [cells_RatA, fold_Raw, fold_RatA, m2, fold_IntA, ↓Xa,Xb,Xc,↓reduceIte,Nat.reduceLT,Nat.reduceEqDiff,Nat.reduceBEq,Nat.reduceLeDiff,Nat.reduceAdd,Nat.reduceMul]
      have hg1 := growC_upd (r := .row 121 0 [IntB (l[j]).num, IntD (l[j]).num, IntB ((l[j]).den - 1 : Int), IntD ((l[j]).den - 1 : Int)]) hg hq1
      refine PFn.dcall (rden_fn hbi (by omega)) ?_
      simp (disch := first|exact Xe|fail) only [fold_IntA, ↓Xa,Xb,Xc,↓reduceIte,Nat.reduceLT,Nat.reduceEqDiff,Nat.reduceBEq,Nat.reduceLeDiff,Nat.reduceAdd,Nat.reduceMul]
      refine PFn.dcall (idivmod_fn hd (by omega) hbi.2 (by omega) (by have := q_pos (l[j]); omega)) ?_
      simp (disch := first|exact Xe|fail) only [↓Xa,Xb,Xc,↓reduceIte,Nat.reduceLT,Nat.reduceEqDiff,Nat.reduceBEq,Nat.reduceLeDiff,Nat.reduceAdd,Nat.reduceMul]
      refine dalloc_i fun q2 hq2 => ?_
      have a2 := ne_of_some m2 (upd_none.1 hq2).2
      have b21 := (upd_none.1 hq2).1
      simp (disch := first|exact Xe|fail) only [↓Xa,Xb,Xc,↓reduceIte,Nat.reduceLT,Nat.reduceEqDiff,Nat.reduceBEq,Nat.reduceLeDiff,Nat.reduceAdd,Nat.reduceMul]
      refine dalloc_i fun q3 hq3 => ?_
      have a3 := ne_of_some m2 (upd_none.1 (upd_none.1 hq3).2).2
      have b31 := (upd_none.1 (upd_none.1 hq3).2).1
      have b32 := (upd_none.1 hq3).1
      simp (disch := first|exact Xe|fail) only [cells_IntA, fold_IntA, repI1, ↓Xa,Xb,Xc,↓reduceIte,Nat.reduceLT,Nat.reduceEqDiff,Nat.reduceBEq,Nat.reduceLeDiff,Nat.reduceAdd,Nat.reduceMul]
      have hg2 := growC_upd (r := .row 28 0 [IntB (d / ((l[j]).den : Int)), IntD (d / ((l[j]).den : Int))]) hg1 hq2
      have hq3' : ((M.upd q1 (some (.row 121 0 [IntB (l[j]).num, IntD (l[j]).num, IntB ((l[j]).den - 1 : Int), IntD ((l[j]).den - 1 : Int)]))).upd q2 (some (.row 28 0 [IntB (d / ((l[j]).den : Int)), IntD (d / ((l[j]).den : Int))]))) q3 = none := upd_none.2 ⟨b32, upd_none.2 ⟨b31, (upd_none.1 (upd_none.1 hq3).2).2⟩⟩
      have hg3 := growC_upd (r := .row 28 0 [IntB (d % ((l[j]).den : Int)), IntD (d % ((l[j]).den : Int))]) hg2 hq3'
      refine (muli_fn hbi.1 (by omega) hd.ediv (by omega)).call ?_
      simp (disch := first|exact Xe|fail) only [cells_IntA, fold_IntA, repI1, ↓Xa,Xb,Xc,↓reduceIte,Nat.reduceLT,Nat.reduceEqDiff,Nat.reduceBEq,Nat.reduceLeDiff,Nat.reduceAdd,Nat.reduceMul]
      refine app_C (m := 1) hg3 rfl cellI (by omega) (by omega) (by omega) fun y' M2 hg4 => ?_
      have et : (l.map (comN d))[j] = (l[j]).num * (d / ((l[j]).den : Int)) := by simp [comN]
      rw [← et, ← IC_take hj2] at hg4

      obtain ⟨M3, hg5, hl5⟩ := growC_le2 hg4 ((((Le.refl G).updB (growC_none hg hq1)).updB (growC_none hg (upd_none.1 hq2).2)).updB (growC_none hg (upd_none.1 (upd_none.1 hq3).2).2))
      simp (disch := first|exact Xe|fail) only [↓Xa,Xb,Xc,↓reduceIte,Nat.reduceLT,Nat.reduceEqDiff,Nat.reduceBEq,Nat.reduceLeDiff,Nat.reduceAdd,Nat.reduceMul]
      exact Settle.dropTo hl5 (Settle.now ⟨(j + 1, y', M3), by dsimp only; omega, ⟨by dsimp only; omega, hg5⟩, rfl⟩)
    · obtain rfl : j = l.length := by omega
      rw [List.take_of_length_le (by simp)] at hg
      simp (disch := first|exact Xe|fail) only [hj, ↓Xa,Xb,Xc,↓reduceIte,Nat.reduceLT,Nat.reduceEqDiff,Nat.reduceBEq,Nat.reduceLeDiff,Nat.reduceAdd,Nat.reduceMul]
      refine Settle.now ?_
      simp (disch := first|exact Xe|fail) only [m1, m2, fold_IntA, cells_IntA, rs109, ↓Xa,Xb,Xc,↓reduceIte,Nat.reduceLT,Nat.reduceEqDiff,Nat.reduceBEq,Nat.reduceLeDiff,Nat.reduceAdd,Nat.reduceMul]
      obtain ⟨H1, hg1, hl1⟩ := growC_move (M := M.upd p1 (some (.row 28 0 [IntB d, IntD d]))) hg fun b hb _ => upd_other _ _ (by rintro rfl; rw [G1] at hb; cases hb)
      have hle : Le H H1 := hl1 H (fun o x ho => by
        have e : o ≠ p1 := by rintro rfl; rw [n1] at ho; cases ho
        rw [upd_other _ _ e]; exact growC_le hg o x (hHG o x ho)) fun b hb => hHG.none hb
      obtain ⟨M2, hg2, hl2⟩ := growC_le2 hg1 hle
      exact SetR.dropTo hl2 (growC_finA hg2 hq)
theorem rrsum_fn {l : List QQ} {t : Bool} {k : Nat} (hb : ∀ q, q ∈ l → RB k q) (hl : l.length ≤ 12) (hk : k ≤ 10000) : PFn Tryd.prog 113 [RatsR l t] (RatR (sumQ 0 l)) := by
  intro H Q hq
  refine enter113 (by simp) ?_
  simp (disch := first|exact Xe|fail) only [ac113, RatsR, ↓Xa,Xb,Xc,↓reduceIte,Nat.reduceLT,Nat.reduceEqDiff,Nat.reduceBEq,Nat.reduceLeDiff,Nat.reduceAdd,Nat.reduceMul]
  refine alloc_i fun p1 hp1 => ?_
  have n1 := hp1
  simp (disch := first|exact Xe|fail) only [↓Xa,Xb,Xc,↓reduceIte,Nat.reduceLT,Nat.reduceEqDiff,Nat.reduceBEq,Nat.reduceLeDiff,Nat.reduceAdd,Nat.reduceMul]
  refine rrzero_fn.call ?_
  simp (disch := first|exact Xe|fail) only [↓Xa,Xb,Xc,↓reduceIte,Nat.reduceLT,Nat.reduceEqDiff,Nat.reduceBEq,Nat.reduceLeDiff,Nat.reduceAdd,Nat.reduceMul]
  refine alloc_i fun p2 hp2 => ?_
  have n2 := hp2
  simp only [upd_none] at n2
  obtain ⟨_, n2⟩ := n2
  simp (disch := first|exact Xe|fail) only [cells_RatR, ↓Xa,Xb,Xc,↓reduceIte,Nat.reduceLT,Nat.reduceEqDiff,Nat.reduceBEq,Nat.reduceLeDiff,Nat.reduceAdd,Nat.reduceMul]
  refine W_loop (fun s : Nat × QQ => ⟨[], [(0, .seq l.length (QR l) t), (2, .ptr p1 4 0), (3, .ptr p2 4 0), (4, .int .i64 s.1)], (H.upd p1 (some (.row 138 0 [.bool false, .seq 0 [] true, .bool false, .seq 0 [] true]))).upd p2 (some (.row 138 0 (qR s.2)))⟩)
    (fun s => s.1 ≤ l.length ∧ RB (1 + (k + 1) * s.1) s.2 ∧ sumQ s.2 (l.drop s.1) = sumQ 0 l) (fun s => l.length - s.1) (0, 0) (Settle.now rfl) ⟨Nat.zero_le _, ⟨Bd.zero _, Bd.oneQ 0⟩, rfl⟩ ?_
  rintro ⟨i, s⟩ ⟨h3, hs, hc⟩
  dsimp only at h3 hs hc ⊢
  by_cases hi : i < l.length
  · rw [List.drop_eq_getElem_cons hi, sumQ] at hc
    have hbi := hb _ (List.getElem_mem hi)
    have hm : (k + 1) * i ≤ 10001 * 12 := Nat.mul_le_mul (by omega) (by omega)
    simp (disch := first|exact Xe|fail) only [hi, len_rw, idx_QR, load_QR, qR, fold_Rax, fold_RatR, ↓Xa,Xb,Xc,↓reduceIte,Nat.reduceLT,Nat.reduceEqDiff,Nat.reduceBEq,Nat.reduceLeDiff,Nat.reduceAdd,Nat.reduceMul]
    refine (rradd_fn hs hbi (by omega)).call ?_
    simp (disch := first|exact Xe|fail) only [cells_RatR, ↓Xa,Xb,Xc,↓reduceIte,Nat.reduceLT,Nat.reduceEqDiff,Nat.reduceBEq,Nat.reduceLeDiff,Nat.reduceAdd,Nat.reduceMul]
    refine Settle.now ⟨(i + 1, s + l[i]), by dsimp only; omega, ⟨by dsimp only; omega, ?_, hc⟩, rfl⟩
    have := hs.add hbi
    rwa [show 1 + (k + 1) * i + k + 1 = 1 + (k + 1) * (i + 1) by rw [Nat.mul_add]; omega] at this
  · rw [List.drop_eq_nil_of_le (by omega)] at hc
    have hc : s = sumQ 0 l := hc
    rw [← hc] at hq
    simp (disch := first|exact Xe|fail) only [hi, len_rw, ↓Xa,Xb,Xc,↓reduceIte,Nat.reduceLT,Nat.reduceEqDiff,Nat.reduceBEq,Nat.reduceLeDiff,Nat.reduceAdd,Nat.reduceMul]
    refine Settle.now ?_
    simp (disch := first|exact Xe|fail) only [qR, cells_RatR, fold_Rax, fold_RatR, rs113, ↓Xa,Xb,Xc,↓reduceIte,Nat.reduceLT,Nat.reduceEqDiff,Nat.reduceBEq,Nat.reduceLeDiff,Nat.reduceAdd,Nat.reduceMul]
    exact SetR.dropTo (((Le.refl H).updB n1).updB n2) (SetR.now hq)
theorem rrcommon_fn {l : List QQ} {t : Bool} {k : Nat} (hb : ∀ q, q ∈ l → RB k q) (hl : l.length ≤ 12) (hk : k ≤ 10000) (hk1 : 2 ≤ k) : PFn Tryd.prog 110 [RatsR l t] (.tup [.seq l.length (RC (l.map (comN (comD 1 l)))) false, RefA (comD 1 l) false]) := by
  intro H Q hq
  refine enter110 (by simp) ?_
  simp (disch := first|exact Xe|fail) only [ac110, RatsR, ↓Xa,Xb,Xc,↓reduceIte,Nat.reduceLT,Nat.reduceEqDiff,Nat.reduceBEq,Nat.reduceLeDiff,Nat.reduceAdd,Nat.reduceMul]
  refine alloc_i fun p1 hp1 => ?_
  have n1 := hp1
  simp (disch := first|exact Xe|fail) only [↓Xa,Xb,Xc,↓reduceIte,Nat.reduceLT,Nat.reduceEqDiff,Nat.reduceBEq,Nat.reduceLeDiff,Nat.reduceAdd,Nat.reduceMul]
  refine (rof_fn (n := ((1 : Nat) : Int)) (by omega)).call ?_
  simp (disch := first|exact Xe|fail) only [↓Xa,Xb,Xc,↓reduceIte,Nat.reduceLT,Nat.reduceEqDiff,Nat.reduceBEq,Nat.reduceLeDiff,Nat.reduceAdd,Nat.reduceMul]
  refine alloc_i fun p2 hp2 => ?_
  have n2 := hp2
  simp only [upd_none] at n2
  obtain ⟨_, n2⟩ := n2
  simp (disch := first|exact Xe|fail) only [cells_RefA, ↓Xa,Xb,Xc,↓reduceIte,Nat.reduceLT,Nat.reduceEqDiff,Nat.reduceBEq,Nat.reduceLeDiff,Nat.reduceAdd,Nat.reduceMul]
  refine W_loop (fun s : Nat × Int => ⟨[], [(0, .seq l.length (QR l) t), (3, .ptr p1 2 0), (4, .ptr p2 2 0), (5, .int .i64 s.1)], (H.upd p1 (some (.row 39 0 [.bool false, .seq 0 [] true]))).upd p2 (some (.row 39 0 [RefB s.2, RefD s.2]))⟩)
    (fun s => s.1 ≤ l.length ∧ Bd (2 + k * s.1) s.2 ∧ 0 < s.2 ∧ comD s.2 (l.drop s.1) = comD 1 l) (fun s => l.length - s.1) (0, ((1 : Nat) : Int)) (Settle.now rfl) ⟨Nat.zero_le _, Bd.i64 (by omega), by dsimp only; omega, rfl⟩ ?_
  rintro ⟨i, d⟩ ⟨h3, hd, h0, hc⟩
  dsimp only at h3 hd h0 hc ⊢
  by_cases hi : i < l.length
  · rw [List.drop_eq_getElem_cons hi, comD] at hc
    have hbi := hb _ (List.getElem_mem hi)
    have hm : k * i ≤ 10000 * 12 := Nat.mul_le_mul (by omega) (by omega)
    have hg0 := com_gpos d (l[i])
    have ov := rover_fn hbi.2 (by omega) (Bd.gcd2 (d := d) hbi.2) (by omega) (by omega)
    rw [if_pos (com_mod d (l[i]))] at ov
    simp (disch := first|exact Xe|fail) only [hi, len_rw, idx_QR, load_QRd, fold_RefA, ↓Xa,Xb,Xc,↓reduceIte,Nat.reduceLT,Nat.reduceEqDiff,Nat.reduceBEq,Nat.reduceLeDiff,Nat.reduceAdd,Nat.reduceMul]
    refine PFn.dcall (rgcd_fn (k := 2 + k * i + k) (hd.mono (by omega)) (by omega) (hbi.2.mono (by omega))) ?_
    simp (disch := first|exact Xe|fail) only [↓Xa,Xb,Xc,↓reduceIte,Nat.reduceLT,Nat.reduceEqDiff,Nat.reduceBEq,Nat.reduceLeDiff,Nat.reduceAdd,Nat.reduceMul]
    refine PFn.dcall ov ?_
    simp (disch := first|exact Xe|fail) only [↓Xa,Xb,Xc,↓reduceIte,Nat.reduceLT,Nat.reduceEqDiff,Nat.reduceBEq,Nat.reduceLeDiff,Nat.reduceAdd,Nat.reduceMul]
    refine dalloc_i fun p3 hp3 => ?_
    have n3 := hp3
    simp only [upd_none] at n3
    obtain ⟨_, _, n3⟩ := n3
    simp (disch := first|exact Xe|fail) only [cells_RefA, fold_RefA, ↓Xa,Xb,Xc,↓reduceIte,Nat.reduceLT,Nat.reduceEqDiff,Nat.reduceBEq,Nat.reduceLeDiff,Nat.reduceAdd,Nat.reduceMul]
    refine (rmuli_fn false false hd (by omega) hbi.2.ediv (by omega)).call ?_
    simp (disch := first|exact Xe|fail) only [cells_RefA, ↓Xa,Xb,Xc,↓reduceIte,Nat.reduceLT,Nat.reduceEqDiff,Nat.reduceBEq,Nat.reduceLeDiff,Nat.reduceAdd,Nat.reduceMul]
    refine Settle.dropTo ((Le.refl _).updB (upd_none.2 ⟨by assumption, upd_none.2 ⟨by assumption, n3⟩⟩)) ?_
    refine Settle.now ⟨(i + 1, comS d (l[i])), by dsimp only; omega, ⟨by dsimp only; omega, ?_, comS_pos _ h0, hc⟩, rfl⟩
    have := comS_bd hd hbi
    rwa [show 2 + k * i + k = 2 + k * (i + 1) by rw [Nat.mul_add]; omega] at this
  · rw [List.drop_eq_nil_of_le (by omega)] at hc
    have hc : d = comD 1 l := hc
    rw [← hc] at hq
    have hdv : ∀ q, q ∈ l → (q.den : Int) ∣ d := fun q hm => hc ▸ comD_den l 1 q hm
    have hm : k * i ≤ 10000 * 12 := Nat.mul_le_mul (by omega) (by omega)
    clear h3
    simp (disch := first|exact Xe|fail) only [hi, len_rw, ↓Xa,Xb,Xc,↓reduceIte,Nat.reduceLT,Nat.reduceEqDiff,Nat.reduceBEq,Nat.reduceLeDiff,Nat.reduceAdd,Nat.reduceMul]
    refine Settle.now ?_
    simp (disch := first|exact Xe|fail) only [↓Xa,Xb,Xc,↓reduceIte,Nat.reduceLT,Nat.reduceEqDiff,Nat.reduceBEq,Nat.reduceLeDiff,Nat.reduceAdd,Nat.reduceMul]
    generalize hG : ((H.upd p1 (some (.row 39 0 [.bool false, .seq 0 [] true]))).upd p2 (some (.row 39 0 [RefB d, RefD d]))) = G
    have G2 : G p2 = some (.row 39 0 [RefB d, RefD d]) := by rw [← hG, upd_same]
    have G1 : G p1 = some (.row 39 0 [.bool false, .seq 0 [] true]) := by rw [← hG, upd_other _ _ (Ne.symm (by assumption)), upd_same]
    have hHG : Le H G := hG ▸ ((Le.refl H).updB n1).updB n2
    refine W_loop (fun s : Nat × AV × AHeap => ⟨[], [(0, .seq l.length (QR l) t), (3, .ptr p1 2 0), (4, .ptr p2 2 0), (8, s.2.1), (9, .int .i64 s.1)], s.2.2⟩)
      (fun s => s.1 ≤ l.length ∧ growC G 39 2 s.1 (RC ((l.map (comN d)).take s.1)) s.2.1 s.2.2) (fun s => l.length - s.1) (0, .seq 0 [] true, _) (Settle.now rfl) ⟨Nat.zero_le _, growC_nil⟩ ?_
    rintro ⟨j, y, M⟩ ⟨h3, hg⟩
    dsimp only at h3 hg ⊢
    have m1 : M p1 = some (.row 39 0 [.bool false, .seq 0 [] true]) := growC_old hg G1
    have m2 : M p2 = some (.row 39 0 [RefB d, RefD d]) := growC_old hg G2
    by_cases hj : j < l.length
    · have hbi := hb _ (List.getElem_mem hj)
      have hj2 : j < (l.map (comN d)).length := by simpa using hj
      have ov := rover_fn hd (by omega) hbi.2 (by omega) (by have := q_pos (l[j]); omega)
      rw [if_pos (Int.emod_eq_zero_of_dvd (hdv _ (List.getElem_mem hj)))] at ov
      simp (disch := first|exact Xe|fail) only [hj, len_rw, idx_QR, load_QRd, m2, fold_RefA, ↓Xa,Xb,Xc,↓reduceIte,Nat.reduceLT,Nat.reduceEqDiff,Nat.reduceBEq,Nat.reduceLeDiff,Nat.reduceAdd,Nat.reduceMul]
      refine PFn.dcall ov ?_
      simp (disch := first|exact Xe|fail) only [↓Xa,Xb,Xc,↓reduceIte,Nat.reduceLT,Nat.reduceEqDiff,Nat.reduceBEq,Nat.reduceLeDiff,Nat.reduceAdd,Nat.reduceMul]
      refine dalloc_i fun q1 hq1 => ?_
      have a1 := ne_of_some m2 hq1
      simp (disch := first|exact Xe|fail) only [cells_RefA, fold_RefA, repI1, idx_QR, load_QRn, hj, ↓Xa,Xb,Xc,↓reduceIte,Nat.reduceLT,Nat.reduceEqDiff,Nat.reduceBEq,Nat.reduceLeDiff,Nat.reduceAdd,Nat.reduceMul]
      have hg1 := growC_upd (r := .row 39 0 [RefB (d / ((l[j]).den : Int)), RefD (d / ((l[j]).den : Int))]) hg hq1
      refine PFn.dcall (rmuli_fn false false hbi.1 (by omega) hd.ediv (by omega)) ?_
      simp (disch := first|exact Xe|fail) only [cells_RefA, fold_RefA, repI1, ↓Xa,Xb,Xc,↓reduceIte,Nat.reduceLT,Nat.reduceEqDiff,Nat.reduceBEq,Nat.reduceLeDiff,Nat.reduceAdd,Nat.reduceMul]
      refine app_C (m := 1) hg1 rfl cellI (by omega) (by omega) (by omega) fun y' M2 hg4 => ?_
      have et : (l.map (comN d))[j] = (l[j]).num * (d / ((l[j]).den : Int)) := by simp [comN]
      rw [← et, ← RC_take' hj2] at hg4
      obtain ⟨M3, hg5, hl5⟩ := growC_le2 hg4 ((Le.refl G).updB (growC_none hg hq1))
      simp (disch := first|exact Xe|fail) only [↓Xa,Xb,Xc,↓reduceIte,Nat.reduceLT,Nat.reduceEqDiff,Nat.reduceBEq,Nat.reduceLeDiff,Nat.reduceAdd,Nat.reduceMul]
      exact Settle.dropTo hl5 (Settle.now ⟨(j + 1, y', M3), by dsimp only; omega, ⟨by dsimp only; omega, hg5⟩, rfl⟩)
    · obtain rfl : j = l.length := by omega
      rw [List.take_of_length_le (by simp)] at hg
      simp (disch := first|exact Xe|fail) only [hj, len_rw, ↓Xa,Xb,Xc,↓reduceIte,Nat.reduceLT,Nat.reduceEqDiff,Nat.reduceBEq,Nat.reduceLeDiff,Nat.reduceAdd,Nat.reduceMul]
      refine Settle.now ?_
      simp (disch := first|exact Xe|fail) only [m1, m2, fold_RefA, cells_RefA, rs110, ↓Xa,Xb,Xc,↓reduceIte,Nat.reduceLT,Nat.reduceEqDiff,Nat.reduceBEq,Nat.reduceLeDiff,Nat.reduceAdd,Nat.reduceMul]
      obtain ⟨H1, hg1, hl1⟩ := growC_move (M := M.upd p1 (some (.row 39 0 [RefB d, RefD d]))) hg fun b hb _ => upd_other _ _ (by rintro rfl; rw [G1] at hb; cases hb)
      have hle : Le H H1 := hl1 H (fun o x ho => by
        have e : o ≠ p1 := by rintro rfl; rw [n1] at ho; cases ho
        rw [upd_other _ _ e]; exact growC_le hg o x (hHG o x ho)) fun b hb => hHG.none hb
      obtain ⟨M2, hg2, hl2⟩ := growC_le2 hg1 hle
      exact SetR.dropTo hl2 (growC_finR hg2 hq)
end Go.Proofs.YtanchgkiomfhhaaDoor.Fw

/- The looked-up code of one function, and that it is: by a program (wip/tools/ac.py); Lean checks it. -/
namespace Go.Proofs.YtanchgkiomfhhaaDoor.Fw
open Go
set_option maxRecDepth 100000
def ac17 : ACode := (.seq (.reg [⟨(some 2), none, (.mov (.k (.bool false)))⟩] [0]) (.seq (.seq (.reg [⟨(some 15), none, (.call (.k (.fn (.func 94) [] [])) [])⟩, ⟨(some 16), none, (.un .not (.t 15))⟩] [0, 16]) (.cond (.t 16) (.seq (.reg [⟨(some 2), none, (.mov (.k (.bool false)))⟩] [2]) .ret) .skip)) (.seq (.seq (.reg [⟨(some 17), none, (.mov (.t 0))⟩, ⟨(some 18), none, (.call (.k (.fn (.func 107) [] [])) [(.t 17)])⟩] [0, 18]) (.cond (.t 18) (.seq (.reg [⟨(some 2), none, (.mov (.k (.bool true)))⟩] [2]) .ret) .skip)) (.seq (.reg [⟨(some 3), none, (.mov (.k (.seq 0 [] true)))⟩] [0, 3]) (.seq (.reg [⟨(some 4), none, (.mov (.k (.seq 0 [] true)))⟩] [0, 3, 4]) (.seq (.seq (.reg [⟨(some 19), none, (.mov (.t 0))⟩, ⟨(some 20), none, (.len false (.t 19))⟩, ⟨(some 21), none, (.mov (.k (.int .i64 ((0 : Nat) : Int))))⟩] [0, 3, 4, 19, 20, 21]) (.block 0 (.loop (.seq (.reg [⟨(some 22), none, (.bin .lss (.t 21) (.t 20))⟩] [0, 3, 4, 19, 20, 21, 22]) (.seq (.cond (.t 22) .skip (.exit 0)) (.seq (.block 1 (.seq (.reg [⟨(some 23), none, (.idxA 2 (.t 19) (.t 21))⟩, ⟨(some 24), none, (.load (some 2) (.t 23))⟩, ⟨(some 6), none, (.alloc 119 0 [(.str ⟨#[]⟩), (.str ⟨#[]⟩)])⟩, ⟨none, none, (.store 2 (.t 6) (.t 24))⟩] [0, 3, 4, 6, 19, 20, 21]) (.seq (.reg [⟨(some 26), none, (.load (some 2) (.t 6))⟩, ⟨(some 27), none, (.call (.k (.fn (.func 108) [] [])) [(.t 26)])⟩, ⟨(some 25), none, (.mov (.t 27))⟩, ⟨(some 28), none, (.ext (.t 25) 0)⟩, ⟨(some 29), none, (.ext (.t 25) 1)⟩, ⟨(some 30), none, (.ext (.t 25) 2)⟩, ⟨(some 7), none, (.alloc 121 0 [(.bool false), (.seq 0 [] true), (.bool false), (.seq 0 [] true)])⟩, ⟨(some 8), none, (.alloc 138 0 [(.bool false), (.seq 0 [] true), (.bool false), (.seq 0 [] true)])⟩, ⟨none, none, (.store 4 (.t 7) (.t 28))⟩, ⟨none, none, (.store 4 (.t 8) (.t 29))⟩, ⟨(some 9), none, (.mov (.t 30))⟩] [0, 3, 4, 7, 8, 9, 19, 20, 21]) (.seq (.seq (.reg [⟨(some 31), none, (.mov (.t 9))⟩, ⟨(some 32), none, (.un .not (.t 31))⟩] [0, 3, 4, 7, 8, 19, 20, 21, 32]) (.cond (.t 32) (.seq (.reg [⟨(some 2), none, (.mov (.k (.bool true)))⟩] [2]) .ret) .skip)) (.draw [⟨(some 33), none, (.mov (.t 3))⟩, ⟨(some 34), none, (.load (some 4) (.t 7))⟩, ⟨(some 35), none, (.bsl [(.bool false), (.seq 0 [] true), (.bool false), (.seq 0 [] true)] 1 4 [(0, (4, (.t 34)))])⟩, ⟨(some 36), none, (.app 121 4 64 (.t 33) (.t 35))⟩, ⟨(some 37), none, (.mov (.t 4))⟩, ⟨(some 38), none, (.load (some 4) (.t 8))⟩, ⟨(some 39), none, (.bsl [(.bool false), (.seq 0 [] true), (.bool false), (.seq 0 [] true)] 1 4 [(0, (4, (.t 38)))])⟩] [⟨(some 40), none, (.app 138 4 64 (.t 37) (.t 39))⟩, ⟨(some 3), none, (.mov (.t 36))⟩, ⟨(some 4), none, (.mov (.t 40))⟩] [0, 1, 1, 0, 15, 31, 31] [0, 3, 4, 19, 20, 21]))))) (.reg [⟨(some 41), none, (.bin .add (.t 21) (.k (.int .i64 ((1 : Nat) : Int))))⟩, ⟨(some 21), none, (.mov (.t 41))⟩] [0, 3, 4, 19, 20, 21]))))))) (.seq (.reg [⟨(some 43), none, (.mov (.t 3))⟩, ⟨(some 44), none, (.call (.k (.fn (.func 109) [] [])) [(.t 43)])⟩, ⟨(some 42), none, (.mov (.t 44))⟩, ⟨(some 45), none, (.ext (.t 42) 0)⟩, ⟨(some 46), none, (.ext (.t 42) 1)⟩, ⟨(some 11), none, (.alloc 28 0 [(.bool false), (.seq 0 [] true)])⟩, ⟨(some 10), none, (.mov (.t 45))⟩, ⟨none, none, (.store 2 (.t 11) (.t 46))⟩] [0, 3, 4, 10, 11]) (.seq (.reg [⟨(some 48), none, (.mov (.t 4))⟩, ⟨(some 49), none, (.call (.k (.fn (.func 110) [] [])) [(.t 48)])⟩, ⟨(some 47), none, (.mov (.t 49))⟩, ⟨(some 50), none, (.ext (.t 47) 0)⟩, ⟨(some 51), none, (.ext (.t 47) 1)⟩, ⟨(some 13), none, (.alloc 39 0 [(.bool false), (.seq 0 [] true)])⟩, ⟨(some 12), none, (.mov (.t 50))⟩, ⟨none, none, (.store 2 (.t 13) (.t 51))⟩] [0, 3, 4, 10, 11, 12, 13]) (.seq (.seq (.draw [⟨(some 52), none, (.mov (.t 10))⟩, ⟨(some 53), none, (.len false (.t 52))⟩, ⟨(some 54), none, (.mov (.t 12))⟩, ⟨(some 55), none, (.len false (.t 54))⟩, ⟨(some 56), none, (.bin .neq (.t 53) (.t 55))⟩, ⟨(some 57), none, (.mov (.t 56))⟩, ⟨(some 58), (some (57, false)), (.mov (.t 0))⟩, ⟨(some 59), (some (57, false)), (.len false (.t 58))⟩, ⟨(some 60), (some (57, false)), (.bin .eql (.t 59) (.k (.int .i64 ((0 : Nat) : Int))))⟩, ⟨(some 61), (some (57, false)), (.mov (.t 60))⟩, ⟨(some 62), (some (61, true)), (.mov (.t 10))⟩, ⟨(some 63), (some (61, true)), (.len false (.t 62))⟩, ⟨(some 64), (some (61, true)), (.bin .neq (.t 63) (.k (.int .i64 ((0 : Nat) : Int))))⟩, ⟨(some 65), (some (57, false)), (.pick (.t 61) (.t 64) (.k (.bool false)))⟩, ⟨(some 66), none, (.pick (.t 57) (.k (.bool true)) (.t 65))⟩, ⟨(some 67), none, (.mov (.t 66))⟩, ⟨(some 68), (some (67, false)), (.load (some 2) (.t 11))⟩, ⟨(some 69), (some (67, false)), (.call (.k (.fn (.func 28) [] [])) [(.t 68)])⟩, ⟨(some 70), (some (67, false)), (.load (some 2) (.t 13))⟩, ⟨(some 71), (some (67, false)), (.call (.k (.fn (.func 29) [] [])) [(.t 70)])⟩, ⟨(some 72), (some (67, false)), (.bin .neq (.t 69) (.t 71))⟩, ⟨(some 73), none, (.pick (.t 67) (.k (.bool true)) (.t 72))⟩, ⟨(some 74), none, (.mov (.t 73))⟩, ⟨(some 75), (some (74, false)), (.mov (.t 3))⟩, ⟨(some 76), (some (74, false)), (.call (.k (.fn (.func 112) [] [])) [(.t 75)])⟩, ⟨(some 77), (some (74, false)), (.mov (.t 4))⟩] [⟨(some 78), (some (74, false)), (.call (.k (.fn (.func 113) [] [])) [(.t 77)])⟩, ⟨(some 79), (some (74, false)), (.call (.k (.fn (.func 111) [] [])) [(.t 76), (.t 78)])⟩, ⟨(some 80), (some (74, false)), (.un .not (.t 79))⟩, ⟨(some 81), none, (.pick (.t 74) (.k (.bool true)) (.t 80))⟩] [0, 0, 3, 3, 0, 0, 0, 0, 0, 0, 0, 0, 0, 0, 0, 0, 0, 0, 196608, 0, 0, 0, 0, 0, 0, 25165824] [3, 4, 10, 12, 81]) (.cond (.t 81) (.seq (.reg [⟨(some 2), none, (.mov (.k (.bool false)))⟩] [2]) .ret) .skip)) (.seq (.seq (.reg [⟨(some 82), none, (.mov (.t 10))⟩, ⟨(some 83), none, (.len false (.t 82))⟩, ⟨(some 84), none, (.mov (.k (.int .i64 ((0 : Nat) : Int))))⟩] [3, 4, 10, 12, 83, 84]) (.block 2 (.loop (.seq (.reg [⟨(some 85), none, (.bin .lss (.t 84) (.t 83))⟩] [3, 4, 10, 12, 83, 84, 85]) (.seq (.cond (.t 85) .skip (.exit 2)) (.seq (.block 3 (.seq (.reg [⟨(some 86), none, (.mov (.t 84))⟩, ⟨(some 14), none, (.mov (.t 86))⟩] [3, 4, 10, 12, 14, 83, 84]) (.seq (.draw [⟨(some 87), none, (.mov (.t 10))⟩, ⟨(some 88), none, (.mov (.t 14))⟩, ⟨(some 89), none, (.idxA 2 (.t 87) (.t 88))⟩, ⟨(some 90), none, (.load (some 2) (.t 89))⟩, ⟨(some 91), none, (.call (.k (.fn (.func 28) [] [])) [(.t 90)])⟩, ⟨(some 92), none, (.mov (.t 12))⟩, ⟨(some 93), none, (.mov (.t 14))⟩, ⟨(some 94), none, (.idxA 2 (.t 92) (.t 93))⟩, ⟨(some 95), none, (.load (some 2) (.t 94))⟩, ⟨(some 96), none, (.call (.k (.fn (.func 29) [] [])) [(.t 95)])⟩, ⟨(some 97), none, (.bin .neq (.t 91) (.t 96))⟩, ⟨(some 98), none, (.mov (.t 97))⟩, ⟨(some 99), (some (98, false)), (.mov (.t 3))⟩, ⟨(some 100), (some (98, false)), (.mov (.t 14))⟩, ⟨(some 101), (some (98, false)), (.idxA 4 (.t 99) (.t 100))⟩, ⟨(some 102), (some (98, false)), (.load (some 4) (.t 101))⟩, ⟨(some 103), (some (98, false)), (.mov (.t 4))⟩, ⟨(some 104), (some (98, false)), (.mov (.t 14))⟩, ⟨(some 105), (some (98, false)), (.idxA 4 (.t 103) (.t 104))⟩, ⟨(some 106), (some (98, false)), (.load (some 4) (.t 105))⟩] [⟨(some 107), (some (98, false)), (.call (.k (.fn (.func 111) [] [])) [(.t 102), (.t 106)])⟩, ⟨(some 108), (some (98, false)), (.un .not (.t 107))⟩, ⟨(some 109), none, (.pick (.t 98) (.k (.bool true)) (.t 108))⟩] [0, 1, 0, 0, 0, 31, 63, 31, 31, 0, 0, 0, 0, 4096, 0, 0, 61440, 126976, 61440, 61440] [3, 4, 10, 12, 83, 84, 109]) (.cond (.t 109) (.seq (.reg [⟨(some 2), none, (.mov (.k (.bool false)))⟩] [2]) .ret) .skip)))) (.reg [⟨(some 110), none, (.bin .add (.t 84) (.k (.int .i64 ((1 : Nat) : Int))))⟩, ⟨(some 84), none, (.mov (.t 110))⟩] [3, 4, 10, 12, 83, 84]))))))) (.seq (.reg [⟨(some 2), none, (.mov (.k (.bool true)))⟩] [2]) .ret)))))))))))
def rs17 : List RV := [(.t 2)]
theorem co17 : compFn Go.Proofs.Tryd.prog Go.Proofs.Tryd.f17 pl17 = some (ac17, rs17) := by kernel_rfl
theorem enter17 {args : List AV} {H : AHeap} {Q : AV → AHeap → Prop} (hn : args.length ≤ 111) (h : W Go.Proofs.Tryd.prog ac17 (retN rs17 Q) ⟨[], initE args 0, H⟩) : Run Go.Proofs.Tryd.prog 17 args H Q := Run_fn2 mixed Go.Proofs.Tryd.func17 (by kernel_rfl) co17 (n := 111) (by kernel_rfl) hn h
end Go.Proofs.YtanchgkiomfhhaaDoor.Fw
