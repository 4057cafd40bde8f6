/- The texts Ye Kf Kg Qn Qa Qb Al6 Al20 Al5, joined. -/
import Derived.Test.YtanchgkiomfhhaaDoorZ4
/- A whole number's text, as the reference of layer 2 tells it. -/
namespace Go.Proofs.YtanchgkiomfhhaaDoor.Fw
set_option linter.unusedSimpArgs false
set_option linter.unusedVariables false
open Go Go.Proofs.YtanchgkiomfhhaaDoor.Ma
set_option maxRecDepth 20000

def revI (i : Nat) (l : List UInt8) : List UInt8 := (List.range l.length).map fun j => if j < i ∨ l.length - i ≤ j then l.getD (l.length - 1 - j) 0 else l.getD j 0
end Go.Proofs.YtanchgkiomfhhaaDoor.Fw

/- Rows of whole numbers: what the functions that read them answer, the program's and the reference's. -/
namespace Go.Proofs.YtanchgkiomfhhaaDoor.Fw
set_option linter.unusedSimpArgs false
set_option linter.unusedVariables false
open Go Go.Proofs.YtanchgkiomfhhaaDoor.Ma
set_option maxRecDepth 20000

abbrev RowA (zs : List Int) (t : Bool) : AV := .seq zs.length (IC zs) t
def RC (zs : List Int) : List AV := zs.flatMap fun z => [RefB z, RefD z]
abbrev RefR (zs : List Int) (t : Bool) : AV := .seq zs.length (RC zs) t
section
variable {K : AV → Prop} {H : AHeap} {k : IntKind} {t : Bool} {zs : List Int} {i : Nat}
theorem idx_IC (h : i < zs.length) : idxAW 2 (.seq zs.length (IC zs) t) (.int k (i : Int)) K = K (.cptr ((IC zs).drop (i * 2))) := idx_rw (IC_len zs) h
theorem load_IC (h : i < zs.length) : loadW H (some 2) (.cptr ((IC zs).drop (i * 2))) K = K (IntA (zs[i])) := by
  simp only [loadW, cellsAt, IC_drop zs i h]; simp [IntA_eq]
end
def RB4 (k : Nat) (zs : List Int) : Prop := (∀ z, z ∈ zs → Bd k z) ∧ zs.length < 4611686018427387904
theorem RB4.at {k : Nat} {zs : List Int} (h : RB4 k zs) {i : Nat} (hi : i < zs.length) : Bd k (zs[i]) := h.1 _ (List.getElem_mem hi)

theorem rowz_fn {zs : List Int} {t : Bool} {k : Nat} (hz : RB4 k zs) (hk : k ≤ 1000000) : PFn Tryd.prog 56 [RowA zs t] (.bool (zs.all fun z => decide (z = 0))) := fun H Q hq =>
  rowz_run (.inl ⟨t, rfl⟩) hz.1 hk hz.2 hq
/-! ### the reference -/
end Go.Proofs.YtanchgkiomfhhaaDoor.Fw

/- Rows of whole numbers: what is made of them. -/
namespace Go.Proofs.YtanchgkiomfhhaaDoor.Fw
set_option linter.unusedSimpArgs false
set_option linter.unusedVariables false
open Go Go.Proofs.YtanchgkiomfhhaaDoor.Ma
set_option maxRecDepth 20000

theorem repI1 {a b : AV} : repA [a, b] 2 = [a, b] := by simp [repA, List.range, List.range.loop]
theorem cellI {z : Int} : [IntB z, IntD z].all AV.cell = true := rfl
theorem IC_take {zs : List Int} {i : Nat} (h : i < zs.length) : IC (zs.take (i + 1)) = IC (zs.take i) ++ [IntB (zs[i]), IntD (zs[i])] := by
  rw [List.take_add_one, List.getElem?_eq_getElem h, Option.toList_some, IC_snoc]
theorem fn_cells {f : Go.Fn} {a b : List AV} : (AV.fn f a b).cells = some [.fn f a b] := id rfl
theorem callW_fn {P : Program} {f : FuncId} {first caps args : List AV} {H : AHeap} {K : AV → AHeap → Prop} (h : Run P f (first ++ args ++ caps) H K) : callW P (.fn (.func f) first caps) args H K := h

theorem each_run {H : AHeap} {Q : AV → AHeap → Prop} {f : AV} {zs ws : List Int} {t : Bool} {k : Nat} (hz : RB4 k zs) (hlen : ws.length = zs.length) (hbig : zs.length ≤ 1000000) (G : Nat → AHeap) (h0 : G 0 = H) (hd : ∀ i b, G i b = none ↔ H b = none)
    (hs : ∀ i (h : i < zs.length) (M : AHeap) (K : AV → AHeap → Prop), Le (G i) M → (∀ M', Le (G (i + 1)) M' → (∀ b, H b = none → M b ≠ none → M' b = M b) → K (IntA (ws[i]'(by omega))) M') → callW Tryd.prog f [IntA (zs[i])] M K)
    (hq : ∀ y M, growC (G zs.length) 28 2 zs.length (IC ws) y M → Q y M) : Run Tryd.prog 144 [RowA zs t, f] H Q := by
  have nz : zs.length < 9223372036854775808 := by have := hz.2; omega
  refine enter144 (by simp) ?_
  simp (disch := first | assumption | (apply Ap.symm; assumption) | omega | decide | (simp only [Xd] <;> omega)) only [ac144, len_rw, ↓Xa, Xb, Xc, ↓reduceIte, Nat.reduceLT, Nat.reduceEqDiff, Nat.reduceBEq, Nat.reduceLeDiff, Nat.reduceAdd, Nat.reduceMul]
  refine W_loop (fun s : Nat × AV × AHeap => ⟨[], [(1, f), (5, s.2.1), (8, RowA zs t), (9, .int .i64 (zs.length : Int)), (10, .int .i64 s.1)], s.2.2⟩) (fun s => s.1 ≤ zs.length ∧ growC (G s.1) 28 2 s.1 (IC (ws.take s.1)) s.2.1 s.2.2) (fun s => zs.length - s.1) (0, .seq 0 [] true, H) (Settle.now rfl) ⟨Nat.zero_le _, by rw [← h0]; exact growC_nil⟩ ?_
  rintro ⟨i, y, M⟩ ⟨h3, hg⟩
  dsimp only at h3 hg ⊢
  by_cases hi : i < zs.length
  · simp (disch := first | assumption | (apply Ap.symm; assumption) | omega | decide | (simp only [Xd] <;> omega)) only [hi, idx_IC, load_IC, ↓Xa, Xb, Xc, ↓reduceIte, Nat.reduceLT, Nat.reduceEqDiff, Nat.reduceBEq, Nat.reduceLeDiff, Nat.reduceAdd, Nat.reduceMul]
    refine alloc_i fun q hq1 => ?_
    simp (disch := first | assumption | (apply Ap.symm; assumption) | omega | decide | (simp only [Xd] <;> omega)) only [cells_IntA, fold_IntA, ↓Xa, Xb, Xc, ↓reduceIte, Nat.reduceLT, Nat.reduceEqDiff, Nat.reduceBEq, Nat.reduceLeDiff, Nat.reduceAdd, Nat.reduceMul]
    have hg1 := growC_upd (r := .row 28 0 [IntB (zs[i]), IntD (zs[i])]) hg hq1
    refine hs i hi _ _ ((growC_le hg).upd hq1) fun M' hM' hsame => ?_
    obtain ⟨H1, hg2, hl2⟩ := growC_move hg1 fun b hb hb2 => hsame b ((hd i b).1 (upd_none.1 hb).2) hb2
    simp (disch := first | assumption | (apply Ap.symm; assumption) | omega | decide | (simp only [Xd] <;> omega)) only [repI1, cells_IntA, ↓Xa, Xb, Xc, ↓reduceIte, Nat.reduceLT, Nat.reduceEqDiff, Nat.reduceBEq, Nat.reduceLeDiff, Nat.reduceAdd, Nat.reduceMul]
    refine app_C (m := 1) hg2 rfl cellI (by omega) (by omega) (by omega) fun y' M2 hg3 => ?_
    rw [← IC_take] at hg3
    obtain ⟨M3, hg4, hl4⟩ := growC_le2 hg3 (hl2 _ hM' fun b hb => (hd (i + 1) b).2 ((hd i b).1 (upd_none.1 hb).2))
    simp (disch := first | assumption | (apply Ap.symm; assumption) | omega | decide | (simp only [Xd] <;> omega)) only [↓Xa, Xb, Xc, ↓reduceIte, Nat.reduceLT, Nat.reduceEqDiff, Nat.reduceBEq, Nat.reduceLeDiff, Nat.reduceAdd, Nat.reduceMul]
    exact Settle.dropTo hl4 (Settle.now ⟨(i + 1, y', M3), by dsimp only; omega, ⟨by dsimp only; omega, hg4⟩, rfl⟩)
  · obtain rfl : i = zs.length := by omega
    rw [List.take_of_length_le (by omega)] at hg
    simp (disch := first | assumption | (apply Ap.symm; assumption) | omega | decide | (simp only [Xd] <;> omega)) only [hi, ↓Xa, Xb, Xc, ↓reduceIte, Nat.reduceLT, Nat.reduceEqDiff, Nat.reduceBEq, Nat.reduceLeDiff, Nat.reduceAdd, Nat.reduceMul]
    refine Settle.now ?_
    simp (disch := first | assumption | (apply Ap.symm; assumption) | omega | decide | (simp only [Xd] <;> omega)) only [rs144, ↓Xa, Xb, Xc, ↓reduceIte, Nat.reduceLT, Nat.reduceEqDiff, Nat.reduceBEq, Nat.reduceLeDiff, Nat.reduceAdd, Nat.reduceMul]
    exact SetR.now (hq y M hg)
theorem Le.both {A B : AHeap} {p : Nat} {x : Option ABlk} (h : Le A B) : Le (A.upd p x) (B.upd p x) := fun o y ho => by
  by_cases e : o = p
  · subst e; rw [upd_same] at ho ⊢; exact ho
  · rw [upd_other _ _ e] at ho ⊢; exact h o y ho
theorem add_m1 {i : Nat} {K : AV → Prop} (h : i < 4611686018427387904) : binW .add (.int .i64 ((i : Int) - 1)) (.int .i64 ((1 : Nat) : Int)) K ↔ K (.int .i64 (i : Int)) := by
  have e : IntKind.i64.wrap ((i : Int) - 1 + ((1 : Nat) : Int)) = (i : Int) := by rw [show ((i : Int) - 1 + ((1 : Nat) : Int)) = (i : Int) by omega]; exact wrap_i64 (by omega) (by omega)
  have : ∀ a b : Int, binW .add (.int .i64 a) (.int .i64 b) K ↔ K (.int .i64 (IntKind.i64.wrap (a + b))) := fun a b => by simp [binW, binInt]
  rw [this, e]
theorem both1_run {M : AHeap} {K : AV → AHeap → Prop} {f : AV} {x y z : Int} {ws : List Int} {t' : Bool} {i p1 p2 p3 T1 T2 T3 : Nat} (m1 : M p1 = some (.row T1 0 [RowA ws t'])) (m2 : M p2 = some (.row T2 0 [f])) (m3 : M p3 = some (.row T3 0 [.int .i64 ((i : Int) - 1)])) (h1 : Ap p1 p3) (h2 : Ap p2 p3)
    (hi : i < ws.length) (hb : ws.length ≤ 1000000) (hy : ws[i] = y)
    (hs : ∀ (M2 : AHeap) (K : AV → AHeap → Prop), Le (M.upd p3 (some (.row T3 0 [.int .i64 (i : Int)]))) M2 → K (IntA z) M2 → callW Tryd.prog f [IntA x, IntA y] M2 K)
    (hK : K (IntA z) (M.upd p3 (some (.row T3 0 [.int .i64 (i : Int)])))) : Run Tryd.prog 198 [IntA x, .ptr p3 1 0, .ptr p2 1 0, .ptr p1 1 0] M K := by
  subst hy
  refine enter198 (by simp) ?_
  simp (disch := first | assumption | (apply Ap.symm; assumption) | omega | decide | (simp only [Xd] <;> omega)) only [ac198, cells_IntA, ↓Xa, Xb, Xc, ↓reduceIte, Nat.reduceLT, Nat.reduceEqDiff, Nat.reduceBEq, Nat.reduceLeDiff, Nat.reduceAdd, Nat.reduceMul]
  refine alloc_i fun a ha => ?_
  have a1 := ne_of_some m1 ha
  have a2 := ne_of_some m2 ha
  have a3 := ne_of_some m3 ha
  simp (disch := first | assumption | (apply Ap.symm; assumption) | omega | decide | (simp only [Xd] <;> omega)) only [↓Xa, Xb, Xc, ↓reduceIte, Nat.reduceLT, Nat.reduceEqDiff, Nat.reduceBEq, Nat.reduceLeDiff, Nat.reduceAdd, Nat.reduceMul]
  refine alloc_i fun b hb => ?_
  obtain ⟨b4, hb'⟩ := upd_none.1 hb
  have b1 := ne_of_some m1 hb'
  have b2 := ne_of_some m2 hb'
  have b3 := ne_of_some m3 hb'
  simp (disch := first | assumption | (apply Ap.symm; assumption) | omega | decide | (simp only [Xd] <;> omega)) only [m1, m2, m3, add_m1, idx_IC, load_IC, fold_IntA, ↓Xa, Xb, Xc, ↓reduceIte, Nat.reduceLT, Nat.reduceEqDiff, Nat.reduceBEq, Nat.reduceLeDiff, Nat.reduceAdd, Nat.reduceMul]
  have hle : Le (M.upd p3 (some (.row T3 0 [.int .i64 (i : Int)]))) (((M.upd a (some (.row 28 0 [IntB x, IntD x]))).upd b (some (.row 28 0 [.bool false, .seq 0 [] true]))).upd p3 (some (.row T3 0 [.int .i64 (i : Int)]))) := (((Le.refl M).updB ha).updB hb').both
  refine hs _ _ hle ?_
  simp (disch := first | assumption | (apply Ap.symm; assumption) | omega | decide | (simp only [Xd] <;> omega)) only [cells_IntA, fold_IntA, rs198, ↓Xa, Xb, Xc, ↓reduceIte, Nat.reduceLT, Nat.reduceEqDiff, Nat.reduceBEq, Nat.reduceLeDiff, Nat.reduceAdd, Nat.reduceMul]
  exact SetR.dropTo (((Le.refl M).updB ha).updB hb').both (SetR.now hK)
theorem both_run {H : AHeap} {Q : AV → AHeap → Prop} {f : AV} {zs ws us : List Int} {t t' : Bool} {k : Nat} (hz : RB4 k zs) (hw : RB4 k ws) (hl1 : zs.length = ws.length) (hl2 : us.length = zs.length) (hbig : zs.length ≤ 1000000) (hfc : f.cells = some [f])
    (hs : ∀ i (h : i < zs.length) (M : AHeap) (K : AV → AHeap → Prop), Le H M → K (IntA (us[i]'(by omega))) M → callW Tryd.prog f [IntA (zs[i]), IntA (ws[i]'(by omega))] M K)
    (hq : ∀ y M, growC H 28 2 zs.length (IC us) y M → Q (.tup [y, .int .i64 ((0 : Nat) : Int)]) M) : Run Tryd.prog 140 [RowA zs t, RowA ws t', f] H Q := by
  have nz : zs.length < 9223372036854775808 := by have := hz.2; omega
  have nw : ws.length < 9223372036854775808 := by omega
  have hne : decide (((zs.length : Nat) : Int) = ((ws.length : Nat) : Int)) = true := decide_eq_true (by omega)
  refine enter140 (by simp) ?_
  simp (disch := first | assumption | (apply Ap.symm; assumption) | omega | decide | (simp only [Xd] <;> omega)) only [ac140, ↓Xa, Xb, Xc, ↓reduceIte, Nat.reduceLT, Nat.reduceEqDiff, Nat.reduceBEq, Nat.reduceLeDiff, Nat.reduceAdd, Nat.reduceMul]
  refine alloc_i fun p1 hp1 => ?_
  have n1 := hp1
  simp (disch := first | assumption | (apply Ap.symm; assumption) | omega | decide | (simp only [Xd] <;> omega)) only [hfc, ↓Xa, Xb, Xc, ↓reduceIte, Nat.reduceLT, Nat.reduceEqDiff, Nat.reduceBEq, Nat.reduceLeDiff, Nat.reduceAdd, Nat.reduceMul]
  refine alloc_i fun p2 hp2 => ?_
  have n2 := hp2
  simp only [upd_none] at n2
  obtain ⟨_, n2⟩ := n2
  simp (disch := first | assumption | (apply Ap.symm; assumption) | omega | decide | (simp only [Xd] <;> omega)) only [len_rw, neq_int, hne, ↓Xa, Xb, Xc, ↓reduceIte, Nat.reduceLT, Nat.reduceEqDiff, Nat.reduceBEq, Nat.reduceLeDiff, Nat.reduceAdd, Nat.reduceMul]
  refine alloc_i fun p3 hp3 => ?_
  have n3 := hp3
  simp only [upd_none] at n3
  obtain ⟨_, _, n3⟩ := n3
  simp (disch := first | assumption | (apply Ap.symm; assumption) | omega | decide | (simp only [Xd] <;> omega)) only [↓Xa, Xb, Xc, ↓reduceIte, Nat.reduceLT, Nat.reduceEqDiff, Nat.reduceBEq, Nat.reduceLeDiff, Nat.reduceAdd, Nat.reduceMul]
  let G : Nat → AHeap := fun i => ((H.upd p1 (some (.row 32 0 [RowA ws t']))).upd p2 (some (.row 178 0 [f]))).upd p3 (some (.row 3 0 [.int .i64 ((i : Int) - 1)]))
  have hG : ∀ i, G i = ((H.upd p1 (some (.row 32 0 [RowA ws t']))).upd p2 (some (.row 178 0 [f]))).upd p3 (some (.row 3 0 [.int .i64 ((i : Int) - 1)])) := fun _ => rfl
  refine run_call (each_run hz hl2 hbig G (by rw [hG]; rfl) (fun i b => by rw [hG]; simp only [upd_none]) (fun i h M K hM hK => ?_) fun y M hg => ?_)
  · have m1 : M p1 = some (.row 32 0 [RowA ws t']) := hM _ _ (by rw [hG, upd_other _ _ (by apply Ne.symm; assumption), upd_other _ _ (by apply Ne.symm; assumption), upd_same])
    have m2 : M p2 = some (.row 178 0 [f]) := hM _ _ (by rw [hG, upd_other _ _ (by apply Ne.symm; assumption), upd_same])
    have m3 : M p3 = some (.row 3 0 [.int .i64 ((i : Int) - 1)]) := hM _ _ (by rw [hG, upd_same])
    have hMH : Le H (M.upd p3 (some (.row 3 0 [.int .i64 (i : Int)]))) := fun o x ho => by
      have e : o ≠ p3 := by rintro rfl; rw [n3] at ho; cases ho
      rw [upd_other _ _ e]
      refine hM o x ?_
      have e1 : o ≠ p1 := by rintro rfl; rw [n1] at ho; cases ho
      have e2 : o ≠ p2 := by rintro rfl; rw [n2] at ho; cases ho
      rw [hG, upd_other _ _ e, upd_other _ _ e2, upd_other _ _ e1]; exact ho
    refine callW_fn (both1_run m1 m2 m3 (by apply Ne.symm; assumption) (by apply Ne.symm; assumption) (by omega) (by omega) rfl (fun M2 K2 hM2 hK2 => hs i h M2 K2 (fun o x ho => hM2 o x (hMH o x ho)) hK2) (hK _ ?_ fun b hb _ => ?_))
    · intro o x ho
      rw [hG] at ho
      by_cases e : o = p3
      · subst e
        rw [upd_same] at ho ⊢
        rw [← ho, show (((i + 1 : Nat) : Int) - 1) = (i : Int) by omega]
      · rw [upd_other _ _ e] at ho ⊢
        refine hM o x ?_
        rw [hG, upd_other _ _ e]; exact ho
    · exact upd_other _ _ (upd_none.1 hb).1
  · have hle : Le H (G zs.length) := by rw [hG]; exact (((Le.refl H).updB n1).updB n2).updB n3
    obtain ⟨M2, hg2, hl⟩ := growC_le2 hg hle
    simp (disch := first | assumption | (apply Ap.symm; assumption) | omega | decide | (simp only [Xd] <;> omega)) only [rs140, ↓Xa, Xb, Xc, ↓reduceIte, Nat.reduceLT, Nat.reduceEqDiff, Nat.reduceBEq, Nat.reduceLeDiff, Nat.reduceAdd, Nat.reduceMul]
    exact SetR.dropTo hl (SetR.now (hq y M2 hg2))
section
variable {H : AHeap} {Q : AV → AHeap → Prop} {zs ws : List Int} {t t' : Bool} {k : Nat}
theorem zip_len {f : Int → Int → Int} (h : zs.length = ws.length) : (zipI f zs ws).length = zs.length := by simp [zipI, h]
theorem zip_at {f : Int → Int → Int} (h : zs.length = ws.length) {i : Nat} (hi : i < zs.length) (hi2 : i < (zipI f zs ws).length) : (zipI f zs ws)[i] = f (zs[i]) (ws[i]'(by omega)) := by simp [zipI]
theorem rowadd_run (hz : RB4 k zs) (hw : RB4 k ws) (hk : k ≤ 1000000) (hl : zs.length = ws.length) (hbig : zs.length ≤ 1000000) (hq : ∀ y M, growC H 28 2 zs.length (IC (zipI (· + ·) zs ws)) y M → Q (.tup [y, .int .i64 ((0 : Nat) : Int)]) M) : Run Tryd.prog 37 [RowA zs t, RowA ws t'] H Q := by
  refine enter37 (by simp) ?_
  simp (disch := first | assumption | (apply Ap.symm; assumption) | omega | decide | (simp only [Xd] <;> omega)) only [ac37, ↓Xa, Xb, Xc, ↓reduceIte, Nat.reduceLT, Nat.reduceEqDiff, Nat.reduceBEq, Nat.reduceLeDiff, Nat.reduceAdd, Nat.reduceMul]
  refine run_call (both_run hz hw hl (zip_len hl) hbig fn_cells (fun i h M K _ hK => (addi_fn (hz.at h) (by omega) (hw.at (by omega)) (by omega)).call (by rw [zip_at hl h] at hK; exact hK)) fun y M hg => ?_)
  simp (disch := first | assumption | (apply Ap.symm; assumption) | omega | decide | (simp only [Xd] <;> omega)) only [rs37, ↓Xa, Xb, Xc, ↓reduceIte, Nat.reduceLT, Nat.reduceEqDiff, Nat.reduceBEq, Nat.reduceLeDiff, Nat.reduceAdd, Nat.reduceMul]
  exact SetR.now (hq y M hg)
end
end Go.Proofs.YtanchgkiomfhhaaDoor.Fw

/- Fractions: plain numbers. -/
namespace Go.Proofs.YtanchgkiomfhhaaDoor.Fw
set_option linter.unusedSimpArgs false
set_option linter.unusedVariables false
open Go Go.Proofs.YtanchgkiomfhhaaDoor.Ma

abbrev QQ := _root_.Rat
theorem q_pos (q : QQ) : 0 < (q.den : Int) := by have := q.den_pos; omega
theorem mk_num {n : Int} {d : Nat} (hd : 0 < d) : (mkRat n d).num = n / ((Int.gcd n (d : Int) : Nat) : Int) := by
  rw [_root_.Rat.num_mkRat, if_neg (by omega), Nat.gcd_comm]; rfl
theorem mk_den {n : Int} {d : Nat} (hd : 0 < d) : (((mkRat n d).den : Nat) : Int) = (d : Int) / ((Int.gcd n (d : Int) : Nat) : Int) := by
  rw [_root_.Rat.den_mkRat, if_neg (by omega), Nat.gcd_comm]; rfl
theorem q_lt {p q : QQ} : p < q ↔ p.num * (q.den : Int) < q.num * (p.den : Int) := _root_.Rat.lt_iff p q
def cmpQ (p q : QQ) : Int := cmpI (p.num * (q.den : Int)) (q.num * (p.den : Int))
theorem Bd.oneQ (k : Nat) : Bd (k + 1) 1 := by
  unfold Bd
  have : 4294967296 ^ 1 ≤ 4294967296 ^ (k + 1) := Nat.pow_le_pow_right (by omega) (by omega)
  have e : (1 : Int).natAbs = 1 := rfl
  omega
def RB (k : Nat) (q : QQ) : Prop := Bd k q.num ∧ Bd k (q.den : Int)
theorem RB.mk {n : Int} {d k : Nat} (hn : Bd k n) (hd : Bd k (d : Int)) (h0 : 0 < d) : RB k (mkRat n d) := by
  refine ⟨?_, ?_⟩
  · rw [mk_num h0]; exact hn.ediv
  · rw [mk_den h0]; exact hd.ediv
theorem RB.mono {q : QQ} {k k' : Nat} (h : RB k q) (hk : k ≤ k') : RB k' q := ⟨h.1.mono hk, h.2.mono hk⟩
theorem RB.neg {q : QQ} {k : Nat} (h : RB k q) : RB k (-q) := ⟨h.1.neg, h.2⟩
theorem RB.add {p q : QQ} {k k' : Nat} (h : RB k p) (h' : RB k' q) : RB (k + k' + 1) (p + q) := by
  rw [_root_.Rat.add_def']
  refine RB.mk (Bd.add (h.1.mul h'.2) ?_) ?_ (Nat.mul_pos p.den_pos q.den_pos)
  · have := h'.1.mul h.2; rw [Nat.add_comm]; exact this
  · rw [Int.natCast_mul]; exact (h.2.mul h'.2).mono (by omega)
theorem RB.sub {p q : QQ} {k k' : Nat} (h : RB k p) (h' : RB k' q) : RB (k + k' + 1) (p - q) := by
  rw [_root_.Rat.sub_eq_add_neg]; exact h.add h'.neg
theorem RB.mul {p q : QQ} {k k' : Nat} (h : RB k p) (h' : RB k' q) : RB (k + k') (p * q) := by
  rw [_root_.Rat.mul_def']
  refine RB.mk (h.1.mul h'.1) ?_ (Nat.mul_pos p.den_pos q.den_pos)
  rw [Int.natCast_mul]; exact h.2.mul h'.2
theorem RB.int {z : Int} {k : Nat} (h : Bd (k + 1) z) : RB (k + 1) (z : QQ) := ⟨h, Bd.oneQ k⟩
theorem RB.less {q : QQ} {k : Nat} (h : RB k q) : Bd k ((q.den : Int) - 1) := h.2.le (by have := q_pos q; omega)
end Go.Proofs.YtanchgkiomfhhaaDoor.Fw

/- Fractions: what package ratio's functions answer. -/
namespace Go.Proofs.YtanchgkiomfhhaaDoor.Fw
set_option linter.unusedSimpArgs false
set_option linter.unusedVariables false
open Go Go.Proofs.YtanchgkiomfhhaaDoor.Ma
set_option maxRecDepth 20000

def RawR (a b : Int) : AV := .agg [IntB a, IntD a, IntB b, IntD b]
def RatA (q : QQ) : AV := RawR q.num ((q.den : Int) - 1)
def RatE (q : QQ) (e : Nat) : AV := .tup [RatA q, .int .i64 ((e : Nat) : Int)]
end Go.Proofs.YtanchgkiomfhhaaDoor.Fw

/- Fractions: what the laws' own helpers answer. -/
namespace Go.Proofs.YtanchgkiomfhhaaDoor.Fw
set_option linter.unusedSimpArgs false
set_option linter.unusedVariables false
open Go Go.Proofs.YtanchgkiomfhhaaDoor.Ma
set_option maxRecDepth 20000

def qText (q : QQ) : List UInt8 := iText q.num ++ (if q.den = 1 then [] else 47 :: iText (q.den : Int))
theorem iText_len {x : Int} {k : Nat} (h : Bd k x) : (iText x).length ≤ 10 * k + 2 := by
  have := decT_bd h
  unfold iText; split <;> simp <;> omega
def FracA (q : List UInt8 × List UInt8) : AV := .agg [Sx q.1, Sx q.2]
def FracC (l : List (List UInt8 × List UInt8)) : List AV := l.flatMap fun q => [Sx q.1, Sx q.2]
def lngF (q : List UInt8 × List UInt8) : Bool := decide (300 < q.1.length) || decide (300 < q.2.length)
theorem geq_int {k : IntKind} {n m : Int} {K : AV → Prop} : binW .geq (.int k n) (.int k m) K ↔ K (.bool (decide (m ≤ n))) := by simp [binW, binInt]
end Go.Proofs.YtanchgkiomfhhaaDoor.Fw

/- The looked-up code of one function, and that it is: by a program (wip/tools/ac.py); Lean checks it. -/
namespace Go.Proofs.YtanchgkiomfhhaaDoor.Fw
open Go
set_option maxRecDepth 100000
end Go.Proofs.YtanchgkiomfhhaaDoor.Fw

/- The looked-up code of one function, and that it is: by a program (wip/tools/ac.py); Lean checks it. -/
namespace Go.Proofs.YtanchgkiomfhhaaDoor.Fw
open Go
set_option maxRecDepth 100000
end Go.Proofs.YtanchgkiomfhhaaDoor.Fw

/- The looked-up code of one function, and that it is: by a program (wip/tools/ac.py); Lean checks it. -/
namespace Go.Proofs.YtanchgkiomfhhaaDoor.Fw
open Go
set_option maxRecDepth 100000
def ac5 : ACode := (.seq (.reg [⟨(some 6), none, (.mov (.k (.bool false)))⟩] [0, 1, 2]) (.seq (.seq (.reg [⟨(some 15), none, (.call (.k (.fn (.func 32) [] [])) [])⟩, ⟨(some 16), none, (.un .not (.t 15))⟩] [0, 1, 2, 16]) (.cond (.t 16) (.seq (.reg [⟨(some 6), none, (.mov (.k (.bool false)))⟩] [6]) .ret) .skip)) (.seq (.seq (.reg [⟨(some 17), none, (.mov (.t 2))⟩, ⟨(some 18), none, (.len false (.t 17))⟩, ⟨(some 19), none, (.bin .gtr (.t 18) (.k (.int .i64 ((5000 : Nat) : Int))))⟩] [0, 1, 2, 19]) (.cond (.t 19) (.seq (.reg [⟨(some 6), none, (.mov (.k (.bool true)))⟩] [6]) .ret) .skip)) (.seq (.reg [⟨(some 21), none, (.mov (.t 0))⟩, ⟨(some 22), none, (.call (.k (.fn (.func 52) [] [])) [(.t 21)])⟩, ⟨(some 20), none, (.mov (.t 22))⟩, ⟨(some 23), none, (.ext (.t 20) 0)⟩, ⟨(some 24), none, (.ext (.t 20) 1)⟩, ⟨(some 7), none, (.mov (.t 23))⟩, ⟨(some 8), none, (.mov (.t 24))⟩] [0, 1, 2, 7, 8]) (.seq (.reg [⟨(some 26), none, (.mov (.t 0))⟩, ⟨(some 27), none, (.mov (.t 1))⟩, ⟨(some 28), none, (.call (.k (.fn (.func 53) [] [])) [(.t 26), (.t 27)])⟩, ⟨(some 25), none, (.mov (.t 28))⟩, ⟨(some 29), none, (.ext (.t 25) 0)⟩, ⟨(some 30), none, (.ext (.t 25) 1)⟩, ⟨(some 9), none, (.mov (.t 29))⟩, ⟨(some 10), none, (.mov (.t 30))⟩] [0, 1, 2, 7, 8, 9, 10]) (.seq (.reg [⟨(some 31), none, (.mov (.t 2))⟩, ⟨(some 32), none, (.call (.k (.fn (.func 54) [] [])) [(.t 31)])⟩, ⟨(some 11), none, (.mov (.t 32))⟩] [0, 1, 2, 7, 8, 9, 10, 11]) (.seq (.seq (.reg [⟨(some 33), none, (.mov (.t 11))⟩, ⟨(some 34), none, (.len false (.t 33))⟩, ⟨(some 35), none, (.mov (.t 2))⟩, ⟨(some 36), none, (.len false (.t 35))⟩, ⟨(some 37), none, (.bin .neq (.t 34) (.t 36))⟩] [0, 1, 2, 7, 8, 9, 10, 11, 37]) (.cond (.t 37) (.seq (.reg [⟨(some 6), none, (.mov (.k (.bool false)))⟩] [6]) .ret) .skip)) (.seq (.seq (.reg [⟨(some 12), none, (.mov (.k (.int .i64 ((0 : Nat) : Int))))⟩] [0, 1, 2, 7, 8, 9, 10, 11, 12]) (.block 0 (.loop (.seq (.seq (.reg [⟨(some 38), none, (.mov (.t 12))⟩, ⟨(some 39), none, (.mov (.t 2))⟩, ⟨(some 40), none, (.len false (.t 39))⟩, ⟨(some 41), none, (.bin .lss (.t 38) (.t 40))⟩] [0, 1, 2, 7, 8, 9, 10, 11, 12, 41]) (.cond (.t 41) .skip (.exit 0))) (.seq (.block 1 (.seq (.reg [⟨(some 45), none, (.mov (.t 11))⟩, ⟨(some 46), none, (.mov (.t 12))⟩, ⟨(some 47), none, (.idxA 2 (.t 45) (.t 46))⟩, ⟨(some 48), none, (.load (some 2) (.t 47))⟩, ⟨(some 49), none, (.call (.k (.fn (.func 55) [] [])) [(.t 48)])⟩, ⟨(some 44), none, (.mov (.t 49))⟩, ⟨(some 50), none, (.ext (.t 44) 0)⟩, ⟨(some 51), none, (.ext (.t 44) 1)⟩, ⟨(some 13), none, (.mov (.t 50))⟩, ⟨(some 14), none, (.mov (.t 51))⟩] [0, 1, 2, 7, 8, 9, 10, 11, 12, 13, 14]) (.seq (.reg [⟨(some 52), none, (.mov (.t 13))⟩, ⟨(some 53), none, (.mov (.t 2))⟩, ⟨(some 54), none, (.mov (.t 12))⟩, ⟨(some 55), none, (.idxA 1 (.t 53) (.t 54))⟩, ⟨(some 56), none, (.load none (.t 55))⟩, ⟨(some 57), none, (.bin .neq (.t 52) (.t 56))⟩, ⟨(some 58), none, (.mov (.t 57))⟩, ⟨(some 59), (some (58, false)), (.mov (.t 14))⟩, ⟨(some 60), (some (58, false)), (.un .not (.t 59))⟩, ⟨(some 61), none, (.pick (.t 58) (.k (.bool true)) (.t 60))⟩] [0, 1, 2, 7, 8, 9, 10, 11, 12, 61]) (.cond (.t 61) (.seq (.reg [⟨(some 6), none, (.mov (.k (.bool false)))⟩] [6]) .ret) .skip)))) (.reg [⟨(some 42), none, (.mov (.t 12))⟩, ⟨(some 43), none, (.bin .add (.t 42) (.k (.int .i64 ((1 : Nat) : Int))))⟩, ⟨(some 12), none, (.mov (.t 43))⟩] [0, 1, 2, 7, 8, 9, 10, 11, 12])))))) (.seq (.seq (.reg [⟨(some 62), none, (.mov (.t 11))⟩, ⟨(some 63), none, (.len false (.t 62))⟩, ⟨(some 64), none, (.mov (.t 2))⟩, ⟨(some 65), none, (.len false (.t 64))⟩, ⟨(some 66), none, (.bin .neq (.t 63) (.t 65))⟩] [0, 1, 7, 8, 9, 10, 66]) (.cond (.t 66) (.seq (.reg [⟨(some 6), none, (.mov (.k (.bool false)))⟩] [6]) .ret) .skip)) (.seq (.seq (.reg [⟨(some 67), none, (.mov (.t 0))⟩, ⟨(some 68), none, (.bin .lss (.t 67) (.k (.int .i64 ((0 : Nat) : Int))))⟩, ⟨(some 69), none, (.mov (.t 68))⟩, ⟨(some 70), (some (69, false)), (.mov (.t 0))⟩, ⟨(some 71), (some (69, false)), (.bin .gtr (.t 70) (.k (.int .i64 ((4096 : Nat) : Int))))⟩, ⟨(some 72), none, (.pick (.t 69) (.k (.bool true)) (.t 71))⟩] [0, 1, 7, 8, 9, 10, 72]) (.cond (.t 72) (.seq (.reg [⟨(some 73), none, (.mov (.t 7))⟩, ⟨(some 74), none, (.len false (.t 73))⟩, ⟨(some 75), none, (.bin .eql (.t 74) (.k (.int .i64 ((0 : Nat) : Int))))⟩, ⟨(some 76), none, (.mov (.t 75))⟩, ⟨(some 77), (some (76, true)), (.mov (.t 8))⟩, ⟨(some 78), (some (76, true)), (.bin .eql (.t 77) (.k (.int .i64 ((2 : Nat) : Int))))⟩, ⟨(some 79), none, (.pick (.t 76) (.t 78) (.k (.bool false)))⟩, ⟨(some 80), none, (.mov (.t 79))⟩, ⟨(some 81), (some (80, true)), (.mov (.t 9))⟩, ⟨(some 82), (some (80, true)), (.len false (.t 81))⟩, ⟨(some 83), (some (80, true)), (.bin .eql (.t 82) (.k (.int .i64 ((0 : Nat) : Int))))⟩, ⟨(some 84), none, (.pick (.t 80) (.t 83) (.k (.bool false)))⟩, ⟨(some 85), none, (.mov (.t 84))⟩, ⟨(some 86), (some (85, true)), (.mov (.t 10))⟩, ⟨(some 87), (some (85, true)), (.bin .eql (.t 86) (.k (.int .i64 ((2 : Nat) : Int))))⟩, ⟨(some 88), none, (.pick (.t 85) (.t 87) (.k (.bool false)))⟩, ⟨(some 89), none, (.mov (.t 88))⟩, ⟨(some 90), (some (89, true)), (.call (.k (.fn (.func 32) [] [])) [])⟩, ⟨(some 91), none, (.pick (.t 89) (.t 90) (.k (.bool false)))⟩, ⟨(some 6), none, (.mov (.t 91))⟩] [6]) .ret) .skip)) (.seq (.seq (.reg [⟨(some 92), none, (.mov (.t 7))⟩, ⟨(some 93), none, (.len false (.t 92))⟩, ⟨(some 94), none, (.mov (.t 0))⟩, ⟨(some 95), none, (.bin .neq (.t 93) (.t 94))⟩, ⟨(some 96), none, (.mov (.t 95))⟩, ⟨(some 97), (some (96, false)), (.mov (.t 8))⟩, ⟨(some 98), (some (96, false)), (.bin .neq (.t 97) (.k (.int .i64 ((0 : Nat) : Int))))⟩, ⟨(some 99), none, (.pick (.t 96) (.k (.bool true)) (.t 98))⟩, ⟨(some 100), none, (.mov (.t 99))⟩, ⟨(some 101), (some (100, false)), (.mov (.t 7))⟩, ⟨(some 102), (some (100, false)), (.call (.k (.fn (.func 56) [] [])) [(.t 101)])⟩, ⟨(some 103), (some (100, false)), (.un .not (.t 102))⟩, ⟨(some 104), none, (.pick (.t 100) (.k (.bool true)) (.t 103))⟩] [0, 1, 9, 10, 104]) (.cond (.t 104) (.seq (.reg [⟨(some 6), none, (.mov (.k (.bool false)))⟩] [6]) .ret) .skip)) (.seq (.seq (.reg [⟨(some 105), none, (.mov (.t 1))⟩, ⟨(some 106), none, (.bin .lss (.t 105) (.k (.int .i64 ((0 : Nat) : Int))))⟩, ⟨(some 107), none, (.mov (.t 106))⟩, ⟨(some 108), (some (107, false)), (.mov (.t 1))⟩, ⟨(some 109), (some (107, false)), (.mov (.t 0))⟩, ⟨(some 110), (some (107, false)), (.bin .geq (.t 108) (.t 109))⟩, ⟨(some 111), none, (.pick (.t 107) (.k (.bool true)) (.t 110))⟩] [0, 1, 9, 10, 111]) (.cond (.t 111) (.seq (.reg [⟨(some 112), none, (.mov (.t 9))⟩, ⟨(some 113), none, (.len false (.t 112))⟩, ⟨(some 114), none, (.bin .eql (.t 113) (.k (.int .i64 ((0 : Nat) : Int))))⟩, ⟨(some 115), none, (.mov (.t 114))⟩, ⟨(some 116), (some (115, true)), (.mov (.t 10))⟩, ⟨(some 117), (some (115, true)), (.bin .eql (.t 116) (.k (.int .i64 ((5 : Nat) : Int))))⟩, ⟨(some 118), none, (.pick (.t 115) (.t 117) (.k (.bool false)))⟩, ⟨(some 119), none, (.mov (.t 118))⟩, ⟨(some 120), (some (119, true)), (.call (.k (.fn (.func 32) [] [])) [])⟩, ⟨(some 121), none, (.pick (.t 119) (.t 120) (.k (.bool false)))⟩, ⟨(some 6), none, (.mov (.t 121))⟩] [6]) .ret) .skip)) (.seq (.seq (.draw [⟨(some 122), none, (.mov (.t 9))⟩, ⟨(some 123), none, (.len false (.t 122))⟩, ⟨(some 124), none, (.mov (.t 0))⟩, ⟨(some 125), none, (.bin .neq (.t 123) (.t 124))⟩, ⟨(some 126), none, (.mov (.t 125))⟩, ⟨(some 127), (some (126, false)), (.mov (.t 10))⟩, ⟨(some 128), (some (126, false)), (.bin .neq (.t 127) (.k (.int .i64 ((0 : Nat) : Int))))⟩, ⟨(some 129), none, (.pick (.t 126) (.k (.bool true)) (.t 128))⟩, ⟨(some 130), none, (.mov (.t 129))⟩, ⟨(some 131), (some (130, false)), (.mov (.t 9))⟩, ⟨(some 132), (some (130, false)), (.mov (.t 1))⟩, ⟨(some 133), (some (130, false)), (.idxA 2 (.t 131) (.t 132))⟩, ⟨(some 134), (some (130, false)), (.load (some 2) (.t 133))⟩, ⟨(some 135), (some (130, false)), (.call (.k (.fn (.func 58) [] [])) [(.k (.int .i64 ((1 : Nat) : Int)))])⟩] [⟨(some 136), (some (130, false)), (.call (.k (.fn (.func 57) [] [])) [(.t 134), (.t 135)])⟩, ⟨(some 137), (some (130, false)), (.bin .neq (.t 136) (.k (.int .i64 ((0 : Nat) : Int))))⟩, ⟨(some 138), none, (.pick (.t 130) (.k (.bool true)) (.t 137))⟩, ⟨(some 139), none, (.mov (.t 138))⟩, ⟨(some 140), (some (139, false)), (.mov (.t 9))⟩, ⟨(some 141), (some (139, false)), (.call (.k (.fn (.func 56) [] [])) [(.t 140)])⟩, ⟨(some 142), none, (.pick (.t 139) (.k (.bool true)) (.t 141))⟩] [0, 0, 3, 0, 0, 0, 0, 0, 0, 0, 512, 0, 0, 7680] [1, 9, 142]) (.cond (.t 142) (.seq (.reg [⟨(some 6), none, (.mov (.k (.bool false)))⟩] [6]) .ret) .skip)) (.seq (.reg [⟨(some 143), none, (.mov (.t 9))⟩, ⟨(some 144), none, (.mov (.t 1))⟩, ⟨(some 145), none, (.call (.k (.fn (.func 58) [] [])) [(.k (.int .i64 ((0 : Nat) : Int)))])⟩, ⟨(some 146), none, (.idxA 2 (.t 143) (.t 144))⟩, ⟨none, none, (.store 2 (.t 146) (.t 145))⟩] [9]) (.seq (.reg [⟨(some 147), none, (.mov (.t 9))⟩, ⟨(some 148), none, (.call (.k (.fn (.func 56) [] [])) [(.t 147)])⟩, ⟨(some 6), none, (.mov (.t 148))⟩] [6]) .ret)))))))))))))))
def rs5 : List RV := [(.t 6)]
theorem co5 : compFn Go.Proofs.Tryd.prog Go.Proofs.Tryd.f5 pl5 = some (ac5, rs5) := by kernel_rfl
theorem enter5 {args : List AV} {H : AHeap} {Q : AV → AHeap → Prop} (hn : args.length ≤ 149) (h : W Go.Proofs.Tryd.prog ac5 (retN rs5 Q) ⟨[], initE args 0, H⟩) : Run Go.Proofs.Tryd.prog 5 args H Q := Run_fn2 mixed Go.Proofs.Tryd.func5 (by kernel_rfl) co5 (n := 149) (by kernel_rfl) hn h
end Go.Proofs.YtanchgkiomfhhaaDoor.Fw
