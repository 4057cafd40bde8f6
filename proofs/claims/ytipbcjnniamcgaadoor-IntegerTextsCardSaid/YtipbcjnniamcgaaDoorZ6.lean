/- The texts Yf, joined. -/
import Derived.Test.YtipbcjnniamcgaaDoorZ5
/- The laws of whole numbers' texts, as what their code computes: true. -/
namespace Go.Proofs.YtipbcjnniamcgaaDoor.Fw
set_option linter.unusedSimpArgs false
set_option linter.unusedVariables false
open Go Go.Proofs.YtipbcjnniamcgaaDoor.Ma
set_option maxRecDepth 20000

theorem isAt_of_good {m : List UInt8} (neg : Bool) (hg : Good m) (h0 : neg = true → (m.getD 0 0).toNat ≠ 48) :
    iFrom ((if neg then [45] else []) ++ m) = (if neg then 1 else 0) ∧ IsAt ((if neg then [45] else []) ++ m) ((if neg then [45] else []) ++ m).length ∧ ((if neg then [45] else []) ++ m).drop (iFrom ((if neg then [45] else []) ++ m)) = m := by
  obtain ⟨g1, g2, g3⟩ := hg
  have hpos : 0 < m.length := List.length_pos_iff.2 g1
  have dig : ∀ i, i < m.length → 48 ≤ (m.getD i 0).toNat ∧ (m.getD i 0).toNat ≤ 57 := fun i hi => by
    have := g2 _ (List.getElem_mem hi)
    rw [List.getD_eq_getElem?_getD, List.getElem?_eq_getElem hi, Option.getD_some]; exact this
  have hf : iFrom ((if neg then [45] else []) ++ m) = (if neg then 1 else 0) := by
    cases neg with
    | true => simp [iFrom]
    | false =>
      have := dig 0 hpos
      simp only [iFrom, Bool.false_eq_true, if_false, List.nil_append]
      rw [if_neg (by omega)]
  refine ⟨hf, ⟨(iFrom_le _).1, Nat.le_refl _, iBad_end _, fun j h1 h2 hb => ?_⟩, ?_⟩
  · rw [hf] at h1
    unfold iBad at hb
    rw [hf] at hb
    cases neg with
    | true =>
      simp only [if_true, List.length_append, List.length_cons, List.length_nil] at h1 h2 hb
      obtain ⟨i, rfl⟩ : ∃ i, j = i + 1 := ⟨j - 1, by omega⟩
      have e : ([45] ++ m).getD (i + 1) 0 = m.getD i 0 := by simp [List.getD_eq_getElem?_getD]
      have e1 : ([45] ++ m).getD 1 0 = m.getD 0 0 := by simp [List.getD_eq_getElem?_getD]
      have d := dig i (by omega)
      have := h0 rfl
      rw [e, e1] at hb
      rcases hb with hb | hb | ⟨hb, _⟩ | ⟨hb, _, hb2⟩
      · omega
      · omega
      · omega
      · have : i = 0 := by omega
        subst this; omega
    | false =>
      simp only [Bool.false_eq_true, if_false, List.nil_append] at h1 h2 hb
      have d := dig j h2
      rcases hb with hb | hb | ⟨hb, hb2⟩ | ⟨_, hb, _⟩
      · omega
      · omega
      · rcases g3 with g3 | g3
        · omega
        · exact g3 hb2
      · omega
  · rw [hf]; cases neg <;> simp
theorem iText_at (x : Int) : IsAt (iText x) (iText x).length ∧ (iText x).length ≠ iFrom (iText x) ∧ iVal (iText x) = x := by
  have hg := good_decT x.natAbs
  have hpos : 0 < (decT x.natAbs).length := List.length_pos_iff.2 hg.1
  have h0 : decide (x < 0) = true → ((decT x.natAbs).getD 0 0).toNat ≠ 48 := fun h hz => by
    have h := of_decide_eq_true h
    rcases hg.2.2 with g | g
    · have hd : decT x.natAbs = [48] := by
        match hm : decT x.natAbs, g with
        | [b], _ =>
          rw [hm] at hz
          have hz2 : b.toNat = 48 := by simpa using hz
          have : b = 48 := UInt8.toNat_inj.1 hz2
          rw [this]
      have := decV_decT x.natAbs
      rw [hd] at this
      have e : decV [48] = 0 := rfl
      omega
    · exact g hz
  obtain ⟨a, b, c⟩ := isAt_of_good (decide (x < 0)) hg h0
  have e : (if decide (x < 0) then [45] else []) ++ decT x.natAbs = iText x := by simp [iText]
  rw [e] at a b c
  refine ⟨b, ?_, ?_⟩
  · intro k
    have := congrArg List.length c
    rw [List.length_drop, ← k] at this
    omega
  · unfold iVal
    rw [c, decV_decT, a]
    by_cases h : x < 0 <;> simp [h, sg] <;> omega
theorem texts_law (a : Bool × List Nat × Bool) (ha : Lim 4294967296 a.2.1) (la : a.2.1.length < 9223372036854775808) : PFn Tryd.prog 5 [NumA a] (.bool true) := by
  intro H Q hq
  refine enter5 (by simp) ?_
  simp (disch := first | assumption | (apply Ap.symm; assumption) | omega | decide | (simp only [U_len, List.length_append, List.length_replicate, List.length_cons, List.length_nil, List.length_set] <;> omega) | fail) only [ac5, NumA, ↓Xa, Xb, Xc, ↓reduceIte, Nat.reduceLT, Nat.reduceEqDiff, Nat.reduceBEq, Nat.reduceLeDiff, Nat.reduceAdd, Nat.reduceMul]
  refine alloc_i fun p1 hp1 => ?_
  have n1 := hp1
  have out : ∀ {H' : AHeap}, Le H H' → SetR Q (.bool true) H' := fun h => SetR.dropTo h (SetR.now hq)
  simp (disch := first | assumption | (apply Ap.symm; assumption) | omega | decide | (simp only [U_len, List.length_append, List.length_replicate, List.length_cons, List.length_nil, List.length_set] <;> omega) | fail) only [↓Xa, Xb, Xc, ↓reduceIte, Nat.reduceLT, Nat.reduceEqDiff, Nat.reduceBEq, Nat.reduceLeDiff, Nat.reduceAdd, Nat.reduceMul]
  refine live_fn.call ?_
  simp (disch := first | assumption | (apply Ap.symm; assumption) | omega | decide | (simp only [U_len, List.length_append, List.length_replicate, List.length_cons, List.length_nil, List.length_set] <;> omega) | fail) only [rep22, ↓Xa, Xb, Xc, ↓reduceIte, Nat.reduceLT, Nat.reduceEqDiff, Nat.reduceBEq, Nat.reduceLeDiff, Nat.reduceAdd, Nat.reduceMul]
  refine (long_fn [a] true (by simp) (by simp [la])).call ?_
  by_cases hl : 60 < a.2.1.length
  · have e : ([a].any fun q => decide (60 < q.2.1.length)) = true := by simp [hl]
    rw [e]
    simp (disch := first | assumption | (apply Ap.symm; assumption) | omega | decide | (simp only [U_len, List.length_append, List.length_replicate, List.length_cons, List.length_nil, List.length_set] <;> omega) | fail) only [rs5, ↓Xa, Xb, Xc, ↓reduceIte, Nat.reduceLT, Nat.reduceEqDiff, Nat.reduceBEq, Nat.reduceLeDiff, Nat.reduceAdd, Nat.reduceMul]
    exact out ((Le.refl H).updB n1)
  have e : ([a].any fun q => decide (60 < q.2.1.length)) = false := by simpa using hl
  rw [e]
  clear e
  simp (disch := first | assumption | (apply Ap.symm; assumption) | omega | decide | (simp only [U_len, List.length_append, List.length_replicate, List.length_cons, List.length_nil, List.length_set] <;> omega) | fail) only [↓Xa, Xb, Xc, ↓reduceIte, Nat.reduceLT, Nat.reduceEqDiff, Nat.reduceBEq, Nat.reduceLeDiff, Nat.reduceAdd, Nat.reduceMul]
  refine (ofn_fn a ha (by omega)).call ?_
  have hx : Bd 60 (sg a.1 (val 4294967296 a.2.1)) := (Bd.of_val ha).mono (by omega)
  generalize sg a.1 (val 4294967296 a.2.1) = x at *
  simp (disch := first | assumption | (apply Ap.symm; assumption) | omega | decide | (simp only [U_len, List.length_append, List.length_replicate, List.length_cons, List.length_nil, List.length_set] <;> omega) | fail) only [↓Xa, Xb, Xc, ↓reduceIte, Nat.reduceLT, Nat.reduceEqDiff, Nat.reduceBEq, Nat.reduceLeDiff, Nat.reduceAdd, Nat.reduceMul]
  refine alloc_i fun p2 hp2 => ?_
  have n2 := hp2
  simp only [upd_none] at n2
  obtain ⟨_, n2⟩ := n2
  simp (disch := first | assumption | (apply Ap.symm; assumption) | omega | decide | (simp only [U_len, List.length_append, List.length_replicate, List.length_cons, List.length_nil, List.length_set] <;> omega) | fail) only [↓Xa, Xb, Xc, ↓reduceIte, Nat.reduceLT, Nat.reduceEqDiff, Nat.reduceBEq, Nat.reduceLeDiff, Nat.reduceAdd, Nat.reduceMul]
  refine alloc_i fun p3 hp3 => ?_
  have n3 := hp3
  simp only [upd_none] at n3
  obtain ⟨_, _, n3⟩ := n3
  simp (disch := first | assumption | (apply Ap.symm; assumption) | omega | decide | (simp only [U_len, List.length_append, List.length_replicate, List.length_cons, List.length_nil, List.length_set] <;> omega) | fail) only [cells_IntA, cells_RefA, fold_IntA, fold_RefA, ↓Xa, Xb, Xc, ↓reduceIte, Nat.reduceLT, Nat.reduceEqDiff, Nat.reduceBEq, Nat.reduceLeDiff, Nat.reduceAdd, Nat.reduceMul]
  refine (itext_fn hx (by omega)).call ?_
  obtain ⟨i1, i2, i3⟩ := iText_at x
  have hlen : (iText x).length ≤ 602 := by
    have := decT_bd hx
    unfold iText; split <;> simp <;> omega
  simp (disch := first | assumption | (apply Ap.symm; assumption) | omega | decide | (simp only [U_len, List.length_append, List.length_replicate, List.length_cons, List.length_nil, List.length_set] <;> omega) | fail) only [↓Xa, Xb, Xc, ↓reduceIte, Nat.reduceLT, Nat.reduceEqDiff, Nat.reduceBEq, Nat.reduceLeDiff, Nat.reduceAdd, Nat.reduceMul]
  have hr := iread_fn i1 (by omega)
  rw [iReadA, if_neg (by omega), if_neg (by omega), i3] at hr
  refine hr.call ?_
  simp (disch := first | assumption | (apply Ap.symm; assumption) | omega | decide | (simp only [U_len, List.length_append, List.length_replicate, List.length_cons, List.length_nil, List.length_set] <;> omega) | fail) only [spot, ↓Xa, Xb, Xc, ↓reduceIte, Nat.reduceLT, Nat.reduceEqDiff, Nat.reduceBEq, Nat.reduceLeDiff, Nat.reduceAdd, Nat.reduceMul]
  refine alloc_i fun p4 hp4 => ?_
  have n4 := hp4
  simp only [upd_none] at n4
  obtain ⟨_, _, _, n4⟩ := n4
  simp (disch := first | assumption | (apply Ap.symm; assumption) | omega | decide | (simp only [U_len, List.length_append, List.length_replicate, List.length_cons, List.length_nil, List.length_set] <;> omega) | fail) only [↓Xa, Xb, Xc, ↓reduceIte, Nat.reduceLT, Nat.reduceEqDiff, Nat.reduceBEq, Nat.reduceLeDiff, Nat.reduceAdd, Nat.reduceMul]
  refine alloc_i fun p5 hp5 => ?_
  have n5 := hp5
  simp only [upd_none] at n5
  obtain ⟨_, _, _, _, n5⟩ := n5
  simp (disch := first | assumption | (apply Ap.symm; assumption) | omega | decide | (simp only [U_len, List.length_append, List.length_replicate, List.length_cons, List.length_nil, List.length_set] <;> omega) | fail) only [cells_IntA, cells_RefA, fold_IntA, fold_RefA, cells_i2, ↓Xa, Xb, Xc, ↓reduceIte, Nat.reduceLT, Nat.reduceEqDiff, Nat.reduceBEq, Nat.reduceLeDiff, Nat.reduceAdd, Nat.reduceMul]
  refine (rtext_fn false hx (by omega)).call ?_
  simp (disch := first | assumption | (apply Ap.symm; assumption) | omega | decide | (simp only [U_len, List.length_append, List.length_replicate, List.length_cons, List.length_nil, List.length_set] <;> omega) | fail) only [eql_Sx, decide_true, cells_IntA, cells_RefA, fold_IntA, fold_RefA, cells_i2, ↓Xa, Xb, Xc, ↓reduceIte, Nat.reduceLT, Nat.reduceEqDiff, Nat.reduceBEq, Nat.reduceLeDiff, Nat.reduceAdd, Nat.reduceMul]
  refine (is_same false hx (by omega)).call ?_
  simp (disch := first | assumption | (apply Ap.symm; assumption) | omega | decide | (simp only [U_len, List.length_append, List.length_replicate, List.length_cons, List.length_nil, List.length_set] <;> omega) | fail) only [rs5, ↓Xa, Xb, Xc, ↓reduceIte, Nat.reduceLT, Nat.reduceEqDiff, Nat.reduceBEq, Nat.reduceLeDiff, Nat.reduceAdd, Nat.reduceMul]
  exact out ((((((Le.refl H).updB n1).updB n2).updB n3).updB n4).updB n5)
end Go.Proofs.YtipbcjnniamcgaaDoor.Fw
