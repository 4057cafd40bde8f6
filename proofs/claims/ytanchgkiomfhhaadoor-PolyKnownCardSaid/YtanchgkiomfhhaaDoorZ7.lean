/- The texts Ya Yb Yc Yd Ye Kf Kg Qn Qa Qb Al6 Al20 Ym Al10 Al11 Al12 Al13 Al14 Al18, joined. -/
import Derived.Test.YtanchgkiomfhhaaDoorZ6
/- A number's digits gone over, as package limb tells them. -/
namespace Go.Proofs.YtanchgkiomfhhaaDoor.Fw
set_option linter.unusedSimpArgs false
set_option linter.unusedVariables false
open Go Go.Proofs.YtanchgkiomfhhaaDoor.Ma
set_option maxRecDepth 20000

theorem cW_y {P : Program} {b : Nat} {args : List AV} {H : AHeap} {K : AV → AHeap → Prop} : callW P (.yld b) args H K = YieldW P b args H K := id rfl
theorem load_cS {H : AHeap} {l : List UInt8} {K : AV → Prop} : loadW H none (.cptr [Sx l]) K = K (Sx l) := by simp [loadW, cellsAt, Sx]
theorem digits1_iter {l : List UInt8} (hg : ∀ b, b ∈ l → isDig b) (hl : l.length < 4611686018427387904) : IterW Tryd.prog 191 [.cptr [Sx l]] (fun d : Nat => [.int .i64 (d : Int)]) (l.map fun b => b.toNat - 48) := by
  intro b J Jx hy A B hd h0
  refine enter191 (by simp) ?_
  simp (disch := first | assumption | (apply Ap.symm; assumption) | omega | decide | (simp only [Xd] <;> omega)) only [ac191, rng_Sx, load_cS, ↓Xa, Xb, Xc, ↓reduceIte, Nat.reduceLT, Nat.reduceEqDiff, Nat.reduceBEq, Nat.reduceLeDiff, Nat.reduceAdd, Nat.reduceMul]
  refine rng_i fun q hq => ?_
  obtain ⟨qa, qb⟩ := un_none.1 hq
  simp (disch := first | assumption | (apply Ap.symm; assumption) | omega | decide | (simp only [Xd] <;> omega)) only [↓Xa, Xb, Xc, ↓reduceIte, Nat.reduceLT, Nat.reduceEqDiff, Nat.reduceBEq, Nat.reduceLeDiff, Nat.reduceAdd, Nat.reduceMul]
  refine W_loop (fun s : Nat × AHeap => ⟨[], [(0, .yld b), (6, .ptr q 0 0)], (Un s.2 B).upd q (some (.raw (.stringIter ⟨l.toArray⟩ s.1)))⟩) (fun s => s.1 ≤ l.length ∧ Dj s.2 B ∧ s.2 q = none ∧ J ((l.map fun b => b.toNat - 48).take s.1) s.2) (fun s => l.length - s.1) (0, A) (Settle.now rfl) ⟨Nat.zero_le _, hd, qa, by simpa using h0⟩ ?_
  rintro ⟨i, A1⟩ ⟨hi, hd1, hq1, hj⟩
  dsimp only at hi hd1 hq1 hj ⊢
  by_cases h : i < l.length
  · have hdg := hg _ (List.getElem_mem h)
    have eg : l.getD i 0 = l[i] := by rw [List.getD_eq_getElem?_getD, List.getElem?_eq_getElem h, Option.getD_some]
    rw [← eg] at hdg
    unfold isDig at hdg
    have h128 : (l.getD i 0).toNat < 128 := by omega
    have hx : (l.map fun b => b.toNat - 48) = (l.map fun b => b.toNat - 48).take i ++ ((l.getD i 0).toNat - 48) :: (l.map fun b => b.toNat - 48).drop (i + 1) := by
      conv => lhs; rw [← List.take_append_drop i (l.map fun b => b.toNat - 48)]
      rw [List.drop_eq_getElem_cons (by simpa using h), List.getElem_map, eg]
    have hx2 : (l.map fun b => b.toNat - 48).take (i + 1) = (l.map fun b => b.toNat - 48).take i ++ [(l.getD i 0).toNat - 48] := by
      rw [List.take_add_one, List.getElem?_map, List.getElem?_eq_getElem h, eg]; rfl
    simp (disch := first | assumption | (apply Ap.symm; assumption) | omega | decide | (simp only [Xd] <;> omega)) only [nxt_Sl, wn_i32, cW_y, ↓Xa, Xb, Xc, ↓reduceIte, Nat.reduceLT, Nat.reduceEqDiff, Nat.reduceBEq, Nat.reduceLeDiff, Nat.reduceAdd, Nat.reduceMul]
    rw [← un_updR hq1]
    refine (hy _ _ _ A1 (B.upd q (some (.raw (.stringIter ⟨l.toArray⟩ (i + 1))))) hx (dj_updR hd1 hq1) hj).mono ?_
    rintro r H' ⟨A2, hd2, rfl, (⟨rfl, hj2⟩ | ⟨rfl, hj2⟩)⟩
    · have hq2 : A2 q = none := dj_atR hd2 (upd_same _ _ _)
      rw [un_updR hq2]
      simp (disch := first | assumption | (apply Ap.symm; assumption) | omega | decide | (simp only [Xd] <;> omega)) only [↓Xa, Xb, Xc, ↓reduceIte, Nat.reduceLT, Nat.reduceEqDiff, Nat.reduceBEq, Nat.reduceLeDiff, Nat.reduceAdd, Nat.reduceMul]
      refine Settle.keep [0, 6] ⟨(i + 1, A2), by dsimp only; omega, ⟨by dsimp only; omega, ?_, hq2, by dsimp only; rw [hx2]; exact hj2⟩, rfl⟩
      intro k
      by_cases e : k = q
      · subst e; exact .inl hq2
      · have := hd2 k
        rwa [upd_other _ _ e] at this
    · have hq2 : A2 q = none := dj_atR hd2 (upd_same _ _ _)
      have hd3 : Dj A2 B := fun k => by
        by_cases e : k = q
        · subst e; exact .inl hq2
        · have := hd2 k
          rwa [upd_other _ _ e] at this
      rw [un_updR hq2]
      simp (disch := first | assumption | (apply Ap.symm; assumption) | omega | decide | (simp only [Xd] <;> omega)) only [rs191, ↓Xa, Xb, Xc, ↓reduceIte, Nat.reduceLT, Nat.reduceEqDiff, Nat.reduceBEq, Nat.reduceLeDiff, Nat.reduceAdd, Nat.reduceMul]
      refine SetR.dropTo ((Le.refl _).upd (un_none.2 ⟨hq2, qb⟩)) (SetR.now ⟨A2, hd3, rfl, .inr hj2⟩)
  · obtain rfl : i = l.length := by omega
    simp (disch := first | assumption | (apply Ap.symm; assumption) | omega | decide | (simp only [Xd] <;> omega)) only [nxt_Sg, ↓Xa, Xb, Xc, ↓reduceIte, Nat.reduceLT, Nat.reduceEqDiff, Nat.reduceBEq, Nat.reduceLeDiff, Nat.reduceAdd, Nat.reduceMul]
    refine Settle.now ?_
    simp (disch := first | assumption | (apply Ap.symm; assumption) | omega | decide | (simp only [Xd] <;> omega)) only [rs191, ↓Xa, Xb, Xc, ↓reduceIte, Nat.reduceLT, Nat.reduceEqDiff, Nat.reduceBEq, Nat.reduceLeDiff, Nat.reduceAdd, Nat.reduceMul]
    rw [List.take_of_length_le (by simp)] at hj
    refine SetR.dropTo ((Le.refl _).upd (un_none.2 ⟨hq1, qb⟩)) (SetR.now ⟨A1, hd1, rfl, .inl hj⟩)
theorem digits_fn {l : List Nat} (t : Bool) (hl : Lim 4294967296 l) (hn : l.length ≤ 1099511627776) : PFn Tryd.prog 132 [LS l t] (.fn (.func 191) [] [.cptr [Sx (decT (val 4294967296 l))]]) := by
  intro H Q hq
  refine enter132 (by simp) ?_
  simp (disch := first | assumption | (apply Ap.symm; assumption) | omega | decide | (simp only [Xd] <;> omega)) only [ac132, ↓Xa, Xb, Xc, ↓reduceIte, Nat.reduceLT, Nat.reduceEqDiff, Nat.reduceBEq, Nat.reduceLeDiff, Nat.reduceAdd, Nat.reduceMul]
  refine (text_fn t hl hn).call ?_
  simp (disch := first | assumption | (apply Ap.symm; assumption) | omega | decide | (simp only [Xd] <;> omega)) only [↓Xa, Xb, Xc, ↓reduceIte, Nat.reduceLT, Nat.reduceEqDiff, Nat.reduceBEq, Nat.reduceLeDiff, Nat.reduceAdd, Nat.reduceMul]
  refine alloc_i fun p1 hp1 => ?_
  have n1 := hp1
  simp (disch := first | assumption | (apply Ap.symm; assumption) | omega | decide | (simp only [Xd] <;> omega)) only [cells_Sx, rs132, ↓Xa, Xb, Xc, ↓reduceIte, Nat.reduceLT, Nat.reduceEqDiff, Nat.reduceBEq, Nat.reduceLeDiff, Nat.reduceAdd, Nat.reduceMul]
  refine SetR.frzP p1 (upd_same _ _ _) ?_
  rw [upd_upd, upd_back _ n1]
  simp [frzP, frzP1]
  exact SetR.now hq
end Go.Proofs.YtanchgkiomfhhaaDoor.Fw

/- A whole number's text, as package integer tells it. -/
namespace Go.Proofs.YtanchgkiomfhhaaDoor.Fw
set_option linter.unusedSimpArgs false
set_option linter.unusedVariables false
open Go Go.Proofs.YtanchgkiomfhhaaDoor.Ma
set_option maxRecDepth 20000

def iText (z : Int) : List UInt8 := (if z < 0 then [45] else []) ++ decT z.natAbs
theorem Bt_app (l m : List UInt8) : Bt (l ++ m) = Bt l ++ Bt m := by simp [Bt]
theorem Bt_one {n : Nat} (h : n < 256) : [AV.int .u8 (n : Int)] = Bt [UInt8.ofNat n] := by
  simp only [Bt, List.map_cons, List.map_nil]
  rw [UInt8.toNat_ofNat', Nat.mod_eq_of_lt (by omega)]
theorem decT_len {n k : Nat} (h : n < 10 ^ k) (hk : 0 < k) : (decT n).length ≤ k := by
  unfold decT; split
  · simp; omega
  · exact dec_len h
theorem decT_bd {x : Int} {k : Nat} (hx : Bd k x) : (decT x.natAbs).length ≤ 10 * k + 1 := by
  refine decT_len (Nat.lt_of_lt_of_le hx ?_) (by omega)
  calc 4294967296 ^ k ≤ (10 ^ 10) ^ k := Nat.pow_le_pow_left (by omega) k
    _ = 10 ^ (10 * k) := by rw [Nat.pow_mul]
    _ ≤ 10 ^ (10 * k + 1) := Nat.pow_le_pow_right (by omega) (by omega)
theorem wn_u8' {n : Nat} (h : n < 256) : IntKind.u8.wrap (n : Int) = (n : Int) := by
  unfold IntKind.wrap; simp only [IntKind.bits, IntKind.signed, Bool.false_and, Bool.false_eq_true, if_false]; omega
theorem isDig_chr {b : UInt8} (h : isDig b) : UInt8.ofNat (48 + (b.toNat - 48)) = b := by
  unfold isDig at h
  rw [show 48 + (b.toNat - 48) = b.toNat by omega]; exact UInt8.ofNat_toNat
theorem b2s_B {H0 H : AHeap} {p tb ty : Nat} {l : List UInt8} (h : growB H0 p tb ty 1 l.length (Bt l) H) : ∃ x, H p = some (.row tb 0 [x]) ∧ AV.cells x = some [x] ∧ ∀ H' K, Le H H' → K (Sx l) → b2sW H' x K := by
  obtain ⟨x, hx, hc, _⟩ := growB_get h
  refine ⟨x, hx, ?_, ?_⟩
  · rcases hc with ⟨rfl, _, _⟩ | ⟨_, _, b, rfl, _⟩ <;> rfl
  · intro H' K hle k
    rcases hc with ⟨rfl, h0, hc⟩ | ⟨hn, hl, b, rfl, hb⟩
    · have : l = [] := List.eq_nil_of_length_eq_zero h0
      subst this
      exact ⟨rfl, k⟩
    · rw [Nat.mul_one, b2s_own, hle _ _ hb]
      refine ⟨by simp [Bt_len], rfl, by omega, ?_⟩
      rw [List.drop_zero, List.take_of_length_le (by simp [Bt_len]), bytesOf_Bt]
      exact k
def chD (d : Nat) : UInt8 := UInt8.ofNat (48 + d)
theorem chD_back : ∀ {l : List UInt8}, (∀ b, b ∈ l → isDig b) → (l.map fun b => b.toNat - 48).map chD = l := by
  intro l h
  rw [List.map_map]
  conv => rhs; rw [← List.map_id l]
  exact List.map_congr_left fun b hb => isDig_chr (h b hb)
theorem itext_fn {x : Int} {k : Nat} (hx : Bd k x) (hk : k ≤ 1000000) : PFn Tryd.prog 28 [IntA x] (Sx (iText x)) := by
  intro H Q hq
  have hdl := hx.len
  have hdt := decT_bd hx
  have hgd := good_decT x.natAbs
  refine enter28 (by simp) ?_
  simp (disch := first | assumption | (apply Ap.symm; assumption) | omega | decide | (simp only [Xd] <;> omega)) only [ac28, IntA, ↓Xa, Xb, Xc, ↓reduceIte, Nat.reduceLT, Nat.reduceEqDiff, Nat.reduceBEq, Nat.reduceLeDiff, Nat.reduceAdd, Nat.reduceMul]
  refine alloc_i fun p1 hp1 => ?_
  have n1 := hp1
  simp (disch := first | assumption | (apply Ap.symm; assumption) | omega | decide | (simp only [Xd] <;> omega)) only [↓Xa, Xb, Xc, ↓reduceIte, Nat.reduceLT, Nat.reduceEqDiff, Nat.reduceBEq, Nat.reduceLeDiff, Nat.reduceAdd, Nat.reduceMul]
  refine alloc_i fun p2 hp2 => ?_
  have n2 := hp2
  simp only [upd_none] at n2
  obtain ⟨_, n2⟩ := n2
  obtain ⟨neg, hneg⟩ : ∃ b, b = decide (x < 0) := ⟨_, rfl⟩
  rw [← hneg] at hp2 ⊢
  have tail : ∀ (pre : List UInt8) (H2 : AHeap) (v : Env), (v = [] ∨ v = [(6, .bool false)]) → pre.length ≤ 1 → pre ++ decT x.natAbs = iText x → growB (H.upd p1 (some (.row 28 0 [.bool neg, LS (digs 4294967296 x.natAbs) true]))) p2 103 5 1 pre.length (Bt pre) H2 →
      W Tryd.prog (sndC (sndC (sndC ac28))) (retN rs28 Q) ⟨[], [(1, .ptr p1 2 0), (2, Sx []), (3, .ptr p2 1 0)] ++ v, H2⟩ := by
    intro pre H2 v hv hp1 hpre hg
    have h1 : H2 p1 = some (.row 28 0 [.bool neg, LS (digs 4294967296 x.natAbs) true]) := by
      obtain ⟨_, _, _, hle⟩ := growB_get hg
      exact hle _ _ (upd_same _ _ _)
    rcases hv with rfl | rfl
    all_goals
     simp (disch := first | assumption | (apply Ap.symm; assumption) | omega | decide | (simp only [Xd] <;> omega)) only [sndC, ac28, h1, ↓Xa, Xb, Xc, ↓reduceIte, Nat.reduceLT, Nat.reduceEqDiff, Nat.reduceBEq, Nat.reduceLeDiff, Nat.reduceAdd, Nat.reduceMul]
     refine (digits_fn true (lim_digs (by omega) _) (by omega)).call ?_
     rw [val_digs (by omega)]
     simp (disch := first | assumption | (apply Ap.symm; assumption) | omega | decide | (simp only [Xd] <;> omega)) only [↓Xa, Xb, Xc, ↓reduceIte, Nat.reduceLT, Nat.reduceEqDiff, Nat.reduceBEq, Nat.reduceLeDiff, Nat.reduceAdd, Nat.reduceMul]
     obtain ⟨A, hd, rfl, hgA⟩ := growB_nu hg
     have hle : Le H (H.upd p1 (some (.row 28 0 [.bool neg, LS (digs 4294967296 x.natAbs) true]))) := (Le.refl H).upd n1
     refine rfn_iter (digits1_iter (fun b hb => hgd.2.1 b hb) (by omega)) (fun _ => rfl) (fun ds A => growB nilH p2 103 5 1 (pre ++ ds.map chD).length (Bt (pre ++ ds.map chD)) A) (fun _ _ => False) A _ hd rfl (by simpa using hgA) ?_ ?_ (fun _ _ _ _ _ _ h => h.elim)
     · intro ds d rest A B hds hdj hj R1 k1
       have hlen := congrArg List.length hds
       have hd10 : d < 10 := by
         have : d ∈ ((decT x.natAbs).map fun b => b.toNat - 48) := by rw [hds]; simp
         obtain ⟨b, hb, rfl⟩ := List.mem_map.1 this
         have := hgd.2.1 b hb
         unfold isDig at this; omega
       simp (disch := first | assumption | (apply Ap.symm; assumption) | omega | decide | (simp only [Xd] <;> omega)) only [setps, ↓Xa, Xb, Xc, ↓reduceIte, Nat.reduceLT, Nat.reduceEqDiff, Nat.reduceBEq, Nat.reduceLeDiff, Nat.reduceAdd, Nat.reduceMul]
       refine k1 _ A hdj fun R2 B1 k2 hd1 => ?_
       obtain ⟨y, hy, happ⟩ := growB_app (m := 1) (bytes := 1) (growB_un hj hd1)
       have e1 : IntKind.i64.wrap ((48 : Nat) + (d : Int)) = ((48 + d : Nat) : Int) := by rw [← Int.natCast_add]; exact wn_i64 (by omega)
       simp (disch := first | assumption | (apply Ap.symm; assumption) | omega | decide | (simp only [Xd] <;> omega)) only [hy, wn_u8', ↓Xa, Xb, Xc, ↓reduceIte, Nat.reduceLT, Nat.reduceEqDiff, Nat.reduceBEq, Nat.reduceLeDiff, Nat.reduceAdd, Nat.reduceMul]
       refine happ rfl rfl (by omega) ?_ ?_ fun x' H' hp hc hg2 => ?_
       · simp at hlen ⊢; omega
       · simp at hlen ⊢; omega
       simp (disch := first | assumption | (apply Ap.symm; assumption) | omega | decide | (simp only [Xd] <;> omega)) only [hp, hc, ↓Xa, Xb, Xc, ↓reduceIte, Nat.reduceLT, Nat.reduceEqDiff, Nat.reduceBEq, Nat.reduceLeDiff, Nat.reduceAdd, Nat.reduceMul]
       refine k2 .normal _ (Settle.now (growB_nu ?_))
       have e : pre ++ (ds ++ [d]).map chD = (pre ++ ds.map chD) ++ [chD d] := by simp
       dsimp only
       rw [e, List.length_append, Bt_app, show Bt [chD d] = [AV.int .u8 ((48 + d : Nat) : Int)] from (Bt_one (by omega)).symm]
       exact hg2
     · intro d A' hdj hA hB hj
       rw [chD_back hgd.2.1, hpre] at hj
       have hj2 := growB_un hj hdj
       obtain ⟨y, hy, hyc, hb2⟩ := b2s_B hj2
       obtain ⟨_, _, _, hle2⟩ := growB_get hj2
       have hdn := un_none.2 ⟨hA, hB⟩
       have hy2 : ((Un A' (H.upd p1 (some (.row 28 0 [.bool neg, LS (digs 4294967296 x.natAbs) true])))).upd d (some (.raw (.deferred (some []))))) p2 = some (.row 103 0 [y]) := by
         rw [upd_other _ _ (by rintro rfl; rw [hdn] at hy; cases hy)]; exact hy
       simp (disch := first | assumption | (apply Ap.symm; assumption) | omega | decide | (simp only [Xd] <;> omega)) only [hy2, ↓Xa, Xb, Xc, ↓reduceIte, Nat.reduceLT, Nat.reduceEqDiff, Nat.reduceBEq, Nat.reduceLeDiff, Nat.reduceAdd, Nat.reduceMul]
       refine hb2 _ _ ((Le.refl _).upd hdn) ?_
       simp (disch := first | assumption | (apply Ap.symm; assumption) | omega | decide | (simp only [Xd] <;> omega)) only [rs28, ↓Xa, Xb, Xc, ↓reduceIte, Nat.reduceLT, Nat.reduceEqDiff, Nat.reduceBEq, Nat.reduceLeDiff, Nat.reduceAdd, Nat.reduceMul]
       rw [upd_back _ hdn]
       exact SetR.dropTo (fun b x hb => hle2 _ _ (hle _ _ hb)) (SetR.now hq)
  have g0 := growB_nil (H0 := H.upd p1 (some (.row 28 0 [.bool neg, LS (digs 4294967296 x.natAbs) true]))) (tb := 103) (ty := 5) (es := 1) hp2
  cases neg with
  | true =>
    simp (disch := first | assumption | (apply Ap.symm; assumption) | omega | decide | (simp only [Xd] <;> omega)) only [↓Xa, Xb, Xc, ↓reduceIte, Nat.reduceLT, Nat.reduceEqDiff, Nat.reduceBEq, Nat.reduceLeDiff, Nat.reduceAdd, Nat.reduceMul]
    obtain ⟨y, hy, happ⟩ := growB_app (m := 1) (bytes := 1) g0
    obtain rfl : y = .seq 0 [] true := by rw [upd_same] at hy; injection hy with hy; injection hy with _ _ hy; injection hy with hy; exact hy.symm
    refine happ (by rfl) (by rfl) (by omega) (by omega) (by omega) fun x' H' hp hc hg2 => ?_
    simp (disch := first | assumption | (apply Ap.symm; assumption) | omega | decide | (simp only [Xd] <;> omega)) only [hp, hc, ↓Xa, Xb, Xc, ↓reduceIte, Nat.reduceLT, Nat.reduceEqDiff, Nat.reduceBEq, Nat.reduceLeDiff, Nat.reduceAdd, Nat.reduceMul]
    have tl := tail [45] _ [] (.inl rfl) (by simp) (by simp [iText, of_decide_eq_true hneg.symm]) hg2
    simp (disch := first | assumption | (apply Ap.symm; assumption) | omega | decide | (simp only [Xd] <;> omega)) only [sndC, ac28, ↓Xa, Xb, Xc, ↓reduceIte, Nat.reduceLT, Nat.reduceEqDiff, Nat.reduceBEq, Nat.reduceLeDiff, Nat.reduceAdd, Nat.reduceMul] at tl
    exact tl
  | false =>
    have tl := tail [] _ _ (.inr rfl) (by simp) (by simp [iText, of_decide_eq_false hneg.symm]) g0
    simp (disch := first | assumption | (apply Ap.symm; assumption) | omega | decide | (simp only [Xd] <;> omega)) only [sndC, ac28, ↓Xa, Xb, Xc, ↓reduceIte, Nat.reduceLT, Nat.reduceEqDiff, Nat.reduceBEq, Nat.reduceLeDiff, Nat.reduceAdd, Nat.reduceMul] at tl
    simp (disch := first | assumption | (apply Ap.symm; assumption) | omega | decide | (simp only [Xd] <;> omega)) only [↓Xa, Xb, Xc, ↓reduceIte, Nat.reduceLT, Nat.reduceEqDiff, Nat.reduceBEq, Nat.reduceLeDiff, Nat.reduceAdd, Nat.reduceMul]
    exact tl
end Go.Proofs.YtanchgkiomfhhaaDoor.Fw

/- A whole number's text read, as package integer and as its reference read it. -/
namespace Go.Proofs.YtanchgkiomfhhaaDoor.Fw
set_option linter.unusedSimpArgs false
set_option linter.unusedVariables false
open Go Go.Proofs.YtanchgkiomfhhaaDoor.Ma
set_option maxRecDepth 20000

def iFrom (l : List UInt8) : Nat := if (l.getD 0 0).toNat = 45 then 1 else 0
def iBad (l : List UInt8) (i : Nat) : Prop := (l.getD i 0).toNat < 48 ∨ 57 < (l.getD i 0).toNat ∨ (i = iFrom l + 1 ∧ (l.getD (iFrom l) 0).toNat = 48) ∨ (i = iFrom l ∧ iFrom l = 1 ∧ (l.getD i 0).toNat = 48)
def IsAt (l : List UInt8) (p : Nat) : Prop := iFrom l ≤ p ∧ p ≤ l.length ∧ iBad l p ∧ ∀ j, iFrom l ≤ j → j < p → ¬ iBad l j
theorem get_beyond {l : List UInt8} {i : Nat} (h : l.length ≤ i) : l.getD i 0 = 0 := by
  rw [List.getD_eq_getElem?_getD, List.getElem?_eq_none h]; rfl
theorem iBad_end (l : List UInt8) : iBad l l.length := .inl (by rw [get_beyond (Nat.le_refl _)]; decide)
theorem iFrom_le (l : List UInt8) : iFrom l ≤ l.length ∧ iFrom l ≤ 1 := by
  unfold iFrom; split
  · rename_i h
    cases l with
    | nil => simp at h
    | cons x l => simp
  · simp
theorem first_of {P : Nat → Prop} (lo : Nat) : ∀ n, (∃ p, lo ≤ p ∧ p < lo + n ∧ P p ∧ ∀ j, lo ≤ j → j < p → ¬ P j) ∨ ∀ j, lo ≤ j → j < lo + n → ¬ P j
  | 0 => .inr fun j h1 h2 => by omega
  | n + 1 => by
    rcases first_of (P := P) lo n with ⟨p, a, b, c, d⟩ | h
    · exact .inl ⟨p, a, by omega, c, d⟩
    · by_cases hp : P (lo + n)
      · exact .inl ⟨lo + n, by omega, by omega, hp, h⟩
      · refine .inr fun j h1 h2 => ?_
        by_cases e : j = lo + n
        · rw [e]; exact hp
        · exact h j h1 (by omega)
theorem isAt_ex (l : List UInt8) : ∃ p, IsAt l p := by
  have h0 := (iFrom_le l).1
  rcases first_of (P := iBad l) (iFrom l) (l.length - iFrom l) with ⟨p, a, b, c, d⟩ | h
  · exact ⟨p, a, by omega, c, d⟩
  · exact ⟨l.length, h0, Nat.le_refl _, iBad_end l, fun j h1 h2 => h j h1 (by omega)⟩
theorem isAt_fn {l : List UInt8} {p q : Nat} (h : IsAt l p) (h' : IsAt l q) : p = q := by
  obtain ⟨a, b, c, d⟩ := h
  obtain ⟨a', b', c', d'⟩ := h'
  rcases Nat.lt_trichotomy p q with e | e | e
  · exact absurd c (d' p a e)
  · exact e
  · exact absurd c' (d q a' e)
def iVal (l : List UInt8) : Int := sg (decide (iFrom l = 1)) (decV (l.drop (iFrom l)))
theorem isAt_good {l : List UInt8} (h : IsAt l l.length) (hn : l.length ≠ iFrom l) : Good (l.drop (iFrom l)) := by
  have hf := (iFrom_le l).1
  obtain ⟨a, b, c, d⟩ := h
  refine good_of (by intro e; have := congrArg List.length e; simp at this; omega) fun i hi hb => ?_
  have hi' : iFrom l + i < l.length := by simp at hi; omega
  have e : (l.drop (iFrom l)).getD i 0 = l.getD (iFrom l + i) 0 := by simp [List.getD_eq_getElem?_getD]
  have e0 : (l.drop (iFrom l)).getD 0 0 = l.getD (iFrom l) 0 := by simp [List.getD_eq_getElem?_getD]
  unfold badAt at hb
  rw [e, e0] at hb
  rcases hb with hb | hb | ⟨hb, hb2⟩
  · exact d (iFrom l + i) (by omega) hi' (.inl hb)
  · exact d (iFrom l + i) (by omega) hi' (.inr (.inl hb))
  · exact d (iFrom l + 1) (by omega) (by omega) (.inr (.inr (.inl ⟨rfl, hb2⟩)))
def iReadA (l : List UInt8) (p : Nat) : AV :=
  if 65536 < l.length then .tup [IntA 0, spot 3 65536] else if p = iFrom l ∨ p < l.length then .tup [IntA 0, spot 6 p] else .tup [IntA (iVal l), spot 0 0]
theorem iread_fn {l : List UInt8} {p : Nat} (hp : IsAt l p) (hsz' : l.length < 9223372036854775808) : PFn Tryd.prog 167 [Sx l] (iReadA l p) := by
  intro H Q hq
  refine enter167 (by simp) ?_
  simp (disch := first | assumption | (apply Ap.symm; assumption) | omega | decide | (simp only [Xd] <;> omega)) only [ac167, ↓Xa, Xb, Xc, ↓reduceIte, Nat.reduceLT, Nat.reduceEqDiff, Nat.reduceBEq, Nat.reduceLeDiff, Nat.reduceAdd, Nat.reduceMul]
  refine alloc_i fun p1 hp1 => ?_
  have n1 := hp1
  simp (disch := first | assumption | (apply Ap.symm; assumption) | omega | decide | (simp only [Xd] <;> omega)) only [↓Xa, Xb, Xc, ↓reduceIte, Nat.reduceLT, Nat.reduceEqDiff, Nat.reduceBEq, Nat.reduceLeDiff, Nat.reduceAdd, Nat.reduceMul]
  refine alloc_i fun p2 hp2 => ?_
  have n2 := hp2
  simp only [upd_none] at n2
  obtain ⟨_, n2⟩ := n2
  have drop : ∀ {x y : ABlk} {r}, SetR Q r H → SetR Q r ((H.upd p1 (some x)).upd p2 (some y)) := fun h => SetR.dropTo (((Le.refl H).upd n1).updB n2) h
  by_cases h1 : 65536 < l.length
  · rw [iReadA, if_pos h1, ← IntA_0] at hq
    simp (disch := first | assumption | (apply Ap.symm; assumption) | omega | decide | (simp only [Xd] <;> omega)) only [len_Sx, h1, cells_i2, rs167, ↓Xa, Xb, Xc, ↓reduceIte, Nat.reduceLT, Nat.reduceEqDiff, Nat.reduceBEq, Nat.reduceLeDiff, Nat.reduceAdd, Nat.reduceMul]
    exact drop (SetR.now hq)
  rw [iReadA, if_neg h1] at hq
  have hsz : l.length < 9223372036854775807 := by omega
  obtain ⟨hf1, hf2⟩ := iFrom_le l
  have err : (p = iFrom l ∨ p < l.length) → ∀ {x y : ABlk}, SetR Q (.tup [.agg [.bool false, .seq 0 [] true], .agg [.int .i64 ((6 : Nat) : Int), .int .i64 (p : Int)]]) ((H.upd p1 (some x)).upd p2 (some y)) := fun h => by
    rw [if_pos h, ← IntA_0] at hq
    exact drop (SetR.now hq)
  have rest : ∀ {E : Env} {x y : ABlk}, E = [(0, Sx l), (2, .ptr p1 2 0), (3, .ptr p2 2 0), (4, .int .i64 (p : Int)), (5, .int .i64 (iFrom l : Int))] → x = .row 28 0 [.bool false, .seq 0 [] true] → y = .row 105 0 [.int .i64 ((0 : Nat) : Int), .int .i64 ((0 : Nat) : Int)] →
      W Tryd.prog (sndC (sndC (sndC (sndC (sndC (sndC ac167)))))) (retN rs167 Q) ⟨[], E, (H.upd p1 (some x)).upd p2 (some y)⟩ := by
    intro E x y hE hx hy
    subst hE hx hy
    by_cases e1 : p = iFrom l
    · simp (disch := first | assumption | (apply Ap.symm; assumption) | omega | decide | (simp only [Xd] <;> omega)) only [sndC, ac167, e1, cells_i2, rs167, ↓Xa, Xb, Xc, ↓reduceIte, Nat.reduceLT, Nat.reduceEqDiff, Nat.reduceBEq, Nat.reduceLeDiff, Nat.reduceAdd, Nat.reduceMul]
      rw [← e1]; exact err (.inl e1)
    by_cases e2 : p < l.length
    · simp (disch := first | assumption | (apply Ap.symm; assumption) | omega | decide | (simp only [Xd] <;> omega)) only [sndC, ac167, e1, e2, len_Sx, cells_i2, rs167, ↓Xa, Xb, Xc, ↓reduceIte, Nat.reduceLT, Nat.reduceEqDiff, Nat.reduceBEq, Nat.reduceLeDiff, Nat.reduceAdd, Nat.reduceMul]
      exact err (.inr e2)
    have hpl : p = l.length := by have := hp.2.1; omega
    rw [if_neg (by omega)] at hq
    have hg := isAt_good (hpl ▸ hp) (by omega)
    simp (disch := first | assumption | (apply Ap.symm; assumption) | omega | decide | (simp only [Xd] <;> omega)) only [sndC, ac167, e1, e2, len_Sx, slc_SxL, ↓Xa, Xb, Xc, ↓reduceIte, Nat.reduceLT, Nat.reduceEqDiff, Nat.reduceBEq, Nat.reduceLeDiff, Nat.reduceAdd, Nat.reduceMul]
    refine (read_fn (r := .tup [LS (Ma.digs 4294967296 (decV (l.drop (iFrom l)))) true, spot 0 0]) (.inr (.inr (.inr ⟨by simp; omega, hg, rfl⟩))) (by simp; omega)).call ?_
    simp (disch := first | assumption | (apply Ap.symm; assumption) | omega | decide | (simp only [Xd] <;> omega)) only [spot, ↓Xa, Xb, Xc, ↓reduceIte, Nat.reduceLT, Nat.reduceEqDiff, Nat.reduceBEq, Nat.reduceLeDiff, Nat.reduceAdd, Nat.reduceMul]
    refine alloc_i fun p3 hp3 => ?_
    have n3 := hp3
    simp only [upd_none] at n3
    obtain ⟨_, _, n3⟩ := n3
    simp (disch := first | assumption | (apply Ap.symm; assumption) | omega | decide | (simp only [Xd] <;> omega)) only [cells_i2, ↓Xa, Xb, Xc, ↓reduceIte, Nat.reduceLT, Nat.reduceEqDiff, Nat.reduceBEq, Nat.reduceLeDiff, Nat.reduceAdd, Nat.reduceMul]
    refine (made_fn (decide (iFrom l = 1)) _ ?_).call ?_
    · have hv : decV (l.drop (iFrom l)) < 4294967296 ^ 8192 := Nat.lt_of_lt_of_le (decV_lt fun b hb => (hg.2.1 b hb).2) (ten_bound (by simp; omega))
      have := (Nm.digs hv).len
      omega
    simp (disch := first | assumption | (apply Ap.symm; assumption) | omega | decide | (simp only [Xd] <;> omega)) only [cells_i2, cells_IntA, IntB, IntD, rs167, ↓Xa, Xb, Xc, ↓reduceIte, Nat.reduceLT, Nat.reduceEqDiff, Nat.reduceBEq, Nat.reduceLeDiff, Nat.reduceAdd, Nat.reduceMul]
    exact SetR.dropTo ((((Le.refl H).updB n1).updB n2).updB n3) (SetR.now hq)
  have tail : ∀ {E : Env}, E = [(0, Sx l), (2, .ptr p1 2 0), (3, .ptr p2 2 0), (4, .int .i64 (iFrom l : Int))] →
      W Tryd.prog (sndC (sndC (sndC (sndC ac167)))) (retN rs167 Q) ⟨[], E, (H.upd p1 (some (.row 28 0 [.bool false, .seq 0 [] true]))).upd p2 (some (.row 105 0 [.int .i64 ((0 : Nat) : Int), .int .i64 ((0 : Nat) : Int)]))⟩ := by
    intro E hE
    subst hE
    simp (disch := first | assumption | (apply Ap.symm; assumption) | omega | decide | (simp only [Xd] <;> omega)) only [sndC, ac167, ↓Xa, Xb, Xc, ↓reduceIte, Nat.reduceLT, Nat.reduceEqDiff, Nat.reduceBEq, Nat.reduceLeDiff, Nat.reduceAdd, Nat.reduceMul]
    refine W_loop (fun i : Nat => ⟨[], [(0, Sx l), (2, .ptr p1 2 0), (3, .ptr p2 2 0), (4, .int .i64 (i : Int)), (5, .int .i64 (iFrom l : Int))], (H.upd p1 (some (.row 28 0 [.bool false, .seq 0 [] true]))).upd p2 (some (.row 105 0 [.int .i64 ((0 : Nat) : Int), .int .i64 ((0 : Nat) : Int)]))⟩) (fun i => iFrom l ≤ i ∧ i ≤ l.length ∧ ∀ j, iFrom l ≤ j → j < i → ¬ iBad l j) (fun i => l.length - i) (iFrom l) (Settle.now rfl) ⟨Nat.le_refl _, hf1, fun j h1 h2 => by omega⟩ ?_
    rintro i ⟨hi1, hi2, hi3⟩
    have stop : iBad l i → i = p := fun hb => isAt_fn ⟨hi1, hi2, hb, hi3⟩ hp
    have step : ¬ iBad l i → ∀ j, iFrom l ≤ j → j < i + 1 → ¬ iBad l j := fun hb j h1 hj => by
      by_cases e : j = i
      · rw [e]; exact hb
      · exact hi3 j h1 (by omega)
    by_cases hi : i < l.length
    · by_cases c1 : 48 ≤ (l.getD i 0).toNat
      rotate_left
      · obtain rfl := stop (.inl (by omega))
        simp (disch := first | assumption | (apply Ap.symm; assumption) | omega | decide | (simp only [Xd] <;> omega)) only [hi, len_Sx, idx_Sx, c1, ↓Xa, Xb, Xc, ↓reduceIte, Nat.reduceLT, Nat.reduceEqDiff, Nat.reduceBEq, Nat.reduceLeDiff, Nat.reduceAdd, Nat.reduceMul]
        refine Settle.keep [0, 2, 3, 4, 5] ?_
        exact rest (by rfl) rfl rfl
      by_cases c2 : (l.getD i 0).toNat ≤ 57
      rotate_left
      · obtain rfl := stop (.inr (.inl (by omega)))
        simp (disch := first | assumption | (apply Ap.symm; assumption) | omega | decide | (simp only [Xd] <;> omega)) only [hi, len_Sx, idx_Sx, c1, c2, ↓Xa, Xb, Xc, ↓reduceIte, Nat.reduceLT, Nat.reduceEqDiff, Nat.reduceBEq, Nat.reduceLeDiff, Nat.reduceAdd, Nat.reduceMul]
        refine Settle.keep [0, 2, 3, 4, 5] ?_
        exact rest (by rfl) rfl rfl
      by_cases c3 : i = iFrom l + 1
      · have hfl : iFrom l < l.length := by omega
        subst c3
        by_cases c4 : (l.getD (iFrom l) 0).toNat = 48
        · have hip := stop (.inr (.inr (.inl ⟨rfl, c4⟩)))
          have rr := @rest
          rw [← hip] at rr
          simp (disch := first | assumption | (apply Ap.symm; assumption) | omega | decide | (simp only [Xd] <;> omega)) only [hi, len_Sx, idx_Sx, c1, c2, c4, ↓Xa, Xb, Xc, ↓reduceIte, Nat.reduceLT, Nat.reduceEqDiff, Nat.reduceBEq, Nat.reduceLeDiff, Nat.reduceAdd, Nat.reduceMul]
          refine Settle.keep [0, 2, 3, 4, 5] ?_
          exact rr (by rfl) rfl rfl
        · have c5 : ¬ iFrom l + 1 = iFrom l := by omega
          have nb := step (show ¬ iBad l (iFrom l + 1) by unfold iBad; omega)
          simp (disch := first | assumption | (apply Ap.symm; assumption) | omega | decide | (simp only [Xd] <;> omega)) only [hi, len_Sx, idx_Sx, c1, c2, c4, c5, ↓Xa, Xb, Xc, ↓reduceIte, Nat.reduceLT, Nat.reduceEqDiff, Nat.reduceBEq, Nat.reduceLeDiff, Nat.reduceAdd, Nat.reduceMul]
          exact Settle.now ⟨iFrom l + 1 + 1, by omega, ⟨by omega, by omega, nb⟩, rfl⟩
      by_cases c5 : i = iFrom l
      · subst c5
        by_cases c6 : iFrom l = 1
        · by_cases c7 : (l.getD (iFrom l) 0).toNat = 48
          · have hip := stop (.inr (.inr (.inr ⟨rfl, c6, c7⟩)))
            have rr := @rest
            rw [← hip] at rr
            rw [c6] at rr hi c1 c2 c3 c7 ⊢
            simp (disch := first | assumption | (apply Ap.symm; assumption) | omega | decide | (simp only [Xd] <;> omega)) only [hi, len_Sx, idx_Sx, c1, c2, c3, c7, ↓Xa, Xb, Xc, ↓reduceIte, Nat.reduceLT, Nat.reduceEqDiff, Nat.reduceBEq, Nat.reduceLeDiff, Nat.reduceAdd, Nat.reduceMul]
            refine Settle.keep [0, 2, 3, 4, 5] ?_
            exact rr (by rfl) rfl rfl
          · have nb := step (show ¬ iBad l (iFrom l) by unfold iBad; omega)
            rw [c6] at hi c1 c2 c3 c7 nb ⊢
            simp (disch := first | assumption | (apply Ap.symm; assumption) | omega | decide | (simp only [Xd] <;> omega)) only [hi, len_Sx, idx_Sx, c1, c2, c3, c7, ↓Xa, Xb, Xc, ↓reduceIte, Nat.reduceLT, Nat.reduceEqDiff, Nat.reduceBEq, Nat.reduceLeDiff, Nat.reduceAdd, Nat.reduceMul]
            exact Settle.now ⟨1 + 1, by omega, ⟨by omega, by omega, nb⟩, rfl⟩
        · have nb := step (show ¬ iBad l (iFrom l) by unfold iBad; omega)
          simp (disch := first | assumption | (apply Ap.symm; assumption) | omega | decide | (simp only [Xd] <;> omega)) only [hi, len_Sx, idx_Sx, c1, c2, c3, c6, ↓Xa, Xb, Xc, ↓reduceIte, Nat.reduceLT, Nat.reduceEqDiff, Nat.reduceBEq, Nat.reduceLeDiff, Nat.reduceAdd, Nat.reduceMul]
          exact Settle.now ⟨iFrom l + 1, by omega, ⟨by omega, by omega, nb⟩, rfl⟩
      · have nb := step (show ¬ iBad l i by unfold iBad; omega)
        simp (disch := first | assumption | (apply Ap.symm; assumption) | omega | decide | (simp only [Xd] <;> omega)) only [hi, len_Sx, idx_Sx, c1, c2, c3, c5, ↓Xa, Xb, Xc, ↓reduceIte, Nat.reduceLT, Nat.reduceEqDiff, Nat.reduceBEq, Nat.reduceLeDiff, Nat.reduceAdd, Nat.reduceMul]
        exact Settle.now ⟨i + 1, by omega, ⟨by omega, by omega, nb⟩, rfl⟩
    · obtain rfl := stop (.inl (by rw [get_beyond (by omega)]; decide))
      simp (disch := first | assumption | (apply Ap.symm; assumption) | omega | decide | (simp only [Xd] <;> omega)) only [hi, len_Sx, ↓Xa, Xb, Xc, ↓reduceIte, Nat.reduceLT, Nat.reduceEqDiff, Nat.reduceBEq, Nat.reduceLeDiff, Nat.reduceAdd, Nat.reduceMul]
      refine Settle.keep [0, 2, 3, 4, 5] ?_
      exact rest (by rfl) rfl rfl
  have tl := @tail _ rfl
  by_cases h0 : l = []
  · have hf0 : iFrom l = 0 := by rw [h0]; rfl
    rw [hf0] at tl
    simp (disch := first | assumption | (apply Ap.symm; assumption) | omega | decide | (simp only [Xd] <;> omega)) only [sndC, ac167, ↓Xa, Xb, Xc, ↓reduceIte, Nat.reduceLT, Nat.reduceEqDiff, Nat.reduceBEq, Nat.reduceLeDiff, Nat.reduceAdd, Nat.reduceMul] at tl
    simp (disch := first | assumption | (apply Ap.symm; assumption) | omega | decide | (simp only [Xd] <;> omega)) only [len_Sx, h1, str_Sx, neq_Sx, h0, ↓Xa, Xb, Xc, ↓reduceIte, Nat.reduceLT, Nat.reduceEqDiff, Nat.reduceBEq, Nat.reduceLeDiff, Nat.reduceAdd, Nat.reduceMul]
    rw [h0] at tl
    exact tl
  have hpos : 0 < l.length := List.length_pos_iff.2 h0
  by_cases h2 : (l.getD 0 0).toNat = 45
  · have hf0 : iFrom l = 1 := by unfold iFrom; rw [if_pos h2]
    rw [hf0] at tl
    simp (disch := first | assumption | (apply Ap.symm; assumption) | omega | decide | (simp only [Xd] <;> omega)) only [sndC, ac167, ↓Xa, Xb, Xc, ↓reduceIte, Nat.reduceLT, Nat.reduceEqDiff, Nat.reduceBEq, Nat.reduceLeDiff, Nat.reduceAdd, Nat.reduceMul] at tl
    simp (disch := first | assumption | (apply Ap.symm; assumption) | omega | decide | (simp only [Xd] <;> omega)) only [len_Sx, h1, str_Sx, neq_Sx, h0, idx_Sx, h2, ↓Xa, Xb, Xc, ↓reduceIte, Nat.reduceLT, Nat.reduceEqDiff, Nat.reduceBEq, Nat.reduceLeDiff, Nat.reduceAdd, Nat.reduceMul]
    exact tl
  · have hf0 : iFrom l = 0 := by unfold iFrom; rw [if_neg h2]
    rw [hf0] at tl
    simp (disch := first | assumption | (apply Ap.symm; assumption) | omega | decide | (simp only [Xd] <;> omega)) only [sndC, ac167, ↓Xa, Xb, Xc, ↓reduceIte, Nat.reduceLT, Nat.reduceEqDiff, Nat.reduceBEq, Nat.reduceLeDiff, Nat.reduceAdd, Nat.reduceMul] at tl
    simp (disch := first | assumption | (apply Ap.symm; assumption) | omega | decide | (simp only [Xd] <;> omega)) only [len_Sx, h1, str_Sx, neq_Sx, h0, idx_Sx, h2, ↓Xa, Xb, Xc, ↓reduceIte, Nat.reduceLT, Nat.reduceEqDiff, Nat.reduceBEq, Nat.reduceLeDiff, Nat.reduceAdd, Nat.reduceMul]
    exact tl
end Go.Proofs.YtanchgkiomfhhaaDoor.Fw

/- A whole number's text, as the reference of layer 2 reads it. -/
namespace Go.Proofs.YtanchgkiomfhhaaDoor.Fw
set_option linter.unusedSimpArgs false
set_option linter.unusedVariables false
open Go Go.Proofs.YtanchgkiomfhhaaDoor.Ma
set_option maxRecDepth 20000

def rReadA (l : List UInt8) (p : Nat) : AV := if p = iFrom l ∨ p < l.length then .tup [RefA 0 true, .int .i64 (p : Int)] else .tup [RefA (iVal l) false, .int .i64 (-1)]
end Go.Proofs.YtanchgkiomfhhaaDoor.Fw

/- A whole number's text, as the reference of layer 2 tells it. -/
namespace Go.Proofs.YtanchgkiomfhhaaDoor.Fw
set_option linter.unusedSimpArgs false
set_option linter.unusedVariables false
open Go Go.Proofs.YtanchgkiomfhhaaDoor.Ma
set_option maxRecDepth 20000

def revI (i : Nat) (l : List UInt8) : List UInt8 := (List.range l.length).map fun j => if j < i ∨ l.length - i ≤ j then l.getD (l.length - 1 - j) 0 else l.getD j 0
theorem revI_len (i : Nat) (l : List UInt8) : (revI i l).length = l.length := by simp [revI]
theorem revI_zero (l : List UInt8) : revI 0 l = l := by
  refine List.ext_getElem (revI_len 0 l) fun j h1 h2 => ?_
  simp only [revI, List.getElem_map, List.getElem_range]
  rw [if_neg (by omega), List.getD_eq_getElem?_getD, List.getElem?_eq_getElem h2, Option.getD_some]
theorem revI_get {i j : Nat} {l : List UInt8} (h : j < l.length) : (revI i l).getD j 0 = if j < i ∨ l.length - i ≤ j then l.getD (l.length - 1 - j) 0 else l.getD j 0 := by
  rw [List.getD_eq_getElem?_getD, List.getElem?_eq_getElem (by rw [revI_len]; exact h), Option.getD_some]
  simp [revI]
theorem revI_half {i : Nat} {l : List UInt8} (h : l.length ≤ 2 * i + 1) : revI i l = l.reverse := by
  refine List.ext_getElem (by simp [revI_len]) fun j h1 h2 => ?_
  have hj : j < l.length := by simpa using h2
  have e := revI_get (i := i) hj
  rw [List.getD_eq_getElem?_getD, List.getElem?_eq_getElem h1, Option.getD_some] at e
  rw [e, List.getElem_reverse]
  have hk : l.length - 1 - j < l.length := by omega
  by_cases c : j < i ∨ l.length - i ≤ j
  · rw [if_pos c, List.getD_eq_getElem?_getD, List.getElem?_eq_getElem hk, Option.getD_some]
  · rw [if_neg c, List.getD_eq_getElem?_getD, List.getElem?_eq_getElem hj, Option.getD_some]
    congr 1
    omega
theorem revI_step {i : Nat} {l : List UInt8} (h : i < l.length / 2) : ((revI i l).set i (l.getD (l.length - 1 - i) 0)).set (l.length - 1 - i) (l.getD i 0) = revI (i + 1) l := by
  refine List.ext_getElem (by simp [revI_len]) fun j h1 h2 => ?_
  have hj : j < l.length := by simpa [revI_len] using h2
  have e2 := revI_get (i := i + 1) hj
  have e1 := revI_get (i := i) hj
  rw [List.getD_eq_getElem?_getD, List.getElem?_eq_getElem h2, Option.getD_some] at e2
  rw [e2]
  simp only [List.getElem_set]
  by_cases c1 : l.length - 1 - i = j
  · rw [if_pos c1, if_pos (by omega), ← c1]; congr 1; omega
  · rw [if_neg c1]
    by_cases c2 : i = j
    · rw [if_pos c2, if_pos (by omega), c2]
    · rw [if_neg c2]
      rw [List.getD_eq_getElem?_getD, List.getElem?_eq_getElem (by rw [revI_len]; exact hj), Option.getD_some] at e1
      rw [e1]
      by_cases c3 : j < i ∨ l.length - i ≤ j
      · rw [if_pos c3, if_pos (by omega)]
      · rw [if_neg c3, if_neg (by omega)]
theorem digs1 {n : Nat} (h : n < 65536) : digs 65536 n = if n = 0 then [] else [n] := by
  split
  · rename_i e; rw [e, digs_zero]
  · rename_i e; rw [digs_pos (by omega) (by omega), Nat.mod_eq_of_lt h, Nat.div_eq_of_lt h, digs_zero]
theorem Bt_drop_cons (l : List UInt8) (i : Nat) (h : i < l.length) : (Bt l).drop i = .int .u8 (((l.getD i 0).toNat : Nat) : Int) :: (Bt l).drop (i + 1) := by
  rw [List.drop_eq_getElem_cons (by simpa [Bt_len] using h)]
  congr 1
  simp [Bt, List.getD_eq_getElem?_getD, List.getElem?_eq_getElem h]
theorem ldP_Bt {K : AV → Prop} {L off ty es : Nat} {l : List UInt8} (hL : l.length = L) (h : off < L) : ldP none L off K (some (.row ty es (Bt l))) = K (.int .u8 (((l.getD off 0).toNat : Nat) : Int)) := by
  subst hL
  have : off + 1 ≤ l.length := h
  simp [ldP, this, Bt_drop_cons l off h, ldC, Bt_len]
theorem splice_Bt {off c : Nat} {l : List UInt8} (h : off < l.length) (hc : c < 256) : splice (Bt l) off [.int .u8 (c : Int)] = Bt (l.set off (UInt8.ofNat c)) := by
  have e2 : (AV.int .u8 (c : Int)) = .int .u8 (((UInt8.ofNat c).toNat : Nat) : Int) := by
    rw [UInt8.toNat_ofNat', Nat.mod_eq_of_lt hc]
  rw [e2]
  unfold splice Bt
  rw [List.map_set, List.set_eq_take_append_cons_drop]
  simp [h]
theorem dstP_Bt {b L off ty es c : Nat} {l : List UInt8} {K : AV → List Nat → Option (Nat × ABlk) → Prop} (hL : l.length = L) (h : off < L) (hc : c < 256) : dstP 1 b L off K (some [.int .u8 (c : Int)]) (some (.row ty es (Bt l))) = K .bot [b] (some (b, .row ty es (Bt (l.set off (UInt8.ofNat c))))) := by
  subst hL
  have h1 : off + 1 ≤ l.length := h
  simp [dstP, Bt_len, h1, splice_Bt h hc]
theorem load_U1 {H : AHeap} {x : Nat} {K : AV → Prop} : loadW H none (.cptr (U [x])) K = K (.int .u32 (x : Int)) := by simp [loadW, cellsAt, U]
theorem len_nil0 {K : AV → Prop} : lenW false (.seq 0 [] true) K = K (.int .i64 ((0 : Nat) : Int)) := by simp [lenW]
theorem rtext_fn {x : Int} {k : Nat} (t : Bool) (hx : Bd k x) (hk : k ≤ 1000000) : PFn Tryd.prog 29 [RefA x t] (Sx (iText x)) := by
  intro H Q hq
  have hdt := decT_bd hx
  have hl := hx.rlen
  obtain ⟨N, hN⟩ : ∃ N, N = x.natAbs := ⟨_, rfl⟩
  have hd10 : (digs 10 N).length ≤ 10 * k + 1 := by
    rw [hN]; unfold decT at hdt
    split at hdt
    · rename_i e; rw [e, digs_zero]; simp
    · simpa [dec] using hdt
  refine enter29 (by simp) ?_
  obtain ⟨neg, hneg⟩ : ∃ b, b = decide (x < 0) := ⟨_, rfl⟩
  simp (disch := first | assumption | (apply Ap.symm; assumption) | omega | decide | (simp only [Xd] <;> omega)) only [ac29, RefA, ← hN, ← hneg, ↓Xa, Xb, Xc, ↓reduceIte, Nat.reduceLT, Nat.reduceEqDiff, Nat.reduceBEq, Nat.reduceLeDiff, Nat.reduceAdd, Nat.reduceMul]
  refine alloc_i fun p1 hp1 => ?_
  have n1 := hp1
  simp (disch := first | assumption | (apply Ap.symm; assumption) | omega | decide | (simp only [Xd] <;> omega)) only [↓Xa, Xb, Xc, ↓reduceIte, Nat.reduceLT, Nat.reduceEqDiff, Nat.reduceBEq, Nat.reduceLeDiff, Nat.reduceAdd, Nat.reduceMul]
  refine W_loop (fun s : Nat × Bool × List Nat × AV × AHeap => ⟨[], [(1, .ptr p1 2 0), (3, s.2.2.2.1), (4, LS (digs 65536 s.1) s.2.1)], s.2.2.2.2⟩)
    (fun s => s.1 ≤ N ∧ digs 10 N = s.2.2.1 ++ digs 10 s.1 ∧ growC (H.upd p1 (some (.row 39 0 [.bool (neg), LS (digs 65536 N) t]))) 5 1 s.2.2.1.length (Bt (s.2.2.1.map chD)) s.2.2.2.1 s.2.2.2.2) (fun s => s.1) (N, t, [], .seq 0 [] true, _) (Settle.now rfl) ⟨Nat.le_refl _, rfl, growC_nil⟩ ?_
  rintro ⟨n, t', ds, y, H'⟩ ⟨hn, hds, hg⟩
  dsimp only at hn hds hg ⊢
  have hnl : (digs 65536 n).length ≤ 2 * k := digs_len (by omega) _ _ (Nat.lt_of_le_of_lt hn (by
    rw [hN]
    have h : x.natAbs < 4294967296 ^ k := hx
    rwa [show (4294967296 : Nat) = 65536 ^ 2 from rfl, ← Nat.pow_mul] at h))
  have hdsl : ds.length + (digs 10 n).length ≤ 10 * k + 1 := by rw [hds, List.length_append] at hd10; exact hd10
  rcases Nat.eq_zero_or_pos n with rfl | hpos
  · rw [digs_zero, List.append_nil] at hds
    subst hds
    simp (disch := first | assumption | (apply Ap.symm; assumption) | omega | decide | (simp only [Xd] <;> omega)) only [digs_zero, List.length_nil, ↓Xa, Xb, Xc, ↓reduceIte, Nat.reduceLT, Nat.reduceEqDiff, Nat.reduceBEq, Nat.reduceLeDiff, Nat.reduceAdd, Nat.reduceMul]
    refine Settle.now ?_
    have hmap : ((digs 10 N).map chD).reverse = dec N := by rw [← List.map_reverse]; rfl
    rcases hg with ⟨h0, hc, rfl, rfl⟩ | ⟨hn0, hcl, b, hb, rfl, rfl⟩
    · have hN0 : N = 0 := by
        rcases Nat.eq_zero_or_pos N with e | e
        · exact e
        · rw [digs_pos (by omega) e] at h0; simp at h0
      have hx0 : x = 0 := by omega
      simp (disch := first | assumption | (apply Ap.symm; assumption) | omega | decide | (simp only [Xd] <;> omega)) only [len_nil0, str_Sx, rs29, ↓Xa, Xb, Xc, ↓reduceIte, Nat.reduceLT, Nat.reduceEqDiff, Nat.reduceBEq, Nat.reduceLeDiff, Nat.reduceAdd, Nat.reduceMul]
      refine SetR.dropTo ((Le.refl H).upd n1) (SetR.now ?_)
      rw [hx0] at hq
      exact hq
    · have hn0' : ¬ (digs 10 N).length = 0 := by omega
      have hbp := (upd_none.1 hb).1
      have hN0 : N ≠ 0 := by rintro rfl; rw [digs_zero] at hn0; simp at hn0
      have tail : ∀ (m : List UInt8) (b : Nat), (H.upd p1 (some (.row 39 0 [.bool (neg), LS (digs 65536 N) t]))) b = none → m.length ≤ 10 * k + 2 → m.reverse = iText x →
          W Tryd.prog (sndC (sndC (sndC (sndC (sndC (sndC ac29)))))) (retN rs29 Q) ⟨[], [(3, .own b m.length 0 m.length false)], (H.upd p1 (some (.row 39 0 [.bool (neg), LS (digs 65536 N) t]))).upd b (some (.row 5 1 (Bt m)))⟩ := by
        intro m b hb hm hrev
        simp (disch := first | assumption | (apply Ap.symm; assumption) | omega | decide | (simp only [Xd] <;> omega)) only [sndC, ac29, ↓Xa, Xb, Xc, ↓reduceIte, Nat.reduceLT, Nat.reduceEqDiff, Nat.reduceBEq, Nat.reduceLeDiff, Nat.reduceAdd, Nat.reduceMul]
        refine W_loop (fun i : Nat => ⟨[], [(3, .own b m.length 0 m.length false), (8, .int .i64 (i : Int))], (H.upd p1 (some (.row 39 0 [.bool (neg), LS (digs 65536 N) t]))).upd b (some (.row 5 1 (Bt (revI i m))))⟩) (fun i => i ≤ m.length / 2) (fun i => m.length / 2 - i) 0 (Settle.now (by rw [revI_zero])) (Nat.zero_le _) ?_
        intro i hi
        have hlr := revI_len i m
        have hbl : (Bt (revI i m)).length = m.length := by rw [Bt_len, hlr]
        by_cases hlt : i < m.length / 2
        · have hi2 : i < m.length := by omega
          have hlr2 : ((revI i m).set i (UInt8.ofNat ((revI i m).getD (m.length - 1 - i) 0).toNat)).length = m.length := by simp [hlr]
          have u1 : ((revI i m).getD (m.length - 1 - i) 0).toNat < 256 := UInt8.toNat_lt _
          have u2 : ((revI i m).getD i 0).toNat < 256 := UInt8.toNat_lt _
          simp (disch := first | assumption | (apply Ap.symm; assumption) | omega | decide | (simp only [Xd] <;> omega)) only [len_ownk, hlt, ldP_Bt, dstP_Bt, stP_Bt, ↓Xa, Xb, Xc, ↓reduceIte, Nat.reduceLT, Nat.reduceEqDiff, Nat.reduceBEq, Nat.reduceLeDiff, Nat.reduceAdd, Nat.reduceMul]
          refine ⟨by decide, by rw [Bt_len]; exact hlr2, Settle.now ⟨i + 1, by omega, by omega, ?_⟩⟩
          rw [UInt8.ofNat_toNat, UInt8.ofNat_toNat, revI_get (by omega), if_neg (by omega), revI_get (by omega), if_neg (by omega), revI_step hlt]
        · simp (disch := first | assumption | (apply Ap.symm; assumption) | omega | decide | (simp only [Xd] <;> omega)) only [len_ownk, hlt, ↓Xa, Xb, Xc, ↓reduceIte, Nat.reduceLT, Nat.reduceEqDiff, Nat.reduceBEq, Nat.reduceLeDiff, Nat.reduceAdd, Nat.reduceMul]
          refine ⟨by decide, Settle.now ?_⟩
          rw [revI_half (by omega), hrev]
          have hll : (iText x).length = m.length := by rw [← hrev, List.length_reverse]
          have e2 : (Bt (iText x)).length = m.length := by rw [Bt_len, hll]
          simp (disch := first | assumption | (apply Ap.symm; assumption) | omega | decide | (simp only [Xd] <;> omega)) only [↓Xa, Xb, Xc, ↓reduceIte, Nat.reduceLT, Nat.reduceEqDiff, Nat.reduceBEq, Nat.reduceLeDiff, Nat.reduceAdd, Nat.reduceMul]
          rw [List.take_of_length_le (by omega), bytesOf_Bt]
          simp (disch := first | assumption | (apply Ap.symm; assumption) | omega | decide | (simp only [Xd] <;> omega)) only [strK, str_Sx, rs29, ↓Xa, Xb, Xc, ↓reduceIte, Nat.reduceLT, Nat.reduceEqDiff, Nat.reduceBEq, Nat.reduceLeDiff, Nat.reduceAdd, Nat.reduceMul]
          exact SetR.dropTo ((Le.refl H).upd n1 |>.upd hb) (SetR.now hq)
      cases neg with
      | true =>
        simp (disch := first | assumption | (apply Ap.symm; assumption) | omega | decide | (simp only [Xd] <;> omega)) only [len_ownk, hn0', ↓Xa, Xb, Xc, ↓reduceIte, Nat.reduceLT, Nat.reduceEqDiff, Nat.reduceBEq, Nat.reduceLeDiff, Nat.reduceAdd, Nat.reduceMul]
        refine app_C (.inr ⟨hn0, hcl, b, hb, by rw [Nat.mul_one], rfl⟩) rfl rfl (by omega) (by omega) (by omega) fun y' H2 hg2 => ?_
        rcases hg2 with ⟨h0, _⟩ | ⟨_, hcl2, b2, hb2, rfl, rfl⟩
        · omega
        have tl := tail ((digs 10 N).map chD ++ [45]) b2 hb2 (by simp; omega) (by rw [List.reverse_append, hmap]; simp [iText, of_decide_eq_true hneg.symm, ← hN, decT, hN0])
        rw [List.length_append, List.length_map, Bt_app] at tl
        simp (disch := first | assumption | (apply Ap.symm; assumption) | omega | decide | (simp only [Xd] <;> omega)) only [sndC, ac29, List.length_cons, List.length_nil, ↓Xa, Xb, Xc, ↓reduceIte, Nat.reduceLT, Nat.reduceEqDiff, Nat.reduceBEq, Nat.reduceLeDiff, Nat.reduceAdd, Nat.reduceMul] at tl
        simp (disch := first | assumption | (apply Ap.symm; assumption) | omega | decide | (simp only [Xd] <;> omega)) only [↓Xa, Xb, Xc, ↓reduceIte, Nat.reduceLT, Nat.reduceEqDiff, Nat.reduceBEq, Nat.reduceLeDiff, Nat.reduceAdd, Nat.reduceMul]
        exact tl
      | false =>
        have tl := tail ((digs 10 N).map chD) b hb (by simp; omega) (by rw [hmap]; simp [iText, of_decide_eq_false hneg.symm, ← hN, decT, hN0])
        rw [List.length_map] at tl
        simp (disch := first | assumption | (apply Ap.symm; assumption) | omega | decide | (simp only [Xd] <;> omega)) only [sndC, ac29, ↓Xa, Xb, Xc, ↓reduceIte, Nat.reduceLT, Nat.reduceEqDiff, Nat.reduceBEq, Nat.reduceLeDiff, Nat.reduceAdd, Nat.reduceMul] at tl
        simp (disch := first | assumption | (apply Ap.symm; assumption) | omega | decide | (simp only [Xd] <;> omega)) only [len_ownk, hn0', ↓Xa, Xb, Xc, ↓reduceIte, Nat.reduceLT, Nat.reduceEqDiff, Nat.reduceBEq, Nat.reduceLeDiff, Nat.reduceAdd, Nat.reduceMul]
        exact tl
  · have h10 : digs 65536 10 = [10] := by rw [digs1 (by omega)]; rfl
    have hdv := rdivide_fn (A := n) (V := 10) t' true (by omega) (by omega) (by rw [h10]; simp)
    rw [h10] at hdv
    have hlp : 0 < (digs 65536 n).length := by rw [digs_pos (by omega) hpos]; simp
    simp (disch := first | assumption | (apply Ap.symm; assumption) | omega | decide | (simp only [Xd] <;> omega)) only [hlp, rep1, ↓Xa, Xb, Xc, ↓reduceIte, Nat.reduceLT, Nat.reduceEqDiff, Nat.reduceBEq, Nat.reduceLeDiff, Nat.reduceAdd, Nat.reduceMul]
    refine hdv.call ?_
    have hm : n % 10 < 10 := Nat.mod_lt _ (by omega)
    have hlt : n / 10 < n := Nat.div_lt_self hpos (by omega)
    have fin : ∀ (y' : AV) (H2 : AHeap), growC (H.upd p1 (some (.row 39 0 [.bool (neg), LS (digs 65536 N) t]))) 5 1 (ds.length + 1) (Bt (ds.map chD) ++ [.int .u8 ((48 + n % 10 : Nat) : Int)]) y' H2 →
        Settle (fun s' => ∃ x' : Nat × Bool × List Nat × AV × AHeap, x'.1 < n ∧ (x'.1 ≤ N ∧ digs 10 N = x'.2.2.1 ++ digs 10 x'.1 ∧ growC (H.upd p1 (some (.row 39 0 [.bool (neg), LS (digs 65536 N) t]))) 5 1 x'.2.2.1.length (Bt (x'.2.2.1.map chD)) x'.2.2.2.1 x'.2.2.2.2) ∧ s' = ⟨[], [(1, .ptr p1 2 0), (3, x'.2.2.2.1), (4, LS (digs 65536 x'.1) x'.2.1)], x'.2.2.2.2⟩)
          ⟨[], [(1, .ptr p1 2 0), (3, y'), (4, LS (digs 65536 (n / 10)) false)], H2⟩ := by
      intro y' H2 h
      refine Settle.now ⟨(n / 10, false, ds ++ [n % 10], y', H2), hlt, ⟨by dsimp only; omega, ?_, ?_⟩, rfl⟩
      · dsimp only; rw [hds, digs_pos (by omega) hpos]; simp
      · dsimp only
        rw [List.map_append, Bt_app, List.length_append]
        rw [Bt_one (by omega)] at h
        exact h
    have hb13 : ds.length ≤ 10000002 := by omega
    clear hd10 hdt hl hnl hdsl
    by_cases hz : n % 10 = 0
    · have e : digs 65536 (n % 10) = [] := by rw [hz, digs_zero]
      rw [e]
      simp (disch := first | assumption | (apply Ap.symm; assumption) | omega | decide | (simp only [Xd] <;> omega)) only [List.length_nil, wn_u8', ↓Xa, Xb, Xc, ↓reduceIte, Nat.reduceLT, Nat.reduceEqDiff, Nat.reduceBEq, Nat.reduceLeDiff, Nat.reduceAdd, Nat.reduceMul]
      refine app_C hg rfl rfl (by omega) (by omega) (by omega) fun y' H2 hg2 => ?_
      simp (disch := first | assumption | (apply Ap.symm; assumption) | omega | decide | (simp only [Xd] <;> omega)) only [↓Xa, Xb, Xc, ↓reduceIte, Nat.reduceLT, Nat.reduceEqDiff, Nat.reduceBEq, Nat.reduceLeDiff, Nat.reduceAdd, Nat.reduceMul]
      exact fin y' H2 (by rw [hz]; exact hg2)
    · have e : digs 65536 (n % 10) = [n % 10] := by rw [digs1 (by omega), if_neg hz]
      rw [e]
      simp (disch := first | assumption | (apply Ap.symm; assumption) | omega | decide | (simp only [Xd] <;> omega)) only [List.length_cons, List.length_nil, wn_u8', load_U1, ↓Xa, Xb, Xc, ↓reduceIte, Nat.reduceLT, Nat.reduceEqDiff, Nat.reduceBEq, Nat.reduceLeDiff, Nat.reduceAdd, Nat.reduceMul]
      refine app_C (m := 1) (bytes := 1) hg rfl rfl (by omega) (by omega) (by omega) fun y' H2 hg2 => ?_
      simp (disch := first | assumption | (apply Ap.symm; assumption) | omega | decide | (simp only [Xd] <;> omega)) only [↓Xa, Xb, Xc, ↓reduceIte, Nat.reduceLT, Nat.reduceEqDiff, Nat.reduceBEq, Nat.reduceLeDiff, Nat.reduceAdd, Nat.reduceMul]
      exact fin y' H2 hg2
end Go.Proofs.YtanchgkiomfhhaaDoor.Fw

/- Rows of whole numbers: what the functions that read them answer, the program's and the reference's. -/
namespace Go.Proofs.YtanchgkiomfhhaaDoor.Fw
set_option linter.unusedSimpArgs false
set_option linter.unusedVariables false
open Go Go.Proofs.YtanchgkiomfhhaaDoor.Ma
set_option maxRecDepth 20000

abbrev RowA (zs : List Int) (t : Bool) : AV := .seq zs.length (IC zs) t
def RC (zs : List Int) : List AV := zs.flatMap fun z => [RefB z, RefD z]
abbrev RefR (zs : List Int) (t : Bool) : AV := .seq zs.length (RC zs) t
theorem RC_len (zs : List Int) : (RC zs).length = zs.length * 2 := by
  induction zs with
  | nil => rfl
  | cons a l ih => simp only [RC, List.flatMap_cons, List.length_append, List.length_cons, List.length_nil] at *; omega
theorem RC_snoc (zs : List Int) (z : Int) : RC (zs ++ [z]) = RC zs ++ [RefB z, RefD z] := by simp [RC, List.flatMap_append]
theorem RC_drop : ∀ (l : List Int) (i : Nat) (h : i < l.length), (RC l).drop (i * 2) = RefB (l[i]) :: RefD (l[i]) :: (RC l).drop (i * 2 + 2)
  | a :: l, 0, _ => rfl
  | a :: l, i + 1, h => by
    have := RC_drop l i (by simpa using h)
    rw [show (i + 1) * 2 = i * 2 + 2 by omega]
    show ((RefB a :: RefD a :: RC l).drop (i * 2 + 2)) = _
    simp only [List.drop_succ_cons, List.getElem_cons_succ]
    rw [this]
    show _ = _ :: _ :: ((RefB a :: RefD a :: RC l).drop (i * 2 + 2 + 2))
    simp only [List.drop_succ_cons]
section
variable {K : AV → Prop} {H : AHeap} {k : IntKind} {t : Bool} {zs : List Int} {i : Nat}
theorem idx_IC (h : i < zs.length) : idxAW 2 (.seq zs.length (IC zs) t) (.int k (i : Int)) K = K (.cptr ((IC zs).drop (i * 2))) := idx_rw (IC_len zs) h
theorem idx_RC (h : i < zs.length) : idxAW 2 (.seq zs.length (RC zs) t) (.int k (i : Int)) K = K (.cptr ((RC zs).drop (i * 2))) := idx_rw (RC_len zs) h
theorem load_IC (h : i < zs.length) : loadW H (some 2) (.cptr ((IC zs).drop (i * 2))) K = K (IntA (zs[i])) := by
  simp only [loadW, cellsAt, IC_drop zs i h]; simp [IntA_eq]
theorem load_RC (h : i < zs.length) : loadW H (some 2) (.cptr ((RC zs).drop (i * 2))) K = K (RefA (zs[i]) false) := by
  simp only [loadW, cellsAt, RC_drop zs i h]; simp [RefA, RefB, RefD]
end
def RB4 (k : Nat) (zs : List Int) : Prop := (∀ z, z ∈ zs → Bd k z) ∧ zs.length < 4611686018427387904
theorem RB4.at {k : Nat} {zs : List Int} (h : RB4 k zs) {i : Nat} (hi : i < zs.length) : Bd k (zs[i]) := h.1 _ (List.getElem_mem hi)

/-! ### the reference -/
end Go.Proofs.YtanchgkiomfhhaaDoor.Fw

/- Rows of whole numbers: what is made of them. -/
namespace Go.Proofs.YtanchgkiomfhhaaDoor.Fw
set_option linter.unusedSimpArgs false
set_option linter.unusedVariables false
open Go Go.Proofs.YtanchgkiomfhhaaDoor.Ma
set_option maxRecDepth 20000

theorem repI1 {a b : AV} : repA [a, b] 2 = [a, b] := by simp [repA, List.range, List.range.loop]
theorem cellI {z : Int} : [IntB z, IntD z].all AV.cell = true := rfl
theorem IC_take {zs : List Int} {i : Nat} (h : i < zs.length) : IC (zs.take (i + 1)) = IC (zs.take i) ++ [IntB (zs[i]), IntD (zs[i])] := by
  rw [List.take_add_one, List.getElem?_eq_getElem h, Option.toList_some, IC_snoc]
theorem callW_fn {P : Program} {f : FuncId} {first caps args : List AV} {H : AHeap} {K : AV → AHeap → Prop} (h : Run P f (first ++ args ++ caps) H K) : callW P (.fn (.func f) first caps) args H K := h

section
variable {H : AHeap} {Q : AV → AHeap → Prop} {zs ws : List Int} {t t' : Bool} {k : Nat}
theorem zip_len {f : Int → Int → Int} (h : zs.length = ws.length) : (zipI f zs ws).length = zs.length := by simp [zipI, h]
theorem zip_at {f : Int → Int → Int} (h : zs.length = ws.length) {i : Nat} (hi : i < zs.length) (hi2 : i < (zipI f zs ws).length) : (zipI f zs ws)[i] = f (zs[i]) (ws[i]'(by omega)) := by simp [zipI]
end
end Go.Proofs.YtanchgkiomfhhaaDoor.Fw

/- Fractions: plain numbers. -/
namespace Go.Proofs.YtanchgkiomfhhaaDoor.Fw
set_option linter.unusedSimpArgs false
set_option linter.unusedVariables false
open Go Go.Proofs.YtanchgkiomfhhaaDoor.Ma

abbrev QQ := _root_.Rat
theorem q_pos (q : QQ) : 0 < (q.den : Int) := by have := q.den_pos; omega
theorem mk_num {n : Int} {d : Nat} (hd : 0 < d) : (mkRat n d).num = n / ((Int.gcd n (d : Int) : Nat) : Int) := by
  rw [_root_.Rat.num_mkRat, if_neg (by omega), Nat.gcd_comm]; rfl
theorem mk_den {n : Int} {d : Nat} (hd : 0 < d) : (((mkRat n d).den : Nat) : Int) = (d : Int) / ((Int.gcd n (d : Int) : Nat) : Int) := by
  rw [_root_.Rat.den_mkRat, if_neg (by omega), Nat.gcd_comm]; rfl
theorem q_lt {p q : QQ} : p < q ↔ p.num * (q.den : Int) < q.num * (p.den : Int) := _root_.Rat.lt_iff p q
def cmpQ (p q : QQ) : Int := cmpI (p.num * (q.den : Int)) (q.num * (p.den : Int))
theorem Bd.oneQ (k : Nat) : Bd (k + 1) 1 := by
  unfold Bd
  have : 4294967296 ^ 1 ≤ 4294967296 ^ (k + 1) := Nat.pow_le_pow_right (by omega) (by omega)
  have e : (1 : Int).natAbs = 1 := rfl
  omega
def RB (k : Nat) (q : QQ) : Prop := Bd k q.num ∧ Bd k (q.den : Int)
theorem RB.mk {n : Int} {d k : Nat} (hn : Bd k n) (hd : Bd k (d : Int)) (h0 : 0 < d) : RB k (mkRat n d) := by
  refine ⟨?_, ?_⟩
  · rw [mk_num h0]; exact hn.ediv
  · rw [mk_den h0]; exact hd.ediv
theorem RB.mono {q : QQ} {k k' : Nat} (h : RB k q) (hk : k ≤ k') : RB k' q := ⟨h.1.mono hk, h.2.mono hk⟩
theorem RB.neg {q : QQ} {k : Nat} (h : RB k q) : RB k (-q) := ⟨h.1.neg, h.2⟩
theorem RB.add {p q : QQ} {k k' : Nat} (h : RB k p) (h' : RB k' q) : RB (k + k' + 1) (p + q) := by
  rw [_root_.Rat.add_def']
  refine RB.mk (Bd.add (h.1.mul h'.2) ?_) ?_ (Nat.mul_pos p.den_pos q.den_pos)
  · have := h'.1.mul h.2; rw [Nat.add_comm]; exact this
  · rw [Int.natCast_mul]; exact (h.2.mul h'.2).mono (by omega)
theorem RB.sub {p q : QQ} {k k' : Nat} (h : RB k p) (h' : RB k' q) : RB (k + k' + 1) (p - q) := by
  rw [_root_.Rat.sub_eq_add_neg]; exact h.add h'.neg
theorem RB.mul {p q : QQ} {k k' : Nat} (h : RB k p) (h' : RB k' q) : RB (k + k') (p * q) := by
  rw [_root_.Rat.mul_def']
  refine RB.mk (h.1.mul h'.1) ?_ (Nat.mul_pos p.den_pos q.den_pos)
  rw [Int.natCast_mul]; exact h.2.mul h'.2
theorem RB.int {z : Int} {k : Nat} (h : Bd (k + 1) z) : RB (k + 1) (z : QQ) := ⟨h, Bd.oneQ k⟩
theorem RB.less {q : QQ} {k : Nat} (h : RB k q) : Bd k ((q.den : Int) - 1) := h.2.le (by have := q_pos q; omega)
end Go.Proofs.YtanchgkiomfhhaaDoor.Fw

/- Fractions: what package ratio's functions answer. -/
namespace Go.Proofs.YtanchgkiomfhhaaDoor.Fw
set_option linter.unusedSimpArgs false
set_option linter.unusedVariables false
open Go Go.Proofs.YtanchgkiomfhhaaDoor.Ma
set_option maxRecDepth 20000

def RawR (a b : Int) : AV := .agg [IntB a, IntD a, IntB b, IntD b]
def RatA (q : QQ) : AV := RawR q.num ((q.den : Int) - 1)
def RatE (q : QQ) (e : Nat) : AV := .tup [RatA q, .int .i64 ((e : Nat) : Int)]
end Go.Proofs.YtanchgkiomfhhaaDoor.Fw

/- Fractions: what the laws' own helpers answer. -/
namespace Go.Proofs.YtanchgkiomfhhaaDoor.Fw
set_option linter.unusedSimpArgs false
set_option linter.unusedVariables false
open Go Go.Proofs.YtanchgkiomfhhaaDoor.Ma
set_option maxRecDepth 20000

def qText (q : QQ) : List UInt8 := iText q.num ++ (if q.den = 1 then [] else 47 :: iText (q.den : Int))
theorem iText_len {x : Int} {k : Nat} (h : Bd k x) : (iText x).length ≤ 10 * k + 2 := by
  have := decT_bd h
  unfold iText; split <;> simp <;> omega
def FracA (q : List UInt8 × List UInt8) : AV := .agg [Sx q.1, Sx q.2]
def FracC (l : List (List UInt8 × List UInt8)) : List AV := l.flatMap fun q => [Sx q.1, Sx q.2]
def lngF (q : List UInt8 × List UInt8) : Bool := decide (300 < q.1.length) || decide (300 < q.2.length)
theorem geq_int {k : IntKind} {n m : Int} {K : AV → Prop} : binW .geq (.int k n) (.int k m) K ↔ K (.bool (decide (m ≤ n))) := by simp [binW, binInt]
end Go.Proofs.YtanchgkiomfhhaaDoor.Fw

/- The looked-up code of one function, and that it is: by a program (wip/tools/ac.py); Lean checks it. -/
namespace Go.Proofs.YtanchgkiomfhhaaDoor.Fw
open Go
set_option maxRecDepth 100000
end Go.Proofs.YtanchgkiomfhhaaDoor.Fw

/- The looked-up code of one function, and that it is: by a program (wip/tools/ac.py); Lean checks it. -/
namespace Go.Proofs.YtanchgkiomfhhaaDoor.Fw
open Go
set_option maxRecDepth 100000
end Go.Proofs.YtanchgkiomfhhaaDoor.Fw

/- A number's text is read as it; what is read has its text. -/
namespace Go.Proofs.YtanchgkiomfhhaaDoor.Fw
set_option linter.unusedSimpArgs false
set_option linter.unusedVariables false
open Go Go.Proofs.YtanchgkiomfhhaaDoor.Ma
set_option maxRecDepth 20000

theorem isAt_of_good {m : List UInt8} (neg : Bool) (hg : Good m) (h0 : neg = true → (m.getD 0 0).toNat ≠ 48) :
    iFrom ((if neg then [45] else []) ++ m) = (if neg then 1 else 0) ∧ IsAt ((if neg then [45] else []) ++ m) ((if neg then [45] else []) ++ m).length ∧ ((if neg then [45] else []) ++ m).drop (iFrom ((if neg then [45] else []) ++ m)) = m := by
  obtain ⟨g1, g2, g3⟩ := hg
  have hpos : 0 < m.length := List.length_pos_iff.2 g1
  have dig : ∀ i, i < m.length → 48 ≤ (m.getD i 0).toNat ∧ (m.getD i 0).toNat ≤ 57 := fun i hi => by
    have := g2 _ (List.getElem_mem hi)
    rw [List.getD_eq_getElem?_getD, List.getElem?_eq_getElem hi, Option.getD_some]; exact this
  have hf : iFrom ((if neg then [45] else []) ++ m) = (if neg then 1 else 0) := by
    cases neg with
    | true => simp [iFrom]
    | false =>
      have := dig 0 hpos
      simp only [iFrom, Bool.false_eq_true, if_false, List.nil_append]
      rw [if_neg (by omega)]
  refine ⟨hf, ⟨(iFrom_le _).1, Nat.le_refl _, iBad_end _, fun j h1 h2 hb => ?_⟩, ?_⟩
  · rw [hf] at h1
    unfold iBad at hb
    rw [hf] at hb
    cases neg with
    | true =>
      simp only [if_true, List.length_append, List.length_cons, List.length_nil] at h1 h2 hb
      obtain ⟨i, rfl⟩ : ∃ i, j = i + 1 := ⟨j - 1, by omega⟩
      have e : ([45] ++ m).getD (i + 1) 0 = m.getD i 0 := by simp [List.getD_eq_getElem?_getD]
      have e1 : ([45] ++ m).getD 1 0 = m.getD 0 0 := by simp [List.getD_eq_getElem?_getD]
      have d := dig i (by omega)
      have := h0 rfl
      rw [e, e1] at hb
      rcases hb with hb | hb | ⟨hb, _⟩ | ⟨hb, _, hb2⟩
      · omega
      · omega
      · omega
      · have : i = 0 := by omega
        subst this; omega
    | false =>
      simp only [Bool.false_eq_true, if_false, List.nil_append] at h1 h2 hb
      have d := dig j h2
      rcases hb with hb | hb | ⟨hb, hb2⟩ | ⟨_, hb, _⟩
      · omega
      · omega
      · rcases g3 with g3 | g3
        · omega
        · exact g3 hb2
      · omega
  · rw [hf]; cases neg <;> simp
theorem decV_pos {m : List UInt8} (hg : Good m) (h : (m.getD 0 0).toNat ≠ 48) : 0 < decV m := by
  rcases Nat.eq_zero_or_pos (decV m) with e | e
  · have := decT_decV hg
    rw [e] at this
    exact absurd (by rw [← this]; rfl) h
  · exact e
theorem iText_at (x : Int) : IsAt (iText x) (iText x).length ∧ (iText x).length ≠ iFrom (iText x) ∧ iVal (iText x) = x := by
  have hg := good_decT x.natAbs
  have hpos : 0 < (decT x.natAbs).length := List.length_pos_iff.2 hg.1
  have h0 : decide (x < 0) = true → ((decT x.natAbs).getD 0 0).toNat ≠ 48 := fun h hz => by
    have h := of_decide_eq_true h
    rcases hg.2.2 with g | g
    · have hd : decT x.natAbs = [48] := by
        match hm : decT x.natAbs, g with
        | [b], _ =>
          rw [hm] at hz
          have hz2 : b.toNat = 48 := by simpa using hz
          have : b = 48 := UInt8.toNat_inj.1 hz2
          rw [this]
      have := decV_decT x.natAbs
      rw [hd] at this
      have e : decV [48] = 0 := rfl
      omega
    · exact g hz
  obtain ⟨a, b, c⟩ := isAt_of_good (decide (x < 0)) hg h0
  have e : (if decide (x < 0) then [45] else []) ++ decT x.natAbs = iText x := by simp [iText]
  rw [e] at a b c
  refine ⟨b, ?_, ?_⟩
  · intro k
    have := congrArg List.length c
    rw [List.length_drop, ← k] at this
    omega
  · unfold iVal
    rw [c, decV_decT, a]
    by_cases h : x < 0 <;> simp [h, sg] <;> omega
theorem iText_iVal {l : List UInt8} (h : IsAt l l.length) (hn : l.length ≠ iFrom l) : iText (iVal l) = l := by
  have hg := isAt_good h hn
  have hd := decT_decV hg
  have hf := iFrom_le l
  have e0 : (l.drop (iFrom l)).getD 0 0 = l.getD (iFrom l) 0 := by simp [List.getD_eq_getElem?_getD]
  unfold iVal
  by_cases c : iFrom l = 1
  · have hne : (l.getD (iFrom l) 0).toNat ≠ 48 := fun hz => h.2.2.2 (iFrom l) (Nat.le_refl _) (by omega) (.inr (.inr (.inr ⟨rfl, c, hz⟩)))
    have hp := decV_pos hg (by rw [e0]; exact hne)
    have hneg : sg (decide (iFrom l = 1)) (decV (l.drop (iFrom l))) < 0 := by
      rw [decide_eq_true c]
      show -((decV (l.drop (iFrom l)) : Nat) : Int) < 0
      omega
    rw [iText, if_pos hneg, sg_abs, hd]
    have h45 : (l.getD 0 0).toNat = 45 := by
      by_cases e : (l.getD 0 0).toNat = 45
      · exact e
      · unfold iFrom at c; rw [if_neg e] at c; omega
    match l, c, h45 with
    | b :: m, c, h45 =>
      have hb : b = 45 := UInt8.toNat_inj.1 (by simpa using h45)
      rw [c, hb]; rfl
  · have c0 : iFrom l = 0 := by omega
    have hnn : ¬ sg (decide (iFrom l = 1)) (decV (l.drop (iFrom l))) < 0 := by simp [c, sg]
    rw [iText, if_neg hnn, sg_abs, hd, c0]; simp
end Go.Proofs.YtanchgkiomfhhaaDoor.Fw

/- The looked-up code of one function, and that it is: by a program (wip/tools/ac.py); Lean checks it. -/
namespace Go.Proofs.YtanchgkiomfhhaaDoor.Fw
open Go
set_option maxRecDepth 100000
end Go.Proofs.YtanchgkiomfhhaaDoor.Fw

/- The looked-up code of one function, and that it is: by a program (wip/tools/ac.py); Lean checks it. -/
namespace Go.Proofs.YtanchgkiomfhhaaDoor.Fw
open Go
set_option maxRecDepth 100000
end Go.Proofs.YtanchgkiomfhhaaDoor.Fw

/- The looked-up code of one function, and that it is: by a program (wip/tools/ac.py); Lean checks it. -/
namespace Go.Proofs.YtanchgkiomfhhaaDoor.Fw
open Go
set_option maxRecDepth 100000
end Go.Proofs.YtanchgkiomfhhaaDoor.Fw

/- The looked-up code of one function, and that it is: by a program (wip/tools/ac.py); Lean checks it. -/
namespace Go.Proofs.YtanchgkiomfhhaaDoor.Fw
open Go
set_option maxRecDepth 100000
end Go.Proofs.YtanchgkiomfhhaaDoor.Fw

/- The looked-up code of one function, and that it is: by a program (wip/tools/ac.py); Lean checks it. -/
namespace Go.Proofs.YtanchgkiomfhhaaDoor.Fw
open Go
set_option maxRecDepth 100000
end Go.Proofs.YtanchgkiomfhhaaDoor.Fw

/- The looked-up code of one function, and that it is: by a program (wip/tools/ac.py); Lean checks it. -/
namespace Go.Proofs.YtanchgkiomfhhaaDoor.Fw
open Go
set_option maxRecDepth 100000
def ac18 : ACode := (.seq (.reg [⟨(some 0), none, (.mov (.k (.bool false)))⟩] []) (.seq (.seq (.reg [⟨(some 21), none, (.call (.k (.fn (.func 23) [] [])) [])⟩, ⟨(some 22), none, (.un .not (.t 21))⟩] [22]) (.cond (.t 22) (.seq (.reg [⟨(some 0), none, (.mov (.k (.bool false)))⟩] [0]) .ret) .skip)) (.seq (.reg [⟨(some 24), none, (.bsl [(.int .i64 ((0 : Nat) : Int))] 2 1 [(0, (1, (.k (.int .i64 ((1 : Nat) : Int))))), (1, (1, (.k (.int .i64 ((2 : Nat) : Int)))))])⟩, ⟨(some 25), none, (.call (.k (.fn (.func 25) [] [])) [(.t 24)])⟩, ⟨(some 26), none, (.call (.k (.fn (.func 72) [] [])) [(.t 25), (.k (.int .i64 ((2 : Nat) : Int)))])⟩, ⟨(some 23), none, (.mov (.t 26))⟩, ⟨(some 27), none, (.ext (.t 23) 0)⟩, ⟨(some 28), none, (.ext (.t 23) 1)⟩, ⟨(some 1), none, (.mov (.t 27))⟩, ⟨(some 2), none, (.mov (.t 28))⟩] [1, 2]) (.seq (.reg [⟨(some 30), none, (.bsl [(.int .i64 ((0 : Nat) : Int))] 1 1 [(0, (1, (.k (.int .i64 ((1 : Nat) : Int)))))])⟩, ⟨(some 31), none, (.call (.k (.fn (.func 25) [] [])) [(.t 30)])⟩, ⟨(some 32), none, (.call (.k (.fn (.func 72) [] [])) [(.t 31), (.k (.int .i64 (-1)))])⟩, ⟨(some 29), none, (.mov (.t 32))⟩, ⟨(some 33), none, (.ext (.t 29) 0)⟩, ⟨(some 34), none, (.ext (.t 29) 1)⟩, ⟨(some 3), none, (.mov (.t 33))⟩, ⟨(some 4), none, (.mov (.t 34))⟩] [1, 2, 4]) (.seq (.reg [⟨(some 36), none, (.call (.k (.fn (.func 72) [] [])) [(.k (.seq 0 [] true)), (.k (.int .i64 ((4097 : Nat) : Int)))])⟩, ⟨(some 35), none, (.mov (.t 36))⟩, ⟨(some 37), none, (.ext (.t 35) 0)⟩, ⟨(some 38), none, (.ext (.t 35) 1)⟩, ⟨(some 5), none, (.mov (.t 37))⟩, ⟨(some 6), none, (.mov (.t 38))⟩] [1, 2, 4, 6]) (.seq (.reg [⟨(some 40), none, (.bsl [(.int .i64 ((0 : Nat) : Int))] 3 1 [(0, (1, (.k (.int .i64 ((1 : Nat) : Int))))), (1, (1, (.k (.int .i64 ((2 : Nat) : Int))))), (2, (1, (.k (.int .i64 ((3 : Nat) : Int)))))])⟩, ⟨(some 41), none, (.call (.k (.fn (.func 25) [] [])) [(.t 40)])⟩, ⟨(some 42), none, (.build [(.int .i64 ((0 : Nat) : Int)), (.int .i64 ((0 : Nat) : Int))] [(0, (1, (.k (.int .i64 ((2 : Nat) : Int))))), (1, (1, (.k (.int .i64 ((1 : Nat) : Int)))))])⟩, ⟨(some 43), none, (.call (.k (.fn (.func 24) [] [])) [(.t 41), (.t 42)])⟩, ⟨(some 39), none, (.mov (.t 43))⟩, ⟨(some 44), none, (.ext (.t 39) 0)⟩, ⟨(some 45), none, (.ext (.t 39) 1)⟩, ⟨(some 7), none, (.alloc 28 0 [(.bool false), (.seq 0 [] true)])⟩, ⟨none, none, (.store 2 (.t 7) (.t 44))⟩, ⟨(some 8), none, (.mov (.t 45))⟩] [1, 2, 4, 6, 7, 8]) (.seq (.reg [⟨(some 47), none, (.bsl [(.int .i64 ((0 : Nat) : Int))] 3 1 [(0, (1, (.k (.int .i64 ((1 : Nat) : Int))))), (1, (1, (.k (.int .i64 ((2 : Nat) : Int))))), (2, (1, (.k (.int .i64 ((3 : Nat) : Int)))))])⟩, ⟨(some 48), none, (.call (.k (.fn (.func 25) [] [])) [(.t 47)])⟩, ⟨(some 49), none, (.build [(.int .i64 ((0 : Nat) : Int)), (.int .i64 ((0 : Nat) : Int))] [(0, (1, (.k (.int .i64 ((1 : Nat) : Int))))), (1, (1, (.k (.int .i64 ((2 : Nat) : Int)))))])⟩, ⟨(some 50), none, (.call (.k (.fn (.func 24) [] [])) [(.t 48), (.t 49)])⟩, ⟨(some 46), none, (.mov (.t 50))⟩, ⟨(some 51), none, (.ext (.t 46) 0)⟩, ⟨(some 52), none, (.ext (.t 46) 1)⟩, ⟨(some 9), none, (.alloc 28 0 [(.bool false), (.seq 0 [] true)])⟩, ⟨none, none, (.store 2 (.t 9) (.t 51))⟩, ⟨(some 10), none, (.mov (.t 52))⟩] [1, 2, 4, 6, 7, 8, 9, 10]) (.seq (.reg [⟨(some 54), none, (.build [(.int .i64 ((0 : Nat) : Int)), (.int .i64 ((0 : Nat) : Int))] [(0, (1, (.k (.int .i64 ((1 : Nat) : Int))))), (1, (1, (.k (.int .i64 ((1 : Nat) : Int)))))])⟩, ⟨(some 55), none, (.call (.k (.fn (.func 24) [] [])) [(.k (.seq 0 [] true)), (.t 54)])⟩, ⟨(some 53), none, (.mov (.t 55))⟩, ⟨(some 56), none, (.ext (.t 53) 0)⟩, ⟨(some 57), none, (.ext (.t 53) 1)⟩, ⟨(some 11), none, (.alloc 28 0 [(.bool false), (.seq 0 [] true)])⟩, ⟨none, none, (.store 2 (.t 11) (.t 56))⟩, ⟨(some 12), none, (.mov (.t 57))⟩] [1, 2, 4, 6, 7, 8, 9, 10, 12]) (.seq (.reg [⟨(some 59), none, (.bsl [(.int .i64 ((0 : Nat) : Int))] 2 1 [(0, (1, (.k (.int .i64 ((0 : Nat) : Int))))), (1, (1, (.k (.int .i64 ((0 : Nat) : Int)))))])⟩, ⟨(some 60), none, (.call (.k (.fn (.func 25) [] [])) [(.t 59)])⟩, ⟨(some 61), none, (.bsl [(.int .i64 ((0 : Nat) : Int))] 2 1 [(0, (1, (.k (.int .i64 ((1 : Nat) : Int))))), (1, (1, (.k (.int .i64 ((2 : Nat) : Int)))))])⟩, ⟨(some 62), none, (.call (.k (.fn (.func 25) [] [])) [(.t 61)])⟩, ⟨(some 63), none, (.call (.k (.fn (.func 71) [] [])) [(.t 60), (.t 62)])⟩, ⟨(some 58), none, (.mov (.t 63))⟩, ⟨(some 64), none, (.ext (.t 58) 0)⟩, ⟨(some 65), none, (.ext (.t 58) 1)⟩, ⟨(some 13), none, (.mov (.t 64))⟩, ⟨(some 14), none, (.mov (.t 65))⟩] [1, 2, 4, 6, 7, 8, 9, 10, 12, 13, 14]) (.seq (.reg [⟨(some 67), none, (.bsl [(.int .i64 ((0 : Nat) : Int))] 2 1 [(0, (1, (.k (.int .i64 ((1 : Nat) : Int))))), (1, (1, (.k (.int .i64 ((2 : Nat) : Int)))))])⟩, ⟨(some 68), none, (.call (.k (.fn (.func 25) [] [])) [(.t 67)])⟩, ⟨(some 69), none, (.call (.k (.fn (.func 71) [] [])) [(.k (.seq 0 [] true)), (.t 68)])⟩, ⟨(some 66), none, (.mov (.t 69))⟩, ⟨(some 70), none, (.ext (.t 66) 0)⟩, ⟨(some 71), none, (.ext (.t 66) 1)⟩, ⟨(some 15), none, (.mov (.t 70))⟩, ⟨(some 16), none, (.mov (.t 71))⟩] [1, 2, 4, 6, 7, 8, 9, 10, 12, 13, 14, 15, 16]) (.seq (.reg [⟨(some 73), none, (.call (.k (.fn (.func 92) [] [])) [(.k (.str ⟨#[91, 49, 32, 45, 50, 93]⟩))])⟩, ⟨(some 72), none, (.mov (.t 73))⟩, ⟨(some 74), none, (.ext (.t 72) 0)⟩, ⟨(some 75), none, (.ext (.t 72) 1)⟩, ⟨(some 18), none, (.alloc 105 0 [(.int .i64 ((0 : Nat) : Int)), (.int .i64 ((0 : Nat) : Int))])⟩, ⟨(some 17), none, (.mov (.t 74))⟩, ⟨none, none, (.store 2 (.t 18) (.t 75))⟩] [1, 2, 4, 6, 7, 8, 9, 10, 12, 13, 14, 15, 16, 17, 18]) (.seq (.reg [⟨(some 77), none, (.call (.k (.fn (.func 92) [] [])) [(.k (.str ⟨#[91, 49]⟩))])⟩, ⟨(some 76), none, (.mov (.t 77))⟩, ⟨(some 78), none, (.ext (.t 76) 0)⟩, ⟨(some 79), none, (.ext (.t 76) 1)⟩, ⟨(some 20), none, (.alloc 105 0 [(.int .i64 ((0 : Nat) : Int)), (.int .i64 ((0 : Nat) : Int))])⟩, ⟨(some 19), none, (.mov (.t 78))⟩, ⟨none, none, (.store 2 (.t 20) (.t 79))⟩] [1, 2, 4, 6, 7, 8, 9, 10, 12, 13, 14, 15, 16, 17, 18, 20]) (.seq (.reg [⟨(some 80), none, (.bsl [(.int .i64 ((0 : Nat) : Int))] 5 1 [(0, (1, (.k (.int .i64 ((1 : Nat) : Int))))), (1, (1, (.k (.int .i64 ((0 : Nat) : Int))))), (2, (1, (.k (.int .i64 ((2 : Nat) : Int))))), (3, (1, (.k (.int .i64 ((0 : Nat) : Int))))), (4, (1, (.k (.int .i64 ((0 : Nat) : Int)))))])⟩, ⟨(some 81), none, (.call (.k (.fn (.func 25) [] [])) [(.t 80)])⟩, ⟨(some 82), none, (.call (.k (.fn (.func 74) [] [])) [(.t 81)])⟩, ⟨(some 83), none, (.bsl [(.int .i64 ((0 : Nat) : Int))] 3 1 [(0, (1, (.k (.int .i64 ((1 : Nat) : Int))))), (1, (1, (.k (.int .i64 ((0 : Nat) : Int))))), (2, (1, (.k (.int .i64 ((2 : Nat) : Int)))))])⟩, ⟨(some 84), none, (.call (.k (.fn (.func 31) [] [])) [(.t 83)])⟩, ⟨(some 85), none, (.call (.k (.fn (.func 73) [] [])) [(.t 82), (.t 84)])⟩, ⟨(some 86), none, (.mov (.t 85))⟩, ⟨(some 87), (some (86, true)), (.bsl [(.int .i64 ((0 : Nat) : Int))] 1 1 [(0, (1, (.k (.int .i64 ((0 : Nat) : Int)))))])⟩, ⟨(some 88), (some (86, true)), (.call (.k (.fn (.func 25) [] [])) [(.t 87)])⟩, ⟨(some 89), (some (86, true)), (.call (.k (.fn (.func 74) [] [])) [(.t 88)])⟩, ⟨(some 90), (some (86, true)), (.len false (.t 89))⟩, ⟨(some 91), (some (86, true)), (.bin .eql (.t 90) (.k (.int .i64 ((0 : Nat) : Int))))⟩, ⟨(some 92), none, (.pick (.t 86) (.t 91) (.k (.bool false)))⟩, ⟨(some 93), none, (.mov (.t 92))⟩, ⟨(some 94), (some (93, true)), (.bsl [(.int .i64 ((0 : Nat) : Int))] 4 1 [(0, (1, (.k (.int .i64 ((0 : Nat) : Int))))), (1, (1, (.k (.int .i64 ((0 : Nat) : Int))))), (2, (1, (.k (.int .i64 ((3 : Nat) : Int))))), (3, (1, (.k (.int .i64 ((0 : Nat) : Int)))))])⟩, ⟨(some 95), (some (93, true)), (.call (.k (.fn (.func 25) [] [])) [(.t 94)])⟩, ⟨(some 96), (some (93, true)), (.call (.k (.fn (.func 70) [] [])) [(.t 95)])⟩, ⟨(some 97), (some (93, true)), (.bin .eql (.t 96) (.k (.int .i64 ((2 : Nat) : Int))))⟩, ⟨(some 98), none, (.pick (.t 93) (.t 97) (.k (.bool false)))⟩, ⟨(some 99), none, (.mov (.t 98))⟩, ⟨(some 100), (some (99, true)), (.bsl [(.int .i64 ((0 : Nat) : Int))] 2 1 [(0, (1, (.k (.int .i64 ((0 : Nat) : Int))))), (1, (1, (.k (.int .i64 ((0 : Nat) : Int)))))])⟩, ⟨(some 101), (some (99, true)), (.call (.k (.fn (.func 25) [] [])) [(.t 100)])⟩, ⟨(some 102), (some (99, true)), (.call (.k (.fn (.func 70) [] [])) [(.t 101)])⟩, ⟨(some 103), (some (99, true)), (.bin .eql (.t 102) (.k (.int .i64 (-1))))⟩, ⟨(some 104), none, (.pick (.t 99) (.t 103) (.k (.bool false)))⟩, ⟨(some 105), none, (.mov (.t 104))⟩, ⟨(some 106), (some (105, true)), (.bsl [(.int .i64 ((0 : Nat) : Int))] 2 1 [(0, (1, (.k (.int .i64 ((1 : Nat) : Int))))), (1, (1, (.k (.int .i64 ((2 : Nat) : Int)))))])⟩, ⟨(some 107), (some (105, true)), (.call (.k (.fn (.func 25) [] [])) [(.t 106)])⟩, ⟨(some 108), (some (105, true)), (.bsl [(.int .i64 ((0 : Nat) : Int))] 3 1 [(0, (1, (.k (.int .i64 ((1 : Nat) : Int))))), (1, (1, (.k (.int .i64 ((2 : Nat) : Int))))), (2, (1, (.k (.int .i64 ((0 : Nat) : Int)))))])⟩, ⟨(some 109), (some (105, true)), (.call (.k (.fn (.func 25) [] [])) [(.t 108)])⟩, ⟨(some 110), (some (105, true)), (.call (.k (.fn (.func 66) [] [])) [(.t 107), (.t 109)])⟩, ⟨(some 111), none, (.pick (.t 105) (.t 110) (.k (.bool false)))⟩, ⟨(some 112), none, (.mov (.t 111))⟩, ⟨(some 113), (some (112, true)), (.bsl [(.int .i64 ((0 : Nat) : Int))] 3 1 [(0, (1, (.k (.int .i64 ((1 : Nat) : Int))))), (1, (1, (.k (.int .i64 ((2 : Nat) : Int))))), (2, (1, (.k (.int .i64 ((3 : Nat) : Int)))))])⟩, ⟨(some 114), (some (112, true)), (.call (.k (.fn (.func 25) [] [])) [(.t 113)])⟩, ⟨(some 115), (some (112, true)), (.bsl [(.int .i64 ((0 : Nat) : Int))] 2 1 [(0, (1, (.k (.int .i64 ((4 : Nat) : Int))))), (1, (1, (.k (.int .i64 ((5 : Nat) : Int)))))])⟩, ⟨(some 116), (some (112, true)), (.call (.k (.fn (.func 25) [] [])) [(.t 115)])⟩, ⟨(some 117), (some (112, true)), (.call (.k (.fn (.func 67) [] [])) [(.t 114), (.t 116)])⟩, ⟨(some 118), (some (112, true)), (.bsl [(.int .i64 ((0 : Nat) : Int))] 3 1 [(0, (1, (.k (.int .i64 ((5 : Nat) : Int))))), (1, (1, (.k (.int .i64 ((7 : Nat) : Int))))), (2, (1, (.k (.int .i64 ((3 : Nat) : Int)))))])⟩, ⟨(some 119), (some (112, true)), (.call (.k (.fn (.func 31) [] [])) [(.t 118)])⟩, ⟨(some 120), (some (112, true)), (.call (.k (.fn (.func 73) [] [])) [(.t 117), (.t 119)])⟩, ⟨(some 121), none, (.pick (.t 112) (.t 120) (.k (.bool false)))⟩, ⟨(some 122), none, (.mov (.t 121))⟩, ⟨(some 123), (some (122, true)), (.bsl [(.int .i64 ((0 : Nat) : Int))] 2 1 [(0, (1, (.k (.int .i64 ((1 : Nat) : Int))))), (1, (1, (.k (.int .i64 ((2 : Nat) : Int)))))])⟩, ⟨(some 124), (some (122, true)), (.call (.k (.fn (.func 25) [] [])) [(.t 123)])⟩, ⟨(some 125), (some (122, true)), (.call (.k (.fn (.func 69) [] [])) [(.k (.seq 0 [] true)), (.t 124)])⟩, ⟨(some 126), (some (122, true)), (.bsl [(.int .i64 ((0 : Nat) : Int))] 2 1 [(0, (1, (.k (.int .i64 (-1))))), (1, (1, (.k (.int .i64 (-2)))))])⟩, ⟨(some 127), (some (122, true)), (.call (.k (.fn (.func 31) [] [])) [(.t 126)])⟩, ⟨(some 128), (some (122, true)), (.call (.k (.fn (.func 73) [] [])) [(.t 125), (.t 127)])⟩, ⟨(some 129), none, (.pick (.t 122) (.t 128) (.k (.bool false)))⟩, ⟨(some 130), none, (.mov (.t 129))⟩, ⟨(some 131), (some (130, true)), (.bsl [(.int .i64 ((0 : Nat) : Int))] 2 1 [(0, (1, (.k (.int .i64 ((1 : Nat) : Int))))), (1, (1, (.k (.int .i64 (-2)))))])⟩, ⟨(some 132), (some (130, true)), (.call (.k (.fn (.func 25) [] [])) [(.t 131)])⟩, ⟨(some 133), (some (130, true)), (.call (.k (.fn (.func 58) [] [])) [(.k (.int .i64 (-3)))])⟩, ⟨(some 134), (some (130, true)), (.call (.k (.fn (.func 80) [] [])) [(.t 132), (.t 133)])⟩, ⟨(some 135), (some (130, true)), (.bsl [(.int .i64 ((0 : Nat) : Int))] 2 1 [(0, (1, (.k (.int .i64 (-3))))), (1, (1, (.k (.int .i64 ((6 : Nat) : Int)))))])⟩, ⟨(some 136), (some (130, true)), (.call (.k (.fn (.func 31) [] [])) [(.t 135)])⟩, ⟨(some 137), (some (130, true)), (.call (.k (.fn (.func 73) [] [])) [(.t 134), (.t 136)])⟩, ⟨(some 138), none, (.pick (.t 130) (.t 137) (.k (.bool false)))⟩, ⟨(some 139), none, (.mov (.t 138))⟩, ⟨(some 140), (some (139, true)), (.mov (.t 2))⟩, ⟨(some 141), (some (139, true)), (.bin .eql (.t 140) (.k (.int .i64 ((0 : Nat) : Int))))⟩, ⟨(some 142), none, (.pick (.t 139) (.t 141) (.k (.bool false)))⟩, ⟨(some 143), none, (.mov (.t 142))⟩, ⟨(some 144), (some (143, true)), (.mov (.t 1))⟩, ⟨(some 145), (some (143, true)), (.bsl [(.int .i64 ((0 : Nat) : Int))] 4 1 [(0, (1, (.k (.int .i64 ((0 : Nat) : Int))))), (1, (1, (.k (.int .i64 ((0 : Nat) : Int))))), (2, (1, (.k (.int .i64 ((1 : Nat) : Int))))), (3, (1, (.k (.int .i64 ((2 : Nat) : Int)))))])⟩, ⟨(some 146), (some (143, true)), (.call (.k (.fn (.func 31) [] [])) [(.t 145)])⟩, ⟨(some 147), (some (143, true)), (.call (.k (.fn (.func 73) [] [])) [(.t 144), (.t 146)])⟩, ⟨(some 148), none, (.pick (.t 143) (.t 147) (.k (.bool false)))⟩, ⟨(some 149), none, (.mov (.t 148))⟩, ⟨(some 150), (some (149, true)), (.mov (.t 4))⟩, ⟨(some 151), (some (149, true)), (.bin .eql (.t 150) (.k (.int .i64 ((2 : Nat) : Int))))⟩, ⟨(some 152), none, (.pick (.t 149) (.t 151) (.k (.bool false)))⟩, ⟨(some 153), none, (.mov (.t 152))⟩, ⟨(some 154), (some (153, true)), (.mov (.t 6))⟩, ⟨(some 155), (some (153, true)), (.bin .eql (.t 154) (.k (.int .i64 ((3 : Nat) : Int))))⟩, ⟨(some 156), none, (.pick (.t 153) (.t 155) (.k (.bool false)))⟩, ⟨(some 157), none, (.mov (.t 156))⟩, ⟨(some 158), (some (157, true)), (.mov (.t 8))⟩, ⟨(some 159), (some (157, true)), (.bin .eql (.t 158) (.k (.int .i64 ((0 : Nat) : Int))))⟩, ⟨(some 160), none, (.pick (.t 157) (.t 159) (.k (.bool false)))⟩, ⟨(some 161), none, (.mov (.t 160))⟩, ⟨(some 162), (some (161, true)), (.load (some 2) (.t 7))⟩, ⟨(some 163), (some (161, true)), (.call (.k (.fn (.func 28) [] [])) [(.t 162)])⟩, ⟨(some 164), (some (161, true)), (.bin .eql (.t 163) (.k (.str ⟨#[49, 55]⟩)))⟩, ⟨(some 165), none, (.pick (.t 161) (.t 164) (.k (.bool false)))⟩, ⟨(some 166), none, (.mov (.t 165))⟩, ⟨(some 167), (some (166, true)), (.mov (.t 10))⟩, ⟨(some 168), (some (166, true)), (.bin .eql (.t 167) (.k (.int .i64 ((0 : Nat) : Int))))⟩, ⟨(some 169), none, (.pick (.t 166) (.t 168) (.k (.bool false)))⟩, ⟨(some 170), none, (.mov (.t 169))⟩, ⟨(some 171), (some (170, true)), (.load (some 2) (.t 9))⟩, ⟨(some 172), (some (170, true)), (.call (.k (.fn (.func 28) [] [])) [(.t 171)])⟩, ⟨(some 173), (some (170, true)), (.bin .eql (.t 172) (.k (.str ⟨#[49, 49]⟩)))⟩, ⟨(some 174), none, (.pick (.t 170) (.t 173) (.k (.bool false)))⟩, ⟨(some 175), none, (.mov (.t 174))⟩, ⟨(some 176), (some (175, true)), (.mov (.t 12))⟩, ⟨(some 177), (some (175, true)), (.bin .eql (.t 176) (.k (.int .i64 ((2 : Nat) : Int))))⟩, ⟨(some 178), none, (.pick (.t 175) (.t 177) (.k (.bool false)))⟩, ⟨(some 179), none, (.mov (.t 178))⟩, ⟨(some 180), (some (179, true)), (.mov (.t 14))⟩, ⟨(some 181), (some (179, true)), (.bin .eql (.t 180) (.k (.int .i64 ((4 : Nat) : Int))))⟩, ⟨(some 182), none, (.pick (.t 179) (.t 181) (.k (.bool false)))⟩, ⟨(some 183), none, (.mov (.t 182))⟩, ⟨(some 184), (some (183, true)), (.mov (.t 13))⟩, ⟨(some 185), (some (183, true)), (.bsl [(.int .i64 ((0 : Nat) : Int))] 3 1 [(0, (1, (.k (.int .i64 ((0 : Nat) : Int))))), (1, (1, (.k (.int .i64 ((0 : Nat) : Int))))), (2, (1, (.k (.int .i64 ((0 : Nat) : Int)))))])⟩, ⟨(some 186), (some (183, true)), (.call (.k (.fn (.func 31) [] [])) [(.t 185)])⟩, ⟨(some 187), (some (183, true)), (.call (.k (.fn (.func 73) [] [])) [(.t 184), (.t 186)])⟩, ⟨(some 188), none, (.pick (.t 183) (.t 187) (.k (.bool false)))⟩, ⟨(some 189), none, (.mov (.t 188))⟩, ⟨(some 190), (some (189, true)), (.mov (.t 15))⟩, ⟨(some 191), (some (189, true)), (.len false (.t 190))⟩, ⟨(some 192), (some (189, true)), (.bin .eql (.t 191) (.k (.int .i64 ((0 : Nat) : Int))))⟩, ⟨(some 193), none, (.pick (.t 189) (.t 192) (.k (.bool false)))⟩, ⟨(some 194), none, (.mov (.t 193))⟩, ⟨(some 195), (some (194, true)), (.mov (.t 16))⟩, ⟨(some 196), (some (194, true)), (.bin .eql (.t 195) (.k (.int .i64 ((0 : Nat) : Int))))⟩, ⟨(some 197), none, (.pick (.t 194) (.t 196) (.k (.bool false)))⟩, ⟨(some 198), none, (.mov (.t 197))⟩, ⟨(some 199), (some (198, true)), (.load (some 2) (.t 18))⟩, ⟨(some 200), (some (198, true)), (.build [(.int .i64 ((0 : Nat) : Int)), (.int .i64 ((0 : Nat) : Int))] [])⟩, ⟨(some 201), (some (198, true)), (.prim (.aeq false) [(.t 199), (.t 200)])⟩, ⟨(some 202), none, (.pick (.t 198) (.t 201) (.k (.bool false)))⟩, ⟨(some 203), none, (.mov (.t 202))⟩, ⟨(some 204), (some (203, true)), (.mov (.t 17))⟩, ⟨(some 205), (some (203, true)), (.bsl [(.int .i64 ((0 : Nat) : Int))] 2 1 [(0, (1, (.k (.int .i64 ((1 : Nat) : Int))))), (1, (1, (.k (.int .i64 (-2)))))])⟩, ⟨(some 206), (some (203, true)), (.call (.k (.fn (.func 31) [] [])) [(.t 205)])⟩, ⟨(some 207), (some (203, true)), (.call (.k (.fn (.func 73) [] [])) [(.t 204), (.t 206)])⟩, ⟨(some 208), none, (.pick (.t 203) (.t 207) (.k (.bool false)))⟩, ⟨(some 209), none, (.mov (.t 208))⟩, ⟨(some 210), (some (209, true)), (.load (some 2) (.t 20))⟩, ⟨(some 211), (some (209, true)), (.build [(.int .i64 ((0 : Nat) : Int)), (.int .i64 ((0 : Nat) : Int))] [(0, (1, (.k (.int .i64 ((6 : Nat) : Int))))), (1, (1, (.k (.int .i64 ((2 : Nat) : Int)))))])⟩, ⟨(some 212), (some (209, true)), (.prim (.aeq false) [(.t 210), (.t 211)])⟩, ⟨(some 213), none, (.pick (.t 209) (.t 212) (.k (.bool false)))⟩, ⟨(some 0), none, (.mov (.t 213))⟩] [0]) .ret)))))))))))))
def rs18 : List RV := [(.t 0)]
theorem co18 : compFn Go.Proofs.Tryd.prog Go.Proofs.Tryd.f18 pl18 = some (ac18, rs18) := by kernel_rfl
theorem enter18 {args : List AV} {H : AHeap} {Q : AV → AHeap → Prop} (hn : args.length ≤ 214) (h : W Go.Proofs.Tryd.prog ac18 (retN rs18 Q) ⟨[], initE args 0, H⟩) : Run Go.Proofs.Tryd.prog 18 args H Q := Run_fn2 mixed Go.Proofs.Tryd.func18 (by kernel_rfl) co18 (n := 214) (by kernel_rfl) hn h
end Go.Proofs.YtanchgkiomfhhaaDoor.Fw
