/- The framework, part W: a row of one's own, taken up anew at its shorter length; rows that grow, also from nothing of one's own. -/
import Derived.Test.YtipbcjnniamcgaaDoorFwY
namespace Go.Proofs.YtipbcjnniamcgaaDoor.Fw
set_option linter.unusedSimpArgs false
set_option linter.unusedVariables false
open Go Go.Proofs.YtipbcjnniamcgaaDoor.Ma

/-- The context in which a block has a new number and is followed at a shorter length. -/
def Ctx.renew (c : Ctx) (b b' : Nat) (x : ABlk) : Ctx := { c with μ := fun i => if i = b' then c.μ b else c.μ i, U := fun i => c.U i ∨ i = b', H := (c.H.upd b none).upd b' (some x) }

theorem Ctx.renew_H {c : Ctx} {b b' i : Nat} {x y : ABlk} (h : (c.renew b b' x).H i = some y) : (i = b' ∧ y = x) ∨ (i ≠ b' ∧ i ≠ b ∧ c.H i = some y) := by
  have h2 : ((c.H.upd b none).upd b' (some x)) i = some y := h
  rcases upd_some h2 with ⟨e, e2⟩ | ⟨e, e2⟩
  · injection e2 with e2; exact .inl ⟨e, e2.symm⟩
  · rcases upd_some e2 with ⟨_, e4⟩ | ⟨e3, e4⟩
    · cases e4
    · exact .inr ⟨e, e3, e4⟩

theorem Ctx.renew_later {c : Ctx} {b b' : Nat} {x : ABlk} (hb : ABlk.mut (c.H b)) (hU : ¬ c.U b') (hR : ¬ c.R b') : Later c (c.renew b b' x) := by
  refine ⟨⟨Nat.le_refl _, rfl, rfl, rfl, fun _ h => .inl h, ?_, ?_⟩, fun i h => ⟨h, fun k => k.resolve_right fun e => hR (e ▸ h)⟩⟩
  · intro i x' hi hx
    rcases Ctx.renew_H hx with ⟨e, _⟩ | ⟨e, _, e2⟩
    · exact absurd (e ▸ hi) hU
    · refine ⟨x', e2, Nat.le_refl _, fun _ => ⟨if_neg e, fun _ _ cells e' => ⟨cells, e', fun arr h => ⟨arr, ?_, rfl⟩⟩⟩⟩
      show c.w.heap[if i = b' then c.μ b else c.μ i]? = _
      rw [if_neg e]; exact h
  · rintro k _ hm
    refine ⟨rfl, fun ⟨i, hi, e⟩ => hm ?_⟩
    have e' : (if i = b' then c.μ b else c.μ i) = k := e
    cases hy : (c.renew b b' x).H i with
    | none => rw [hy] at hi; exact hi.elim
    | some y =>
      rw [hy] at hi
      rcases Ctx.renew_H hy with ⟨e1, _⟩ | ⟨e1, _, e2⟩
      · rw [if_pos e1] at e'; exact ⟨b, hb, e'⟩
      · rw [if_neg e1] at e'; exact ⟨i, by rw [e2]; exact hi, e'⟩

theorem Ctx.renew_ok {c : Ctx} (hok : Ok c) {b b' ty es m : Nat} {cells : List AV} (hb : c.H b = some (.row ty es cells)) (hU : ¬ c.U b') (hR : ¬ c.R b') : Ok (c.renew b b' (.row ty es (cells.take m))) := by
  have hbn : c.H b ≠ none := by rw [hb]; simp
  have later := Ctx.renew_later (x := .row ty es (cells.take m)) (mut_row hb) hU hR
  have get : ∀ i, (c.renew b b' (.row ty es (cells.take m))).H i ≠ none → i = b' ∨ (i ≠ b' ∧ i ≠ b ∧ c.H i ≠ none) := by
    intro i hi
    obtain ⟨y, hy⟩ := Option.ne_none_iff_exists'.1 hi
    rcases Ctx.renew_H hy with ⟨e1, _⟩ | ⟨e1, e2, e3⟩
    · exact .inl e1
    · exact .inr ⟨e1, e2, by rw [e3]; simp⟩
  refine ⟨?_, ?_, ?_, ?_⟩
  · intro i hi
    rcases get i hi with e | ⟨_, _, e⟩
    · exact .inr e
    · exact .inl (hok.used i e)
  · obtain ⟨M, hM⟩ := hok.fin
    refine ⟨M + b' + 1, fun i hi => ?_⟩
    rcases hi with (h | h) | h
    · have := hM i (.inl h); omega
    · omega
    · have := hM i (.inr h); omega
  · intro i j hi hj e
    have e' : (if i = b' then c.μ b else c.μ i) = (if j = b' then c.μ b else c.μ j) := e
    rcases get i hi with e1 | ⟨e1, e2, e3⟩ <;> rcases get j hj with f1 | ⟨f1, f2, f3⟩
    · rw [e1, f1]
    · rw [if_pos e1, if_neg f1] at e'
      exact absurd (hok.inj j b f3 hbn e'.symm) f2
    · rw [if_neg e1, if_pos f1] at e'
      exact absurd (hok.inj i b e3 hbn e') e2
    · rw [if_neg e1, if_neg f1] at e'
      exact hok.inj i j e3 f3 e'
  · intro i y hy
    rcases Ctx.renew_H hy with ⟨rfl, rfl⟩ | ⟨e1, _, e3⟩
    · obtain ⟨arr, g1, g2, g3⟩ := hok.blk b _ hb
      refine ⟨arr, ?_, by rw [List.length_take]; omega, fun k hk hk' => ?_⟩
      · show c.w.heap[if i = i then c.μ b else c.μ i]? = _
        rw [if_pos rfl]; exact g1
      · have hk2 : k < cells.length := by rw [List.length_take] at hk; omega
        have := (g3 k hk2 hk').later later
        rw [List.getElem_take]; exact this
    · exact (hok.blk i y e3).later later (if_neg e1) rfl

/-- A row of one's own, cut at its end, is followed from now on as far as it reaches. -/
theorem Settle.renew {K : St → Prop} {D : List Nat} {E : Env} {H : AHeap} (t : Nat) {b L n ty : Nat} {ti : Bool} {l : List Nat} (he : E.get t = .own b L 0 n ti) (hH : H b = some (.row ty 1 (U l))) (hL : l.length = L) (hn : n ≤ L)
    (h : ∀ b', (H.upd b none) b' = none → Settle K ⟨D, E.set t (.own b' n 0 n false), (H.upd b none).upd b' (some (.row ty 1 (U (l.take n))))⟩) : Settle K ⟨D, E, H⟩ := by
  refine Settle.join ?_
  intro N c a hc hok hr
  have hc' : c.H = H := hc
  subst hc'
  obtain ⟨M, hM⟩ := hok.fin
  have hU : ¬ c.U M := fun k => by have := hM M (.inl k); omega
  have hR : ¬ c.R M := fun k => by have := hM M (.inr k); omega
  have hbn : c.H b ≠ none := by rw [hH]; simp
  have hbM : M ≠ b := fun e => hU (e ▸ hok.used b hbn)
  have later := Ctx.renew_later (b' := M) (x := .row ty 1 ((U l).take n)) (mut_row hH) hU hR
  have hfree : (c.H.upd b none) M = none := by
    rw [upd_other _ _ hbM]
    cases e : c.H M with
    | none => rfl
    | some x => exact absurd (hok.used M (by rw [e]; simp)) hU
  have hk := h M hfree
  rw [U_take] at hk
  refine ⟨c.renew b M (.row ty 1 ((U l).take n)), _, rfl, rfl, Ctx.renew_ok hok hH hU hR, ?_, later, hk⟩
  have hr' := hr.later later
  refine ⟨hr'.size, fun u => ?_, hr'.dlen, hr'.dmark⟩
  show Enc _ (Env.get (E.set t (.own M n 0 n false)) u) _
  rw [Env.get_set]
  split
  · rename_i e; subst e
    have := hr.tmp u
    rw [show E.get u = _ from he] at this
    generalize a.tmps.getD u undef = v at this
    cases this with
    | own _ _ _ _ _ _ hs hb0 hL0 hv =>
      refine .own M n 0 n false v hs (.inr rfl) (fun x hx => ?_) (fun ty' es' cells' hx _ => ?_)
      · have hx2 : ((c.H.upd b none).upd M (some (.row ty 1 ((U l).take n)))) M = some x := hx
        rw [upd_same] at hx2
        injection hx2 with hx2
        subst hx2
        show n ≤ ((U l).take n).length
        rw [List.length_take, U_len]; omega
      · have hx2 : ((c.H.upd b none).upd M (some (.row ty 1 ((U l).take n)))) M = some (.row ty' es' cells') := hx
        rw [upd_same] at hx2
        injection hx2 with hx2
        injection hx2 with q1 q2 q3
        subst q1; subst q2
        obtain ⟨base, cap, arr, g1, g2, g3, g4, _, g6, g7⟩ := hv ty 1 (U l) hH (by rw [U_len]; exact hL)
        refine ⟨base, cap, arr, g1, ?_, g3, g4, (fun e => absurd e (by simp)), ?_, g7⟩
        · show cap = 0 ∨ base = some ⟨if M = M then c.μ b else c.μ M, 0, none⟩
          rw [if_pos rfl]; exact g2
        · show c.w.heap[if M = M then c.μ b else c.μ M]? = _
          rw [if_pos rfl]; exact g6
  · exact hr'.tmp u

/-- A row that grows, or one of one's own that may be empty. -/
def growO (H0 : AHeap) (ty : Nat) (l : List Nat) (x : AV) (H : AHeap) : Prop :=
  (l = [] ∧ x = .seq 0 [] true ∧ H = H0) ∨ (∃ b, H0 b = none ∧ x = .own b l.length 0 l.length false ∧ H = H0.upd b (some (.row ty 1 (U l))))
theorem grow.toO {H0 H : AHeap} {ty : Nat} {l : List Nat} {x : AV} (h : grow H0 ty l x H) : growO H0 ty l x H := by
  rcases h with h | ⟨_, h⟩
  · exact .inl h
  · exact .inr h
theorem appO {H0 H : AHeap} {ty n : Nat} {l m : List Nat} {x : AV} {t : Bool} {K : AV → AHeap → Prop} (h : growO H0 ty l x H) (hn : n = m.length) (hm : m ≠ []) (hb : l.length + m.length ≤ 17592186044416)
    (k : ∀ x' H', growO H0 ty (l ++ m) x' H' → K x' H') : appW H ty 1 4 x (.seq n (U m) t) K := by
  rcases h with ⟨rfl, rfl, rfl⟩ | ⟨b, hb', rfl, rfl⟩
  · exact app_grow grow_nil hn hm hb fun x' H' g => k x' H' g.toO
  · by_cases hl : l = []
    · subst hl; subst hn
      refine ⟨by simp, U_cell m, ?_⟩
      dsimp only
      rw [upd_same]
      simp only [List.length_nil] at hb
      refine ⟨by simp, rfl, by simp, rfl, rfl, by simp only [List.length_nil]; omega, by simp only [List.length_nil]; omega, ?_⟩
      refine k _ _ (.inr ⟨b, hb', ?_, ?_⟩)
      · simp
      · rw [upd_upd, U_app]
    · exact app_grow (.inr ⟨hl, b, hb', rfl, rfl⟩) hn hm hb fun x' H' g => k x' H' g.toO
theorem Settle.grownO {K : St → Prop} {D : List Nat} {E : Env} {H0 H : AHeap} {ty : Nat} {l : List Nat} {x : AV} (t : Nat) (he : E.get t = x) (h : growO H0 ty l x H) (k : Settle K ⟨D, E.set t (LS l false), H0⟩) : Settle K ⟨D, E, H⟩ := by
  rcases h with ⟨rfl, rfl, rfl⟩ | ⟨b, hb, rfl, rfl⟩
  · refine Settle.loose t ?_
    rw [he]; exact k
  · refine Settle.freeze t he (upd_same _ _ _) (by simp) (.inr (by simp)) ?_
    rw [upd_upd, upd_back _ hb]
    have e : AV.seq l.length (((U l).drop 0).take (l.length * 1)) false = LS l false := by simp [LS, List.take_of_length_le]
    rw [e]; exact k
end Go.Proofs.YtipbcjnniamcgaaDoor.Fw
