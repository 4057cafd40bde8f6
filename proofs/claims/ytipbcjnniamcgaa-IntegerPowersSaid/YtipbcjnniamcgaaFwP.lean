/- The framework, part P: the law of a region whose order is drawn. -/
import Derived.Test.YtipbcjnniamcgaaFwO
namespace Go.Proofs.Ytipbcjnniamcgaa.Fw
set_option linter.unusedSimpArgs false
set_option linter.unusedVariables false
open Go

structure Inv (N : Nat) (lA : List AOper) (p : Nat) (val : Nat → AV) (wr : Nat → Option (Nat × ABlk)) (β : Nat → Nat) (D : List Nat) (E0 : Env) (H0 : AHeap) (c0 : Ctx) (L : Nat → Bool) (c : Ctx) (a : Act) : Prop where
  ok : Ok c
  lat : Later c0 c
  size : a.tmps.size = N
  dlen : a.defers.length = D.length
  dmark : ∀ i (h : i < D.length), ∃ r, a.defers[i]? = some { target := .collected r, args := #[] } ∧ Enc c (.ptr D[i] 0 0) (.pointer (some ⟨r, 0, none⟩))
  hit : ∀ j t, j < p → L j = true → dstAt lA j = some t → Enc c (val j) (a.tmps.getD t undef)
  miss : ∀ t, (∀ j, j < p → L j = true → dstAt lA j ≠ some t) → Enc c (E0.get t) (a.tmps.getD t undef)
  heap : c.H = hof H0 wr L p
  res : ∀ j, j < p → L j = false → ¬ c.U (β j) ∧ c.R (β j)

def Ctx.unres (c : Ctx) (b : Nat) : Ctx := { c with R := fun i => c.R i ∧ i ≠ b }
theorem Ctx.unres_later (c : Ctx) (b : Nat) : Later0 c (c.unres b) :=
  ⟨Nat.le_refl _, rfl, rfl, rfl, fun _ h => h, fun _ x' _ hx => ⟨x', hx, Nat.le_refl _, fun _ => ⟨rfl, fun _ _ cells e => ⟨cells, e, fun arr h => ⟨arr, h, rfl⟩⟩⟩⟩, fun _ _ h => ⟨rfl, h⟩⟩
theorem Ctx.unres_ok {c : Ctx} (h : Ok c) (b : Nat) : Ok (c.unres b) := by
  refine ⟨h.used, ?_, h.inj, fun i x hx => (h.blk i x hx).later0 (c.unres_later b) rfl rfl⟩
  obtain ⟨M, hM⟩ := h.fin
  exact ⟨M, fun i hi => hM i (hi.imp id And.left)⟩

theorem getD_put_same {a : Act} {t : Nat} {v : Value} (h : t < a.tmps.size) : (a.put (some t) v).tmps.getD t undef = v := by
  simp [Act.put, Array.getD_eq_getD_getElem?, h]
theorem getD_put_other {a : Act} {d : Option Nat} {t : Nat} {v : Value} (h : d ≠ some t) : (a.put d v).tmps.getD t undef = a.tmps.getD t undef := by
  cases d with
  | none => rfl
  | some d =>
    have hne : d ≠ t := fun e => h (by rw [e])
    simp only [Act.put, Array.getD_eq_getD_getElem?, Array.getElem?_setIfInBounds_ne hne]

theorem inv_after {N : Nat} {lA : List AOper} {p : Nat} {val : Nat → AV} {wr : Nat → Option (Nat × ABlk)} {β : Nat → Nat} (hinj : ∀ i j, β i = β j → i = j) {D : List Nat} {E0 : Env} {H0 : AHeap} {c0 : Ctx} {L : Nat → Bool} {c c2 : Ctx} {a : Act} (hi : Inv N lA p val wr β D E0 H0 c0 L c a) {j : Nat}
    (hj : j < p) (hLj : L j = false) (hfar : ∀ i, ¬ c0.R (β i)) (hl : Later (c.unres (β j)) c2) (hok : Ok c2) (hH : c2.H = applyW c.H (wr j)) {v : Value} (he : Enc c2 (val j) v) (hdN : ∀ d, dstAt lA j = some d → d < N)
    (huniq : ∀ i d, i < p → dstAt lA i = some d → dstAt lA j = some d → i = j) (hdiff : ∀ k, j < k → k < p → L k = true → ∀ b y y', wr j = some (b, y) → wr k ≠ some (b, y')) :
    Inv N lA p val wr β D E0 H0 c0 (fun k => L k || decide (k = j)) c2 (a.put (dstAt lA j) v) := by
  have tr : ∀ {x : AV} {u : Value}, Enc c x u → Enc c2 x u := fun h => (h.later0 (c.unres_later (β j))).later hl
  refine ⟨hok, ?_, ?_, ?_, ?_, ?_, ?_, ?_, ?_⟩
  · refine ⟨(hi.lat.toLater0.trans (c.unres_later (β j))).trans hl.toLater0, fun b hb => ?_⟩
    have h1 := hi.lat.res b hb
    have h2 := hl.res b ⟨h1.1, fun e => hfar j (e ▸ hb)⟩
    exact ⟨h2.1, fun hu => h1.2 (h2.2 hu)⟩
  · cases dstAt lA j <;> simp [Act.put, hi.size]
  · have : (a.put (dstAt lA j) v).defers = a.defers := by cases dstAt lA j <;> rfl
    rw [this]; exact hi.dlen
  · have : (a.put (dstAt lA j) v).defers = a.defers := by cases dstAt lA j <;> rfl
    rw [this]
    exact fun i h => let ⟨r, e, k⟩ := hi.dmark i h; ⟨r, e, tr k⟩
  · intro i t hip hL ht
    by_cases e : i = j
    · subst e
      rw [ht, getD_put_same (by rw [hi.size]; exact hdN t ht)]
      exact he
    · have hL' : L i = true := by simpa [e] using hL
      rw [getD_put_other (fun h => e (huniq i t hip ht h))]
      exact tr (hi.hit i t hip hL' ht)
  · intro t ht
    have hne : dstAt lA j ≠ some t := ht j hj (by simp)
    rw [getD_put_other hne]
    exact tr (hi.miss t fun i hip hL => ht i hip (by simp [hL]))
  · rw [hH, hi.heap, hof_add hLj p hdiff hj]
  · intro i hip hL
    have h1 : L i = false ∧ i ≠ j := by simpa using hL
    have h2 := hi.res i hip h1.1
    have h3 := hl.res (β i) ⟨h2.2, fun e => h1.2 (hinj i j e)⟩
    exact ⟨fun hu => h2.1 (h3.2 hu), h3.1⟩

/-- One operation of the free part, when its turn comes. -/
theorem step_any {P : Program} {N : Nat} {ro : Option Nat} {ops : Array Oper} {l : List AOper} {p : Nat} {un : Nat → Nat → Bool} (hs : Stat P N ops l p un) {val : Nat → AV} {wr : Nat → Option (Nat × ABlk)} {rd : Nat → List Nat} {β : Nat → Nat} (hinj : ∀ i j, β i = β j → i = j) {D : List Nat} {E0 : Env} {H0 : AHeap}
    (told : Told P un β (l.take p) 0 E0 H0 [] [] val wr rd) {c0 : Ctx} (hfar : ∀ i, ¬ c0.R (β i)) {L : Nat → Bool} (hd : Down ops L) {c : Ctx} {a : Act} (hi : Inv N (l.take p) p val wr β D E0 H0 c0 L c a) {j : Nat} (hj : j < p) (hLj : L j = false)
    (hready : ∀ o e, ops[j]? = some o → e ∈ o.after → Region.binds .any e = true → L e.on = true) {K : Act → World → Prop} {Q : Exit → Act → World → Prop}
    (next : ∀ (c' : Ctx) (a' : Act), Inv N (l.take p) p val wr β D E0 H0 c0 (fun k => L k || decide (k = j)) c' a' → K a' c'.w) : wpOpIn (FW ro) 0 P ops Q j K a c.w := by
  have hlen : (l.take p).length = p := by have := hs.len; have := hs.ple; simp; omega
  have hjs : j < ops.size := Nat.lt_of_lt_of_le hj hs.ple
  obtain ⟨x, hx, hcomp⟩ := hs.comp j _ (Array.getElem?_eq_getElem hjs)
  obtain ⟨h1, h2, h3, h4⟩ := compOper_spec hcomp
  have hxA : ∀ {i : Nat}, i < p → (l.take p)[i]? = l[i]? := fun h => by rw [List.getElem?_take, if_pos h]
  have hdst : dstAt (l.take p) j = x.dst := by simp only [dstAt, hxA hj, hx, Option.bind_some]
  have dst_of : ∀ {i t : Nat}, i < p → dstAt (l.take p) i = some t → ∃ y, l[i]? = some y ∧ y.dst = some t := by
    intro i t hip ht
    simp only [dstAt, hxA hip] at ht
    cases hy : l[i]? with
    | none => rw [hy] at ht; cases ht
    | some y => rw [hy] at ht; exact ⟨y, rfl, ht⟩
  have hu : ∀ i d, i < p → dstAt (l.take p) i = some d → dstAt (l.take p) j = some d → i = j := by
    intro i d hip hdi hdj
    obtain ⟨y, hy, hyd⟩ := dst_of hip hdi
    exact hs.dst i j y x d hip hj hy hx hyd (hdst ▸ hdj)
  have hst := told.1 j x (by rw [hxA hj]; exact hx)
  rw [Nat.zero_add] at hst
  -- what is read
  have reads : ∀ t, t ∈ x.reads → Enc c ((envAt (l.take p) val E0 j).get t) (a.tmps.getD t undef) := by
    intro t ht
    by_cases hex : ∃ k, k < p ∧ k ≠ j ∧ dstAt (l.take p) k = some t
    · obtain ⟨k, hkp, hkj, hkt⟩ := hex
      obtain ⟨y, hy, hyd⟩ := dst_of hkp hkt
      have hanc := hs.tmp j k x y t hj hkp hx hy ht hyd hkj
      have hLk := hanc.ready hd hready
      have hkl := hanc.lt hs
      rw [env_hit hkt j hkl (fun i hij hit => by
        obtain ⟨z, hz, hzd⟩ := dst_of (Nat.lt_trans hij hj) hit
        exact hs.dst i k z y t (Nat.lt_trans hij hj) hkp hz hy hzd hyd)]
      exact hi.hit k t hkp hLk hkt
    · rw [env_miss j (fun k hk e => hex ⟨k, Nat.lt_trans hk hj, by omega, e⟩)]
      exact hi.miss t fun k hkp hLk e => hex ⟨k, hkp, (fun e2 => by rw [e2, hLj] at hLk; cases hLk), e⟩
  -- memory as it was told
  have heap : ∀ q, q ∈ rd j → c.H q = heapAt H0 wr j q := by
    intro q hq
    rw [hi.heap, ← hof_heapAt H0 wr j p (by omega)]
    refine hof_congr p fun k hk ⟨y, hy⟩ => ?_
    rcases Nat.lt_trichotomy k j with hlt | heq | hgt
    · have : un k j = false := by
        cases hun : un k j with
        | false => rfl
        | true =>
          have := (told.2.2 k j hlt (by rw [hlen]; exact hj) (by simpa using hun)).1 q (by rw [hy]; rfl)
          exact absurd hq this.1
      rw [(hs.ord k j hlt hj this).ready hd hready]; simp [hlt]
    · subst heq; rw [hLj]; simp
    · have : un j k = false := by
        cases hun : un j k with
        | false => rfl
        | true =>
          have := (told.2.2 j k hgt (by rw [hlen]; exact hk) (by simpa using hun)).2 q (by rw [hy]; rfl)
          exact absurd hq this
      have hanc := hs.ord j k hgt hk this
      have : L k = false := by
        cases hLk : L k with
        | false => rfl
        | true => have := hanc.down hd hLk; rw [hLj] at this; cases this
      rw [this]; simp; omega
  have hdiff : ∀ k, j < k → k < p → L k = true → ∀ b y y', wr j = some (b, y) → wr k ≠ some (b, y') := by
    intro k hjk hkp hLk b y y' hb hk
    have : un j k = true := by
      cases hun : un j k with
      | true => rfl
      | false =>
        have := (hs.ord j k hjk hkp hun).down hd hLk
        rw [hLj] at this; cases this
    have := ((told.2.2 j k hjk (by rw [hlen]; exact hkp) (by simpa using this)).1 b (by rw [hb]; rfl)).2
    exact this (by rw [hk]; rfl)
  have hg := guard_spec h2 a.tmps
  have done : ∀ {c2 : Ctx} {v : Value}, Later (c.unres (β j)) c2 → Ok c2 → c2.H = applyW c.H (wr j) → Enc c2 (val j) v → K (a.put x.dst v) c2.w := by
    intro c2 v g1 g2 g3 g4
    rw [← hdst]
    exact next c2 _ (inv_after hinj hi hj hLj hfar g1 g2 g3 g4 (fun d e => h4 d (hdst ▸ e)) hu hdiff)
  unfold wpOpIn
  simp only [Array.getElem?_eq_getElem hjs]
  rcases hst with ⟨t, bb, b', hgd, hb', hne, hv, hw, _⟩ | ⟨hgd, hstep⟩
  · have henc := reads t (by simp [AOper.reads, hgd])
    rw [hb'] at henc
    rw [hg.2 t bb hgd b' (tmp_bool henc), if_neg (by simp [hne])]
    refine ⟨fun _ _ => trivial, ?_⟩
    rw [h3]
    exact done (c2 := c.unres (β j)) (Later.refl _) (Ctx.unres_ok hi.ok _) (by rw [hw]; rfl) (by rw [hv]; exact .bot _)
  · have hwant : Region.wanted ops[j] (yielded ops a.tmps) = true := by
      rcases hgd with e | ⟨t, bb, e, hb⟩
      · exact hg.1 e
      · have henc := reads t (by simp [AOper.reads, e])
        rw [hb] at henc
        rw [hg.2 t bb e bb (tmp_bool henc)]; simp
    rw [if_pos hwant]
    have hfree : ¬ (c.unres (β j)).U (β j) ∧ ¬ (c.unres (β j)).R (β j) := ⟨(hi.res j hj hLj).1, fun h => h.2 rfl⟩
    have hreads : Reads (c.unres (β j)) (envAt (l.take p) val E0 j).get a x.op.reads := fun t ht => (reads t (by simp [AOper.reads, ht])).later0 (c.unres_later (β j))
    have hex := hstep.2 ops[j] (c.unres (β j)) a h1 heap hfree (Ctx.unres_ok hi.ok _) hreads
    have := hex.wpIn (ro := ro) (next := K) (Q := Q) (not_defer h1) fun c' v r g1 g2 g3 ⟨g4, g5⟩ => by
      rw [h3]
      exact done g1 g2 g5 (g4 ▸ g3)
    exact this

end Go.Proofs.Ytipbcjnniamcgaa.Fw
