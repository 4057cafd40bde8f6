/- The framework, part Q: the law of a region whose order is drawn, joined; what is asked of its edges, as a reckoning. -/
import Derived.Test.YtipbcjnniamcgaaFwP
namespace Go.Proofs.Ytipbcjnniamcgaa.Fw
set_option linter.unusedSimpArgs false
set_option linter.unusedVariables false
open Go

/-- One operation of the fixed part, when its turn comes. -/
theorem step_op {P : Program} {N : Nat} {ro : Option Nat} {ops : Array Oper} {i : Nat} {o : Oper} {x : AOper} (ho : ops[i]? = some o) (hx : compOper P N ops o = some x) {s : St} {K : St → Prop} {r : List AOper} (h : seqOps P (x :: r) s K)
    {c0 c : Ctx} {a : Act} (hl : Later c0 c) (hH : c.H = s.H) (hok : Ok c) (hr : RelA N c s.D s.E a) {Q : Exit → Act → World → Prop} {KN : Act → World → Prop}
    (next : ∀ (c' : Ctx) (a' : Act) (s' : St), Later c0 c' → c'.H = s'.H → Ok c' → RelA N c' s'.D s'.E a' → seqOps P r s' K → KN a' c'.w) : wpOpIn (FW ro) 0 P ops Q i KN a c.w := by
  obtain ⟨h1, h2, h3, h4⟩ := compOper_spec hx
  obtain ⟨d, g, ao⟩ := x
  simp only at h1 h2 h3 h4
  have hg := guard_spec h2 a.tmps
  have exec : effW P ao s.E.get s.H (fun v H' => seqOps P r ⟨s.D, putE s.E d v, H'⟩ K) → o.wpIn (FW ro) 0 P a c.w KN Q := by
    intro hw
    rw [← hH] at hw
    refine (eff_sound h1 hw hok (a := a) (fun t _ => hr.tmp t)).wpIn (not_defer h1) fun c' v rv g1 g2 g3 g4 => ?_
    have hrel := (hr.later g1).put g3 (dst := d) h4
    rw [h3]
    exact next c' _ ⟨s.D, putE s.E d rv, c'.H⟩ (hl.trans g1) rfl g2 hrel g4
  simp only [wpOpIn, ho]
  cases g with
  | none =>
    rw [if_pos (hg.1 rfl)]
    exact exec h
  | some p =>
    obtain ⟨t, b⟩ := p
    simp only [seqOps] at h
    split at h
    · rename_i b' hb'
      have hb := tmp_bool (hb' ▸ hr.tmp t)
      have hwant := hg.2 t b rfl b' hb
      by_cases e : b' = b
      · rw [hwant, if_pos (by simp [e])]
        exact exec (h.1 e)
      · rw [hwant, if_neg (by simp [e])]
        refine ⟨fun _ _ => trivial, ?_⟩
        have hrel := hr.put (dst := d) (r := .bot) (v := undef) (.bot _) h4
        rw [h3]
        exact next c _ ⟨s.D, putE s.E d .bot, s.H⟩ hl hH hok hrel (h.2 e)
    · exact h.elim

theorem phaseB {P : Program} {N : Nat} {ro : Option Nat} {ops : Array Oper} {l : List AOper} {p : Nat} {un : Nat → Nat → Bool} (hs : Stat P N ops l p un) {Q : Exit → St → Prop} {c0 : Ctx} : ∀ (fuel k : Nat) (listed : Array Bool), p ≤ k → k + fuel = ops.size → listed.size = ops.size → (∀ j, listed.getD j false = decide (j < k)) →
    ∀ (s : St) (c : Ctx) (a : Act), seqOps P (l.drop k) s (Q .normal) → Later c0 c → c.H = s.H → Ok c → RelA N c s.D s.E a → wpAnyIn (FW ro) 0 P .any ops (Post N c0 Q) fuel listed a c.w
  | 0, k, listed, hp, hk, hsz, hL, s, c, a, h, hl, hH, hok, hr => by
    have hnil : l.drop k = [] := List.drop_eq_nil_of_le (by rw [hs.len]; omega)
    rw [hnil] at h
    refine ⟨?_, c, s, hH, rfl, hok, hr, hl, h⟩
    refine List.eq_nil_iff_forall_not_mem.2 fun i hi => ?_
    obtain ⟨h1, h2, _⟩ := mem_ready.1 hi
    rw [getD_true_false _ _ (by omega), hL i] at h2
    simp at h2
    omega
  | fuel + 1, k, listed, hp, hk, hsz, hL, s, c, a, h, hl, hH, hok, hr => by
    have hlt : k < ops.size := by omega
    have hdown : Down ops (fun j => listed.getD j false) := by
      intro i o e hi ho he hb
      have h1 := hs.edge i o e ho he hb
      simp only [hL, decide_eq_true_eq] at *
      omega
    have hk_ready : k ∈ Region.ready .any ops listed := mem_ready.2 ⟨hlt, by rw [getD_true_false _ _ (by omega), hL k]; simp, ops[k], Array.getElem?_eq_getElem hlt, fun e he hb => by
      have h1 := hs.edge k _ e (Array.getElem?_eq_getElem hlt) he hb
      rw [hL]; simpa using h1⟩
    refine ⟨(fun hnil => by rw [hnil] at hk_ready; cases hk_ready), fun i hi => ?_⟩
    obtain ⟨h1, h2, o, ho, h3⟩ := mem_ready.1 hi
    rw [getD_true_false _ _ (by omega), hL i] at h2
    have hik : i = k := by
      rcases Nat.lt_trichotomy i k with h | h | h
      · simp at h2; omega
      · exact h
      · have hanc := hs.tail k i (by omega) h1 h
        have := hanc.ready (L := fun j => listed.getD j false) hdown (fun o' e ho' he hb => by
          rw [ho] at ho'; injection ho' with ho'; subst ho'
          exact h3 e he hb)
        simp [hL] at this
    subst hik
    obtain ⟨x, hx, hcomp⟩ := hs.comp i o ho
    have hdrop : l.drop i = x :: l.drop (i + 1) := by
      obtain ⟨hil, e⟩ := List.getElem?_eq_some_iff.1 hx
      rw [List.drop_eq_getElem_cons hil, e]
    rw [hdrop] at h
    refine step_op ho hcomp h hl hH hok hr fun c' a' s' g1 g2 g3 g4 g5 => ?_
    refine phaseB hs fuel (i + 1) (listed.setIfInBounds i true) (by omega) (by omega) (by simp [hsz]) (fun j => ?_) s' c' a' g5 g1 g2 g3 g4
    rw [getD_set _ _ _ (by omega), hL]
    by_cases e : j = i
    · subst e; simp
    · simp [e]; omega

theorem phaseA {P : Program} {N : Nat} {ro : Option Nat} {ops : Array Oper} {l : List AOper} {p : Nat} {un : Nat → Nat → Bool} (hs : Stat P N ops l p un) {val : Nat → AV} {wr : Nat → Option (Nat × ABlk)} {rd : Nat → List Nat} {β : Nat → Nat} (hinj : ∀ i j, β i = β j → i = j) {D : List Nat} {E0 : Env} {H0 : AHeap}
    (told : Told P un β (l.take p) 0 E0 H0 [] [] val wr rd) {c0 : Ctx} (hfar : ∀ i, ¬ c0.R (β i)) {Q : Exit → St → Prop} (hend : seqOps P (l.drop p) ⟨D, envAt (l.take p) val E0 p, heapAt H0 wr p⟩ (Q .normal)) :
    ∀ (fuel : Nat) (listed : Array Bool), listed.size = ops.size → (listed.toList.filter id).length + fuel = ops.size → Down ops (fun j => listed.getD j false) → (∀ j, p ≤ j → listed.getD j false = false) → ∀ (c : Ctx) (a : Act), Inv N (l.take p) p val wr β D E0 H0 c0 (fun j => listed.getD j false) c a →
      wpAnyIn (FW ro) 0 P .any ops (Post N c0 Q) fuel listed a c.w := by
  have hlenA : (l.take p).length = p := by have := hs.len; have := hs.ple; simp; omega
  -- all of the free part is listed: on with the fixed part
  have toB : ∀ (fuel : Nat) (listed : Array Bool), listed.size = ops.size → (listed.toList.filter id).length + fuel = ops.size → (∀ j, p ≤ j → listed.getD j false = false) → (∀ j, j < p → listed.getD j false = true) → ∀ (c : Ctx) (a : Act), Inv N (l.take p) p val wr β D E0 H0 c0 (fun j => listed.getD j false) c a →
      wpAnyIn (FW ro) 0 P .any ops (Post N c0 Q) fuel listed a c.w := by
    intro fuel listed hsz hcnt hno hall c a hi
    have hLd : ∀ j, listed.getD j false = decide (j < p) := by
      intro j
      by_cases e : j < p
      · rw [hall j e]; simp [e]
      · rw [hno j (by omega)]; simp [e]
    have hcount : (listed.toList.filter id).length = p := by
      have : listed.toList = List.replicate p true ++ List.replicate (ops.size - p) false := by
        apply List.ext_getElem
        · have := hs.ple; simp [hsz]; omega
        · intro i h1 h2
          have hd := hLd i
          have hi' : i < listed.size := by simpa using h1
          simp only [Array.getD, hi', dif_pos] at hd
          rw [Array.getElem_toList]
          by_cases e : i < p
          · rw [List.getElem_append_left (by simpa using e)]
            simpa [e] using hd
          · rw [List.getElem_append_right (by simp; omega)]
            simpa [e] using hd
      rw [this]; simp
    have hheap : c.H = heapAt H0 wr p := by
      rw [hi.heap, ← hof_heapAt H0 wr p p (Nat.le_refl _)]
      congr 1
      funext j; exact hLd j
    have hrel : RelA N c D (envAt (l.take p) val E0 p) a := by
      refine ⟨hi.size, fun t => ?_, hi.dlen, hi.dmark⟩
      by_cases hex : ∃ k, k < p ∧ dstAt (l.take p) k = some t
      · obtain ⟨k, hk, hkt⟩ := hex
        rw [env_hit hkt p hk (fun i hip hit => by
          have : ∀ {i : Nat}, i < p → dstAt (l.take p) i = some t → ∃ y, l[i]? = some y ∧ y.dst = some t := by
            intro i hip ht
            simp only [dstAt, List.getElem?_take, if_pos hip] at ht
            cases hy : l[i]? with
            | none => rw [hy] at ht; cases ht
            | some y => rw [hy] at ht; exact ⟨y, rfl, ht⟩
          obtain ⟨y, hy, hyd⟩ := this hip hit
          obtain ⟨z, hz, hzd⟩ := this hk hkt
          exact hs.dst i k y z t hip hk hy hz hyd hzd)]
        exact hi.hit k t hk (hall k hk) hkt
      · rw [env_miss p (fun j hj e => hex ⟨j, hj, e⟩)]
        exact hi.miss t fun j hj _ e => hex ⟨j, hj, e⟩
    exact phaseB hs fuel p listed (Nat.le_refl _) (by omega) hsz hLd ⟨D, envAt (l.take p) val E0 p, heapAt H0 wr p⟩ c a hend hi.lat hheap hi.ok hrel
  intro fuel
  induction fuel with
  | zero =>
    intro listed hsz hcnt hdown hno c a hi
    -- as many are listed as there are: all
    have hallt : ∀ b ∈ listed.toList, b = true := by
      have : (listed.toList.filter id).length = listed.toList.length := by simp at hcnt ⊢; omega
      have := List.length_filter_eq_length_iff.1 this
      intro b hb; simpa using this b hb
    refine toB 0 listed hsz hcnt hno (fun j hj => ?_) c a hi
    have hj' : j < listed.size := by have := hs.ple; omega
    simp only [Array.getD, hj', dif_pos]
    have hm : listed[j] ∈ listed.toList := by rw [← Array.getElem_toList]; exact List.getElem_mem _
    exact hallt _ hm
  | succ fuel ih =>
    intro listed hsz hcnt hdown hno c a hi
    by_cases hall : ∀ j, j < p → listed.getD j false = true
    · exact toB (fuel + 1) listed hsz hcnt hno hall c a hi
    · -- the first that is not listed may come up
      obtain ⟨j0, hj0⟩ : ∃ j, j < p ∧ listed.getD j false = false := by
        by_cases h : ∃ j, j < p ∧ listed.getD j false = false
        · exact h
        · exact absurd (fun j hj => by
            cases e : listed.getD j false with
            | true => rfl
            | false => exact absurd ⟨j, hj, e⟩ h) hall
      have hne : Region.ready .any ops listed ≠ [] := by
        have : ∀ j, j < p → listed.getD j false = false → ∃ i, i ∈ Region.ready .any ops listed := by
          intro j
          induction j using Nat.strongRecOn with
          | _ j ihj =>
            intro hj hf
            have hjs : j < ops.size := Nat.lt_of_lt_of_le hj hs.ple
            by_cases hr : ∀ e ∈ (ops[j]).after, Region.binds .any e = true → listed.getD e.on false = true
            · exact ⟨j, mem_ready.2 ⟨hjs, by rw [getD_true_false _ _ (by omega)]; exact hf, ops[j], Array.getElem?_eq_getElem hjs, hr⟩⟩
            · have : ∃ e, e ∈ (ops[j]).after ∧ Region.binds .any e = true ∧ listed.getD e.on false = false := by
                apply Classical.byContradiction
                intro hn
                exact hr fun e he hb => by
                  cases hq : listed.getD e.on false with
                  | true => rfl
                  | false => exact absurd ⟨e, he, hb, hq⟩ hn
              obtain ⟨e, he, hb, hq⟩ := this
              have hlt := hs.edge j _ e (Array.getElem?_eq_getElem hjs) he hb
              exact ihj e.on hlt (by omega) hq
        obtain ⟨i, hi⟩ := this j0 hj0.1 hj0.2
        intro e; rw [e] at hi; cases hi
      refine ⟨fun e => absurd e hne, fun i hir => ?_⟩
      obtain ⟨h1, h2, o, ho, h3⟩ := mem_ready.1 hir
      rw [getD_true_false _ _ (by omega)] at h2
      have hready : ∀ o' e, ops[i]? = some o' → e ∈ o'.after → Region.binds .any e = true → listed.getD e.on false = true := by
        intro o' e ho' he hb
        rw [ho] at ho'; injection ho' with ho'; subst ho'
        exact h3 e he hb
      have hip : i < p := by
        apply Classical.byContradiction
        intro hn
        have hanc := hs.tail j0 i (by omega) h1 (by omega)
        have := hanc.ready (L := fun j => listed.getD j false) hdown hready
        rw [hj0.2] at this; cases this
      refine step_any hs hinj told hfar hdown hi hip h2 hready fun c' a' hi' => ?_
      have hfun : (fun j => (listed.setIfInBounds i true).getD j false) = (fun k => listed.getD k false || decide (k = i)) := by
        funext j; exact getD_set _ _ _ (by omega)
      refine ih (listed.setIfInBounds i true) (by simp [hsz]) ?_ ?_ (fun j hj => ?_) c' a' (by rw [hfun]; exact hi')
      · have hil : i < listed.toList.length := by simp; omega
        have hget : listed.toList[i] = false := by
          have : i < listed.size := by omega
          simp only [Array.getD, this, dif_pos] at h2
          rw [Array.getElem_toList]; exact h2
        have hset : ((listed.setIfInBounds i true).toList.filter id).length = (listed.toList.filter id).length + 1 := by
          rw [Array.toList_setIfInBounds]
          have e1 : listed.toList = listed.toList.take i ++ false :: listed.toList.drop (i + 1) := by
            conv => lhs; rw [← List.take_append_drop i listed.toList]
            rw [List.drop_eq_getElem_cons hil, hget]
          have e2 : listed.toList.set i true = listed.toList.take i ++ true :: listed.toList.drop (i + 1) := by
            rw [List.set_eq_take_append_cons_drop, if_pos hil]
          rw [e2]
          conv => rhs; rw [e1]
          simp [List.filter_append]
          omega
        omega
      · rw [hfun]
        intro j o' e hj ho' he hb
        have : listed.getD j false = true ∨ j = i := by simpa using hj
        rcases this with h | h
        · simp [hdown j o' e h ho' he hb]
        · subst h; simp [hready o' e ho' he hb]
      · rw [getD_set _ _ _ (by omega), hno j hj]
        simp; omega

end Go.Proofs.Ytipbcjnniamcgaa.Fw
