/- The framework, part T: results settled; rows given up for good; calls that answer one value. -/
import Derived.Test.YtipbcjnniamcgaaFwS
namespace Go.Proofs.Ytipbcjnniamcgaa.Fw
set_option linter.unusedSimpArgs false
set_option linter.unusedVariables false
open Go

/-- A row of one's own, given up: it is read from now on. -/
def frz1 (b es : Nat) (cells : List AV) : AV → AV
  | .own b' L off n t => if b' = b then (if L = cells.length ∧ (n = 0 ∨ off + n * es ≤ L) then .seq n ((cells.drop off).take (n * es)) t else .bot) else .own b' L off n t
  | x => x
def frz2 (b es : Nat) (cells : List AV) : AV → AV
  | .agg l => .agg (l.map (frz1 b es cells))
  | x => frz1 b es cells x
def frz (b es : Nat) (cells : List AV) : AV → AV
  | .tup l => .tup (l.map (frz2 b es cells))
  | x => frz2 b es cells x

theorem Enc.list_map {c c' : Ctx} {f : AV → AV} {l : List AV} {vs : Array Value} (hf : ∀ x v, Enc c x v → Enc c' (f x) v) (hc : ∀ i (h : i < l.length) (h' : i < vs.size), Enc c (l[i]) (vs[i])) :
    ∀ i (h : i < (l.map f).length) (h' : i < vs.size), Enc c' ((l.map f)[i]) (vs[i]) := by
  intro i h h'
  rw [List.getElem_map]
  exact hf _ _ (hc i (by simpa using h) h')

theorem enc_frz1 {c : Ctx} (hok : Ok c) {b : Nat} {ty : TypeId} {es : Nat} {cells : List AV} (hH : c.H b = some (.row ty es cells)) (x : AV) (v : Value) (h : Enc c x v) : Enc (c.drop b) (frz1 b es cells x) v := by
  unfold frz1
  split
  · split
    · rename_i e; subst e
      split
      · rename_i hc; exact Enc.freeze hok h hH hc.1.symm hc.2
      · exact .bot _
    · exact h.later (c.drop_later b)
  · exact h.later (c.drop_later b)
theorem enc_frz2 {c : Ctx} (hok : Ok c) {b : Nat} {ty : TypeId} {es : Nat} {cells : List AV} (hH : c.H b = some (.row ty es cells)) (x : AV) (v : Value) (h : Enc c x v) : Enc (c.drop b) (frz2 b es cells x) v := by
  unfold frz2
  split
  · cases h with
    | agg l vs hlen hc => exact .agg _ _ (by simpa using hlen) (Enc.list_map (enc_frz1 hok hH) hc)
  · exact enc_frz1 hok hH _ _ h
theorem enc_frz {c : Ctx} (hok : Ok c) {b : Nat} {ty : TypeId} {es : Nat} {cells : List AV} (hH : c.H b = some (.row ty es cells)) (x : AV) (v : Value) (h : Enc c x v) : Enc (c.drop b) (frz b es cells x) v := by
  unfold frz
  split
  · cases h with
    | tup l vs hlen hc => exact .tup _ _ (by simpa using hlen) (Enc.list_map (enc_frz2 hok hH) hc)
  · exact enc_frz2 hok hH _ _ h

/-- A row whose room is not told any more. -/
def loose1 : AV → AV
  | .seq n cells _ => .seq n cells false
  | x => x
def loose2 : AV → AV
  | .agg l => .agg (l.map loose1)
  | x => loose1 x
def loose : AV → AV
  | .tup l => .tup (l.map loose2)
  | x => loose2 x
theorem enc_loose1 {c : Ctx} (x : AV) (v : Value) (h : Enc c x v) : Enc c (loose1 x) v := by
  unfold loose1
  split
  · cases h with
    | seq n cells t base cap cv hlen hcap hmax ht hb hn hc => exact .seq _ _ false base cap cv hlen hcap hmax (fun e => by cases e) hb hn hc
  · exact h
theorem enc_loose2 {c : Ctx} (x : AV) (v : Value) (h : Enc c x v) : Enc c (loose2 x) v := by
  unfold loose2
  split
  · cases h with
    | agg l vs hlen hc => exact .agg _ _ (by simpa using hlen) (Enc.list_map enc_loose1 hc)
  · exact enc_loose1 _ _ h
theorem enc_loose {c : Ctx} (x : AV) (v : Value) (h : Enc c x v) : Enc c (loose x) v := by
  unfold loose
  split
  · cases h with
    | tup l vs hlen hc => exact .tup _ _ (by simpa using hlen) (Enc.list_map enc_loose2 hc)
  · exact enc_loose2 _ _ h

def Env.map (f : AV → AV) (E : Env) : Env := List.map (fun p => (p.1, f p.2)) E
theorem Env.get_map (f : AV → AV) (hf : f .bot = .bot) (E : Env) (t : Nat) : (Env.map f E).get t = f (E.get t) := by
  induction E with
  | nil => exact hf.symm
  | cons p r ih =>
    obtain ⟨k, v⟩ := p
    show (if k = t then f v else Env.get (Env.map f r) t) = f (if k = t then v else Env.get r t)
    split
    · rfl
    · exact ih

/-- A block given up, and all that lead to it read from now on. -/
theorem Settle.frz {K : St → Prop} {D : List Nat} {E : Env} {H : AHeap} (b : Nat) {ty : TypeId} {es : Nat} {cells : List AV} (hH : H b = some (.row ty es cells)) (h : Settle K ⟨D, E.map (frz b es cells), H.upd b none⟩) : Settle K ⟨D, E, H⟩ := by
  refine Settle.join ?_
  intro N c a hc hok hr
  refine ⟨c.drop b, ⟨D, E.map (Fw.frz b es cells), H.upd b none⟩, by simp only [Ctx.drop, hc], rfl, Ctx.drop_ok hok b, ?_, c.drop_later b, h⟩
  have hr' := hr.later (c.drop_later b)
  refine ⟨hr'.size, fun u => ?_, hr'.dlen, hr'.dmark⟩
  rw [Env.get_map _ rfl]
  exact enc_frz hok (by rw [hc]; exact hH) _ _ (hr.tmp u)
theorem Settle.loose {K : St → Prop} {D : List Nat} {E : Env} {H : AHeap} (t : Nat) (h : Settle K ⟨D, E.set t (loose (E.get t)), H⟩) : Settle K ⟨D, E, H⟩ := by
  refine Settle.join ?_
  intro N c a hc hok hr
  refine ⟨c, ⟨D, E.set t (Fw.loose (E.get t)), H⟩, hc, rfl, hok, ⟨hr.size, fun u => ?_, hr.dlen, hr.dmark⟩, Later.refl c, h⟩
  show Enc c (Env.get (E.set t (Fw.loose (E.get t))) u) _
  rw [Env.get_set]
  split
  · rename_i e; subst e; exact enc_loose _ _ (hr.tmp u)
  · exact hr.tmp u

/-- A result may be taken for another one (weaker; memory given up). -/
def SetR (Q : AV → AHeap → Prop) (r : AV) (H : AHeap) : Prop :=
  ∀ (c : Ctx) (v : Value), c.H = H → Ok c → Enc c r v → ∃ (c' : Ctx) (r' : AV), c'.w = c.w ∧ Ok c' ∧ Later c c' ∧ Enc c' r' v ∧ Q r' c'.H
theorem SetR.now {Q : AV → AHeap → Prop} {r : AV} {H : AHeap} (h : Q r H) : SetR Q r H := fun c _ hH hok he => ⟨c, r, rfl, hok, Later.refl c, he, hH ▸ h⟩
theorem SetR.join {Q : AV → AHeap → Prop} {r : AV} {H : AHeap} (h : SetR (SetR Q) r H) : SetR Q r H := fun c v hH hok he =>
  let ⟨c', r', h1, h2, h3, h4, h5⟩ := h c v hH hok he
  let ⟨c'', r'', g1, g2, g3, g4, g5⟩ := h5 c' v rfl h2 h4
  ⟨c'', r'', g1.trans h1, g2, h3.trans g3, g4, g5⟩
theorem SetR.mono {Q Q' : AV → AHeap → Prop} {r : AV} {H : AHeap} (h : SetR Q r H) (hq : ∀ r H, Q r H → Q' r H) : SetR Q' r H := fun c v hH hok he =>
  let ⟨c', r', h1, h2, h3, h4, h5⟩ := h c v hH hok he
  ⟨c', r', h1, h2, h3, h4, hq _ _ h5⟩
theorem SetR.kill {Q : AV → AHeap → Prop} {r : AV} {H : AHeap} (b : Nat) (h : SetR Q r (H.upd b none)) : SetR Q r H :=
  SetR.join fun c _ hH hok he => ⟨c.drop b, r, rfl, Ctx.drop_ok hok b, c.drop_later b, he.later (c.drop_later b), by show SetR Q r (c.H.upd b none); rw [hH]; exact h⟩
theorem SetR.frz {Q : AV → AHeap → Prop} {r : AV} {H : AHeap} (b : Nat) {ty : TypeId} {es : Nat} {cells : List AV} (hb : H b = some (.row ty es cells)) (h : SetR Q (frz b es cells r) (H.upd b none)) : SetR Q r H :=
  SetR.join fun c v hH hok he => ⟨c.drop b, Fw.frz b es cells r, rfl, Ctx.drop_ok hok b, c.drop_later b, enc_frz hok (by rw [hH]; exact hb) r v he, by show SetR Q _ (c.H.upd b none); rw [hH]; exact h⟩
theorem SetR.loose {Q : AV → AHeap → Prop} {r : AV} {H : AHeap} (h : SetR Q (loose r) H) : SetR Q r H :=
  SetR.join fun c v hH hok he => ⟨c, Fw.loose r, rfl, hok, Later.refl c, enc_loose r v he, hH ▸ h⟩
theorem Run.settle {P : Program} {f : FuncId} {args : List AV} {H : AHeap} {Q : AV → AHeap → Prop} (h : Run P f args H (SetR Q)) : Run P f args H Q :=
  ⟨h.1, fun c vs hH hok hs he => (h.2 c vs hH hok hs he).mono fun _ _ ⟨c', v, _, a1, a2, a3, a4, a5, a6⟩ =>
    let ⟨c'', r', b1, b2, b3, b4, b5⟩ := a6 c' v rfl a3 a5
    ⟨c'', v, r', a1, b1.trans a2, b2, a4.trans b3, b4, b5⟩⟩

/-- The context in which only older blocks are followed. -/
def Ctx.dropTo (c : Ctx) (H : AHeap) : Ctx := { c with H := H }
theorem Ctx.dropTo_later (c : Ctx) {H : AHeap} (hl : Le H c.H) : Later c (c.dropTo H) := by
  refine ⟨⟨Nat.le_refl _, rfl, rfl, rfl, fun _ h => h, ?_, ?_⟩, fun _ h => ⟨h, fun k => k⟩⟩
  · intro i x' _ hx
    exact ⟨x', hl i x' hx, Nat.le_refl _, fun _ => ⟨rfl, fun _ _ cells e => ⟨cells, e, fun arr h => ⟨arr, h, rfl⟩⟩⟩⟩
  · rintro k _ hm
    refine ⟨rfl, fun ⟨i, hi, e⟩ => hm ⟨i, ?_, e⟩⟩
    obtain ⟨x, hx⟩ := Option.ne_none_iff_exists'.1 (show H i ≠ none from hi)
    rw [hl i x hx]; simp
theorem Ctx.dropTo_ok {c : Ctx} (h : Ok c) {H : AHeap} (hl : Le H c.H) : Ok (c.dropTo H) := by
  have ne : ∀ i, H i ≠ none → c.H i ≠ none := by
    intro i hi
    obtain ⟨x, hx⟩ := Option.ne_none_iff_exists'.1 hi
    rw [hl i x hx]; simp
  refine ⟨fun i hi => h.used i (ne i hi), h.fin, fun i j hi hj e => h.inj i j (ne i hi) (ne j hj) e, fun i x hx => ?_⟩
  exact (h.blk i x (hl i x hx)).later (c.dropTo_later hl) rfl rfl
theorem Settle.dropTo {K : St → Prop} {D : List Nat} {E : Env} {H H' : AHeap} (hl : Le H H') (h : Settle K ⟨D, E, H⟩) : Settle K ⟨D, E, H'⟩ := by
  refine Settle.join ?_
  intro N c a hc hok hr
  have hc' : c.H = H' := hc
  subst hc'
  exact ⟨c.dropTo H, ⟨D, E, H⟩, rfl, rfl, Ctx.dropTo_ok hok hl, hr.later (c.dropTo_later hl), c.dropTo_later hl, h⟩
theorem SetR.dropTo {Q : AV → AHeap → Prop} {r : AV} {H H' : AHeap} (hl : Le H H') (h : SetR Q r H) : SetR Q r H' := by
  refine SetR.join ?_
  intro c v hc hok he
  subst hc
  exact ⟨c.dropTo H, r, rfl, Ctx.dropTo_ok hok hl, c.dropTo_later hl, he.later (c.dropTo_later hl), h⟩
theorem Le.upd {H0 H : AHeap} {b : Nat} {x : Option ABlk} (h : Le H0 H) (hb : H b = none) : Le H0 (H.upd b x) := by
  intro i y hy
  have := h i y hy
  by_cases e : i = b
  · subst e; rw [hb] at this; cases this
  · rw [upd_other _ _ e]; exact this

theorem Le.updB {H0 H : AHeap} {b : Nat} {x : Option ABlk} (h : Le H0 H) (hb : H0 b = none) : Le H0 (H.upd b x) := by
  intro i y hy
  by_cases e : i = b
  · subst e; rw [hb] at hy; cases hy
  · rw [upd_other _ _ e]; exact h i y hy

/-- At a function's end, its result settled. -/
def resK (Q : AV → AHeap → Prop) (H : AHeap) (l : List AV) : Prop := SetR Q (tupA l) H
def retN (rs : List RV) (Q : AV → AHeap → Prop) : Exit → St → Prop
  | .normal, s => s.D = [] ∧ resA s.E.get s.H rs (resK Q s.H)
  | .ret, s => s.D = [] ∧ resA s.E.get s.H rs (resK Q s.H)
  | _, _ => False
theorem Run_fn2 {P : Program} {f : FuncId} {fn : Func} {pl : Plan} {ac : ACode} {rs : List RV} (hm : P.follows .mixedOrders = true) (hf : P.funcs[f]? = some fn) (hname : (fn.name == "runtime.NumGoroutine") = false) (hc : compFn P fn pl = some (ac, rs)) {n : Nat} (hN : fn.ntmps = n)
    {args : List AV} {H : AHeap} {Q : AV → AHeap → Prop} (hn : args.length ≤ n) (h : W P ac (retN rs Q) ⟨[], initE args 0, H⟩) : Run P f args H Q := by
  unfold compFn at hc
  split at hc
  · rename_i c hb
    split at hc
    · rename_i ac' rs' h1 h2
      injection hc with hc
      injection hc with e1 e2
      subst e1; subst e2
      refine Run.settle (Run_aw hf hname hb h2 (by omega) (AW.mono (comp_sound hm c ac' h1 (retN rs' Q) ⟨[], initE args 0, H⟩ h) fun e s hs => ?_))
      cases e with
      | normal => exact Settle.now hs
      | ret => exact Settle.now hs
      | _ => exact hs.elim
    · cases hc
  · cases hc

/-- A call that answers one value and leaves memory as it was. -/
def PFn (P : Program) (f : FuncId) (args : List AV) (r : AV) : Prop := ∀ (H : AHeap) (Q : AV → AHeap → Prop), Q r H → Run P f args H Q
theorem PFn.call {P : Program} {f : FuncId} {args : List AV} {r : AV} (h : PFn P f args r) {H : AHeap} {K : AV → AHeap → Prop} (k : K r H) : callW P (.fn (.func f) [] []) args H K := by
  simpa [callW] using h H K k
theorem PFn.draw {P : Program} {f : FuncId} {args : List AV} {r : AV} (h : PFn P f args r) {K : AV → Prop} (k : K r) : ∃ rv, (∀ H', callW P (.fn (.func f) [] []) args H' fun v H'' => v = rv ∧ H'' = H') ∧ K rv :=
  ⟨r, fun _ => h.call ⟨rfl, rfl⟩, k⟩

end Go.Proofs.Ytipbcjnniamcgaa.Fw
