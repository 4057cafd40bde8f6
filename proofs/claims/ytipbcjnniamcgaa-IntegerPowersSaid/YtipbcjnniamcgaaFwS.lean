/- The framework, part S: code, looked up; what it does; functions entered. -/
import Derived.Test.YtipbcjnniamcgaaFwR
namespace Go.Proofs.Ytipbcjnniamcgaa.Fw
set_option linter.unusedSimpArgs false
set_option linter.unusedVariables false
open Go

inductive ACode where
  | skip
  | reg (l : List AOper) (kp : List Nat)
  | draw (a b : List AOper) (us : List Nat) (kp : List Nat)
  | seq (a b : ACode)
  | cond (c : Opd) (a b : ACode)
  | block (n : Nat) (c : ACode)
  | loop (c : ACode)
  | exit (n : Nat)
  | ret
  | scope0 (c : ACode)

def St.keep (s : St) (l : List Nat) : St := ⟨s.D, s.E.keep l, s.H⟩

/-- Leaving a loop by an exit, what was told may be settled. -/
def setl (Q : Exit → St → Prop) : Exit → St → Prop
  | .exit n, s => Settle (Q (.exit n)) s
  | e, s => Q e s

/-- What a piece of code does. -/
def W (P : Program) : ACode → (Exit → St → Prop) → St → Prop
  | .skip, Q, s => Q .normal s
  | .reg l kp, Q, s => seqOps P l s fun s' => Q .normal (s'.keep kp)
  | .draw a b us kp, Q, s => drawA P (unM us) a 0 s.E s.H [] [] fun E H => seqOps P b ⟨s.D, E, H⟩ fun s' => Q .normal (s'.keep kp)
  | .seq a b, Q, s => W P a (thenA (fun s' => W P b Q s') Q) s
  | .cond c a b, Q, s => match c.ev s.E.get with
    | .bool t => (t = true → W P a Q s) ∧ (t = false → W P b Q s)
    | _ => False
  | .block n c, Q, s => W P c (blockA n Q) s
  | .loop c, Q, s => ∃ I : Nat → St → Prop, (∃ n, Settle (I n) s) ∧ ∀ n s', I n s' → W P c (thenA (Settle fun s'' => ∃ n', n' < n ∧ I n' s'') (setl Q)) s'
  | .exit n, Q, s => Q (.exit n) s
  | .ret, Q, s => Q .ret s
  | .scope0 c, Q, s => W P c (scopeA Q) s

/-- What a compiled function needs beside its code: of each region what is kept behind it; of each drawn one where its free part ends, which are not ordered, and the masks. -/
structure Plan where
  kp : Nat → List Nat
  dr : Nat → Nat × List Nat × List Nat

def comp (P : Program) (N : Nat) (pl : Plan) : Code → Option ACode
  | .skip => some .skip
  | .region rid ops false => (compOpers P N ops ops.toList).map (.reg · (pl.kp rid))
  | .region rid ops true => match compOpers P N ops ops.toList with
    | some l => if masksGo ops.toList [] = (pl.dr rid).2.2 ∧ statB ops l (pl.dr rid).1 (pl.dr rid).2.1 (pl.dr rid).2.2 = true then some (.draw (l.take (pl.dr rid).1) (l.drop (pl.dr rid).1) (pl.dr rid).2.1 (pl.kp rid)) else none
    | none => none
  | .seq a b => match comp P N pl a, comp P N pl b with
    | some x, some y => some (.seq x y)
    | _, _ => none
  | .cond c a b => match compOpd c, comp P N pl a, comp P N pl b with
    | some c, some x, some y => some (.cond c x y)
    | _, _, _ => none
  | .block n c => (comp P N pl c).map (.block n)
  | .loop c => (comp P N pl c).map .loop
  | .exit n => some (.exit n)
  | .ret => some .ret
  | .label _ => some .skip
  | .scope c => (comp P N pl c).map .scope0
  | _ => none

theorem AW.unsettle {P : Program} {rr : Bool} {N : Nat} {c : Code} {Q : Exit → St → Prop} {s : St} (h : AW P rr N c (fun e => Settle (Q e)) s) : AW P rr N c Q s :=
  fun ro c a hr hH hok hrel => wpIn_mono (h ro c a hr hH hok hrel) fun _ _ _ hp => Post.settle hp

theorem comp_sound {P : Program} {rr : Bool} {N : Nat} {pl : Plan} (hm : P.follows .mixedOrders = true) : ∀ (c : Code) (ac : ACode), comp P N pl c = some ac → ∀ (Q : Exit → St → Prop) (s : St), W P ac Q s → AW P rr N c Q s := by
  have region : ∀ (kp : List Nat) (Q : Exit → St → Prop) (c : Code) (s : St), AW P rr N c (fun e s' => e = .normal ∧ Q .normal (s'.keep kp)) s → AW P rr N c Q s := by
    intro kp Q c s h
    refine AW.unsettle (AW.mono h fun e s' h => ?_)
    obtain ⟨rfl, h⟩ := h
    exact Settle.keep kp h
  intro c
  induction c with
  | skip => intro ac h Q s hw; injection h with h; subst h; exact AW_skip hw
  | region rid ops draw =>
    intro ac h Q s hw
    cases draw with
    | false =>
      obtain ⟨l, hl, rfl⟩ := map_spec h
      refine region (pl.kp rid) Q _ s (AW_region hl ?_)
      simp only [W] at hw
      simpa using hw
    | true =>
      simp only [comp] at h
      split at h
      · rename_i l hl
        split at h
        · rename_i hc
          injection h with h; subst h
          refine region (pl.kp rid) Q _ s (AW_draw (stat_of hl hc.1 hc.2) hm ?_)
          simp only [W] at hw
          simpa using hw
        · cases h
      · cases h
  | seq a b iha ihb =>
    intro ac h Q s hw
    simp only [comp] at h
    split at h
    · rename_i x y hx hy
      injection h with h; subst h
      refine AW_seq (AW.mono (iha x hx _ s hw) fun e s' h => ?_)
      cases e with
      | normal => exact ihb y hy Q s' h
      | _ => exact h
    · cases h
  | cond c a b iha ihb =>
    intro ac h Q s hw
    simp only [comp] at h
    split at h
    · rename_i o x y ho hx hy
      injection h with h; subst h
      simp only [W] at hw
      split at hw
      · rename_i t ht
        refine AW_cond (b := t) (fun c' a' hH hok hr => ?_) (fun e => iha x hx Q s (hw.1 e)) (fun e => ihb y hy Q s (hw.2 e))
        have := enc_opd (c := c') (E := s.E.get) (a := a') ho (fun t _ => hr.tmp t)
        rw [ht] at this
        generalize hv : a'.eval c = v at this
        cases this
        rfl
      · exact hw.elim
    · cases h
  | block n c ih => intro ac h Q s hw; obtain ⟨x, hx, rfl⟩ := map_spec h; exact AW_block (ih x hx _ s hw)
  | loop c ih =>
    intro ac h Q s hw
    obtain ⟨x, hx, rfl⟩ := map_spec h
    obtain ⟨I, h0, h1⟩ := hw
    refine AW_loop I h0 fun n s' hI => AW.unsettle (AW.mono (ih x hx _ s' (h1 n s' hI)) fun e s'' h => ?_)
    cases e with
    | exit n => exact h
    | normal => exact Settle.now h
    | ret => exact Settle.now h
    | goto n => exact Settle.now h
    | panic c => exact Settle.now h
    | outgrown => exact Settle.now h
  | exit n => intro ac h Q s hw; injection h with h; subst h; exact AW_exit hw
  | ret => intro ac h Q s hw; injection h with h; subst h; exact AW_ret hw
  | label l => intro ac h Q s hw; injection h with h; subst h; exact AW_label hw
  | scope c ih => intro ac h Q s hw; obtain ⟨x, hx, rfl⟩ := map_spec h; exact AW_scope0 (ih x hx _ s hw)
  | _ => intro ac h; cases h

/-! ### results -/
inductive RV where
  | t (n : Nat)
  | cell (n : Nat) (ag : Option Nat)
def compRes (P : Program) : List ResultVar → Option (List RV)
  | [] => some []
  | .tmp n :: r => (compRes P r).map (.t n :: ·)
  | .cell n ty :: r => match aggOf P ty, compRes P r with
    | some ag, some l => some (.cell n ag :: l)
    | _, _ => none
def resA (E : Nat → AV) (H : AHeap) : List RV → (List AV → Prop) → Prop
  | [], K => K []
  | .t n :: r, K => resA E H r fun l => K (E n :: l)
  | .cell n ag :: r, K => loadW H ag (E n) fun v => resA E H r fun l => K (v :: l)
def tupA : List AV → AV
  | [v] => v
  | l => .tup l

theorem loadAt_var {P : Program} {t : TypeId} {v r : Value} {w : World} (h : (Instr.loadAt t v).run P w = .ok r w) : (do loadVar t (← asAddr v) : Sem Value).run P w = .ok r w := by
  unfold Instr.loadAt at h
  cases v with
  | pointer p =>
    cases p with
    | none => simp [Instr.sureAddr] at h
    | some a => simpa [Instr.sureAddr, asAddr] using h
  | _ => simp [Instr.sureAddr] at h

theorem res_sound {P : Program} {c : Ctx} (hok : Ok c) {E : Nat → AV} {a : Act} (hr : ∀ t, Enc c (E t) (a.tmps.getD t undef)) : ∀ {rs : List ResultVar} {l : List RV} {K : List AV → Prop}, compRes P rs = some l → resA E c.H l K →
    ∃ (vs : List Value) (xs : List AV), (rs.mapM (m := Sem) fun | .tmp t => pure (a.tmps.getD t undef) | .cell n t => do loadVar t (← asAddr (a.tmps.getD n undef))).run P c.w = .ok vs c.w ∧ vs.length = xs.length ∧ (∀ i (h : i < xs.length) (h' : i < vs.length), Enc c (xs[i]) (vs[i])) ∧ K xs
  | [], l, K, hl, h => by
    injection hl with hl; subst hl
    exact ⟨[], [], rfl, rfl, fun i h => absurd h (by simp), h⟩
  | .tmp n :: r, l, K, hl, h => by
    obtain ⟨l', hl', rfl⟩ := map_spec hl
    obtain ⟨vs, xs, h1, h2, h3, h4⟩ := res_sound hok hr hl' h
    refine ⟨a.tmps.getD n undef :: vs, E n :: xs, by simp only [List.mapM_cons, Sem.run_bind, Sem.run_pure, Result.andThen_ok, h1], by simp [h2], fun i hi hi' => ?_, h4⟩
    cases i with
    | zero => exact hr n
    | succ i => exact h3 i (by simpa using hi) (by simpa using hi')
  | .cell n ty :: r, l, K, hl, h => by
    simp only [compRes] at hl
    split at hl
    · rename_i ag l' hag hl'
      injection hl with hl; subst hl
      obtain ⟨x, v, g1, g2, g3⟩ := loadW_sound (P := P) hok hag h (hr n)
      obtain ⟨vs, xs, h1, h2, h3, h4⟩ := res_sound hok hr hl' g3
      have g1' := loadAt_var g1
      refine ⟨v :: vs, x :: xs, by rw [List.mapM_cons, Sem.run_bind, g1', Result.andThen_ok, Sem.run_bind, h1]; rfl, by simp [h2], fun i hi hi' => ?_, h4⟩
      cases i with
      | zero => exact g2
      | succ i => exact h3 i (by simpa using hi) (by simpa using hi')
    · cases hl

def initE : List AV → Nat → Env
  | [], _ => []
  | x :: r, n => (n, x) :: initE r (n + 1)
theorem initE_get : ∀ (l : List AV) (n t : Nat), (initE l n).get t = if n ≤ t then l.getD (t - n) .bot else .bot
  | [], n, t => by simp [initE, Env.get]
  | x :: r, n, t => by
    simp only [initE, Env.get]
    by_cases e : n = t
    · subst e; simp
    · rw [if_neg e, initE_get r (n + 1) t]
      by_cases h : n ≤ t
      · rw [if_pos (by omega), if_pos h]
        rw [show t - n = (t - (n + 1)) + 1 by omega]
        rfl
      · rw [if_neg (by omega), if_neg h]

/-- At a function's end. -/
def retQ (rs : List RV) (Q : AV → AHeap → Prop) : Exit → St → Prop
  | .normal, s => Settle (fun s' => s'.D = [] ∧ resA s'.E.get s'.H rs fun l => Q (tupA l) s'.H) s
  | .ret, s => Settle (fun s' => s'.D = [] ∧ resA s'.E.get s'.H rs fun l => Q (tupA l) s'.H) s
  | _, _ => False

def tupV : List Value → Value
  | [v] => v
  | l => .tuple l.toArray
theorem run_results {P : Program} {fn : Func} {tmps : Array Value} {w : World} {vs : List Value} (h : (fn.results.toList.mapM (m := Sem) fun | .tmp t => pure (tmps.getD t undef) | .cell n t => do loadVar t (← asAddr (tmps.getD n undef))).run P w = .ok vs w) :
    (results fn tmps).run P w = .ok (tupV vs) w := by
  have h2 : (fn.results.mapM (m := Sem) fun | .tmp t => pure (tmps.getD t undef) | .cell n t => do loadVar t (← asAddr (tmps.getD n undef))).run P w = .ok vs.toArray w := by
    rw [Array.mapM_eq_mapM_toList, Sem.run_map, h]; rfl
  unfold results
  rw [Sem.run_bind]
  refine (congrArg (fun r => Result.andThen r _) (show _ = Result.ok vs.toArray w from h2)).trans ?_
  rw [Result.andThen_ok, Sem.run_pure]
  congr 1
  match vs with
  | [] => rfl
  | [v] => rfl
  | _ :: _ :: _ => rfl

theorem Run_aw {P : Program} {f : FuncId} {fn : Func} {c : Code} {rs : List RV} (hf : P.funcs[f]? = some fn) (hname : (fn.name == "runtime.NumGoroutine") = false) (hb : fn.body = some c)
    (hrs : compRes P fn.results.toList = some rs) {args : List AV} {H : AHeap} {Q : AV → AHeap → Prop} (hn : args.length ≤ fn.ntmps) (h : AW P false fn.ntmps c (retQ rs Q) ⟨[], initE args 0, H⟩) : Run P f args H Q := by
  refine ⟨⟨fn, hf, hname, by rw [hb]; rfl⟩, fun c0 vs hH hok hsz he => ?_⟩
  refine calls_of_wp hf hb (wpIn_wide (n := 0).1 ?_)
  have hrel : RelA fn.ntmps c0 [] (initE args 0) { tmps := vs ++ Array.replicate (fn.ntmps - vs.size) undef, defers := [] } := by
    refine ⟨by simp; omega, fun t => ?_, rfl, fun i hi => absurd hi (by simp)⟩
    rw [initE_get, if_pos (Nat.zero_le _), Nat.sub_zero]
    by_cases e : t < args.length
    · have e2 : t < vs.size := by omega
      rw [List.getD_eq_getElem?_getD, List.getElem?_eq_getElem e, Option.getD_some, Array.getD_eq_getD_getElem?, Array.getElem?_append_left e2, Array.getElem?_eq_getElem e2, Option.getD_some]
      exact he t e e2
    · rw [List.getD_eq_getElem?_getD, List.getElem?_eq_none (by omega)]
      exact .bot _
  have := h none c0 _ (fun _ => rfl) hH hok hrel
  refine wpIn_mono this fun e a' w' hp => ?_
  obtain ⟨c', s', h1, h2, h3, h4, h5, h6⟩ := hp
  have fin : Settle (fun s' => s'.D = [] ∧ resA s'.E.get s'.H rs fun l => Q (tupA l) s'.H) s' → a'.defers = [] ∧ ∃ v, (results fn a'.tmps).run P w' = .ok v w' ∧ ∃ (c'' : Ctx) (v' : Value) (r : AV), Ending.returned v = .returned v' ∧ c''.w = w' ∧ Ok c'' ∧ Later c0 c'' ∧ Enc c'' r v' ∧ Q r c''.H := by
    intro hs
    obtain ⟨c2, s2, g1, g2, g3, g4, g5, gD, g6⟩ := hs _ c' a' h1 h3 h4
    rw [← g1] at g6
    obtain ⟨vs', xs, k1, k2, k3, k4⟩ := res_sound (P := P) g3 (fun t => g4.tmp t) hrs g6
    have hd : a'.defers = [] := by
      have := g4.dlen
      rw [gD] at this
      exact List.eq_nil_of_length_eq_zero this
    have hw : c2.w = w' := g2.trans h2
    rw [hw] at k1
    refine ⟨hd, _, run_results k1, c2, _, tupA xs, rfl, hw, g3, h5.trans g5, ?_, k4⟩
    match vs', xs, k2, k3 with
    | [], [], _, _ => exact .tup [] #[] rfl (fun i h => absurd h (by simp))
    | [v], [x], _, k3 => exact k3 0 (by simp) (by simp)
    | v :: v2 :: vr, x :: x2 :: xr, k2, k3 =>
      refine .tup _ _ (by simpa using k2) fun i hi hi' => ?_
      have := k3 i hi (by simpa using hi')
      simpa using this
    | _ :: _ :: _, [_], k2, _ => simp at k2
    | [_], _ :: _ :: _, k2, _ => simp at k2
    | [], _ :: _, k2, _ => simp at k2
    | _ :: _, [], k2, _ => simp at k2
  cases e with
  | normal => exact fin h6
  | ret => exact fin h6
  | _ => exact h6.elim

theorem Run_of {P : Program} {f : FuncId} {fn : Func} {c : Code} {ac : ACode} {pl : Plan} {rs : List RV} (hm : P.follows .mixedOrders = true) (hf : P.funcs[f]? = some fn) (hname : (fn.name == "runtime.NumGoroutine") = false) (hb : fn.body = some c)
    (hc : comp P fn.ntmps pl c = some ac) (hrs : compRes P fn.results.toList = some rs) {args : List AV} {H : AHeap} {Q : AV → AHeap → Prop} (hn : args.length ≤ fn.ntmps) (h : W P ac (retQ rs Q) ⟨[], initE args 0, H⟩) : Run P f args H Q :=
  Run_aw hf hname hb hrs hn (comp_sound hm c ac hc (retQ rs Q) ⟨[], initE args 0, H⟩ h)

/-- A function, looked up. -/
def compFn (P : Program) (fn : Func) (pl : Plan) : Option (ACode × List RV) :=
  match fn.body with
  | some c => match comp P fn.ntmps pl c, compRes P fn.results.toList with
    | some ac, some rs => some (ac, rs)
    | _, _ => none
  | none => none

theorem Run_fn {P : Program} {f : FuncId} {fn : Func} {pl : Plan} {ac : ACode} {rs : List RV} (hm : P.follows .mixedOrders = true) (hf : P.funcs[f]? = some fn) (hname : (fn.name == "runtime.NumGoroutine") = false) (hc : compFn P fn pl = some (ac, rs)) {n : Nat} (hN : fn.ntmps = n)
    {args : List AV} {H : AHeap} {Q : AV → AHeap → Prop} (hn : args.length ≤ n) (h : W P ac (retQ rs Q) ⟨[], initE args 0, H⟩) : Run P f args H Q := by
  unfold compFn at hc
  split at hc
  · rename_i c hb
    split at hc
    · rename_i ac' rs' h1 h2
      injection hc with hc
      injection hc with e1 e2
      subst e1; subst e2
      exact Run_of hm hf hname hb h1 h2 (by omega) h
    · cases hc
  · cases hc

end Go.Proofs.Ytipbcjnniamcgaa.Fw
