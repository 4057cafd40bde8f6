/- The framework, part K: an operation, carried out, comes to what is told of it. -/
import Derived.Test.YtipbcjnniamcgaaFwJ
namespace Go.Proofs.Ytipbcjnniamcgaa.Fw
set_option linter.unusedSimpArgs false
set_option linter.unusedVariables false
open Go

def Le (H H' : AHeap) : Prop := ∀ b x, H b = some x → H' b = some x
theorem Le.refl (H : AHeap) : Le H H := fun _ _ h => h

theorem cellsAt_mono {H H' : AHeap} (hl : Le H H') {x : AV} {n : Nat} {K : List AV → Prop} (h : cellsAt H x n K) : cellsAt H' x n K := by
  unfold cellsAt at *
  split at h
  · split at h
    · rename_i hH; simp only [hl _ _ hH]; exact h
    · exact h.elim
  · exact h
  · exact h.elim
theorem loadW_mono {H H' : AHeap} (hl : Le H H') {n : Option Nat} {x : AV} {K : AV → Prop} (h : loadW H n x K) : loadW H' n x K := by
  unfold loadW at *
  split at h <;> exact cellsAt_mono hl h
theorem live_mono {H H' : AHeap} (hl : Le H H') {x : AV} (h : live H x) : live H' x := by
  unfold live at *
  split at h
  · split at h
    · rename_i hH; simp only [hl _ _ hH]; exact h
    · exact h.elim
  · trivial
  · exact h.elim
theorem liveS_mono {H H' : AHeap} (hl : Le H H') {x : AV} (h : liveS H x) : liveS H' x := by
  unfold liveS at *
  split at h
  · split at h
    · rename_i hH; simp only [hl _ _ hH]; exact h
    · exact h.elim
  · trivial
theorem liveE_mono {es : Nat} {H H' : AHeap} (hl : Le H H') {x : AV} (h : liveE es H x) : liveE es H' x := by
  unfold liveE at *
  split at h
  · split at h
    · rename_i hH; simp only [hl _ _ hH]; exact h
    · exact h.elim
  · trivial

theorem reads_l {c : Ctx} {E : Nat → AV} {a : Act} {l l' : List Nat} (h : Reads c E a (l ++ l')) : Reads c E a l := h.mono fun _ ht => List.mem_append_left _ ht
theorem reads_r {c : Ctx} {E : Nat → AV} {a : Act} {l l' : List Nat} (h : Reads c E a (l ++ l')) : Reads c E a l' := h.mono fun _ ht => List.mem_append_right _ ht

/-- A value that was found in the world as it stands. -/
theorem ExecK.of {P : Program} {o : Oper} {a : Act} {c : Ctx} {K : AV → Prop} (hok : Ok c) {s : Sem Value} (hs : execOp a.eval o = (do pure (Next.value (← s)))) (h : ∃ r v', s.run P c.w = .ok v' c.w ∧ Enc c r v' ∧ K r) : ExecK P o a c (fun r H' => K r ∧ H' = c.H) := by
  obtain ⟨r, v', h1, h2, h3⟩ := h
  exact .inl ⟨c, v', r, by rw [hs]; exact run_v h1, Later.refl c, hok, h2, h3, rfl⟩

theorem arr2 {α : Type} {xs : Array α} {x y : α} (h : xs.toList = [x, y]) : xs = #[x, y] := by cases xs; simp_all
theorem arr1 {α : Type} {xs : Array α} {x : α} (h : xs.toList = [x]) : xs = #[x] := by cases xs; simp_all

theorem isStr_true {P : Program} {t : TypeId} (h : isStr P t = some true) : P.underlying t = some .string := by
  unfold isStr at h
  split at h
  · assumption
  · cases h
  · cases h
theorem isStr_some {P : Program} {t : TypeId} {s : Bool} (h : isStr P t = some s) : (s = true ∧ P.underlying t = some .string) ∨ (s = false ∧ ∃ e, P.underlying t = some (.slice e)) := by
  unfold isStr at h
  split at h
  · injection h with h; exact .inl ⟨h.symm, by assumption⟩
  · rename_i e hu; injection h with h; exact .inr ⟨h.symm, e, hu⟩
  · cases h

theorem pure_sound {P : Program} {o : Oper} {ao : AOp} (hc : compOp P o.op = some ao) {E : Nat → AV} {H : AHeap} {K : AV → Prop} (hw : pureW ao E H K) {c : Ctx} {a : Act} (hl : Le H c.H) (hok : Ok c) (hr : Reads c E a ao.reads) : ExecK P o a c (fun r H' => K r ∧ H' = c.H) := by
  obtain ⟨dst, op, type, pos, after, guard⟩ := o
  simp only at hc
  cases op with
  | move x => obtain ⟨y, hy, rfl⟩ := o1_spec hc; exact .inl ⟨c, a.eval x, y.ev E, rfl, Later.refl c, hok, enc_opd hy hr, hw, rfl⟩
  | assign x => obtain ⟨y, hy, rfl⟩ := o1_spec hc; exact .inl ⟨c, a.eval x, y.ev E, rfl, Later.refl c, hok, enc_opd hy hr, hw, rfl⟩
  | pick x y z =>
    simp only [compOp] at hc
    split at hc
    · rename_i x' y' z' hx hy hz
      injection hc with hc; subst hc
      have ex := enc_opd hx (reads_l (reads_l hr))
      have ey := enc_opd hy (reads_r (reads_l hr))
      have ez := enc_opd hz (reads_r hr)
      simp only [pureW] at hw
      split at hw
      · rename_i t ht
        rw [ht] at ex
        generalize hv : a.eval x = v at ex
        cases ex
        cases t with
        | true => exact .inl ⟨c, a.eval y, y'.ev E, by simp [execOp, hv, asBool], Later.refl c, hok, ey, hw.1 rfl, rfl⟩
        | false => exact .inl ⟨c, a.eval z, z'.ev E, by simp [execOp, hv, asBool], Later.refl c, hok, ez, hw.2 rfl, rfl⟩
      · exact hw.elim
    · cases hc
  | binOp op t x y yt =>
    simp only [compOp] at hc
    split at hc
    · rename_i ht
      obtain ⟨x', y', hx, hy, rfl⟩ := o2_spec hc
      exact ExecK.of hok rfl (binBW_sound ht hw (enc_opd hx (reads_l hr)) (enc_opd hy (reads_r hr)) x y c.w)
    · rename_i e ht
      split at hc
      · obtain ⟨x', hx, rfl⟩ := o1_spec hc
        exact ExecK.of hok rfl (nilW_sound (ng := false) ht hw (enc_opd hx hr) x (.const (.slice none 0 0)) c.w)
      · obtain ⟨x', hx, rfl⟩ := o1_spec hc
        exact ExecK.of hok rfl (nilW_sound (ng := true) ht hw (enc_opd hx hr) x (.const (.slice none 0 0)) c.w)
      · cases hc
    · obtain ⟨x', y', hx, hy, rfl⟩ := o2_spec hc
      exact ExecK.of hok rfl (binW_sound hw (enc_opd hx (reads_l hr)) (enc_opd hy (reads_r hr)) t x y c.w)
    · cases hc
  | unOp op t x => obtain ⟨y, hy, rfl⟩ := o1_spec hc; exact ExecK.of hok rfl (unW_sound hw (enc_opd hy hr) c.w)
  | convert s d x =>
    simp only [compOp] at hc
    split at hc
    · rename_i k hs hd
      obtain ⟨y, hy, rfl⟩ := o1_spec hc
      exact ExecK.of hok rfl (convW_sound (by rw [hs]; rfl) hd hw (enc_opd hy hr))
    · cases hc
  | extract x i => obtain ⟨y, hy, rfl⟩ := o1_spec hc; exact ExecK.of hok rfl (extW_sound hw (enc_opd hy hr))
  | field t x f =>
    obtain ⟨p, hp, hc⟩ := bind_spec hc
    obtain ⟨y, hy, rfl⟩ := o1_spec hc
    exact ExecK.of hok rfl (fldW_sound hp hw (enc_opd hy hr))
  | build t ps =>
    simp only [compOp] at hc
    split at hc
    · rename_i z pl hz hpl
      obtain ⟨qs, hqs, rfl⟩ := map_spec hc
      obtain ⟨h1, h2⟩ := compParts_spec (c := c) (E := E) (a := a) hqs hr
      refine ExecK.of hok rfl (buildW_sound hz hpl (ps := ps.map fun (i, x) => (i, a.eval x)) hw (by simp [evP, h1]) ?_)
      have e : (ps.map fun (i, x) => (i, a.eval x)).toList = ps.toList.map fun p => (p.1, a.eval p.2) := by simp
      intro i hi hi'
      have := h2 i (by simpa using hi) hi'
      simpa [e] using this
    · cases hc
  | load t x =>
    obtain ⟨n, hn, hc⟩ := bind_spec hc
    obtain ⟨y, hy, rfl⟩ := o1_spec hc
    exact ExecK.of hok rfl (loadW_sound hok hn (loadW_mono hl hw) (enc_opd hy hr))
  | fieldAddr t x f =>
    obtain ⟨n, hn, hc⟩ := bind_spec hc
    obtain ⟨y, hy, rfl⟩ := o1_spec hc
    exact ExecK.of hok rfl (fldAW_sound hn ⟨live_mono hl hw.1, hw.2⟩ (enc_opd hy hr))
  | indexAddr t x i =>
    obtain ⟨n, hn, hc⟩ := bind_spec hc
    obtain ⟨x', y', hx, hy, rfl⟩ := o2_spec hc
    exact ExecK.of hok rfl (idxAW_sound hn ⟨liveS_mono hl hw.1, hw.2⟩ (enc_opd hx (reads_l hr)) (enc_opd hy (reads_r hr)))
  | index t x i =>
    obtain ⟨n, hn, hc⟩ := bind_spec hc
    cases n with
    | true =>
      simp only [if_true] at hc
      obtain ⟨x', y', hx, hy, rfl⟩ := o2_spec hc
      exact ExecK.of hok rfl (idxSW_sound (isStr_true hn) hw (enc_opd hx (reads_l hr)) (enc_opd hy (reads_r hr)))
    | false => simp at hc
  | slice t x lo hi mx =>
    simp only [compOp] at hc
    split at hc
    · rename_i x' lo' hi' ht hx hlo hhi hmx
      injection hc with hc; subst hc
      have hm : mx = none := by
        cases mx with
        | none => rfl
        | some q => obtain ⟨z, _, hz⟩ := map_spec hmx; cases hz
      subst hm
      exact ExecK.of hok rfl (slcSW_sound (isStr_true ht) hw (enc_opd hx (reads_l hr)) (enc_opt hlo (reads_l (reads_r hr))) (enc_opt hhi (reads_r (reads_r hr))))
    · rename_i x' lo' hi' mx' ht hx hlo hhi hmx
      obtain ⟨es, hes, rfl⟩ := map_spec hc
      exact ExecK.of hok rfl (slcW_sound hes ⟨liveE_mono hl hw.1, hw.2⟩ (enc_opd hx (reads_l hr)) (enc_opt hlo (reads_l (reads_r hr))) (enc_opt hhi (reads_l (reads_r (reads_r hr)))) (enc_opt hmx (reads_r (reads_r (reads_r hr)))))
    · cases hc
  | makeFunc f first caps =>
    simp only [compOp] at hc
    split at hc
    · rename_i xs ys hx hy
      injection hc with hc; subst hc
      obtain ⟨l1, e1⟩ := enc_opds (c := c) (E := E) (a := a) hx (reads_l hr)
      obtain ⟨l2, e2⟩ := enc_opds (c := c) (E := E) (a := a) hy (reads_r hr)
      refine .inl ⟨c, .func f (first.map a.eval) (caps.map a.eval), _, rfl, Later.refl c, hok, ?_, hw, rfl⟩
      refine .fn f _ _ _ _ (by simp [evs, ← l1]) (by simp [evs, ← l2]) (fun i h h' => ?_) (fun i h h' => ?_)
      · have := e1 i h (by simpa using h'); simpa using this
      · have := e2 i h (by simpa using h'); simpa using this
    · cases hc
  | buildSlice t len ps =>
    obtain ⟨⟨e, es, bytes, z⟩, hq, hc⟩ := bind_spec hc
    simp only at hc
    split at hc
    · rename_i hle
      obtain ⟨qs, hqs, rfl⟩ := map_spec hc
      obtain ⟨i, v0, hu, hi, rfl, rfl, hz, hzl, hz0, _, _, _⟩ := sliceInf_spec hq
      obtain ⟨h1, h2⟩ := compParts_spec (c := c) (E := E) (a := a) hqs hr
      have e : (ps.map fun (i, x) => (i, a.eval x)).toList = ps.toList.map fun p => (p.1, a.eval p.2) := by simp
      obtain ⟨c', r, v', g1, g2, g3, g4, g5, g6⟩ := bslW_sound hok hu hi hz hzl hz0 (by simpa using hle) (ps := ps.map fun (i, x) => (i, a.eval x)) hw (by simp [evP, h1]) (fun j hj hj' => by
        have := h2 j (by simpa using hj) hj'
        simpa [e] using this)
      exact .inl ⟨c', v', r, run_v g1, g2, g3, g5, g6, g4⟩
    · cases hc
  | call cl =>
    obtain ⟨callee, args, ats⟩ := cl
    simp only [compOp, compCall] at hc
    split at hc
    · split at hc
      · injection hc with hc; subst hc; exact hw.elim
      · cases hc
    · rename_i x t hargs hats
      obtain ⟨s, hs, hc⟩ := bind_spec hc
      obtain ⟨y, hy, rfl⟩ := o1_spec hc
      have ha := arr1 hargs
      have ht := arr1 hats
      subst ha; subst ht
      have he := enc_opd hy hr
      rcases isStr_some hs with ⟨rfl, hu⟩ | ⟨rfl, e, hu⟩
      · exact ExecK.of hok (s := Builtin.len_ #[t] type #[a.eval x]) (by simp [execOp, resolve, invoke, builtin]) (lenW_str hu hw he)
      · exact ExecK.of hok (s := Builtin.len_ #[t] type #[a.eval x]) (by simp [execOp, resolve, invoke, builtin]) (lenW_slice hu hw he)
    · rename_i x y t t2 hargs hats
      split at hc
      · obtain ⟨_, _, _, _, rfl⟩ := o2_spec hc; exact hw.elim
      · cases hc
    · rename_i x y t t2 hargs hats
      obtain ⟨q, _, hc⟩ := bind_spec hc
      obtain ⟨_, _, _, _, rfl⟩ := o2_spec hc; exact hw.elim
    · rename_i x y hargs
      obtain ⟨x', y', hx, hy, rfl⟩ := o2_spec hc
      have ha := arr2 hargs
      subst ha
      exact ExecK.of hok (s := Builtin.max_ ats type #[a.eval x, a.eval y]) (by simp [execOp, resolve, invoke, builtin]) (maxW_sound (mx := true) (ts := ats) (ty := type) hw (enc_opd hx (reads_l hr)) (enc_opd hy (reads_r hr)))
    · rename_i x y hargs
      obtain ⟨x', y', hx, hy, rfl⟩ := o2_spec hc
      have ha := arr2 hargs
      subst ha
      exact ExecK.of hok (s := Builtin.min_ ats type #[a.eval x, a.eval y]) (by simp [execOp, resolve, invoke, builtin]) (maxW_sound (mx := false) (ts := ats) (ty := type) hw (enc_opd hx (reads_l hr)) (enc_opd hy (reads_r hr)))
    · cases hc
  | alloc t => obtain ⟨_, _, rfl⟩ := map_spec hc; exact hw.elim
  | box t x => obtain ⟨_, _, rfl⟩ := o1_spec hc; exact hw.elim
  | store t x v => obtain ⟨_, _, hc⟩ := bind_spec hc; obtain ⟨_, _, _, _, rfl⟩ := o2_spec hc; exact hw.elim
  | makeSlice t l q => obtain ⟨_, _, hc⟩ := bind_spec hc; obtain ⟨_, _, _, _, rfl⟩ := o2_spec hc; exact hw.elim
  | _ => cases hc

/-! ### what makes or writes memory; calls -/
theorem ExecK.of_eff {P : Program} {o : Oper} {a : Act} {c : Ctx} {K : AV → AHeap → Prop} {s : Sem Value} (hs : execOp a.eval o = (do pure (Next.value (← s))))
    (h : ∃ (c' : Ctx) (r : AV) (v' : Value), s.run P c.w = .ok v' c'.w ∧ Later c c' ∧ Ok c' ∧ Enc c' r v' ∧ K r c'.H) : ExecK P o a c K := by
  obtain ⟨c', r, v', h1, h2, h3, h4, h5⟩ := h
  exact .inl ⟨c', v', r, by rw [hs]; exact run_v h1, h2, h3, h4, h5⟩

theorem zeroOf_spec {P : Program} {t : TypeId} {z : List AV} (h : zeroOf P t = some z) : ∃ i v0, P.info? t = some i ∧ i.zero = some v0 ∧ ofCells v0 = some z := by
  unfold zeroOf at h
  split at h
  · rename_i i hi
    split at h
    · rename_i v0 hv; exact ⟨i, v0, hi, hv, h⟩
    · cases h
  · cases h

theorem fn_args {c : Ctx} {f : FuncId} {first caps args : List AV} {v : Value} {as : Array Value} (he : Enc c (.fn (.func f) first caps) v) (hs : as.size = args.length) (ha : ∀ i (h : i < args.length) (h' : i < as.size), Enc c (args[i]) (as[i])) :
    ∃ (fv cv : Array Value), v = .func (.func f) fv cv ∧ (fv ++ as ++ cv).size = (first ++ args ++ caps).length ∧ ∀ i (h : i < (first ++ args ++ caps).length) (h' : i < (fv ++ as ++ cv).size), Enc c ((first ++ args ++ caps)[i]) ((fv ++ as ++ cv)[i]) := by
  cases he with
  | fn _ _ _ fv cv hf hcs h1 h2 =>
    refine ⟨fv, cv, rfl, by simp [hf, hs, hcs], fun i h h' => ?_⟩
    have e1 : (first ++ args ++ caps)[i]? = some _ := List.getElem?_eq_getElem h
    have e2 : (fv ++ as ++ cv)[i]? = some _ := Array.getElem?_eq_getElem h'
    rw [List.length_append, List.length_append] at h
    by_cases hi : i < first.length
    · rw [List.getElem?_append_left (by rw [List.length_append]; omega), List.getElem?_append_left hi, List.getElem?_eq_getElem hi] at e1
      rw [Array.getElem?_append_left (by rw [Array.size_append]; omega), Array.getElem?_append_left (by omega), Array.getElem?_eq_getElem (by omega)] at e2
      injection e1 with e1; injection e2 with e2
      rw [← e1, ← e2]; exact h1 i hi (by omega)
    · by_cases hi2 : i < first.length + args.length
      · rw [List.getElem?_append_left (by rw [List.length_append]; omega), List.getElem?_append_right (by omega), List.getElem?_eq_getElem (by omega)] at e1
        rw [Array.getElem?_append_left (by rw [Array.size_append]; omega), Array.getElem?_append_right (by omega), Array.getElem?_eq_getElem (by omega)] at e2
        injection e1 with e1; injection e2 with e2
        rw [← e1, ← e2]
        have := ha (i - first.length) (by omega) (by omega)
        simpa [hf] using this
      · rw [List.getElem?_append_right (by rw [List.length_append]; omega), List.getElem?_eq_getElem (by rw [List.length_append]; omega)] at e1
        rw [Array.getElem?_append_right (by rw [Array.size_append]; omega), Array.getElem?_eq_getElem (by rw [Array.size_append]; omega)] at e2
        injection e1 with e1; injection e2 with e2
        rw [← e1, ← e2]
        have := h2 (i - (first.length + args.length)) (by omega) (by omega)
        simpa [hf, hs] using this

theorem call_sound {P : Program} {o : Oper} {f : Operand} {args : Array Operand} {ts : Array TypeId} (ho : o.op = .call ⟨.value f, args, ts⟩) {g : Opd} {as : List Opd} (hg : compOpd f = some g) (has : compOpds args.toList = some as) {E : Nat → AV} {K : AV → AHeap → Prop} {c : Ctx} {a : Act}
    (hw : callW P (g.ev E) (evs E as) c.H K) (hok : Ok c) (hr : Reads c E a (AOp.call g as).reads) : ExecK P o a c K := by
  unfold callW at hw
  split at hw
  · rename_i fid first caps hfn
    have hf := enc_opd hg (reads_l hr)
    rw [hfn] at hf
    obtain ⟨l1, e1⟩ := enc_opds (c := c) (E := E) (a := a) has (reads_r hr)
    obtain ⟨fv, cv, hv, hsz, hall⟩ := fn_args (args := evs E as) (as := args.map a.eval) hf (by simp [evs, ← l1]) (fun i h h' => by
      have := e1 i h (by simpa using h')
      simpa using this)
    obtain ⟨⟨fn, hfun, hname, hbody⟩, hrun⟩ := hw
    refine .inr (.inr ⟨fid, fv ++ args.map a.eval ++ cv, ?_, hrun c _ rfl hok hsz hall⟩)
    obtain ⟨dst, op, type, pos, after, guard⟩ := o
    simp only at ho
    subst ho
    have hname' : fn.name ≠ "runtime.NumGoroutine" := by simpa using hname
    have hbody' : ¬ fn.body = none := by intro h; rw [h] at hbody; cases hbody
    simp [execOp, resolve, Deferred.ofValue, hv, invoke, callFunc, hfun, hname', hbody']
  · exact hw.elim

theorem eff_sound {P : Program} {o : Oper} {ao : AOp} (hc : compOp P o.op = some ao) {E : Nat → AV} {K : AV → AHeap → Prop} {c : Ctx} (hw : effW P ao E c.H K) {a : Act} (hok : Ok c) (hr : Reads c E a ao.reads) : ExecK P o a c K := by
  have pure : pureW ao E c.H (fun r => K r c.H) → ExecK P o a c K := fun h => by
    rcases pure_sound hc h (Le.refl _) hok hr with ⟨c', v, r, h1, h2, h3, h4, h5, h6⟩ | ⟨c', h1, h2, h3, h5, h6⟩ | ⟨f, args, h1, h2⟩
    · exact .inl ⟨c', v, r, h1, h2, h3, h4, by rw [h6]; exact h5⟩
    · exact .inr (.inl ⟨c', h1, h2, h3, by rw [h6]; exact h5⟩)
    · exact .inr (.inr ⟨f, args, h1, h2.mono fun _ _ ⟨c', v, r, a1, a2, a3, a4, a5, a6, a7⟩ => ⟨c', v, r, a1, a2, a3, a4, a5, by rw [a7]; exact a6⟩⟩)
  obtain ⟨dst, op, type, pos, after, guard⟩ := o
  simp only at hc
  cases op with
  | move x => obtain ⟨y, hy, rfl⟩ := o1_spec hc; exact pure hw
  | assign x => obtain ⟨y, hy, rfl⟩ := o1_spec hc; exact pure hw
  | pick x y z =>
    simp only [compOp] at hc
    split at hc
    · injection hc with hc; subst hc; exact pure hw
    · cases hc
  | binOp op t x y yt =>
    simp only [compOp] at hc
    split at hc
    · obtain ⟨x', y', hx, hy, rfl⟩ := o2_spec hc; exact pure hw
    · split at hc
      · obtain ⟨y, hy, rfl⟩ := o1_spec hc; exact pure hw
      · obtain ⟨y, hy, rfl⟩ := o1_spec hc; exact pure hw
      · cases hc
    · obtain ⟨x', y', hx, hy, rfl⟩ := o2_spec hc; exact pure hw
    · cases hc
  | unOp op t x => obtain ⟨y, hy, rfl⟩ := o1_spec hc; exact pure hw
  | convert s d x =>
    simp only [compOp] at hc
    split at hc
    · obtain ⟨y, hy, rfl⟩ := o1_spec hc; exact pure hw
    · cases hc
  | extract x i => obtain ⟨y, hy, rfl⟩ := o1_spec hc; exact pure hw
  | field t x f => obtain ⟨p, hp, hc⟩ := bind_spec hc; obtain ⟨y, hy, rfl⟩ := o1_spec hc; exact pure hw
  | build t ps =>
    simp only [compOp] at hc
    split at hc
    · obtain ⟨qs, hqs, rfl⟩ := map_spec hc; exact pure hw
    · cases hc
  | load t x => obtain ⟨p, hp, hc⟩ := bind_spec hc; obtain ⟨y, hy, rfl⟩ := o1_spec hc; exact pure hw
  | fieldAddr t x f => obtain ⟨p, hp, hc⟩ := bind_spec hc; obtain ⟨y, hy, rfl⟩ := o1_spec hc; exact pure hw
  | indexAddr t x i => obtain ⟨p, hp, hc⟩ := bind_spec hc; obtain ⟨x', y', hx, hy, rfl⟩ := o2_spec hc; exact pure hw
  | index t x i =>
    obtain ⟨n, hn, hc⟩ := bind_spec hc
    cases n with
    | true => simp only [if_true] at hc; obtain ⟨x', y', hx, hy, rfl⟩ := o2_spec hc; exact pure hw
    | false => simp at hc
  | slice t x lo hi mx =>
    simp only [compOp] at hc
    split at hc
    · injection hc with hc; subst hc; exact pure hw
    · obtain ⟨es, hes, rfl⟩ := map_spec hc; exact pure hw
    · cases hc
  | makeFunc f first caps =>
    simp only [compOp] at hc
    split at hc
    · injection hc with hc; subst hc; exact pure hw
    · cases hc
  | buildSlice t len ps =>
    obtain ⟨q, hq, hc⟩ := bind_spec hc
    split at hc
    · obtain ⟨qs, hqs, rfl⟩ := map_spec hc; exact pure hw
    · cases hc
  | call cl =>
    obtain ⟨callee, args, ats⟩ := cl
    simp only [compOp, compCall] at hc
    split at hc
    · split at hc
      · rename_i g' l hg hl
        injection hc with hc; subst hc
        exact call_sound rfl hg hl hw hok hr
      · cases hc
    · obtain ⟨_, _, hc⟩ := bind_spec hc; obtain ⟨_, _, rfl⟩ := o1_spec hc; exact pure hw
    · rename_i x y t t2 hargs hats
      split at hc
      · rename_i e es bytes z s2 hsi hs2
        obtain ⟨x', y', hx, hy, rfl⟩ := o2_spec hc
        obtain ⟨i, v0, hu, hi, rfl, rfl, hz, hzl, hz0, hby, hv0, hvc⟩ := sliceInf_spec hsi
        have ha := arr2 hargs
        have ht := arr2 hats
        subst ha; subst ht
        have hu2 : (∃ e2, P.underlying t2 = some (.slice e2)) ∨ P.underlying t2 = some .string := by
          rcases isStr_some hs2 with ⟨_, h⟩ | ⟨_, h⟩
          · exact .inr h
          · exact .inl h
        exact ExecK.of_eff (s := Builtin.append_ #[t, t2] type #[a.eval x, a.eval y]) (by simp [execOp, resolve, invoke, builtin]) (appW_sound hok hu hu2 hi hv0 hvc hby hz0 hw (enc_opd hx (reads_l hr)) (enc_opd hy (reads_r hr)))
      · cases hc
    · rename_i x y t t2 hargs hats
      obtain ⟨⟨e, es, bytes, z⟩, hsi, hc⟩ := bind_spec hc
      obtain ⟨x', y', hx, hy, rfl⟩ := o2_spec hc
      obtain ⟨i, v0, hu, hi, rfl, rfl, hz, hzl, hz0, hby, hv0, hvc⟩ := sliceInf_spec hsi
      have ha := arr2 hargs
      have ht := arr2 hats
      subst ha; subst ht
      exact ExecK.of_eff (s := Builtin.copy_ #[t, t2] type #[a.eval x, a.eval y]) (by simp [execOp, resolve, invoke, builtin]) (cpyW_sound hok hu hi hz0 hw (enc_opd hx (reads_l hr)) (enc_opd hy (reads_r hr)))
    · obtain ⟨_, _, _, _, rfl⟩ := o2_spec hc; exact pure hw
    · obtain ⟨_, _, _, _, rfl⟩ := o2_spec hc; exact pure hw
    · cases hc
  | alloc t =>
    obtain ⟨z, hz, rfl⟩ := map_spec hc
    obtain ⟨i, v0, hi, hv0, hzc⟩ := zeroOf_spec hz
    refine ExecK.of_eff (s := Instr.alloc t true (.tuple #[])) rfl ?_
    obtain ⟨nx, hnx⟩ := hok.fresh
    obtain ⟨c', r, v', h1, h2⟩ := newVar_sound (P := P) hok (encArr_const c hzc) hnx (hw nx (free_nx hok hnx.1))
    exact ⟨c', r, v', by simpa [Instr.alloc, run_zeroValue hi hv0] using h1, h2⟩
  | box t x =>
    obtain ⟨y, hy, rfl⟩ := o1_spec hc
    simp only [effW] at hw
    split at hw
    · rename_i l hl
      obtain ⟨e1, e2, _⟩ := (enc_opd hy hr).cells hl
      obtain ⟨nx, hnx⟩ := hok.fresh
      exact ExecK.of_eff (s := Instr.box t (a.eval x)) rfl (newVar_sound hok ⟨e1, e2⟩ hnx (hw nx (free_nx hok hnx.1)))
    · exact hw.elim
  | store t x v =>
    obtain ⟨i, hi, hc⟩ := bind_spec hc
    obtain ⟨x', y', hx, hy, rfl⟩ := o2_spec hc
    obtain ⟨c', h1, h2, h3, h4⟩ := storeW_sound (P := P) hok hi hw (enc_opd hx (reads_l hr)) (enc_opd hy (reads_r hr))
    exact .inr (.inl ⟨c', by simp [execOp, h1], h2, h3, h4⟩)
  | makeSlice t l q =>
    obtain ⟨⟨e, es, bytes, z⟩, hsi, hc⟩ := bind_spec hc
    obtain ⟨x', y', hx, hy, rfl⟩ := o2_spec hc
    obtain ⟨i, v0, hu, hi, rfl, rfl, hz, hzl, hz0, hby, hv0, hvc⟩ := sliceInf_spec hsi
    exact ExecK.of_eff (s := Instr.makeSlice t (a.eval l) (a.eval q)) rfl (mksW_sound hok hu hi hz hzl hz0 hw (enc_opd hx (reads_l hr)) (enc_opd hy (reads_r hr)))
  | _ => cases hc

end Go.Proofs.Ytipbcjnniamcgaa.Fw
