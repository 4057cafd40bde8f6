/- The framework, part M: a region whose order is drawn: what it does in the text's order it does in every order. -/
import Derived.Test.YtipbcjnniamcgaaFwL
namespace Go.Proofs.Ytipbcjnniamcgaa.Fw
set_option linter.unusedSimpArgs false
set_option linter.unusedVariables false
open Go

/-! ### what is read and written -/
def blkOf : AV → List Nat
  | .ptr b _ _ => [b]
  | .own b _ _ _ _ => [b]
  | _ => []
def rdOf (E : Nat → AV) : AOp → List Nat
  | .load _ x | .fldA _ x | .idxA _ x _ | .slc _ x _ _ _ => blkOf (x.ev E)
  | _ => []

theorem pureW_local {o : AOp} {E : Nat → AV} {H H' : AHeap} {K : AV → Prop} (hl : ∀ q, q ∈ rdOf E o → H' q = H q) (h : pureW o E H K) : pureW o E H' K := by
  cases o with
  | load n x =>
    simp only [pureW, loadW] at *
    have : ∀ {n : Nat} {K : List AV → Prop}, cellsAt H (x.ev E) n K → cellsAt H' (x.ev E) n K := by
      intro n K h
      unfold cellsAt at *
      split at h
      · rename_i b L off hx
        have e := hl b (by simp [rdOf, hx, blkOf])
        simp only [hx, e]; exact h
      · first | exact h | (rename_i cells hx; simp only [hx]; exact h)
      · exact h.elim
    split at h <;> exact this h
  | fldA off x =>
    refine ⟨?_, h.2⟩
    have h1 := h.1
    unfold live at *
    split at h1
    · rename_i b L off' hx
      have e := hl b (by simp [rdOf, hx, blkOf])
      simp only [hx, e]; exact h1
    · rename_i cells hx; simp only [hx]
    · exact h1.elim
  | idxA es x i =>
    refine ⟨?_, h.2⟩
    have h1 := h.1
    unfold liveS at *
    split at h1
    · rename_i b L off' n ti hx
      have e := hl b (by simp [rdOf, hx, blkOf])
      simp only [hx, e]; exact h1
    · rename_i hx
      trivial
  | slc es x lo hi mx =>
    refine ⟨?_, h.2⟩
    have h1 := h.1
    unfold liveE at *
    split at h1
    · rename_i b L off' n ti hx
      have e := hl b (by simp [rdOf, hx, blkOf])
      simp only [hx, e]; exact h1
    · rename_i hx
      trivial
  | _ => exact h

def applyW (H : AHeap) : Option (Nat × ABlk) → AHeap
  | none => H
  | some (b, x) => H.upd b (some x)

/-- One operation, its result told ahead. -/
def exD (P : Program) (o : AOp) (E : Nat → AV) (H : AHeap) (K : AV → List Nat → Option (Nat × ABlk) → Prop) : Prop :=
  match o with
  | .call f args => ∃ rv, (∀ H', callW P (f.ev E) (evs E args) H' fun v H'' => v = rv ∧ H'' = H') ∧ K rv [] none
  | .alloc ty es cells => ∀ b, H b = none → K (.ptr b cells.length 0) [] (some (b, .row ty es cells))
  | .box ty es x => match (x.ev E).cells with
    | some l => ∀ b, H b = none → K (.ptr b l.length 0) [] (some (b, .row ty es l))
    | none => False
  | .store n x v => match x.ev E with
    | .ptr b L off => match H b with
      | some (.row ty es cells) => match (v.ev E).cells with
        | some l => cells.length = L ∧ l.length = n ∧ off + n ≤ L ∧ K .bot [b] (some (b, .row ty es (splice cells off l)))
        | none => False
      | _ => False
    | _ => False
  | .len s x => match s, x.ev E with
    | false, .seq n _ _ => K (.int .i64 n) [] none
    | false, .own _ _ _ n _ => K (.int .i64 n) [] none
    | true, .str s => K (.int .i64 s.size) [] none
    | _, _ => False
  | o => ∃ rv, pureW o E H (fun r => r = rv) ∧ K rv (rdOf E o) none

/-- What was told of an operation, to be used in whatever world its turn comes. -/
def StepX (P : Program) (ao : AOp) (E : Nat → AV) (H : AHeap) (b : Nat) (rv : AV) (rd : List Nat) (w : Option (Nat × ABlk)) : Prop :=
  (∀ q y, w = some (q, y) → q = b ∨ (H q ≠ none ∧ q ∈ rd)) ∧
  ∀ (o : Oper) (c : Ctx) (a : Act), compOp P o.op = some ao → (∀ q, q ∈ rd → c.H q = H q) → ¬ c.U b ∧ ¬ c.R b → Ok c → Reads c E a ao.reads → ExecK P o a c fun r H' => r = rv ∧ H' = applyW c.H w

def AOp.tag : AOp → Nat
  | .alloc _ _ _ => 1
  | .box _ _ _ => 2
  | .store _ _ _ => 3
  | .len _ _ => 4
  | _ => 0
def opTag : Op → Nat
  | .alloc _ => 1
  | .box _ _ => 2
  | .store _ _ _ => 3
  | .call ⟨.builtin .len, _, _⟩ => 4
  | _ => 0

theorem comp_tag {P : Program} {op : Op} {ao : AOp} (hc : compOp P op = some ao) : ao.tag = opTag op := by
  cases op with
  | move x => obtain ⟨y, hy, rfl⟩ := o1_spec hc; rfl
  | assign x => obtain ⟨y, hy, rfl⟩ := o1_spec hc; rfl
  | pick x y z =>
    simp only [compOp] at hc
    split at hc
    · injection hc with hc; subst hc; rfl
    · cases hc
  | binOp op t x y yt =>
    simp only [compOp] at hc
    split at hc
    · obtain ⟨x', y', hx, hy, rfl⟩ := o2_spec hc; rfl
    · split at hc
      · obtain ⟨y, hy, rfl⟩ := o1_spec hc; rfl
      · obtain ⟨y, hy, rfl⟩ := o1_spec hc; rfl
      · cases hc
    · obtain ⟨x', y', hx, hy, rfl⟩ := o2_spec hc; rfl
    · cases hc
  | unOp op t x => obtain ⟨y, hy, rfl⟩ := o1_spec hc; rfl
  | convert s d x =>
    simp only [compOp] at hc
    split at hc
    · obtain ⟨y, hy, rfl⟩ := o1_spec hc; rfl
    · cases hc
  | extract x i => obtain ⟨y, hy, rfl⟩ := o1_spec hc; rfl
  | field t x f => obtain ⟨p, hp, hc⟩ := bind_spec hc; obtain ⟨y, hy, rfl⟩ := o1_spec hc; rfl
  | build t ps =>
    simp only [compOp] at hc
    split at hc
    · obtain ⟨qs, hqs, rfl⟩ := map_spec hc; rfl
    · cases hc
  | load t x => obtain ⟨p, hp, hc⟩ := bind_spec hc; obtain ⟨y, hy, rfl⟩ := o1_spec hc; rfl
  | fieldAddr t x f => obtain ⟨p, hp, hc⟩ := bind_spec hc; obtain ⟨y, hy, rfl⟩ := o1_spec hc; rfl
  | indexAddr t x i => obtain ⟨p, hp, hc⟩ := bind_spec hc; obtain ⟨x', y', hx, hy, rfl⟩ := o2_spec hc; rfl
  | index t x i =>
    obtain ⟨n, hn, hc⟩ := bind_spec hc
    cases n with
    | true => simp only [if_true] at hc; obtain ⟨x', y', hx, hy, rfl⟩ := o2_spec hc; rfl
    | false => simp at hc
  | slice t x lo hi mx =>
    simp only [compOp] at hc
    split at hc
    · injection hc with hc; subst hc; rfl
    · obtain ⟨es, hes, rfl⟩ := map_spec hc; rfl
    · cases hc
  | makeFunc f first caps =>
    simp only [compOp] at hc
    split at hc
    · injection hc with hc; subst hc; rfl
    · cases hc
  | buildSlice t len ps =>
    obtain ⟨q, hq, hc⟩ := bind_spec hc
    split at hc
    · obtain ⟨qs, hqs, rfl⟩ := map_spec hc; rfl
    · cases hc
  | call cl =>
    obtain ⟨callee, args, ats⟩ := cl
    simp only [compOp, compCall] at hc
    split at hc
    · split at hc
      · injection hc with hc; subst hc; rfl
      · cases hc
    · obtain ⟨_, _, hc⟩ := bind_spec hc; obtain ⟨_, _, rfl⟩ := o1_spec hc; rfl
    · split at hc
      · obtain ⟨x', y', hx, hy, rfl⟩ := o2_spec hc; rfl
      · cases hc
    · obtain ⟨_, _, hc⟩ := bind_spec hc; obtain ⟨x', y', hx, hy, rfl⟩ := o2_spec hc; rfl
    · obtain ⟨_, _, _, _, rfl⟩ := o2_spec hc; rfl
    · obtain ⟨_, _, _, _, rfl⟩ := o2_spec hc; rfl
    · cases hc
  | alloc t => obtain ⟨z, hz, rfl⟩ := map_spec hc; rfl
  | box t x => obtain ⟨y, hy, rfl⟩ := o1_spec hc; rfl
  | store t x v => obtain ⟨i, hi, hc⟩ := bind_spec hc; obtain ⟨x', y', hx, hy, rfl⟩ := o2_spec hc; rfl
  | makeSlice t l q => obtain ⟨q', hsi, hc⟩ := bind_spec hc; obtain ⟨x', y', hx, hy, rfl⟩ := o2_spec hc; rfl
  | _ => cases hc

theorem tag0 {op : Op} {n : Nat} (h : n = opTag op) : (n = 1 → ∃ t, op = .alloc t) ∧ (n = 2 → ∃ t x, op = .box t x) ∧ (n = 3 → ∃ t x v, op = .store t x v) ∧ (n = 4 → ∃ args ts, op = .call ⟨.builtin .len, args, ts⟩) := by
  subst h
  unfold opTag
  split <;> simp

theorem exD_step {P : Program} {ao : AOp} {E : Nat → AV} {H : AHeap} {K : AV → List Nat → Option (Nat × ABlk) → Prop} (h : exD P ao E H K) {b : Nat} (hb : H b = none) : ∃ rv rd w, K rv rd w ∧ StepX P ao E H b rv rd w := by
  have viaP : (∃ rv, pureW ao E H (fun r => r = rv) ∧ K rv (rdOf E ao) none) → ∃ rv rd w, K rv rd w ∧ StepX P ao E H b rv rd w := by
    rintro ⟨rv, h1, h2⟩
    refine ⟨rv, _, none, h2, (fun q y e => by cases e), fun o c a hc hrd _ hok hr => ?_⟩
    exact pure_sound hc (pureW_local hrd h1) (Le.refl _) hok hr
  cases ao with
  | call f args =>
    obtain ⟨rv, h1, h2⟩ := h
    refine ⟨rv, [], none, h2, (fun q y e => by cases e), fun o c a hc _ _ hok hr => ?_⟩
    exact eff_sound (K := fun r H' => r = rv ∧ H' = c.H) hc (h1 c.H) hok hr
  | alloc ty es cells =>
    refine ⟨_, [], _, h b hb, (fun q y e => by injection e with e; injection e with e1 e2; exact .inl e1.symm), fun o c a hc _ hfree hok hr => ?_⟩
    obtain ⟨dst, op, type, pos, after, guard⟩ := o
    obtain ⟨t, rfl⟩ := (tag0 (comp_tag hc)).1 rfl
    obtain ⟨z, hz, e⟩ := map_spec hc
    injection e with e1 e2 e3
    subst e1; subst e2; subst e3
    obtain ⟨i, v0, hi, hv0, hzc⟩ := zeroOf_spec hz
    refine ExecK.of_eff (s := Instr.alloc _ true (.tuple #[])) rfl ?_
    obtain ⟨c', r, v', h1, h2⟩ := newVar_sound (P := P) (K := fun r H' => r = .ptr b cells.length 0 ∧ H' = applyW c.H (some (b, .row ty (varEs P ty) cells))) hok (encArr_const c hzc) hfree ⟨rfl, rfl⟩
    exact ⟨c', r, v', by simpa [Instr.alloc, run_zeroValue hi hv0] using h1, h2⟩
  | box ty es x =>
    simp only [exD] at h
    split at h
    · rename_i l hl
      refine ⟨_, [], _, h b hb, (fun q y e => by injection e with e; injection e with e1 e2; exact .inl e1.symm), fun o c a hc _ hfree hok hr => ?_⟩
      obtain ⟨dst, op, type, pos, after, guard⟩ := o
      obtain ⟨t, x', rfl⟩ := (tag0 (comp_tag hc)).2.1 rfl
      obtain ⟨y, hy, e⟩ := o1_spec hc
      injection e with e1 e2 e3
      subst e1; subst e2; subst e3
      obtain ⟨e1, e2, _⟩ := (enc_opd hy hr).cells hl
      exact ExecK.of_eff (s := Instr.box ty (a.eval x')) rfl (newVar_sound (K := fun r H' => r = .ptr b l.length 0 ∧ H' = applyW c.H (some (b, .row ty (varEs P ty) l))) hok ⟨e1, e2⟩ hfree ⟨rfl, rfl⟩)
    · exact h.elim
  | store n x v =>
    simp only [exD] at h
    split at h
    · rename_i b' L off hx
      split at h
      · rename_i ty es cells hH
        split at h
        · rename_i l hl
          obtain ⟨h1, h2, h3, h4⟩ := h
          refine ⟨_, [b'], _, h4, (fun q y e => by injection e with e; injection e with e1 e2; subst e1; exact .inr ⟨by rw [hH]; simp, List.mem_singleton.2 rfl⟩), fun o c a hc hrd _ hok hr => ?_⟩
          refine eff_sound (K := fun r H' => r = .bot ∧ H' = applyW c.H (some (b', .row ty es (splice cells off l)))) hc ?_ hok hr
          have e := hrd b' (List.mem_singleton.2 rfl)
          simp only [effW, storeW, hx, e, hH, hl]
          exact ⟨h1, h2, h3, trivial, rfl⟩
        · exact h.elim
      · exact h.elim
    · exact h.elim
  | len s x =>
    have fin : ∀ {rv : AV}, lenW s (x.ev E) (fun r => r = rv) → K rv [] none → ∃ rv rd w, K rv rd w ∧ StepX P (.len s x) E H b rv rd w := fun {rv} h1 h2 => by
      refine ⟨rv, [], none, h2, (fun q y e => by cases e), fun o c a hc _ _ hok hr => ?_⟩
      exact pure_sound (E := E) (H := c.H) (K := fun r => r = rv) hc h1 (Le.refl _) hok hr
    simp only [exD] at h
    split at h
    · rename_i n cells ti hx; exact fin (by rw [hx]; exact fun _ => rfl) h
    · rename_i b L off n ti hx; exact fin (by rw [hx]; exact fun _ => rfl) h
    · rename_i s hx; exact fin (by rw [hx]; exact rfl) h
    · exact h.elim
  | _ => exact viaP h

end Go.Proofs.Ytipbcjnniamcgaa.Fw
