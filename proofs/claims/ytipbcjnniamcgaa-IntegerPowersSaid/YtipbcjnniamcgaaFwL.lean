/- The framework, part L: rows of operations, one behind the other. -/
import Derived.Test.YtipbcjnniamcgaaFwK
namespace Go.Proofs.Ytipbcjnniamcgaa.Fw
set_option linter.unusedSimpArgs false
set_option linter.unusedVariables false
open Go

structure AOper where
  dst : Option Nat
  g : Option (Nat × Bool)
  op : AOp

def putE (E : Env) (d : Option Nat) (v : AV) : Env :=
  match d with
  | some t => E.set t v
  | none => E

def seqOps (P : Program) : List AOper → St → (St → Prop) → Prop
  | [], s, K => K s
  | ⟨d, none, o⟩ :: r, s, K => effW P o s.E.get s.H fun v H' => seqOps P r ⟨s.D, putE s.E d v, H'⟩ K
  | ⟨d, some (t, b), o⟩ :: r, s, K => match s.E.get t with
    | .bool b' => (b' = b → effW P o s.E.get s.H fun v H' => seqOps P r ⟨s.D, putE s.E d v, H'⟩ K) ∧ (b' ≠ b → seqOps P r ⟨s.D, putE s.E d .bot, s.H⟩ K)
    | _ => False

/-- The temporary of a guard. -/
def guardTmp (ops : Array Oper) : Option (Nat × Bool) → Option (Option (Nat × Bool))
  | none => some none
  | some (j, b) => match ops[j]? with
    | some o => o.dst.map fun t => some (t, b)
    | none => none

def compOper (P : Program) (N : Nat) (ops : Array Oper) (o : Oper) : Option AOper :=
  match compOp P o.op, guardTmp ops o.guard with
  | some ao, some g => if (o.dst.all fun d => decide (d < N)) then some ⟨o.dst, g, ao⟩ else none
  | _, _ => none
def compOpers (P : Program) (N : Nat) (ops : Array Oper) : List Oper → Option (List AOper)
  | [] => some []
  | o :: r => match compOper P N ops o, compOpers P N ops r with
    | some a, some l => some (a :: l)
    | _, _ => none

theorem compOper_spec {P : Program} {N : Nat} {ops : Array Oper} {o : Oper} {x : AOper} (h : compOper P N ops o = some x) :
    compOp P o.op = some x.op ∧ guardTmp ops o.guard = some x.g ∧ o.dst = x.dst ∧ ∀ d, x.dst = some d → d < N := by
  unfold compOper at h
  split at h
  · rename_i ao g h1 h2
    split at h
    · rename_i hd
      injection h with h; subst h
      refine ⟨h1, h2, rfl, fun d e => ?_⟩
      simp only at e
      rw [e] at hd
      simpa using hd
    · cases h
  · cases h

theorem not_defer {P : Program} {o : Op} {ao : AOp} (h : compOp P o = some ao) : ∀ d, o ≠ .defer d := by
  rintro d rfl
  cases h

theorem RelA.put {N : Nat} {c : Ctx} {D : List Nat} {E : Env} {a : Act} (h : RelA N c D E a) {dst : Option Nat} {r : AV} {v : Value} (he : Enc c r v) (hd : ∀ d, dst = some d → d < N) : RelA N c D (putE E dst r) (a.put dst v) := by
  cases dst with
  | none => exact h
  | some d =>
    have hlt := hd d rfl
    refine ⟨by simp [Act.put, h.size], fun t => ?_, h.dlen, h.dmark⟩
    simp only [putE, Env.get_set, Act.put]
    by_cases e : t = d
    · subst e
      rw [if_pos rfl]
      have : t < a.tmps.size := by rw [h.size]; exact hlt
      simpa [Array.getD_eq_getD_getElem?, this] using he
    · rw [if_neg e]
      have := h.tmp t
      rw [Array.getD_eq_getD_getElem?, Array.getElem?_setIfInBounds_ne (fun hh => e hh.symm), ← Array.getD_eq_getD_getElem?]
      exact this

theorem tmp_bool {c : Ctx} {a : Act} {t : Nat} {b : Bool} (h : Enc c (.bool b) (a.tmps.getD t undef)) : a.tmps[t]? = some (.bool b) := by
  rw [Array.getD_eq_getD_getElem?] at h
  cases hx : a.tmps[t]? with
  | none =>
    rw [hx] at h
    simp only [Option.getD_none] at h
    cases h
  | some v =>
    rw [hx] at h
    simp only [Option.getD_some] at h
    cases h; rfl

theorem wanted_none {o : Oper} {y : Nat → Option Bool} (h : o.guard = none) : Region.wanted o y = true := by simp [Region.wanted, h]

theorem guard_spec {ops : Array Oper} {o : Oper} {g : Option (Nat × Bool)} (h : guardTmp ops o.guard = some g) (tmps : Array Value) :
    (g = none → Region.wanted o (yielded ops tmps) = true) ∧ (∀ t b, g = some (t, b) → ∀ b', tmps[t]? = some (.bool b') → Region.wanted o (yielded ops tmps) = (b' == b)) := by
  cases hg : o.guard with
  | none =>
    rw [hg] at h
    injection h with h; subst h
    exact ⟨fun _ => wanted_none hg, (fun t b h => by cases h)⟩
  | some p =>
    obtain ⟨j, b⟩ := p
    rw [hg] at h
    simp only [guardTmp] at h
    split at h
    · rename_i oj hoj
      obtain ⟨t, ht, rfl⟩ := map_spec h
      refine ⟨(fun h => by cases h), fun t' b' h b'' hb => ?_⟩
      injection h with h; injection h with h1 h2
      subst h1; subst h2
      simp only [Region.wanted, hg, yielded, hoj, Option.bind_some, ht, hb]
      cases b <;> cases b'' <;> rfl
    · cases h

/-- A step of the walk over a row of operations. -/
theorem step_seq {P : Program} {N : Nat} {ro : Option Nat} {ops : Array Oper} {i : Nat} {rest : List Nat} {o : Oper} {x : AOper} (ho : ops[i]? = some o) (hx : compOper P N ops o = some x) {s : St} {K : St → Prop} {r : List AOper} (h : seqOps P (x :: r) s K)
    {c0 c : Ctx} {a : Act} (hl : Later c0 c) (hH : c.H = s.H) (hok : Ok c) (hr : RelA N c s.D s.E a) {Q : Exit → St → Prop}
    (next : ∀ (c' : Ctx) (a' : Act) (s' : St), Later c0 c' → c'.H = s'.H → Ok c' → RelA N c' s'.D s'.E a' → seqOps P r s' K → wpOpsIn (FW ro) 0 P ops (Post N c0 Q) rest a' c'.w) : wpOpsIn (FW ro) 0 P ops (Post N c0 Q) (i :: rest) a c.w := by
  obtain ⟨h1, h2, h3, h4⟩ := compOper_spec hx
  obtain ⟨d, g, ao⟩ := x
  simp only at h1 h2 h3 h4
  have hg := guard_spec h2 a.tmps
  have exec : effW P ao s.E.get s.H (fun v H' => seqOps P r ⟨s.D, putE s.E d v, H'⟩ K) → o.wpIn (FW ro) 0 P a c.w (wpOpsIn (FW ro) 0 P ops (Post N c0 Q) rest) (Post N c0 Q) := by
    intro hw
    rw [← hH] at hw
    refine (eff_sound h1 hw hok (a := a) (fun t _ => hr.tmp t)).wpIn (not_defer h1) fun c' v rv g1 g2 g3 g4 => ?_
    have hrel := (hr.later g1).put g3 (dst := d) h4
    rw [h3]
    exact next c' _ ⟨s.D, putE s.E d rv, c'.H⟩ (hl.trans g1) rfl g2 hrel g4
  simp only [wpOpsIn, ho]
  cases g with
  | none =>
    rw [if_pos (hg.1 rfl)]
    exact exec h
  | some p =>
    obtain ⟨t, b⟩ := p
    simp only [seqOps] at h
    split at h
    · rename_i b' hb'
      have hb := tmp_bool (hb' ▸ hr.tmp t)
      have hwant := hg.2 t b rfl b' hb
      by_cases e : b' = b
      · rw [hwant, if_pos (by simp [e])]
        exact exec (h.1 e)
      · rw [hwant, if_neg (by simp [e])]
        refine ⟨fun _ _ => trivial, ?_⟩
        have hrel := hr.put (dst := d) (r := .bot) (v := undef) (.bot _) h4
        rw [h3]
        exact next c _ ⟨s.D, putE s.E d .bot, s.H⟩ hl hH hok hrel (h.2 e)
    · exact h.elim

theorem seq_sound {P : Program} {N : Nat} {ro : Option Nat} {ops : Array Oper} {Q : Exit → St → Prop} {K : St → Prop} (hK : ∀ s, K s → Q .normal s) {c0 : Ctx} : ∀ (n k : Nat) (l : List AOper), k + n = ops.size → compOpers P N ops (ops.toList.drop k) = some l →
    ∀ (s : St) (c : Ctx) (a : Act), seqOps P l s K → Later c0 c → c.H = s.H → Ok c → RelA N c s.D s.E a → wpOpsIn (FW ro) 0 P ops (Post N c0 Q) (List.range' k n) a c.w
  | 0, k, l, hk, hl, s, c, a, h, hlat, hH, hok, hr => by
    have : ops.toList.drop k = [] := List.drop_eq_nil_of_le (by simp; omega)
    rw [this] at hl
    injection hl with hl; subst hl
    exact ⟨c, s, hH, rfl, hok, hr, hlat, hK s h⟩
  | n + 1, k, l, hk, hl, s, c, a, h, hlat, hH, hok, hr => by
    have hlt : k < ops.size := by omega
    have hd : ops.toList.drop k = ops[k] :: ops.toList.drop (k + 1) := by
      rw [List.drop_eq_getElem_cons (by simpa using hlt)]; simp
    rw [hd] at hl
    simp only [compOpers] at hl
    split at hl
    · rename_i x l' hx hl'
      injection hl with hl; subst hl
      rw [List.range'_succ]
      refine step_seq (Array.getElem?_eq_getElem hlt) hx h hlat hH hok hr fun c' a' s' g1 g2 g3 g4 g5 => ?_
      exact seq_sound hK n (k + 1) l' (by omega) hl' s' c' a' g5 g1 g2 g3 g4
    · cases hl

/-- A region whose order is the text's. -/
theorem AW_region {P : Program} {rr : Bool} {N id : Nat} {ops : Array Oper} {l : List AOper} (hl : compOpers P N ops ops.toList = some l) {Q : Exit → St → Prop} {s : St} (h : seqOps P l s (Q .normal)) : AW P rr N (.region id ops false) Q s := by
  intro ro c a _ hH hok hr
  refine wpIn_region ?_
  rw [List.range_eq_range']
  exact seq_sound (fun _ h => h) ops.size 0 l (by omega) (by simpa using hl) s c a h (Later.refl c) hH hok hr

end Go.Proofs.Ytipbcjnniamcgaa.Fw
