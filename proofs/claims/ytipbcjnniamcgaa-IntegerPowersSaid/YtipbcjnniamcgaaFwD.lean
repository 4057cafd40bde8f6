/- The framework, part D: operations that change no followed memory. -/
import Derived.Test.YtipbcjnniamcgaaFwC
import Derived.Laws.Entries
namespace Go.Proofs.Ytipbcjnniamcgaa.Fw
set_option linter.unusedSimpArgs false
set_option linter.unusedVariables false
open Go

inductive Opd where
  | t (n : Nat)
  | k (v : AV)

def ofVal0 : Value → Option AV
  | .int k n => some (.int k n)
  | .bool b => some (.bool b)
  | .string s => some (.str s)
  | .pointer none => some .nilP
  | .nilIface => some .nilI
  | .nilFunc => some .nilF
  | .slice none 0 0 => some (.seq 0 [] true)
  | _ => none
def ofVals : List Value → Option (List AV)
  | [] => some []
  | v :: r => match ofVal0 v, ofVals r with
    | some x, some l => some (x :: l)
    | _, _ => none
def ofVal : Value → Option AV
  | .agg cs => (ofVals cs.toList).map .agg
  | v => ofVal0 v
/-- The cells of a constant. -/
def ofCells (v : Value) : Option (List AV) := ofVals v.cells.toList

def compOpd : Operand → Option Opd
  | .tmp n => some (.t n)
  | .const v => (ofVal v).map .k
  | .func f => some (.k (.fn (.func f) [] []))
  | .global _ => none
def compOpds : List Operand → Option (List Opd)
  | [] => some []
  | x :: r => match compOpd x, compOpds r with
    | some y, some l => some (y :: l)
    | _, _ => none
def compOpt : Option Operand → Option (Option Opd)
  | none => some none
  | some x => (compOpd x).map some

def Opd.ev (E : Nat → AV) : Opd → AV
  | .t n => E n
  | .k v => v
def Opd.reads : Opd → List Nat
  | .t n => [n]
  | .k _ => []
def evs (E : Nat → AV) (l : List Opd) : List AV := l.map (Opd.ev E)

theorem enc_ofVal0 (c : Ctx) {v : Value} {x : AV} (h : ofVal0 v = some x) : Enc c x v ∧ x.cell = true := by
  unfold ofVal0 at h
  split at h <;> first | (injection h with h; subst h; first | exact ⟨.int _ _, rfl⟩ | exact ⟨.bool _, rfl⟩ | exact ⟨.str _, rfl⟩ | exact ⟨.nilP, rfl⟩ | exact ⟨.nilI, rfl⟩ | exact ⟨.nilF, rfl⟩ | exact ⟨.seq 0 [] true none 0 (fun _ => undef) (fun _ => rfl) (Nat.le_refl _) (by decide) (fun _ => rfl) (fun h => absurd h (by simp)) (.inl rfl) (fun i h => absurd h (by simp)), rfl⟩) | cases h

theorem enc_ofVals (c : Ctx) : ∀ {l : List Value} {xs : List AV}, ofVals l = some xs → l.length = xs.length ∧ (∀ i (h : i < xs.length) (h' : i < l.length), Enc c (xs[i]) (l[i])) ∧ xs.all AV.cell = true
  | [], xs, h => by
    injection h with h; subst h
    exact ⟨rfl, fun i h => absurd h (by simp), rfl⟩
  | v :: r, xs, h => by
    simp only [ofVals] at h
    split at h
    · rename_i x l hx hl
      injection h with h; subst h
      obtain ⟨h1, h2, h3⟩ := enc_ofVals c hl
      obtain ⟨g1, g2⟩ := enc_ofVal0 c hx
      refine ⟨by simp [h1], fun i hi hi' => ?_, by simp only [List.all_cons, g2, h3]; rfl⟩
      cases i with
      | zero => exact g1
      | succ i => exact h2 i (by simpa using hi) (by simpa using hi')
    · cases h

theorem enc_ofVal (c : Ctx) {v : Value} {x : AV} (h : ofVal v = some x) : Enc c x v := by
  unfold ofVal at h
  split at h
  · rename_i cs
    cases hl : ofVals cs.toList with
    | none => rw [hl] at h; cases h
    | some l =>
      rw [hl] at h; injection h with h; subst h
      obtain ⟨h1, h2, _⟩ := enc_ofVals c hl
      exact .agg l cs (by simpa using h1) fun i hi hi' => by
        have h3 := h2 i hi (by simpa using hi')
        rw [Array.getElem_toList] at h3
        exact h3
  · exact (enc_ofVal0 c h).1

/-- What is read of a frame is as it is told. -/
def Reads (c : Ctx) (E : Nat → AV) (a : Act) (l : List Nat) : Prop := ∀ t, t ∈ l → Enc c (E t) (a.tmps.getD t undef)

theorem Reads.mono {c : Ctx} {E : Nat → AV} {a : Act} {l l' : List Nat} (h : Reads c E a l) (hl : ∀ t, t ∈ l' → t ∈ l) : Reads c E a l' := fun t ht => h t (hl t ht)
theorem Reads.later {c c' : Ctx} {E : Nat → AV} {a : Act} {l : List Nat} (hl : Later c c') (h : Reads c E a l) : Reads c' E a l := fun t ht => (h t ht).later hl

theorem enc_opd {c : Ctx} {E : Nat → AV} {a : Act} {x : Operand} {o : Opd} (h : compOpd x = some o) (hr : Reads c E a o.reads) : Enc c (o.ev E) (a.eval x) := by
  cases x with
  | tmp n => injection h with h; subst h; exact hr n (List.mem_singleton.2 rfl)
  | const v =>
    simp only [compOpd] at h
    cases hv : ofVal v with
    | none => rw [hv] at h; cases h
    | some y => rw [hv] at h; injection h with h; subst h; exact enc_ofVal c hv
  | func f => injection h with h; subst h; exact .fn _ [] [] #[] #[] rfl rfl (fun i h => absurd h (by simp)) (fun i h => absurd h (by simp))
  | global g => cases h

theorem enc_opds {c : Ctx} {E : Nat → AV} {a : Act} : ∀ {xs : List Operand} {os : List Opd}, compOpds xs = some os → Reads c E a (os.flatMap Opd.reads) →
    xs.length = os.length ∧ ∀ i (h : i < (evs E os).length) (h' : i < (xs.map a.eval).length), Enc c ((evs E os)[i]) ((xs.map a.eval)[i])
  | [], os, h, _ => by
    injection h with h; subst h
    exact ⟨rfl, fun i h => absurd h (by simp [evs])⟩
  | x :: r, os, h, hr => by
    simp only [compOpds] at h
    split at h
    · rename_i y l hy hl
      injection h with h; subst h
      obtain ⟨h1, h2⟩ := enc_opds hl (hr.mono fun t ht => by simp only [List.flatMap_cons, List.mem_append]; exact .inr ht)
      refine ⟨by simp [h1], fun i hi hi' => ?_⟩
      cases i with
      | zero => exact enc_opd hy (hr.mono fun t ht => by simp only [List.flatMap_cons, List.mem_append]; exact .inl ht)
      | succ i => exact h2 i (by simpa [evs] using hi) (by simpa using hi')
    · cases h

/-! ### What carrying out an operation comes to -/
def ExecK (P : Program) (o : Oper) (a : Act) (c : Ctx) (K : AV → AHeap → Prop) : Prop :=
  (∃ (c' : Ctx) (v : Value) (r : AV), (execOp a.eval o).run P c.w = .ok (.value v) c'.w ∧ Later c c' ∧ Ok c' ∧ Enc c' r v ∧ K r c'.H) ∨
  (∃ c' : Ctx, (execOp a.eval o).run P c.w = .ok .skip c'.w ∧ Later c c' ∧ Ok c' ∧ K .bot c'.H) ∨
  (∃ (f : FuncId) (args : Array Value), (execOp a.eval o).run P c.w = .ok (.enter f args) c.w ∧
    Calls P f args c.w fun e w' => ∃ (c' : Ctx) (v : Value) (r : AV), e = .returned v ∧ c'.w = w' ∧ Ok c' ∧ Later c c' ∧ Enc c' r v ∧ K r c'.H)

theorem ExecK.wpIn {P : Program} {ro : Option Nat} {o : Oper} {a : Act} {c : Ctx} {K : AV → AHeap → Prop} (hd : ∀ d, o.op ≠ .defer d) (h : ExecK P o a c K) {next : Act → World → Prop} {Q : Exit → Act → World → Prop}
    (hn : ∀ (c' : Ctx) (v : Value) (r : AV), Later c c' → Ok c' → Enc c' r v → K r c'.H → next (a.put o.dst v) c'.w) : o.wpIn (FW ro) 0 P a c.w next Q := by
  refine ⟨fun _ _ => trivial, ?_⟩
  rw [Oper.semAt_eq _ _ _ hd]
  rcases h with ⟨c', v, r, h1, h2, h3, h4, h5⟩ | ⟨c', h1, h2, h3, h5⟩ | ⟨f, args, h1, h2⟩
  · rw [h1]; exact hn c' v r h2 h3 h4 h5
  · rw [h1]; exact hn c' undef .bot h2 h3 (.bot _) h5
  · rw [h1]
    refine ⟨fun h => by simp [FW, Fence.wide] at h, callsIn_FW (h2.mono fun e w' hh => ?_)⟩
    obtain ⟨c', v, r, rfl, rfl, g1, g2, g3, g4⟩ := hh
    exact hn c' v r g2 g1 g3 g4

theorem ExecK.val {P : Program} {o : Oper} {a : Act} {c : Ctx} {K : AV → AHeap → Prop} (hok : Ok c) {v : Value} {r : AV} (h : (execOp a.eval o).run P c.w = .ok (.value v) c.w) (he : Enc c r v) (hk : K r c.H) : ExecK P o a c K :=
  .inl ⟨c, v, r, h, Later.refl c, hok, he, hk⟩

theorem run_v {P : Program} {s : Sem Value} {v : Value} {w w' : World} (h : s.run P w = .ok v w') : (do pure (Next.value (← s)) : Sem Next).run P w = .ok (.value v) w' := by simp [h]

/-! ### Types -/
theorem run_typeInfo {P : Program} {t : TypeId} {i : TypeInfo} (h : P.info? t = some i) (w : World) : (typeInfo t).run P w = .ok i w := by simp [typeInfo, h]
theorem run_sizeOf {P : Program} {t : TypeId} {i : TypeInfo} (h : P.info? t = some i) (w : World) : (sizeOf t).run P w = .ok i.size w := by simp [sizeOf, run_typeInfo h]
theorem run_zeroValue {P : Program} {t : TypeId} {i : TypeInfo} {v : Value} (h : P.info? t = some i) (hz : i.zero = some v) (w : World) : (zeroValue t).run P w = .ok v w := by simp [zeroValue, run_typeInfo h, hz]

/-- 'some n': a struct or an array of n cells; 'none': a value of one cell. -/
def aggOf (P : Program) (t : TypeId) : Option (Option Nat) :=
  match P.underlying t, P.info? t with
  | some (.struct _), some i => some (some i.size)
  | some (.array _ _), some i => some (some i.size)
  | some _, some _ => some none
  | _, _ => none

theorem aggOf_some {P : Program} {t : TypeId} {n : Nat} (h : aggOf P t = some (some n)) : ∃ i, P.info? t = some i ∧ i.size = n ∧ ∀ w, (isAgg t).run P w = .ok true w := by
  unfold aggOf at h
  split at h
  · rename_i i hu hi; simp only [Option.some.injEq] at h; exact ⟨i, hi, h, fun w => by simp [isAgg, run_underlying hu]⟩
  · rename_i i hu hi; simp only [Option.some.injEq] at h; exact ⟨i, hi, h, fun w => by simp [isAgg, run_underlying hu]⟩
  · simp at h
  · cases h
theorem aggOf_none {P : Program} {t : TypeId} (h : aggOf P t = some none) : ∀ w, (isAgg t).run P w = .ok false w := by
  intro w
  unfold aggOf at h
  cases hu : P.underlying t with
  | none => rw [hu] at h; simp at h
  | some d =>
    cases hi : P.info? t with
    | none => rw [hu, hi] at h; cases d <;> simp at h
    | some i =>
      rw [hu, hi] at h
      simp only [isAgg, Sem.run_bind, run_underlying hu, Result.andThen_ok]
      cases d with
      | struct f => simp at h
      | array n e => simp at h
      | _ => rfl

/-! ### Arithmetic -/
def binInt (op : BinOp) (k : IntKind) (a b : Int) (K : AV → Prop) : Prop :=
  match op with
  | .add => K (.int k (k.wrap (a + b)))
  | .sub => K (.int k (k.wrap (a - b)))
  | .mul => K (.int k (k.wrap (a * b)))
  | .quo => b ≠ 0 ∧ K (.int k (k.wrap (a.tdiv b)))
  | .rem => b ≠ 0 ∧ K (.int k (a.tmod b))
  | .and => K (.int k (k.wrap (BitVec.ofInt k.bits a &&& BitVec.ofInt k.bits b).toNat))
  | .or => K (.int k (k.wrap (BitVec.ofInt k.bits a ||| BitVec.ofInt k.bits b).toNat))
  | .xor => K (.int k (k.wrap (BitVec.ofInt k.bits a ^^^ BitVec.ofInt k.bits b).toNat))
  | .andNot => K (.int k (k.wrap (BitVec.ofInt k.bits a &&& ~~~BitVec.ofInt k.bits b).toNat))
  | .eql => K (.bool (decide (a = b)))
  | .neq => K (.bool (!decide (a = b)))
  | .lss => K (.bool (decide (a < b)))
  | .leq => K (.bool (decide (a ≤ b)))
  | .gtr => K (.bool (decide (b < a)))
  | .geq => K (.bool (decide (b ≤ a)))
  | _ => False
def binStr (op : BinOp) (a b : ByteArray) (K : AV → Prop) : Prop :=
  match op with
  | .add => (a.size + b.size : Nat) ≤ 9223372036854775807 ∧ K (.str (a ++ b))
  | .eql => K (.bool (a.toList == b.toList))
  | .neq => K (.bool (!(a.toList == b.toList)))
  | _ => False
def binW (op : BinOp) (x y : AV) (K : AV → Prop) : Prop :=
  match x, y with
  | .int k a, .int k' b =>
    match op with
    | .shl => 0 ≤ b ∧ K (.int k (k.wrap (a * 2 ^ (min b.toNat k.bits))))
    | .shr => 0 ≤ b ∧ K (.int k (a.fdiv (2 ^ (min b.toNat k.bits))))
    | _ => k = k' ∧ binInt op k a b K
  | .str a, .str b => binStr op a b K
  | _, _ => False
/-- Comparing truths. -/
def binBW (op : BinOp) (x y : AV) (K : AV → Prop) : Prop :=
  match x, y with
  | .bool a, .bool b => match op with
    | .eql => K (.bool (a == b))
    | .neq => K (.bool (!(a == b)))
    | _ => False
  | _, _ => False
def unW (op : UnOp) (x : AV) (K : AV → Prop) : Prop :=
  match op, x with
  | .neg, .int k n => K (.int k (k.wrap (0 - n)))
  | .xor, .int k n => K (.int k (k.wrap (BitVec.ofInt k.bits (if k.signed then -1 else k.max) ^^^ BitVec.ofInt k.bits n).toNat))
  | .not, .bool b => K (.bool (!b))
  | _, _ => False

theorem binW_sound {P : Program} {op : BinOp} {x y : AV} {K : AV → Prop} {c : Ctx} {u v : Value} (h : binW op x y K) (hx : Enc c x u) (hy : Enc c y v) (t : TypeId) (p q : Operand) (w : World) :
    ∃ r v', (do eqGuard op t p q u v; binOp op t u v : Sem Value).run P w = .ok v' w ∧ Enc c r v' ∧ K r := by
  unfold binW at h
  split at h
  · rename_i k a k' b
    cases hx; cases hy
    simp only [eqGuard_at_int, Sem.run_bind, Sem.run_pure, Result.andThen_ok]
    split at h
    · obtain ⟨h1, h2⟩ := h
      refine ⟨_, .int k _, ?_, .int k _, h2⟩
      simp only [binOp_shl, Op.shift, if_neg (by omega : ¬ b < 0), Sem.run_pure]
    · obtain ⟨h1, h2⟩ := h
      refine ⟨_, .int k _, ?_, .int k _, h2⟩
      simp only [binOp_shr, Op.shift, if_neg (by omega : ¬ b < 0), Sem.run_pure]
    · rename_i hs1 hs2
      obtain ⟨rfl, h⟩ := h
      unfold binInt at h
      split at h
      · exact ⟨_, _, by simp only [binOp_add, Op.intArith, Sem.run_pure], .int k _, h⟩
      · exact ⟨_, _, by simp only [binOp_sub, Op.intArith, Sem.run_pure], .int k _, h⟩
      · exact ⟨_, _, by simp only [binOp_mul, Op.intArith, Sem.run_pure], .int k _, h⟩
      · exact ⟨_, _, by simp only [binOp_quo, Op.intDiv, if_neg h.1, Sem.run_pure], .int k _, h.2⟩
      · exact ⟨_, _, by simp only [binOp_rem, Op.intDiv, if_neg h.1, Sem.run_pure], .int k _, h.2⟩
      · exact ⟨_, _, by simp only [binOp_and, Op.intBits, Sem.run_pure], .int k _, h⟩
      · exact ⟨_, _, by simp only [binOp_or, Op.intBits, Sem.run_pure], .int k _, h⟩
      · exact ⟨_, _, by simp only [binOp_xor, Op.intBits, Sem.run_pure], .int k _, h⟩
      · exact ⟨_, _, by simp only [binOp_andNot, Op.intBits, Sem.run_pure], .int k _, h⟩
      · exact ⟨_, _, by simp only [binOp_eql, Sem.run_pure]; rfl, .bool _, h⟩
      · exact ⟨_, _, by simp only [binOp_neq, Sem.run_pure]; rfl, .bool _, h⟩
      · exact ⟨_, _, by simp only [binOp_lss, Sem.run_pure], .bool _, h⟩
      · exact ⟨_, _, by simp only [binOp_leq, Sem.run_pure], .bool _, h⟩
      · exact ⟨_, _, by simp only [binOp_gtr, Sem.run_pure], .bool _, h⟩
      · exact ⟨_, _, by simp only [binOp_geq, Sem.run_pure], .bool _, h⟩
      · exact h.elim
  · rename_i a b
    cases hx; cases hy
    simp only [eqGuard_at_string, Sem.run_bind, Sem.run_pure, Result.andThen_ok]
    unfold binStr at h
    split at h
    · refine ⟨_, .string _, ?_, .str _, h.2⟩
      have : ¬ (((a.size + b.size : Nat) : Int) > IntKind.i64.max) := by rw [IntKind.max_i64]; omega
      simp only [binOp, Op.stringOp]
      rw [if_neg this]; rfl
    · exact ⟨_, .bool _, rfl, .bool _, h⟩
    · exact ⟨_, .bool _, rfl, .bool _, h⟩
    · exact h.elim
  · exact h.elim

theorem run_equalIn_bool {P : Program} {t : TypeId} (ht : P.underlying t = some .bool) (a b : Bool) (w : World) (d : Nat) : (Op.equalIn (d + 1) t (.bool a) (.bool b)).run P w = .ok (a == b) w := by
  simp only [Op.equalIn, Sem.run_bind, run_underlying ht, Result.andThen_ok, Sem.run_pure]
theorem run_equal_bool {P : Program} {t : TypeId} (ht : P.underlying t = some .bool) (a b : Bool) (w : World) : (Op.equal t (.bool a) (.bool b)).run P w = .ok (a == b) w :=
  run_equalIn_bool ht a b w 9999

theorem binBW_sound {P : Program} {op : BinOp} {x y : AV} {K : AV → Prop} {c : Ctx} {u v : Value} {t : TypeId} (ht : P.underlying t = some .bool) (h : binBW op x y K) (hx : Enc c x u) (hy : Enc c y v) (p q : Operand) (w : World) :
    ∃ r v', (do eqGuard op t p q u v; binOp op t u v : Sem Value).run P w = .ok v' w ∧ Enc c r v' ∧ K r := by
  unfold binBW at h
  split at h
  · cases hx; cases hy
    simp only [eqGuard_at_bool, Sem.run_bind, Sem.run_pure, Result.andThen_ok]
    split at h
    · refine ⟨_, .bool _, ?_, .bool _, h⟩
      show (do pure (Value.bool (← Op.equal t _ _)) : Sem Value).run P w = _
      simp only [Sem.run_bind, run_equal_bool ht, Result.andThen_ok, Sem.run_pure]
    · refine ⟨_, .bool _, ?_, .bool _, h⟩
      show (do pure (Value.bool (!(← Op.equal t _ _))) : Sem Value).run P w = _
      simp only [Sem.run_bind, run_equal_bool ht, Result.andThen_ok, Sem.run_pure]
    · exact h.elim
  · exact h.elim

/-- Is a slice nil? One that is not empty is not; of an empty one nothing is known. -/
def nilW (ng : Bool) (x : AV) (K : AV → Prop) : Prop :=
  match x with
  | .seq n _ _ => (n = 0 → K (.bool true) ∧ K (.bool false)) ∧ (n ≠ 0 → K (.bool ng))
  | _ => False
theorem nilW_sound {P : Program} {ng : Bool} {x : AV} {K : AV → Prop} {c : Ctx} {u : Value} {t e : TypeId} (ht : P.underlying t = some (.slice e)) (h : nilW ng x K) (hx : Enc c x u) (p q : Operand) (w : World) :
    ∃ r v', (do eqGuard (if ng then .neq else .eql) t p q u (.slice none 0 0); binOp (if ng then .neq else .eql) t u (.slice none 0 0) : Sem Value).run P w = .ok v' w ∧ Enc c r v' ∧ K r := by
  unfold nilW at h
  split at h
  · rename_i n cells ti
    cases hx with
    | seq _ _ _ base cap cv hlen hcap hmax hti hb hn hc =>
      have gen : ∀ d, ∃ b, (Op.equalIn (d + 1) t (.slice base n cap) (.slice none 0 0)).run P w = .ok b w ∧ (n ≠ 0 → b = false) := by
        intro d
        cases base with
        | none =>
          refine ⟨true, ?_, fun hne => (hn.elim (fun e => (hne e).elim) fun e => (e rfl).elim)⟩
          simp only [Op.equalIn, Sem.run_bind, run_underlying ht, Result.andThen_ok, Sem.run_pure, Option.isNone_none]
        | some a =>
          refine ⟨false, ?_, fun _ => rfl⟩
          simp only [Op.equalIn, Sem.run_bind, run_underlying ht, Result.andThen_ok, Sem.run_pure]
      obtain ⟨b, hb', hn'⟩ := gen 9999
      have hb2 : (Op.equal t (.slice base n cap) (.slice none 0 0)).run P w = .ok b w := hb'
      cases ng with
      | false =>
        refine ⟨_, .bool b, ?_, .bool _, ?_⟩
        · simp only [Bool.false_eq_true, if_false, eqGuard_at_slice, Sem.run_bind, Sem.run_pure, Result.andThen_ok]
          show (do pure (Value.bool (← Op.equal t _ _)) : Sem Value).run P w = _
          simp only [Sem.run_bind, hb2, Result.andThen_ok, Sem.run_pure]
        · by_cases e : n = 0
          · cases b
            · exact (h.1 e).2
            · exact (h.1 e).1
          · rw [hn' e]; exact h.2 e
      | true =>
        refine ⟨_, .bool (!b), ?_, .bool _, ?_⟩
        · simp only [if_true, eqGuard_at_slice, Sem.run_bind, Sem.run_pure, Result.andThen_ok]
          show (do pure (Value.bool (!(← Op.equal t _ _))) : Sem Value).run P w = _
          simp only [Sem.run_bind, hb2, Result.andThen_ok, Sem.run_pure]
        · by_cases e : n = 0
          · cases b
            · exact (h.1 e).1
            · exact (h.1 e).2
          · rw [hn' e]; exact h.2 e
  · exact h.elim

theorem unW_sound {P : Program} {op : UnOp} {x : AV} {K : AV → Prop} {c : Ctx} {u : Value} (h : unW op x K) (hx : Enc c x u) (w : World) :
    ∃ r v', (Op.unary op u).run P w = .ok v' w ∧ Enc c r v' ∧ K r := by
  unfold unW at h
  split at h
  · cases hx; exact ⟨_, _, rfl, .int _ _, h⟩
  · cases hx; exact ⟨_, _, rfl, .int _ _, h⟩
  · cases hx; exact ⟨_, _, rfl, .bool _, h⟩
  · exact h.elim

end Go.Proofs.Ytipbcjnniamcgaa.Fw
