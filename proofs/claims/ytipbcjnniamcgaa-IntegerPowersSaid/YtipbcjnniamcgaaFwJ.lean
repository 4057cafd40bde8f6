/- The framework, part J: operations as they are after their types were looked up; what each does. -/
import Derived.Test.YtipbcjnniamcgaaFwI
namespace Go.Proofs.Ytipbcjnniamcgaa.Fw
set_option linter.unusedSimpArgs false
set_option linter.unusedVariables false
open Go

inductive AOp where
  | mov (x : Opd)
  | pick (c a b : Opd)
  | bin (op : BinOp) (x y : Opd)
  | binB (op : BinOp) (x y : Opd)
  | un (op : UnOp) (x : Opd)
  | nilS (ng : Bool) (x : Opd)
  | conv (k : IntKind) (x : Opd)
  | ext (x : Opd) (i : Nat)
  | fld (off : Nat) (n : Option Nat) (x : Opd)
  | build (zero : List AV) (parts : List (Nat × Nat × Opd))
  | load (n : Option Nat) (x : Opd)
  | fldA (off : Nat) (x : Opd)
  | idxA (es : Nat) (x i : Opd)
  | idxS (x i : Opd)
  | len (s : Bool) (x : Opd)
  | slc (es : Nat) (x : Opd) (lo hi mx : Option Opd)
  | slcS (x : Opd) (lo hi : Option Opd)
  | mkF (f : Fn) (first caps : List Opd)
  | gr (isMax : Bool) (x y : Opd)
  | bsl (zero : List AV) (len es : Nat) (parts : List (Nat × Nat × Opd))
  | call (f : Opd) (args : List Opd)
  | alloc (ty es : Nat) (cells : List AV)
  | box (ty es : Nat) (x : Opd)
  | store (n : Nat) (x v : Opd)
  | mks (ty es bytes : Nat) (zero : List AV) (l c : Opd)
  | app (ty es bytes : Nat) (x y : Opd)
  | cpy (es : Nat) (x y : Opd)

def optReads : Option Opd → List Nat
  | none => []
  | some x => x.reads
def partReads (l : List (Nat × Nat × Opd)) : List Nat := l.flatMap fun p => p.2.2.reads

def AOp.reads : AOp → List Nat
  | .mov x | .un _ x | .nilS _ x | .conv _ x | .ext x _ | .fld _ _ x | .load _ x | .fldA _ x | .len _ x | .box _ _ x => x.reads
  | .pick c a b => c.reads ++ a.reads ++ b.reads
  | .bin _ x y | .binB _ x y | .idxA _ x y | .idxS x y | .gr _ x y | .store _ x y | .mks _ _ _ _ x y | .app _ _ _ x y | .cpy _ x y => x.reads ++ y.reads
  | .build _ ps | .bsl _ _ _ ps => partReads ps
  | .slc _ x lo hi mx => x.reads ++ (optReads lo ++ (optReads hi ++ optReads mx))
  | .slcS x lo hi => x.reads ++ (optReads lo ++ optReads hi)
  | .mkF _ f c => f.flatMap Opd.reads ++ c.flatMap Opd.reads
  | .call f as => f.reads ++ as.flatMap Opd.reads
  | .alloc _ _ _ => []

def evO (E : Nat → AV) : Option Opd → Option AV
  | none => none
  | some x => some (x.ev E)
def evP (E : Nat → AV) (l : List (Nat × Nat × Opd)) : List (Nat × Nat × AV) := l.map fun p => (p.1, p.2.1, p.2.2.ev E)

/-- What is reckoned or read. -/
def pureW (o : AOp) (E : Nat → AV) (H : AHeap) (K : AV → Prop) : Prop :=
  match o with
  | .mov x => K (x.ev E)
  | .pick c a b => match c.ev E with
    | .bool t => (t = true → K (a.ev E)) ∧ (t = false → K (b.ev E))
    | _ => False
  | .bin op x y => binW op (x.ev E) (y.ev E) K
  | .binB op x y => binBW op (x.ev E) (y.ev E) K
  | .un op x => unW op (x.ev E) K
  | .nilS ng x => nilW ng (x.ev E) K
  | .conv k x => convW k (x.ev E) K
  | .ext x i => extW (x.ev E) i K
  | .fld off n x => fldW off n (x.ev E) K
  | .build zero parts => buildW zero (evP E parts) K
  | .load n x => loadW H n (x.ev E) K
  | .fldA off x => live H (x.ev E) ∧ fldAW off (x.ev E) K
  | .idxA es x i => liveS H (x.ev E) ∧ idxAW es (x.ev E) (i.ev E) K
  | .idxS x i => idxSW (x.ev E) (i.ev E) K
  | .len s x => lenW s (x.ev E) K
  | .slc es x lo hi mx => liveE es H (x.ev E) ∧ slcW es (x.ev E) (evO E lo) (evO E hi) (evO E mx) K
  | .slcS x lo hi => slcSW (x.ev E) (evO E lo) (evO E hi) K
  | .mkF f first caps => K (.fn f (evs E first) (evs E caps))
  | .gr m x y => maxW m (x.ev E) (y.ev E) K
  | .bsl zero len es parts => bslW zero len es (evP E parts) K
  | _ => False

/-- A function value is called. -/
def callW (P : Program) (f : AV) (args : List AV) (H : AHeap) (K : AV → AHeap → Prop) : Prop :=
  match f with
  | .fn (.func f) first caps => Run P f (first ++ args ++ caps) H K
  | _ => False

def effW (P : Program) (o : AOp) (E : Nat → AV) (H : AHeap) (K : AV → AHeap → Prop) : Prop :=
  match o with
  | .call f args => callW P (f.ev E) (evs E args) H K
  | .alloc ty es cells => allocW H ty es cells K
  | .box ty es x => match (x.ev E).cells with
    | some l => allocW H ty es l K
    | none => False
  | .store n x v => storeW H n (x.ev E) (v.ev E) K
  | .mks ty es bytes zero l c => mksW H ty es bytes zero (l.ev E) (c.ev E) K
  | .app ty es bytes x y => appW H ty es bytes (x.ev E) (y.ev E) K
  | .cpy es x y => cpyW H es (x.ev E) (y.ev E) K
  | o => pureW o E H (fun r => K r H)

/-! ### looking the types up -/
def compParts (place : Nat → Option (Nat × Nat)) : List (Nat × Operand) → Option (List (Nat × Nat × Opd))
  | [] => some []
  | (i, x) :: r => match place i, compOpd x, compParts place r with
    | some (off, size), some y, some l => some ((off, size, y) :: l)
    | _, _, _ => none

def o1 (f : Opd → AOp) (x : Operand) : Option AOp := (compOpd x).map f
def o2 (f : Opd → Opd → AOp) (x y : Operand) : Option AOp :=
  match compOpd x, compOpd y with
  | some a, some b => some (f a b)
  | _, _ => none

/-- An array's element size; of other types nothing is asked. -/
def varEs (P : Program) (t : TypeId) : Nat :=
  match P.underlying t with
  | some (.array _ e) => ((P.info? e).map (·.size)).getD 0
  | _ => 0

def isStr (P : Program) (t : TypeId) : Option Bool :=
  match P.underlying t with
  | some .string => some true
  | some (.slice _) => some false
  | _ => none

/-- A slice type: its element's type, size, bytes, zero. -/
def sliceInf (P : Program) (t : TypeId) : Option (TypeId × Nat × Nat × List AV) :=
  match P.underlying t with
  | some (.slice e) => match P.info? e, zeroOf P e with
    | some i, some z => if z.length = i.size ∧ i.size ≠ 0 ∧ i.bytes ≤ 4096 then some (e, i.size, i.bytes, z) else none
    | _, _ => none
  | _ => none

theorem sliceInf_spec {P : Program} {t e : TypeId} {es bytes : Nat} {z : List AV} (h : sliceInf P t = some (e, es, bytes, z)) :
    ∃ i v0, P.underlying t = some (.slice e) ∧ P.info? e = some i ∧ i.size = es ∧ i.bytes = bytes ∧ zeroOf P e = some z ∧ z.length = i.size ∧ i.size ≠ 0 ∧ i.bytes ≤ 4096 ∧ i.zero = some v0 ∧ v0.cells.size = i.size := by
  unfold sliceInf at h
  split at h
  · rename_i e' hu
    split at h
    · rename_i i z' hi hz
      split at h
      · rename_i hc
        injection h with h
        injection h with h1 h; injection h with h2 h; injection h with h3 h4
        subst h1; subst h2; subst h3; subst h4
        have hz' := hz
        unfold zeroOf at hz'
        rw [hi] at hz'
        simp only at hz'
        split at hz'
        · rename_i v0 hv0
          refine ⟨i, v0, hu, hi, rfl, rfl, hz, hc.1, hc.2.1, hc.2.2, hv0, ?_⟩
          have := (encArr_const (⟨fun _ => 0, fun _ => False, fun _ => False, fun _ => none, default⟩ : Ctx) hz').1
          omega
        · cases hz'
      · cases h
    · cases h
  · cases h

def compCall (P : Program) (c : Call) : Option AOp :=
  match c.callee, c.args.toList, c.argTypes.toList with
  | .value f, as, _ => match compOpd f, compOpds as with
    | some g, some l => some (.call g l)
    | _, _ => none
  | .builtin .len, [x], [t] => (isStr P t).bind fun s => o1 (.len s) x
  | .builtin .append, [x, y], [t, t2] => match sliceInf P t, isStr P t2 with
    | some (e, es, bytes, _), some _ => o2 (.app e es bytes) x y
    | _, _ => none
  | .builtin .copy, [x, y], [t, _] => (sliceInf P t).bind fun q => o2 (.cpy q.2.1) x y
  | .builtin .max, [x, y], _ => o2 (.gr true) x y
  | .builtin .min, [x, y], _ => o2 (.gr false) x y
  | _, _, _ => none

def compOp (P : Program) (op : Op) : Option AOp :=
  match op with
  | .move x | .assign x => o1 .mov x
  | .pick c a b => match compOpd c, compOpd a, compOpd b with
    | some c, some a, some b => some (.pick c a b)
    | _, _, _ => none
  | .binOp op t x y _ => match P.underlying t with
    | some .bool => o2 (.binB op) x y
    | some (.slice _) => match op, y with
      | .eql, .const (.slice none 0 0) => o1 (.nilS false) x
      | .neq, .const (.slice none 0 0) => o1 (.nilS true) x
      | _, _ => none
    | some _ => o2 (.bin op) x y
    | none => none
  | .unOp op _ x => o1 (.un op) x
  | .convert s d x => match P.underlying s, P.underlying d with
    | some _, some (.int k) => o1 (.conv k) x
    | _, _ => none
  | .extract x i => o1 (.ext · i) x
  | .field t x f => (fieldIn P t f).bind fun p => o1 (.fld p.1 p.2) x
  | .build t ps => match zeroOf P t, placesOf P t with
    | some z, some pl => (compParts pl ps.toList).map (.build z)
    | _, _ => none
  | .load t x => (aggOf P t).bind fun n => o1 (.load n) x
  | .fieldAddr t x f => (fieldOff P t f).bind fun off => o1 (.fldA off) x
  | .indexAddr t x i => (sliceEs P t).bind fun es => o2 (.idxA es) x i
  | .index t x i => (isStr P t).bind fun s => if s then o2 .idxS x i else none
  | .slice t x lo hi mx => match isStr P t, compOpd x, compOpt lo, compOpt hi, compOpt mx with
    | some true, some x, some lo, some hi, some none => some (.slcS x lo hi)
    | some false, some x, some lo, some hi, some mx => (sliceEs P t).map fun es => .slc es x lo hi mx
    | _, _, _, _, _ => none
  | .makeFunc f first caps => match compOpds first.toList, compOpds caps.toList with
    | some a, some b => some (.mkF f a b)
    | _, _ => none
  | .buildSlice t len ps => (sliceInf P t).bind fun q => if len * q.2.1 ≤ 16777216 then (compParts (fun i => some (i * q.2.1, q.2.1)) ps.toList).map (.bsl q.2.2.2 len q.2.1) else none
  | .call c => compCall P c
  | .alloc t => (zeroOf P t).map (.alloc t (varEs P t))
  | .box t x => o1 (.box t (varEs P t)) x
  | .store t x v => (P.info? t).bind fun i => o2 (.store i.size) x v
  | .makeSlice t l c => (sliceInf P t).bind fun q => o2 (.mks q.1 q.2.1 q.2.2.1 q.2.2.2) l c
  | _ => none

theorem o1_spec {f : Opd → AOp} {x : Operand} {o : AOp} (h : o1 f x = some o) : ∃ y, compOpd x = some y ∧ o = f y := by
  unfold o1 at h
  cases hx : compOpd x with
  | none => rw [hx] at h; cases h
  | some y => rw [hx] at h; injection h with h; exact ⟨y, rfl, h.symm⟩
theorem o2_spec {f : Opd → Opd → AOp} {x y : Operand} {o : AOp} (h : o2 f x y = some o) : ∃ a b, compOpd x = some a ∧ compOpd y = some b ∧ o = f a b := by
  unfold o2 at h
  split at h
  · rename_i a b ha hb; injection h with h; exact ⟨a, b, ha, hb, h.symm⟩
  · cases h
theorem bind_spec {α β : Type} {x : Option α} {f : α → Option β} {y : β} (h : x.bind f = some y) : ∃ a, x = some a ∧ f a = some y := by
  cases x with
  | none => cases h
  | some a => exact ⟨a, rfl, h⟩
theorem map_spec {α β : Type} {x : Option α} {f : α → β} {y : β} (h : x.map f = some y) : ∃ a, x = some a ∧ y = f a := by
  cases x with
  | none => cases h
  | some a => injection h with h; exact ⟨a, rfl, h.symm⟩

theorem enc_opt {c : Ctx} {E : Nat → AV} {a : Act} {x : Option Operand} {o : Option Opd} (h : compOpt x = some o) (hr : Reads c E a (optReads o)) : EncO c (evO E o) (x.map a.eval) := by
  cases x with
  | none => injection h with h; subst h; trivial
  | some x =>
    obtain ⟨y, hy, rfl⟩ := map_spec h
    exact enc_opd hy hr

theorem compParts_spec {c : Ctx} {E : Nat → AV} {a : Act} {place : Nat → Option (Nat × Nat)} : ∀ {ps : List (Nat × Operand)} {qs : List (Nat × Nat × Opd)}, compParts place ps = some qs → Reads c E a (partReads qs) →
    ps.length = qs.length ∧ ∀ i (h : i < (ps.map fun p => (p.1, a.eval p.2)).length) (h' : i < (evP E qs).length), place ((ps.map fun p => (p.1, a.eval p.2))[i]).1 = some (((evP E qs)[i]).1, ((evP E qs)[i]).2.1) ∧ Enc c ((evP E qs)[i]).2.2 ((ps.map fun p => (p.1, a.eval p.2))[i]).2
  | [], qs, h, _ => by
    injection h with h; subst h
    exact ⟨rfl, fun i h => absurd h (by simp)⟩
  | (i, x) :: r, qs, h, hr => by
    simp only [compParts] at h
    split at h
    · rename_i off size y l hp hy hl
      injection h with h; subst h
      obtain ⟨h1, h2⟩ := compParts_spec (c := c) (E := E) (a := a) hl (hr.mono fun t ht => by simp only [partReads, List.flatMap_cons, List.mem_append]; exact .inr ht)
      refine ⟨by simp [h1], fun j hj hj' => ?_⟩
      cases j with
      | zero => exact ⟨hp, enc_opd hy (hr.mono fun t ht => by simp only [partReads, List.flatMap_cons, List.mem_append]; exact .inl ht)⟩
      | succ j => exact h2 j (by simpa using hj) (by simpa [evP] using hj')
    · cases h

end Go.Proofs.Ytipbcjnniamcgaa.Fw
