/- The framework, part N: what was told in the text's order, step by step. -/
import Derived.Test.YtipbcjnniamcgaaFwM
namespace Go.Proofs.Ytipbcjnniamcgaa.Fw
set_option linter.unusedSimpArgs false
set_option linter.unusedVariables false
open Go

/-- Neither writes what the other one reads or writes. -/
def apart1 (rd' : List Nat) (wr' : Option Nat) (rd : List Nat) (wr : Option Nat) : Prop :=
  (∀ b', wr' = some b' → b' ∉ rd ∧ wr ≠ some b') ∧ (∀ b, wr = some b → b ∉ rd')
def clashW (un : Nat → Nat → Bool) (i : Nat) (rd : List Nat) (wr : Option Nat) : List (Nat × Nat) → Prop
  | [] => True
  | (j, b') :: r => (un j i = true → b' ∉ rd ∧ wr ≠ some b') ∧ clashW un i rd wr r
def clashR (un : Nat → Nat → Bool) (i b : Nat) : List (Nat × List Nat) → Prop
  | [] => True
  | (j, rd') :: r => (un j i = true → b ∉ rd') ∧ clashR un i b r
def clash (un : Nat → Nat → Bool) (i : Nat) (R : List (Nat × List Nat)) (W : List (Nat × Nat)) (rd : List Nat) (wr : Option Nat) : Prop :=
  clashW un i rd wr W ∧ match wr with
    | none => True
    | some b => clashR un i b R
def addR (i : Nat) (rd : List Nat) (R : List (Nat × List Nat)) : List (Nat × List Nat) :=
  match rd with
  | [] => R
  | x :: l => (i, x :: l) :: R
def addW (i : Nat) (wr : Option (Nat × ABlk)) (W : List (Nat × Nat)) : List (Nat × Nat) :=
  match wr with
  | none => W
  | some p => (i, p.1) :: W

def drawA (P : Program) (un : Nat → Nat → Bool) : List AOper → Nat → Env → AHeap → List (Nat × List Nat) → List (Nat × Nat) → (Env → AHeap → Prop) → Prop
  | [], _, E, H, _, _, K => K E H
  | ⟨d, none, o⟩ :: r, i, E, H, R, W, K => exD P o E.get H fun rv rd w => clash un i R W rd (w.map Prod.fst) ∧ drawA P un r (i + 1) (putE E d rv) (applyW H w) (addR i rd R) (addW i w W) K
  | ⟨d, some (t, b), o⟩ :: r, i, E, H, R, W, K => match E.get t with
    | .bool b' => (b' = b → exD P o E.get H fun rv rd w => clash un i R W rd (w.map Prod.fst) ∧ drawA P un r (i + 1) (putE E d rv) (applyW H w) (addR i rd R) (addW i w W) K) ∧
        (b' ≠ b → drawA P un r (i + 1) (putE E d .bot) H R W K)
    | _ => False

/-- What the two logs ask of an operation. -/
def LogOk (un : Nat → Nat → Bool) (i : Nat) (R : List (Nat × List Nat)) (W : List (Nat × Nat)) (rd : List Nat) (wr : Option Nat) : Prop :=
  (∀ e ∈ W, un e.1 i = true → e.2 ∉ rd ∧ wr ≠ some e.2) ∧ (∀ e ∈ R, un e.1 i = true → ∀ b, wr = some b → b ∉ e.2)

theorem clashW_mem {un : Nat → Nat → Bool} {i : Nat} {rd : List Nat} {wr : Option Nat} : ∀ {W : List (Nat × Nat)}, clashW un i rd wr W → ∀ e ∈ W, un e.1 i = true → e.2 ∉ rd ∧ wr ≠ some e.2
  | [], _, e, he, _ => by cases he
  | (j, b') :: r, h, e, he, hu => by
    rcases List.mem_cons.1 he with rfl | he
    · exact h.1 hu
    · exact clashW_mem h.2 e he hu
theorem clashR_mem {un : Nat → Nat → Bool} {i b : Nat} : ∀ {R : List (Nat × List Nat)}, clashR un i b R → ∀ e ∈ R, un e.1 i = true → b ∉ e.2
  | [], _, e, he, _ => by cases he
  | (j, b') :: r, h, e, he, hu => by
    rcases List.mem_cons.1 he with rfl | he
    · exact h.1 hu
    · exact clashR_mem h.2 e he hu
theorem clash_ok {un : Nat → Nat → Bool} {i : Nat} {R : List (Nat × List Nat)} {W : List (Nat × Nat)} {rd : List Nat} {wr : Option Nat} (h : clash un i R W rd wr) : LogOk un i R W rd wr := by
  refine ⟨clashW_mem h.1, fun e he hu b hb => ?_⟩
  subst hb
  exact clashR_mem h.2 e he hu

theorem logOk_none (un : Nat → Nat → Bool) (i : Nat) (R : List (Nat × List Nat)) (W : List (Nat × Nat)) : LogOk un i R W [] none := ⟨fun _ _ _ => by simp, fun _ _ _ b h => by cases h⟩
theorem none_apart (rd : List Nat) (wr : Option Nat) : apart1 [] none rd wr := ⟨fun _ h => (by cases h), fun _ _ => by simp⟩
theorem logs_apart {un : Nat → Nat → Bool} {i k : Nat} {R : List (Nat × List Nat)} {W : List (Nat × Nat)} {rd' rd : List Nat} {w' : Option (Nat × ABlk)} {wr : Option Nat} (h : LogOk un k (addR i rd' R) (addW i w' W) rd wr) (hu : un i k = true) : apart1 rd' (w'.map Prod.fst) rd wr := by
  refine ⟨fun b' hb' => ?_, fun b hb => ?_⟩
  · cases w' with
    | none => cases hb'
    | some p => injection hb' with hb'; subst hb'; exact h.1 (i, p.1) List.mem_cons_self hu
  · cases rd' with
    | nil => simp
    | cons x l => exact h.2 (i, x :: l) List.mem_cons_self hu b hb
theorem logOk_sub {un : Nat → Nat → Bool} {i k : Nat} {R : List (Nat × List Nat)} {W : List (Nat × Nat)} {rd' rd : List Nat} {w' : Option (Nat × ABlk)} {wr : Option Nat} (h : LogOk un k (addR i rd' R) (addW i w' W) rd wr) : LogOk un k R W rd wr := by
  refine ⟨fun e he => h.1 e ?_, fun e he => h.2 e ?_⟩
  · cases w' with
    | none => exact he
    | some p => exact List.mem_cons_of_mem _ he
  · cases rd' with
    | nil => exact he
    | cons x l => exact List.mem_cons_of_mem _ he

def StepAt (P : Program) (x : AOper) (E : Env) (H : AHeap) (b : Nat) (rv : AV) (rd : List Nat) (w : Option (Nat × ABlk)) : Prop :=
  (∃ t bb b', x.g = some (t, bb) ∧ E.get t = .bool b' ∧ b' ≠ bb ∧ rv = .bot ∧ w = none ∧ rd = []) ∨
  ((x.g = none ∨ ∃ t bb, x.g = some (t, bb) ∧ E.get t = .bool bb) ∧ StepX P x.op E.get H b rv rd w)

def dstAt (l : List AOper) (k : Nat) : Option Nat := (l[k]?).bind (·.dst)
def envAt (l : List AOper) (val : Nat → AV) (E : Env) : Nat → Env
  | 0 => E
  | k + 1 => putE (envAt l val E k) (dstAt l k) (val k)
def heapAt (H : AHeap) (wr : Nat → Option (Nat × ABlk)) : Nat → AHeap
  | 0 => H
  | k + 1 => applyW (heapAt H wr k) (wr k)
def consF {α : Type} (x : α) (f : Nat → α) : Nat → α
  | 0 => x
  | k + 1 => f k

theorem envAt_cons (x : AOper) (l : List AOper) (v : AV) (val : Nat → AV) (E : Env) : ∀ k, envAt (x :: l) (consF v val) E (k + 1) = envAt l val (putE E x.dst v) k
  | 0 => rfl
  | k + 1 => by
    show putE (envAt (x :: l) (consF v val) E (k + 1)) (dstAt (x :: l) (k + 1)) (val k) = _
    rw [envAt_cons x l v val E k]
    rfl
theorem heapAt_cons (H : AHeap) (w : Option (Nat × ABlk)) (wr : Nat → Option (Nat × ABlk)) : ∀ k, heapAt H (consF w wr) (k + 1) = heapAt (applyW H w) wr k
  | 0 => rfl
  | k + 1 => by
    show applyW (heapAt H (consF w wr) (k + 1)) (wr k) = _
    rw [heapAt_cons H w wr k]
    rfl

def Told (P : Program) (un : Nat → Nat → Bool) (β : Nat → Nat) (l : List AOper) (i : Nat) (E : Env) (H : AHeap) (R : List (Nat × List Nat)) (W : List (Nat × Nat)) (val : Nat → AV) (wr : Nat → Option (Nat × ABlk)) (rd : Nat → List Nat) : Prop :=
  (∀ k x, l[k]? = some x → StepAt P x (envAt l val E k) (heapAt H wr k) (β (i + k)) (val k) (rd k) (wr k)) ∧
  (∀ k, k < l.length → LogOk un (i + k) R W (rd k) ((wr k).map Prod.fst)) ∧
  (∀ j k, j < k → k < l.length → un (i + j) (i + k) = true → apart1 (rd j) ((wr j).map Prod.fst) (rd k) ((wr k).map Prod.fst))

theorem told_cons {P : Program} {un : Nat → Nat → Bool} {β : Nat → Nat} {x : AOper} {l : List AOper} {i : Nat} {E : Env} {H : AHeap} {R R' : List (Nat × List Nat)} {W W' : List (Nat × Nat)} {v : AV} {w : Option (Nat × ABlk)} {r : List Nat} {val : Nat → AV} {wr : Nat → Option (Nat × ABlk)} {rd : Nat → List Nat}
    (hs : StepAt P x E H (β i) v r w) (hc : LogOk un i R W r (w.map Prod.fst)) (h : Told P un β l (i + 1) (putE E x.dst v) (applyW H w) R' W' val wr rd)
    (hsub : ∀ k, k < l.length → LogOk un (i + 1 + k) R W (rd k) ((wr k).map Prod.fst))
    (hme : ∀ k, k < l.length → un i (i + 1 + k) = true → apart1 r (w.map Prod.fst) (rd k) ((wr k).map Prod.fst)) :
    Told P un β (x :: l) i E H R W (consF v val) (consF w wr) (consF r rd) := by
  obtain ⟨h1, h2, h3⟩ := h
  refine ⟨fun k y hk => ?_, fun k hk => ?_, fun j k hjk hk hu => ?_⟩
  · cases k with
    | zero => injection hk with hk; subst hk; exact hs
    | succ k =>
      rw [envAt_cons, heapAt_cons, show i + (k + 1) = i + 1 + k by omega]
      exact h1 k y hk
  · cases k with
    | zero => exact hc
    | succ k =>
      rw [show i + (k + 1) = i + 1 + k by omega]
      exact hsub k (by simpa using hk)
  · cases k with
    | zero => omega
    | succ k =>
      cases j with
      | zero =>
        rw [show i + (k + 1) = i + 1 + k by omega] at hu
        exact hme k (by simpa using hk) (by simpa using hu)
      | succ j =>
        rw [show i + (k + 1) = i + 1 + k by omega, show i + (j + 1) = i + 1 + j by omega] at hu
        exact h3 j k (by omega) (by simpa using hk) hu

theorem extract {P : Program} {un : Nat → Nat → Bool} {β : Nat → Nat} (hinj : ∀ i j, β i = β j → i = j) {K : Env → AHeap → Prop} : ∀ (l : List AOper) (i : Nat) (E : Env) (H : AHeap) (R : List (Nat × List Nat)) (W : List (Nat × Nat)), drawA P un l i E H R W K → (∀ j, i ≤ j → H (β j) = none) →
    ∃ val wr rd, Told P un β l i E H R W val wr rd ∧ K (envAt l val E l.length) (heapAt H wr l.length)
  | [], i, E, H, R, W, h, _ => ⟨fun _ => .bot, fun _ => none, fun _ => [], ⟨fun k x hk => by simp at hk, fun k hk => absurd hk (by simp), fun j k _ hk => absurd hk (by simp)⟩, h⟩
  | ⟨d, g, o⟩ :: r, i, E, H, R, W, h, hβ => by
    have run : (g = none ∨ ∃ t bb, g = some (t, bb) ∧ E.get t = .bool bb) → (exD P o E.get H fun rv rd w => clash un i R W rd (w.map Prod.fst) ∧ drawA P un r (i + 1) (putE E d rv) (applyW H w) (addR i rd R) (addW i w W) K) →
        ∃ val wr rd, Told P un β (⟨d, g, o⟩ :: r) i E H R W val wr rd ∧ K (envAt (⟨d, g, o⟩ :: r) val E (r.length + 1)) (heapAt H wr (r.length + 1)) := by
      intro hg hx
      obtain ⟨rv, rd0, w, ⟨hcl, hrest⟩, hstep⟩ := exD_step hx (hβ i (Nat.le_refl _))
      have hβ' : ∀ j, i + 1 ≤ j → (applyW H w) (β j) = none := by
        intro j hj
        cases w with
        | none => exact hβ j (by omega)
        | some p =>
          obtain ⟨q, y⟩ := p
          have hne : β j ≠ q := by
            rcases hstep.1 q y rfl with e | ⟨e, _⟩
            · intro e2; have := hinj j i (e2.trans e); omega
            · intro e2; exact e (e2 ▸ hβ j (by omega))
          simp only [applyW, AHeap.upd, if_neg hne]
          exact hβ j (by omega)
      obtain ⟨val, wr, rd, ht, hK⟩ := extract hinj r (i + 1) _ _ _ _ hrest hβ'
      refine ⟨consF rv val, consF w wr, consF rd0 rd, told_cons (.inr ⟨hg, hstep⟩) (clash_ok hcl) ht (fun k hk => logOk_sub (ht.2.1 k hk)) (fun k hk hu => logs_apart (ht.2.1 k hk) hu), ?_⟩
      rw [envAt_cons, heapAt_cons]
      exact hK
    cases g with
    | none => exact run (.inl rfl) h
    | some p =>
      obtain ⟨t, b⟩ := p
      simp only [drawA] at h
      split at h
      · rename_i b' hb'
        by_cases e : b' = b
        · exact run (.inr ⟨t, b, rfl, e ▸ hb'⟩) (h.1 e)
        · obtain ⟨val, wr, rd, ht, hK⟩ := extract hinj r (i + 1) _ _ _ _ (h.2 e) (fun j hj => hβ j (by omega))
          refine ⟨consF .bot val, consF none wr, consF [] rd, told_cons (.inl ⟨t, b, b', rfl, hb', e, rfl, rfl, rfl⟩) (logOk_none _ _ _ _) ht (fun k hk => ht.2.1 k hk) (fun k hk hu => none_apart _ _), ?_⟩
          rw [List.length_cons, envAt_cons, heapAt_cons]
          exact hK
      · exact h.elim

end Go.Proofs.Ytipbcjnniamcgaa.Fw
