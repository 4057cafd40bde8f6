/- The framework, part X: drawn regions as equations; copying; trimming. -/
import Derived.Test.YtipbcjnniamcgaaFwV
namespace Go.Proofs.Ytipbcjnniamcgaa.Fw
set_option linter.unusedSimpArgs false
set_option linter.unusedVariables false
open Go Go.Proofs.Ytipbcjnniamcgaa.Ma

/-- One condition, one value. -/
def Det (F : (AV → Prop) → Prop) : Prop := ∃ (C : Prop) (v : AV), ∀ K, F K ↔ (C ∧ K v)
theorem Det.no {F : (AV → Prop) → Prop} (h : ∀ K, ¬ F K) : Det F := ⟨False, .bot, fun K => ⟨fun x => (h K x).elim, fun x => x.1.elim⟩⟩
theorem Det.yes {F : (AV → Prop) → Prop} {v : AV} (h : ∀ K, F K ↔ K v) : Det F := ⟨True, v, fun K => by rw [h K, true_and]⟩
theorem Det.iff {F : (AV → Prop) → Prop} {C : Prop} {v : AV} (h : ∀ K, F K ↔ (C ∧ K v)) : Det F := ⟨C, v, h⟩

theorem det_binInt (op : BinOp) (k : IntKind) (a b : Int) : Det (binInt op k a b) := by
  cases op <;> first | exact .yes fun K => Iff.rfl | exact .iff fun K => Iff.rfl | exact .no fun K h => h
theorem det_binStr (op : BinOp) (a b : ByteArray) : Det (binStr op a b) := by
  cases op <;> first | exact .yes fun K => Iff.rfl | exact .iff fun K => Iff.rfl | exact .no fun K h => h
theorem det_and {F : (AV → Prop) → Prop} {C : Prop} (h : Det F) : Det (fun K => C ∧ F K) := by
  obtain ⟨C', v, h⟩ := h
  exact ⟨C ∧ C', v, fun K => by show (C ∧ F K) ↔ _; rw [h K, and_assoc]⟩
theorem det_binW (op : BinOp) (x y : AV) : Det (binW op x y) := by
  cases x <;> cases y <;> first
    | exact .no fun K h => h
    | exact det_binStr op _ _
    | (cases op <;> first | exact .iff fun K => Iff.rfl | exact det_and (det_binInt _ _ _ _))
theorem det_binBW (op : BinOp) (x y : AV) : Det (binBW op x y) := by
  cases x <;> cases y <;> first
    | exact .no fun K h => h
    | (cases op <;> first | exact .yes fun K => Iff.rfl | exact .no fun K h => h)
theorem det_unW (op : UnOp) (x : AV) : Det (unW op x) := by
  cases op <;> cases x <;> first | exact .yes fun K => Iff.rfl | exact .no fun K h => h
theorem det_convW (k : IntKind) (x : AV) : Det (convW k x) := by
  cases x <;> first | exact .yes fun K => Iff.rfl | exact .no fun K h => h
theorem det_extW (x : AV) (i : Nat) : Det (extW x i) := by
  cases x with
  | tup l => unfold extW; cases e : l[i]? with
    | none => exact .no fun K h => by simp [e] at h
    | some y => exact .yes (v := y) fun K => by simp [e]
  | _ => exact .no fun K h => h
theorem det_fldW (off : Nat) (n : Option Nat) (x : AV) : Det (fldW off n x) := by
  cases x with
  | agg l => cases n with
    | some n => exact .iff fun K => Iff.rfl
    | none => unfold fldW; cases e : l[off]? with
      | none => exact .no fun K h => by simp [e] at h
      | some y => exact .yes (v := y) fun K => by simp [e]
  | _ => exact .no fun K h => h
theorem det_buildW (z : List AV) (ps : List (Nat × Nat × AV)) : Det (buildW z ps) := by
  unfold buildW; cases e : fillA z ps with
  | none => exact .no fun K h => by simp at h
  | some l => exact .yes (v := .agg l) fun K => by simp
theorem det_bslW (z : List AV) (n es : Nat) (ps : List (Nat × Nat × AV)) : Det (bslW z n es ps) := by
  unfold bslW; cases e : fillA (repA z (n * es)) ps with
  | none => exact .no fun K h => by simp at h
  | some l => exact .yes (v := .seq n l true) fun K => by simp
theorem det_one (l : List AV) : Det (fun K => match l with | [y] => K y | _ => False) := by
  match l with
  | [] => exact .no fun K h => h
  | [y] => exact .yes fun K => Iff.rfl
  | _ :: _ :: _ => exact .no fun K h => h
theorem det_loadW (H : AHeap) (n : Option Nat) (x : AV) : Det (loadW H n x) := by
  cases x with
  | ptr b L off =>
    rw [show loadW H n (.ptr b L off) = fun K => ldP n L off K (H b) from funext fun K => loadW_ptr]
    cases H b with
    | none => exact .no fun K h => h
    | some y => cases y with
      | raw o => exact .no fun K h => h
      | row ty es cells => cases n with
        | some n => exact det_and (det_and (.yes fun K => Iff.rfl))
        | none => exact det_and (det_and (det_one _))
  | cptr cells => cases n with
    | some n => exact .iff fun K => Iff.rfl
    | none => exact det_and (det_one _)
  | _ => cases n <;> exact .no fun K h => h
theorem det_fldAW (off : Nat) (x : AV) : Det (fldAW off x) := by
  cases x <;> first | exact .yes fun K => Iff.rfl | exact .no fun K h => h
theorem det_idxAW (es : Nat) (x i : AV) : Det (idxAW es x i) := by
  cases x <;> cases i <;> first | exact .no fun K h => h | exact .iff fun K => Iff.rfl | exact det_and (.iff fun K => Iff.rfl)
theorem det_idxSW (x i : AV) : Det (idxSW x i) := by
  cases x <;> cases i <;> first | exact .no fun K h => h | exact .iff fun K => Iff.rfl
theorem det_slcW (es : Nat) (x : AV) (lo hi mx : Option AV) : Det (slcW es x lo hi mx) := by
  cases x with
  | seq n cells t =>
    unfold slcW
    split
    · rename_i e; cases e
      split
      · exact det_and (.iff fun K => Iff.rfl)
      · exact det_and (det_and (.iff fun K => Iff.rfl))
      · exact .no fun K h => h
    · rename_i e; cases e
    · rename_i h _; exact (h _ _ _ rfl).elim
  | own b L off n t =>
    unfold slcW
    split
    · rename_i e; cases e
    · rename_i e; cases e
      split
      · exact .iff fun K => Iff.rfl
      · exact det_and (.iff fun K => Iff.rfl)
      · exact .no fun K h => h
    · rename_i h; exact (h _ _ _ _ _ rfl).elim
  | _ => exact .no fun K h => h
theorem det_slcSW (x : AV) (lo hi : Option AV) : Det (slcSW x lo hi) := by
  cases x with
  | str s =>
    unfold slcSW
    dsimp only
    split
    · exact .iff fun K => Iff.rfl
    · exact .no fun K h => h
  | _ => exact .no fun K h => h
theorem det_maxW (m : Bool) (x y : AV) : Det (maxW m x y) := by
  cases x <;> cases y <;> first | exact .no fun K h => h | exact .iff fun K => Iff.rfl
theorem det_pick (E : Nat → AV) (c a b : Opd) : Det (fun K => match c.ev E with | .bool t => (t = true → K (a.ev E)) ∧ (t = false → K (b.ev E)) | _ => False) := by
  cases c.ev E with
  | bool t => cases t with
    | true => exact .yes (v := a.ev E) fun K => by simp
    | false => exact .yes (v := b.ev E) fun K => by simp
  | _ => exact .no fun K h => h

theorem pure_det (o : AOp) (ho : (∀ s x, o ≠ .len s x) ∧ ∀ s x, o ≠ .nilS s x) (E : Nat → AV) (H : AHeap) : Det (pureW o E H) := by
  cases o with
  | mov x => exact .yes fun K => Iff.rfl
  | pick c a b => exact det_pick E c a b
  | bin op x y => exact det_binW _ _ _
  | binB op x y => exact det_binBW _ _ _
  | un op x => exact det_unW _ _
  | conv k x => exact det_convW _ _
  | nilS g x => exact (ho.2 _ _ rfl).elim
  | ext x i => exact det_extW _ _
  | fld off n x => exact det_fldW _ _ _
  | build z ps => exact det_buildW _ _
  | load n x => exact det_loadW _ _ _
  | fldA off x => exact det_and (det_fldAW _ _)
  | idxA es x i => exact det_and (det_idxAW _ _ _)
  | idxS x i => exact det_idxSW _ _
  | len s x => exact (ho.1 _ _ rfl).elim
  | slc es x lo hi mx => exact det_and (det_slcW _ _ _ _ _)
  | slcS x lo hi => exact det_slcSW _ _ _
  | mkF f a b => exact .yes fun K => Iff.rfl
  | gr m x y => exact det_maxW _ _ _
  | bsl z n es ps => exact det_bslW _ _ _ _
  | _ => exact .no fun K h => h

/-! ### drawn regions -/
def dp (K : AV → List Nat → Option (Nat × ABlk) → Prop) (rd : List Nat) (v : AV) : Prop := K v rd none
def dK (P : Program) (un : Nat → Nat → Bool) (r : List AOper) (i : Nat) (d : Option Nat) (E : Env) (H : AHeap) (R : List (Nat × List Nat)) (W : List (Nat × Nat)) (K : Env → AHeap → Prop) (rv : AV) (rd : List Nat) (w : Option (Nat × ABlk)) : Prop :=
  clash un i R W rd (w.map Prod.fst) ∧ drawA P un r (i + 1) (putE E d rv) (applyW H w) (addR i rd R) (addW i w W) K
def drawK (P : Program) (b : List AOper) (kp : List Nat) (q : St → Prop) (D : List Nat) (E : Env) (H : AHeap) : Prop := seqOps P b ⟨D, E, H⟩ (regK kp q)
def dcall (P : Program) (f : AV) (args : List AV) (K : AV → List Nat → Option (Nat × ABlk) → Prop) : Prop := ∃ rv, (∀ H', callW P f args H' fun v H'' => v = rv ∧ H'' = H') ∧ K rv [] none
section
variable {P : Program} {Q : Exit → St → Prop} {E : Nat → AV} {H : AHeap} {K : AV → List Nat → Option (Nat × ABlk) → Prop}
theorem W_draw {a b : List AOper} {us kp : List Nat} {D : List Nat} {E : Env} : W P (.draw a b us kp) Q ⟨D, E, H⟩ = drawA P (unM us) a 0 E H [] [] (drawK P b kp (Q .normal) D) := id rfl
theorem drawK_eq {b : List AOper} {kp : List Nat} {q : St → Prop} {D : List Nat} {E : Env} : drawK P b kp q D E H = seqOps P b ⟨D, E, H⟩ (regK kp q) := id rfl
theorem draw_nil {un : Nat → Nat → Bool} {i : Nat} {E : Env} {R : List (Nat × List Nat)} {W : List (Nat × Nat)} {K : Env → AHeap → Prop} : drawA P un [] i E H R W K = K E H := id rfl
theorem draw_cons {un : Nat → Nat → Bool} {d : Option Nat} {o : AOp} {r : List AOper} {i : Nat} {E : Env} {R : List (Nat × List Nat)} {W : List (Nat × Nat)} {K : Env → AHeap → Prop} :
    drawA P un (⟨d, none, o⟩ :: r) i E H R W K = exD P o E.get H (dK P un r i d E H R W K) := id rfl
theorem dp_eq {rd : List Nat} {v : AV} : dp K rd v = K v rd none := id rfl
theorem d_of_pure {o : AOp} (ho : (∀ s x, o ≠ .len s x) ∧ ∀ s x, o ≠ .nilS s x) (h : exD P o E H K = ∃ rv, pureW o E H (fun r => r = rv) ∧ K rv (rdOf E o) none) : exD P o E H K ↔ pureW o E H (dp K (rdOf E o)) := by
  obtain ⟨C, v, hd⟩ := pure_det o ho E H
  rw [h, hd]
  constructor
  · rintro ⟨rv, h1, h2⟩
    obtain ⟨hc, e⟩ := (hd _).1 h1
    subst e; exact ⟨hc, h2⟩
  · rintro ⟨hc, hk⟩
    exact ⟨v, (hd _).2 ⟨hc, rfl⟩, hk⟩
theorem d_mov {x : Opd} : exD P (.mov x) E H K ↔ K (x.ev E) (rdOf E (.mov x)) none := d_of_pure (by simp) rfl
theorem d_pick {c a b : Opd} : exD P (.pick c a b) E H K ↔ pureW (.pick c a b) E H (dp K (rdOf E (.pick c a b))) := d_of_pure (by simp) rfl
theorem d_bin {op : BinOp} {x y : Opd} : exD P (.bin op x y) E H K ↔ binW op (x.ev E) (y.ev E) (dp K (rdOf E (.bin op x y))) := d_of_pure (by simp) rfl
theorem d_binB {op : BinOp} {x y : Opd} : exD P (.binB op x y) E H K ↔ binBW op (x.ev E) (y.ev E) (dp K (rdOf E (.binB op x y))) := d_of_pure (by simp) rfl
theorem d_un {op : UnOp} {x : Opd} : exD P (.un op x) E H K ↔ unW op (x.ev E) (dp K (rdOf E (.un op x))) := d_of_pure (by simp) rfl
theorem d_conv {k : IntKind} {x : Opd} : exD P (.conv k x) E H K ↔ convW k (x.ev E) (dp K (rdOf E (.conv k x))) := d_of_pure (by simp) rfl
theorem d_ext {x : Opd} {i : Nat} : exD P (.ext x i) E H K ↔ extW (x.ev E) i (dp K (rdOf E (.ext x i))) := d_of_pure (by simp) rfl
theorem d_fld {off : Nat} {n : Option Nat} {x : Opd} : exD P (.fld off n x) E H K ↔ fldW off n (x.ev E) (dp K (rdOf E (.fld off n x))) := d_of_pure (by simp) rfl
theorem d_build {z : List AV} {ps : List (Nat × Nat × Opd)} : exD P (.build z ps) E H K ↔ buildW z (evP E ps) (dp K (rdOf E (.build z ps))) := d_of_pure (by simp) rfl
theorem d_load {n : Option Nat} {x : Opd} : exD P (.load n x) E H K ↔ loadW H n (x.ev E) (dp K (rdOf E (.load n x))) := d_of_pure (by simp) rfl
theorem d_fldA {off : Nat} {x : Opd} : exD P (.fldA off x) E H K ↔ live H (x.ev E) ∧ fldAW off (x.ev E) (dp K (rdOf E (.fldA off x))) := d_of_pure (by simp) rfl
theorem d_idxA {es : Nat} {x i : Opd} : exD P (.idxA es x i) E H K ↔ liveS H (x.ev E) ∧ idxAW es (x.ev E) (i.ev E) (dp K (rdOf E (.idxA es x i))) := d_of_pure (by simp) rfl
theorem d_idxS {x i : Opd} : exD P (.idxS x i) E H K ↔ idxSW (x.ev E) (i.ev E) (dp K (rdOf E (.idxS x i))) := d_of_pure (by simp) rfl
theorem d_slc {es : Nat} {x : Opd} {lo hi mx : Option Opd} : exD P (.slc es x lo hi mx) E H K ↔ liveE es H (x.ev E) ∧ slcW es (x.ev E) (evO E lo) (evO E hi) (evO E mx) (dp K (rdOf E (.slc es x lo hi mx))) := d_of_pure (by simp) rfl
theorem d_slcS {x : Opd} {lo hi : Option Opd} : exD P (.slcS x lo hi) E H K ↔ slcSW (x.ev E) (evO E lo) (evO E hi) (dp K (rdOf E (.slcS x lo hi))) := d_of_pure (by simp) rfl
theorem d_gr {m : Bool} {x y : Opd} : exD P (.gr m x y) E H K ↔ maxW m (x.ev E) (y.ev E) (dp K (rdOf E (.gr m x y))) := d_of_pure (by simp) rfl
theorem d_bsl {z : List AV} {n es : Nat} {ps : List (Nat × Nat × Opd)} : exD P (.bsl z n es ps) E H K ↔ bslW z n es (evP E ps) (dp K (rdOf E (.bsl z n es ps))) := d_of_pure (by simp) rfl
theorem d_mkF {f : Go.Fn} {a b : List Opd} : exD P (.mkF f a b) E H K ↔ K (.fn f (evs E a) (evs E b)) (rdOf E (.mkF f a b)) none := d_of_pure (by simp) rfl
theorem d_call {f : Opd} {as : List Opd} : exD P (.call f as) E H K = dcall P (f.ev E) (evs E as) K := id rfl
def dlen (K : AV → List Nat → Option (Nat × ABlk) → Prop) (s : Bool) : AV → Prop
  | .seq n _ _ => s = false ∧ K (.int .i64 n) [] none
  | .own _ _ _ n _ => s = false ∧ K (.int .i64 n) [] none
  | .str b => s = true ∧ K (.int .i64 b.size) [] none
  | _ => False
theorem d_len {s : Bool} {x : Opd} : exD P (.len s x) E H K ↔ dlen K s (x.ev E) := by
  unfold exD
  dsimp only
  generalize x.ev E = y
  cases s <;> cases y <;> simp [dlen]
theorem dlen_LS {l : List Nat} {t : Bool} : dlen K false (LS l t) = K (.int .i64 ((l.length : Nat) : Int)) [] none := by simp [dlen, LS]
theorem dlen_own {b L off n : Nat} {t : Bool} : dlen K false (.own b L off n t) = K (.int .i64 ((n : Nat) : Int)) [] none := by simp [dlen]
theorem dlen_str {s : ByteArray} : dlen K true (.str s) = K (.int .i64 ((s.size : Nat) : Int)) [] none := by simp [dlen]
theorem PFn.dcall {f : FuncId} {args : List AV} {r : AV} (h : PFn P f args r) (k : K r [] none) : dcall P (.fn (.func f) [] []) args K :=
  ⟨r, fun _ => h.call ⟨rfl, rfl⟩, k⟩
end

/-- Counting down: one below. -/
def dn : Nat → Int
  | 0 => -1
  | k + 1 => (k : Int)
theorem dn_zero : dn 0 = -1 := id rfl
theorem dn_succ {k : Nat} : dn (k + 1) = (k : Int) := id rfl
theorem bin_dec {K : AV → Prop} {k : Nat} (h : k < 9223372036854775808) : binW .sub (.int .i64 (k : Int)) (.int .i64 ((1 : Nat) : Int)) K ↔ K (.int .i64 (dn k)) := by
  have e : IntKind.i64.wrap ((k : Int) - ((1 : Nat) : Int)) = dn k := by
    rw [wrap_i64 (by omega) (by omega)]
    cases k with
    | zero => rfl
    | succ k => simp only [dn]; omega
  simp only [binW, binInt, e, true_and]
theorem bin_geq_neg {K : AV → Prop} : binW .geq (.int .i64 (-1)) (.int .i64 ((0 : Nat) : Int)) K ↔ K (.bool false) := by
  simp [binW, binInt]

/-! ### copying words -/
theorem cpy_U {H : AHeap} {b ty n : Nat} {t t' : Bool} {l o : List Nat} {K : AV → AHeap → Prop} (hH : H b = some (.row ty 1 (U o))) (ho : o.length = n) (h : l.length = n) (k : K (.int .i64 ((n : Nat) : Int)) (H.upd b (some (.row ty 1 (U l))))) :
    cpyW H 1 (.own b n 0 n t) (LS l t') K := by
  subst ho
  refine ⟨by simp, U_cell l, ?_⟩
  dsimp only
  rw [hH]
  refine ⟨by simp, by omega, ?_⟩
  have e : splice (U o) 0 ((U l).take (Nat.min l.length o.length * 1)) = U l := by
    have e1 : Nat.min l.length o.length * 1 = l.length := by rw [h]; simp
    rw [e1, List.take_of_length_le (by simp)]
    unfold splice
    rw [List.drop_of_length_le (by simp [h])]
    simp
  rw [e, h]
  simpa using k


/-! ### code cut -/
def fstC : ACode → ACode
  | .seq a _ => a
  | x => x
def sndC : ACode → ACode
  | .seq _ b => b
  | x => x
/-- Code to be held back. -/
def hold (c : ACode) : ACode := c

/-! ### rows that grow -/
def grow (H0 : AHeap) (ty : Nat) (l : List Nat) (x : AV) (H : AHeap) : Prop :=
  (l = [] ∧ x = .seq 0 [] true ∧ H = H0) ∨ (l ≠ [] ∧ ∃ b, H0 b = none ∧ x = .own b l.length 0 l.length false ∧ H = H0.upd b (some (.row ty 1 (U l))))
theorem grow_nil {H0 : AHeap} {ty : Nat} : grow H0 ty [] (.seq 0 [] true) H0 := .inl ⟨rfl, rfl, rfl⟩
theorem grow_old {H0 H : AHeap} {ty : Nat} {l : List Nat} {x : AV} (h : grow H0 ty l x H) {p : Nat} {y : ABlk} (hp : H0 p = some y) : H p = some y := by
  rcases h with ⟨_, _, rfl⟩ | ⟨_, b, hb, _, rfl⟩
  · exact hp
  · rw [upd_other _ _ (by rintro rfl; rw [hb] at hp; cases hp)]; exact hp
theorem app_grow {H0 H : AHeap} {ty n : Nat} {l m : List Nat} {x : AV} {t : Bool} {K : AV → AHeap → Prop} (h : grow H0 ty l x H) (hn : n = m.length) (hm : m ≠ []) (hb : l.length + m.length ≤ 17592186044416)
    (k : ∀ x' H', grow H0 ty (l ++ m) x' H' → K x' H') : appW H ty 1 4 x (.seq n (U m) t) K := by
  subst hn
  have hpos : 0 < m.length := List.length_pos_iff.2 hm
  refine ⟨by simp, U_cell m, ?_⟩
  rcases h with ⟨rfl, rfl, rfl⟩ | ⟨_, b, hb', rfl, rfl⟩
  · simp only [List.length_nil] at hb
    refine ⟨rfl, rfl, by omega, by omega, fun e => absurd e (by omega), fun _ b hb' => ?_⟩
    refine k _ _ (.inr ⟨by simpa using hm, b, hb', ?_, ?_⟩)
    · simp
    · simp
  · dsimp only
    rw [upd_same]
    refine ⟨by simp, rfl, by simp, rfl, rfl, by omega, by omega, ?_⟩
    refine k _ _ (.inr ⟨by simp [hm], b, hb', ?_, ?_⟩)
    · simp
    · rw [upd_upd, U_app]
theorem grow_fin {H0 H : AHeap} {ty : Nat} {l : List Nat} {x : AV} {Q : AV → AHeap → Prop} (h : grow H0 ty l x H) (hq : Q (LS l false) H0) : SetR Q x H := by
  rcases h with ⟨rfl, rfl, rfl⟩ | ⟨_, b, hb, rfl, rfl⟩
  · exact SetR.loose (SetR.now hq)
  · refine SetR.frz b (upd_same _ _ _) ?_
    rw [upd_upd, upd_back _ hb]
    have e : frz b 1 (U l) (.own b l.length 0 l.length false) = LS l false := by simp [frz, frz2, frz1, LS, List.take_of_length_le]
    rw [e]; exact SetR.now hq

/-- A grown row, read from now on. -/
theorem Settle.grown {K : St → Prop} {D : List Nat} {E : Env} {H0 H : AHeap} {ty : Nat} {l : List Nat} {x : AV} (t : Nat) (he : E.get t = x) (h : grow H0 ty l x H) (k : Settle K ⟨D, E.set t (LS l false), H0⟩) : Settle K ⟨D, E, H⟩ := by
  rcases h with ⟨rfl, rfl, rfl⟩ | ⟨_, b, hb, rfl, rfl⟩
  · refine Settle.loose t ?_
    rw [he]; exact k
  · refine Settle.freeze t he (upd_same _ _ _) (by simp) (.inr (by simp)) ?_
    rw [upd_upd, upd_back _ hb]
    have e : AV.seq l.length (((U l).drop 0).take (l.length * 1)) false = LS l false := by simp [LS, List.take_of_length_le]
    rw [e]; exact k

/-! ### drawn regions in which nothing is written -/
def noW1 : AOp → Bool
  | .alloc _ _ _ | .box _ _ _ | .store _ _ _ | .mks _ _ _ _ _ _ | .app _ _ _ _ _ | .cpy _ _ _ => false
  | _ => true
def noW : List AOper → Bool
  | [] => true
  | x :: r => noW1 x.op && noW r
theorem exD_congr {P : Program} {o : AOp} {E : Nat → AV} {H : AHeap} {K K' : AV → List Nat → Option (Nat × ABlk) → Prop} (h : noW1 o = true) (hk : ∀ rv rd, K rv rd none ↔ K' rv rd none) : exD P o E H K ↔ exD P o E H K' := by
  cases o <;> first
    | (cases h; done)
    | (simp only [exD, hk]; done)
    | (unfold exD; dsimp only; split <;> first | exact Iff.rfl | exact hk _ _)
def drawP (P : Program) : List AOper → Env → AHeap → (Env → AHeap → Prop) → Prop
  | [], E, H, K => K E H
  | ⟨d, none, o⟩ :: r, E, H, K => exD P o E.get H fun rv _ _ => drawP P r (putE E d rv) H K
  | ⟨d, some (t, b), o⟩ :: r, E, H, K => match E.get t with
    | .bool b' => (b' = b → exD P o E.get H fun rv _ _ => drawP P r (putE E d rv) H K) ∧ (b' ≠ b → drawP P r (putE E d .bot) H K)
    | _ => False
theorem drawA_P {P : Program} {un : Nat → Nat → Bool} {H : AHeap} {K : Env → AHeap → Prop} : ∀ {l : List AOper} (_ : noW l = true) (i : Nat) (E : Env) (R : List (Nat × List Nat)), drawA P un l i E H R [] K ↔ drawP P l E H K
  | [], _, _, _, _ => Iff.rfl
  | ⟨d, none, o⟩ :: r, h, i, E, R => by
    simp only [noW, Bool.and_eq_true] at h
    unfold drawA drawP
    refine exD_congr h.1 fun rv rd => ?_
    have := drawA_P (P := P) (un := un) (H := H) (K := K) h.2 (i + 1) (putE E d rv) (addR i rd R)
    simpa [clash, clashW, addW, applyW] using this
  | ⟨d, some (t, b), o⟩ :: r, h, i, E, R => by
    simp only [noW, Bool.and_eq_true] at h
    unfold drawA drawP
    cases E.get t with
    | bool b' =>
      refine and_congr (imp_congr_right fun _ => exD_congr h.1 fun rv rd => ?_) (imp_congr_right fun _ => drawA_P h.2 (i + 1) (putE E d .bot) R)
      have := drawA_P (P := P) (un := un) (H := H) (K := K) h.2 (i + 1) (putE E d rv) (addR i rd R)
      simpa [clash, clashW, addW, applyW] using this
    | _ => exact Iff.rfl
def pK (P : Program) (r : List AOper) (d : Option Nat) (E : Env) (H : AHeap) (K : Env → AHeap → Prop) (rv : AV) (_ : List Nat) (_ : Option (Nat × ABlk)) : Prop := drawP P r (putE E d rv) H K
def drawG (P : Program) (d : Option Nat) (o : AOp) (r : List AOper) (b : Bool) (E : Env) (H : AHeap) (K : Env → AHeap → Prop) : AV → Prop
  | .bool b' => (b' = b → exD P o E.get H (pK P r d E H K)) ∧ (b' ≠ b → drawP P r (putE E d .bot) H K)
  | _ => False
section
variable {P : Program} {Q : Exit → St → Prop} {H : AHeap} {E : Env} {K : Env → AHeap → Prop} {d : Option Nat} {o : AOp} {r : List AOper}
theorem W_drawP {a b : List AOper} {us kp : List Nat} {D : List Nat} (h : noW a = true) : W P (.draw a b us kp) Q ⟨D, E, H⟩ ↔ drawP P a E H (drawK P b kp (Q .normal) D) := drawA_P h 0 E []
theorem pd_nil : drawP P [] E H K = K E H := id rfl
theorem pd_cons : drawP P (⟨d, none, o⟩ :: r) E H K = exD P o E.get H (pK P r d E H K) := id rfl
theorem pd_guard {t : Nat} {b : Bool} : drawP P (⟨d, some (t, b), o⟩ :: r) E H K = drawG P d o r b E H K (E.get t) := by
  unfold drawP; cases E.get t <;> rfl
theorem pK_some {n : Nat} {rv : AV} {rd : List Nat} {w : Option (Nat × ABlk)} : pK P r (some n) E H K rv rd w = drawP P r (E.set n rv) H K := id rfl
theorem dG_tt : drawG P d o r true E H K (.bool true) = exD P o E.get H (pK P r d E H K) := by simp [drawG]
theorem dG_ff : drawG P d o r false E H K (.bool false) = exD P o E.get H (pK P r d E H K) := by simp [drawG]
theorem dG_tf {n : Nat} : drawG P (some n) o r true E H K (.bool false) = drawP P r (E.set n .bot) H K := by simp [drawG, putE]
theorem dG_ft {n : Nat} : drawG P (some n) o r false E H K (.bool true) = drawP P r (E.set n .bot) H K := by simp [drawG, putE]
def dpick (K : AV → List Nat → Option (Nat × ABlk) → Prop) (rd : List Nat) (x y : AV) : AV → Prop
  | .bool t => (t = true → K x rd none) ∧ (t = false → K y rd none)
  | _ => False
theorem d_pick' {c a b : Opd} {E : Nat → AV} {K : AV → List Nat → Option (Nat × ABlk) → Prop} : exD P (.pick c a b) E H K ↔ dpick K (rdOf E (.pick c a b)) (a.ev E) (b.ev E) (c.ev E) := by
  rw [d_pick]; unfold pureW dpick dp; dsimp only; cases c.ev E <;> exact Iff.rfl
theorem dpick_t {K : AV → List Nat → Option (Nat × ABlk) → Prop} {rd : List Nat} {x y : AV} : dpick K rd x y (.bool true) = K x rd none := by simp [dpick]
theorem dpick_f {K : AV → List Nat → Option (Nat × ABlk) → Prop} {rd : List Nat} {x y : AV} : dpick K rd x y (.bool false) = K y rd none := by simp [dpick]
end

/-! ### drawn regions in which something is written -/
section
variable {P : Program} {Q : Exit → St → Prop} {H : AHeap} {E : Env} {d : Option Nat} {o : AOp} {r : List AOper} {un : Nat → Nat → Bool}
theorem W_drawG {a b : List AOper} {us kp : List Nat} {D : List Nat} (h : noW a = false) : W P (.draw a b us kp) Q ⟨D, E, H⟩ ↔ drawA P (unM us) a 0 E H [] [] (drawK P b kp (Q .normal) D) := by
  have _ := h
  exact Iff.rfl
theorem dK_n {n i : Nat} {R : List (Nat × List Nat)} {W : List (Nat × Nat)} {K : Env → AHeap → Prop} {rv : AV} {rd : List Nat} :
    dK P un r i (some n) E H R W K rv rd none = (clashW un i rd none W ∧ drawA P un r (i + 1) (E.set n rv) H (addR i rd R) W K) := by
  simp [dK, clash, putE, applyW, addW]
theorem dK_w {n i b : Nat} {x : ABlk} {R : List (Nat × List Nat)} {W : List (Nat × Nat)} {K : Env → AHeap → Prop} {rv : AV} {rd : List Nat} :
    dK P un r i (some n) E H R W K rv rd (some (b, x)) = ((clashW un i rd (some b) W ∧ clashR un i b R) ∧ drawA P un r (i + 1) (E.set n rv) (H.upd b (some x)) (addR i rd R) ((i, b) :: W) K) := by
  simp [dK, clash, putE, applyW, addW]
theorem dK_w0 {i b : Nat} {x : ABlk} {R : List (Nat × List Nat)} {W : List (Nat × Nat)} {K : Env → AHeap → Prop} {rv : AV} {rd : List Nat} :
    dK P un r i none E H R W K rv rd (some (b, x)) = ((clashW un i rd (some b) W ∧ clashR un i b R) ∧ drawA P un r (i + 1) E (H.upd b (some x)) (addR i rd R) ((i, b) :: W) K) := by
  simp [dK, clash, putE, applyW, addW]
theorem cW_nil {i : Nat} {rd : List Nat} {wr : Option Nat} : clashW un i rd wr [] = True := id rfl
theorem cW_0 {i j b' : Nat} {W : List (Nat × Nat)} : clashW un i [] none ((j, b') :: W) = clashW un i [] none W := by simp [clashW]
theorem cW_1 {i j b' p : Nat} {W : List (Nat × Nat)} (h : Ap b' p) : clashW un i [p] none ((j, b') :: W) = clashW un i [p] none W := by have h : b' ≠ p := h; simp [clashW, h]
theorem cW_w {i j b' b : Nat} {W : List (Nat × Nat)} (h : Ap b' b) : clashW un i [] (some b) ((j, b') :: W) = clashW un i [] (some b) W := by
  have h : b' ≠ b := h
  simp only [clashW, List.not_mem_nil, not_false_eq_true, true_and, ne_eq, Option.some.injEq]
  simp [Ne.symm h]
theorem cW_1w {i j b' p b : Nat} {W : List (Nat × Nat)} (h : Ap b' p) (h' : Ap b' b) : clashW un i [p] (some b) ((j, b') :: W) = clashW un i [p] (some b) W := by
  have h : b' ≠ p := h
  have h' : b' ≠ b := h'
  simp only [clashW, List.mem_singleton, ne_eq, Option.some.injEq]
  simp [h, Ne.symm h']
theorem cW_o {us : List Nat} {i j b' : Nat} {rd : List Nat} {wr : Option Nat} {W : List (Nat × Nat)} (h : unM us j i = false) : clashW (unM us) i rd wr ((j, b') :: W) = clashW (unM us) i rd wr W := by simp [clashW, h]
theorem cR_nil {i b : Nat} : clashR un i b [] = True := id rfl
theorem cR_1 {i j b p : Nat} {R : List (Nat × List Nat)} (h : Ap b p) : clashR un i b ((j, [p]) :: R) = clashR un i b R := by have h : b ≠ p := h; simp [clashR, h]
theorem cR_o {us : List Nat} {i j b : Nat} {rd : List Nat} {R : List (Nat × List Nat)} (h : unM us j i = false) : clashR (unM us) i b ((j, rd) :: R) = clashR (unM us) i b R := by simp [clashR, h]
theorem aR_nil {i : Nat} {R : List (Nat × List Nat)} : addR i [] R = R := id rfl
theorem aR_cons {i x : Nat} {l : List Nat} {R : List (Nat × List Nat)} : addR i (x :: l) R = (i, x :: l) :: R := id rfl
end
section
variable {E : Nat → AV}
theorem bo_ptr {b L off : Nat} : blkOf (.ptr b L off) = [b] := id rfl
theorem bo_own {b L off n : Nat} {t : Bool} : blkOf (.own b L off n t) = [b] := id rfl
theorem bo_cptr {l : List AV} : blkOf (.cptr l) = [] := id rfl
theorem bo_LS {l : List Nat} {t : Bool} : blkOf (LS l t) = [] := id rfl
theorem bo_seq {n : Nat} {l : List AV} {t : Bool} : blkOf (.seq n l t) = [] := id rfl
theorem rd_load {n : Option Nat} {x : Opd} : rdOf E (.load n x) = blkOf (x.ev E) := id rfl
theorem rd_fldA {n : Nat} {x : Opd} : rdOf E (.fldA n x) = blkOf (x.ev E) := id rfl
theorem rd_idxA {n : Nat} {x i : Opd} : rdOf E (.idxA n x i) = blkOf (x.ev E) := id rfl
theorem rd_slc {n : Nat} {x : Opd} {a b c : Option Opd} : rdOf E (.slc n x a b c) = blkOf (x.ev E) := id rfl
theorem rd_mov {x : Opd} : rdOf E (.mov x) = [] := id rfl
theorem rd_pick {x y z : Opd} : rdOf E (.pick x y z) = [] := id rfl
theorem rd_bin {op : BinOp} {x y : Opd} : rdOf E (.bin op x y) = [] := id rfl
theorem rd_binB {op : BinOp} {x y : Opd} : rdOf E (.binB op x y) = [] := id rfl
theorem rd_un {op : UnOp} {x : Opd} : rdOf E (.un op x) = [] := id rfl
theorem rd_conv {k : IntKind} {x : Opd} : rdOf E (.conv k x) = [] := id rfl
theorem rd_ext {n : Nat} {x : Opd} : rdOf E (.ext x n) = [] := id rfl
theorem rd_fld {n : Nat} {m : Option Nat} {x : Opd} : rdOf E (.fld n m x) = [] := id rfl
theorem rd_build {z : List AV} {l : List (Nat × Nat × Opd)} : rdOf E (.build z l) = [] := id rfl
theorem rd_bsl {z : List AV} {n m : Nat} {l : List (Nat × Nat × Opd)} : rdOf E (.bsl z n m l) = [] := id rfl
theorem rd_gr {m : Bool} {x y : Opd} : rdOf E (.gr m x y) = [] := id rfl
theorem rd_idxS {x y : Opd} : rdOf E (.idxS x y) = [] := id rfl
theorem rd_slcS {x : Opd} {a b : Option Opd} : rdOf E (.slcS x a b) = [] := id rfl
theorem rd_mkF {f : Go.Fn} {a b : List Opd} : rdOf E (.mkF f a b) = [] := id rfl
end
section
variable {P : Program} {E : Nat → AV} {H : AHeap} {K : AV → List Nat → Option (Nat × ABlk) → Prop}
def dalloc (H : AHeap) (ty es : Nat) (cells : List AV) (K : AV → List Nat → Option (Nat × ABlk) → Prop) : Prop := ∀ b, H b = none → K (.ptr b cells.length 0) [] (some (b, .row ty es cells))
theorem d_alloc {ty es : Nat} {cells : List AV} : exD P (.alloc ty es cells) E H K = dalloc H ty es cells K := id rfl
theorem dalloc_i {ty es : Nat} {cells : List AV} (h : ∀ b, H b = none → K (.ptr b cells.length 0) [] (some (b, .row ty es cells))) : dalloc H ty es cells K := h
def dboxW (H : AHeap) (ty es : Nat) (K : AV → List Nat → Option (Nat × ABlk) → Prop) : Option (List AV) → Prop
  | some l => dalloc H ty es l K
  | none => False
theorem d_box {ty es : Nat} {x : Opd} : exD P (.box ty es x) E H K = dboxW H ty es K (x.ev E).cells := by
  unfold exD dboxW; dsimp only; cases (x.ev E).cells <;> rfl
theorem dboxW_s {ty es : Nat} {l : List AV} : dboxW H ty es K (some l) = dalloc H ty es l K := id rfl
def dstP (n b L off : Nat) (K : AV → List Nat → Option (Nat × ABlk) → Prop) : Option (List AV) → Option ABlk → Prop
  | some l, some (.row ty es cells) => cells.length = L ∧ l.length = n ∧ off + n ≤ L ∧ K .bot [b] (some (b, .row ty es (splice cells off l)))
  | _, _ => False
def dst0 (H : AHeap) (n : Nat) (v : AV) (K : AV → List Nat → Option (Nat × ABlk) → Prop) : AV → Prop
  | .ptr b L off => dstP n b L off K v.cells (H b)
  | _ => False
theorem d_store {n : Nat} {x v : Opd} : exD P (.store n x v) E H K = dst0 H n (v.ev E) K (x.ev E) := by
  unfold exD dst0 dstP
  dsimp only
  generalize x.ev E = y
  cases y with
  | ptr b L off =>
    dsimp only
    generalize H b = z
    generalize (v.ev E).cells = cs
    cases z with
    | none => cases cs <;> rfl
    | some z => cases z <;> cases cs <;> rfl
  | _ => rfl
theorem dst0_p {n b L off : Nat} {v : AV} : dst0 H n v K (.ptr b L off) = dstP n b L off K v.cells (H b) := id rfl
theorem dstP_lit {n b L off ty es : Nat} {x : AV} {cells l : List AV} : dstP n b L off K (some l) (some (.row ty es (x :: cells))) = ((x :: cells).length = L ∧ l.length = n ∧ off + n ≤ L ∧ K .bot [b] (some (b, .row ty es (splice (x :: cells) off l)))) := id rfl
end

end Go.Proofs.Ytipbcjnniamcgaa.Fw
