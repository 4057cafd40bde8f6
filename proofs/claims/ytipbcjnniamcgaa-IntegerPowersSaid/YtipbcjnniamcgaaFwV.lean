/- The framework, part V: the steps as equations. -/
import Derived.Test.YtipbcjnniamcgaaFwU
namespace Go.Proofs.Ytipbcjnniamcgaa.Fw
set_option linter.unusedSimpArgs false
set_option linter.unusedVariables false
open Go

/-- What follows an operation. -/
def opK (P : Program) (r : List AOper) (s : St) (d : Option Nat) (K : St → Prop) (v : AV) (H : AHeap) : Prop := seqOps P r ⟨s.D, putE s.E d v, H⟩ K
def regK (kp : List Nat) (q : St → Prop) (s : St) : Prop := q (s.keep kp)
def pk (K : AV → AHeap → Prop) (H : AHeap) (r : AV) : Prop := K r H

section
variable {P : Program} {Q : Exit → St → Prop} {s : St} {K : St → Prop}
theorem W_skip : W P .skip Q s = Q .normal s := id rfl
theorem W_reg {l : List AOper} {kp : List Nat} : W P (.reg l kp) Q s = seqOps P l s (regK kp (Q .normal)) := id rfl
theorem W_seq {a b : ACode} : W P (.seq a b) Q s = W P a (thenA (W P b Q) Q) s := id rfl
def condW (P : Program) (a b : ACode) (Q : Exit → St → Prop) (s : St) : AV → Prop
  | .bool t => (t = true → W P a Q s) ∧ (t = false → W P b Q s)
  | _ => False
theorem W_cond {c : Opd} {a b : ACode} : W P (.cond c a b) Q s = condW P a b Q s (c.ev s.E.get) := by
  simp only [W]; cases c.ev s.E.get <;> rfl
theorem condW_t {a b : ACode} : condW P a b Q s (.bool true) = W P a Q s := by simp [condW]
theorem condW_f {a b : ACode} : condW P a b Q s (.bool false) = W P b Q s := by simp [condW]
theorem W_block {n : Nat} {c : ACode} : W P (.block n c) Q s = W P c (blockA n Q) s := id rfl
theorem W_exit {n : Nat} : W P (.exit n) Q s = Q (.exit n) s := id rfl
theorem W_ret : W P .ret Q s = Q .ret s := id rfl
theorem W_scope {c : ACode} : W P (.scope0 c) Q s = W P c (scopeA Q) s := id rfl
theorem setl_e {Q : Exit → St → Prop} {n : Nat} {s : St} : setl Q (.exit n) s = Settle (Q (.exit n)) s := id rfl
theorem setl_r {Q : Exit → St → Prop} {s : St} : setl Q .ret s = Q .ret s := id rfl
/-- A loop: its rounds are told apart by what is in x. -/
theorem W_loop {σ : Type} {c : ACode} (f : σ → St) (inv : σ → Prop) (m : σ → Nat) (x0 : σ) (h0 : Settle (fun s' => s' = f x0) s) (hi : inv x0) (h : ∀ x, inv x → W P c (thenA (Settle fun s' => ∃ x', m x' < m x ∧ inv x' ∧ s' = f x') (setl Q)) (f x)) : W P (.loop c) Q s := by
  refine ⟨fun n s' => ∃ x, m x = n ∧ inv x ∧ s' = f x, ⟨m x0, h0.mono fun s' e => ⟨x0, rfl, hi, e⟩⟩, ?_⟩
  rintro n s' ⟨x, rfl, hx, rfl⟩
  have := h x hx
  have e : (thenA (Settle fun s'' => ∃ n', n' < m x ∧ ∃ x, m x = n' ∧ inv x ∧ s'' = f x) (setl Q)) = thenA (Settle fun s' => ∃ x', m x' < m x ∧ inv x' ∧ s' = f x') (setl Q) := by
    funext e s'
    cases e <;> simp only [thenA]
    congr 1
    funext s''
    simp only [eq_iff_iff]
    exact ⟨fun ⟨_, h1, x', h2, h3, h4⟩ => ⟨x', h2 ▸ h1, h3, h4⟩, fun ⟨x', h1, h2, h3⟩ => ⟨_, h1, x', rfl, h2, h3⟩⟩
  rw [e]; exact this
theorem thenA_n {K : St → Prop} : thenA K Q .normal s = K s := id rfl
theorem thenA_nf {K : St → Prop} : thenA K Q .normal = K := id rfl
theorem thenA_e {K : St → Prop} {n : Nat} : thenA K Q (.exit n) s = Q (.exit n) s := id rfl
theorem thenA_r {K : St → Prop} : thenA K Q .ret s = Q .ret s := id rfl
theorem blockA_n {n : Nat} : blockA n Q .normal = Q .normal := id rfl
theorem blockA_r {n : Nat} : blockA n Q .ret s = Q .ret s := id rfl
theorem blockA_e {n : Nat} : blockA n Q (.exit n) s = Q .normal s := by simp [blockA]
theorem blockA_o {n m : Nat} (h : m ≠ n) : blockA n Q (.exit m) s = Q (.exit m) s := by simp [blockA, h]
theorem scopeA_n : scopeA Q .normal = Q .normal := id rfl
theorem scopeA_r : scopeA Q .ret s = Q .ret s := id rfl
theorem scopeA_e {n : Nat} : scopeA Q (.exit n) s = Q (.exit n) s := id rfl
theorem regK_eq {kp : List Nat} {D : List Nat} {E : Env} {H : AHeap} : regK kp K ⟨D, E, H⟩ = K ⟨D, E.keep kp, H⟩ := id rfl
theorem keep_nil {l : List Nat} : Env.keep [] l = [] := id rfl
theorem keep_cons {k : Nat} {v : AV} {r : Env} {l : List Nat} : Env.keep ((k, v) :: r) l = if l.contains k then (k, v) :: Env.keep r l else Env.keep r l := id rfl
theorem get_cons {k t : Nat} {v : AV} {r : Env} : Env.get ((k, v) :: r) t = if k = t then v else Env.get r t := id rfl
theorem set_nil {t : Nat} {x : AV} : Env.set [] t x = [(t, x)] := id rfl
theorem set_cons {k t : Nat} {v x : AV} {r : Env} : Env.set ((k, v) :: r) t x = if t < k then (t, x) :: (k, v) :: r else if k = t then (t, x) :: r else (k, v) :: Env.set r t x := id rfl
theorem so_nil : seqOps P [] s K = K s := id rfl
theorem so_cons {d : Option Nat} {o : AOp} {r : List AOper} : seqOps P (⟨d, none, o⟩ :: r) s K = effW P o s.E.get s.H (opK P r s d K) := id rfl
def grd (P : Program) (d : Option Nat) (o : AOp) (r : List AOper) (b : Bool) (s : St) (K : St → Prop) : AV → Prop
  | .bool b' => (b' = b → effW P o s.E.get s.H (opK P r s d K)) ∧ (b' ≠ b → opK P r s d K .bot s.H)
  | _ => False
theorem so_guard {d : Option Nat} {o : AOp} {r : List AOper} {t : Nat} {b : Bool} : seqOps P (⟨d, some (t, b), o⟩ :: r) s K = grd P d o r b s K (s.E.get t) := by
  simp only [seqOps]; cases s.E.get t <;> rfl
theorem grd_tt {d : Option Nat} {o : AOp} {r : List AOper} : grd P d o r true s K (.bool true) = effW P o s.E.get s.H (opK P r s d K) := by simp [grd]
theorem grd_ff {d : Option Nat} {o : AOp} {r : List AOper} : grd P d o r false s K (.bool false) = effW P o s.E.get s.H (opK P r s d K) := by simp [grd]
theorem grd_tf {d : Option Nat} {o : AOp} {r : List AOper} : grd P d o r true s K (.bool false) = opK P r s d K .bot s.H := by simp [grd]
theorem grd_ft {d : Option Nat} {o : AOp} {r : List AOper} : grd P d o r false s K (.bool true) = opK P r s d K .bot s.H := by simp [grd]
theorem opK_some {r : List AOper} {D : List Nat} {E : Env} {H' : AHeap} {d : Nat} {v : AV} {H : AHeap} : opK P r ⟨D, E, H'⟩ (some d) K v H = seqOps P r ⟨D, E.set d v, H⟩ K := id rfl
theorem opK_none {r : List AOper} {D : List Nat} {E : Env} {H' : AHeap} {v : AV} {H : AHeap} : opK P r ⟨D, E, H'⟩ none K v H = seqOps P r ⟨D, E, H⟩ K := id rfl
end
section
variable {P : Program} {E : Nat → AV} {H : AHeap} {K : AV → AHeap → Prop}
theorem pk_eq {v : AV} : pk K H v = K v H := id rfl
theorem e_mov {x : Opd} : effW P (.mov x) E H K = K (x.ev E) H := id rfl
def pickW (E : Nat → AV) (H : AHeap) (K : AV → AHeap → Prop) (a b : Opd) : AV → Prop
  | .bool t => (t = true → K (a.ev E) H) ∧ (t = false → K (b.ev E) H)
  | _ => False
theorem e_pick {c a b : Opd} : effW P (.pick c a b) E H K = pickW E H K a b (c.ev E) := by
  simp only [effW, pureW]; cases c.ev E <;> rfl
theorem pickW_t {a b : Opd} : pickW E H K a b (.bool true) = K (a.ev E) H := by simp [pickW]
theorem pickW_f {a b : Opd} : pickW E H K a b (.bool false) = K (b.ev E) H := by simp [pickW]
theorem e_bin {op : BinOp} {x y : Opd} : effW P (.bin op x y) E H K = binW op (x.ev E) (y.ev E) (pk K H) := id rfl
theorem e_binB {op : BinOp} {x y : Opd} : effW P (.binB op x y) E H K = binBW op (x.ev E) (y.ev E) (pk K H) := id rfl
theorem e_un {op : UnOp} {x : Opd} : effW P (.un op x) E H K = unW op (x.ev E) (pk K H) := id rfl
theorem e_nilS {g : Bool} {x : Opd} : effW P (.nilS g x) E H K = nilW g (x.ev E) (pk K H) := id rfl
theorem e_conv {k : IntKind} {x : Opd} : effW P (.conv k x) E H K = convW k (x.ev E) (pk K H) := id rfl
theorem e_ext {x : Opd} {i : Nat} : effW P (.ext x i) E H K = extW (x.ev E) i (pk K H) := id rfl
theorem e_fld {off : Nat} {n : Option Nat} {x : Opd} : effW P (.fld off n x) E H K = fldW off n (x.ev E) (pk K H) := id rfl
theorem e_build {z : List AV} {ps : List (Nat × Nat × Opd)} : effW P (.build z ps) E H K = buildW z (evP E ps) (pk K H) := id rfl
theorem e_load {n : Option Nat} {x : Opd} : effW P (.load n x) E H K = loadW H n (x.ev E) (pk K H) := id rfl
theorem e_fldA {off : Nat} {x : Opd} : effW P (.fldA off x) E H K = (live H (x.ev E) ∧ fldAW off (x.ev E) (pk K H)) := id rfl
theorem e_idxA {es : Nat} {x i : Opd} : effW P (.idxA es x i) E H K = (liveS H (x.ev E) ∧ idxAW es (x.ev E) (i.ev E) (pk K H)) := id rfl
theorem e_idxS {x i : Opd} : effW P (.idxS x i) E H K = idxSW (x.ev E) (i.ev E) (pk K H) := id rfl
theorem e_len {s : Bool} {x : Opd} : effW P (.len s x) E H K = lenW s (x.ev E) (pk K H) := id rfl
theorem e_slc {es : Nat} {x : Opd} {lo hi mx : Option Opd} : effW P (.slc es x lo hi mx) E H K = (liveE es H (x.ev E) ∧ slcW es (x.ev E) (evO E lo) (evO E hi) (evO E mx) (pk K H)) := id rfl
theorem e_slcS {x : Opd} {lo hi : Option Opd} : effW P (.slcS x lo hi) E H K = slcSW (x.ev E) (evO E lo) (evO E hi) (pk K H) := id rfl
theorem e_mkF {f : Fn} {a b : List Opd} : effW P (.mkF f a b) E H K = K (.fn f (evs E a) (evs E b)) H := id rfl
theorem e_gr {m : Bool} {x y : Opd} : effW P (.gr m x y) E H K = maxW m (x.ev E) (y.ev E) (pk K H) := id rfl
theorem e_bsl {z : List AV} {len es : Nat} {ps : List (Nat × Nat × Opd)} : effW P (.bsl z len es ps) E H K = bslW z len es (evP E ps) (pk K H) := id rfl
theorem e_call {f : Opd} {as : List Opd} : effW P (.call f as) E H K = callW P (f.ev E) (evs E as) H K := id rfl
theorem e_alloc {ty es : Nat} {cells : List AV} : effW P (.alloc ty es cells) E H K = allocW H ty es cells K := id rfl
def boxW (H : AHeap) (ty es : Nat) (K : AV → AHeap → Prop) : Option (List AV) → Prop
  | some l => allocW H ty es l K
  | none => False
theorem e_box {ty es : Nat} {x : Opd} : effW P (.box ty es x) E H K = boxW H ty es K (x.ev E).cells := by
  simp only [effW]; cases (x.ev E).cells <;> rfl
theorem boxW_s {ty es : Nat} {l : List AV} : boxW H ty es K (some l) = allocW H ty es l K := id rfl
theorem e_store {n : Nat} {x v : Opd} : effW P (.store n x v) E H K = storeW H n (x.ev E) (v.ev E) K := id rfl
theorem e_mks {ty es bytes : Nat} {z : List AV} {l c : Opd} : effW P (.mks ty es bytes z l c) E H K = mksW H ty es bytes z (l.ev E) (c.ev E) K := id rfl
theorem e_app {ty es bytes : Nat} {x y : Opd} : effW P (.app ty es bytes x y) E H K = appW H ty es bytes (x.ev E) (y.ev E) K := id rfl
theorem e_cpy {es : Nat} {x y : Opd} : effW P (.cpy es x y) E H K = cpyW H es (x.ev E) (y.ev E) K := id rfl
theorem ev_t {n : Nat} : (Opd.t n).ev E = E n := id rfl
theorem ev_k {v : AV} : (Opd.k v).ev E = v := id rfl
theorem evs_nil : evs E [] = [] := id rfl
theorem evs_cons {x : Opd} {l : List Opd} : evs E (x :: l) = x.ev E :: evs E l := id rfl
theorem evO_none : evO E none = none := id rfl
theorem evO_some {x : Opd} : evO E (some x) = some (x.ev E) := id rfl
theorem evP_nil : evP E [] = [] := id rfl
theorem evP_cons {a b : Nat} {x : Opd} {l : List (Nat × Nat × Opd)} : evP E ((a, b, x) :: l) = (a, b, x.ev E) :: evP E l := id rfl
end
/-! ### the steps themselves -/
section
variable {H : AHeap} {K : AV → Prop}
theorem len_LS {l : List Nat} {t : Bool} : lenW false (LS l t) K = (l.length < 2 ^ 63 → K (.int .i64 ((l.length : Nat) : Int))) := id rfl
theorem len_own {b L off n : Nat} {t : Bool} : lenW false (.own b L off n t) K = (n < 2 ^ 63 → K (.int .i64 ((n : Nat) : Int))) := id rfl
@[simp high] theorem len_LSk {l : List Nat} {t : Bool} (h : l.length < 2 ^ 63) : lenW false (LS l t) K = K (.int .i64 ((l.length : Nat) : Int)) := by rw [len_LS]; simp [h]
@[simp high] theorem len_ownk {b L off n : Nat} {t : Bool} (h : n < 2 ^ 63) : lenW false (.own b L off n t) K = K (.int .i64 ((n : Nat) : Int)) := by rw [len_own]; simp [h]
theorem slc_own3 {es b L off n : Nat} {t : Bool} {k k' k'' : IntKind} {i j m : Nat} (h : i ≤ j) (h1 : j ≤ m) (h2 : m ≤ n) : slcW es (.own b L off n t) (some (.int k (i : Int))) (some (.int k' (j : Int))) (some (.int k'' (m : Int))) K = K (.own b L (off + i * es) (j - i) (decide (j = m))) := by
  have e1 : ((j : Int) - (i : Int)).toNat = j - i := by omega
  have e3 : ((j : Int) = m) ↔ j = m := by omega
  simp [slcW, optI, e1, e3, h, h1, h2]
theorem slc_own3' {es b L off n : Nat} {t : Bool} {k' k'' : IntKind} {j m : Nat} (h1 : j ≤ m) (h2 : m ≤ n) : slcW es (.own b L off n t) none (some (.int k' (j : Int))) (some (.int k'' (m : Int))) K = K (.own b L off j (decide (j = m))) := by
  have e3 : ((j : Int) = m) ↔ j = m := by omega
  have e4 : (0 : Int) ≤ j := by omega
  simp [slcW, optI, e3, e4, h1, h2]
theorem slc_own2 {es b L off n : Nat} {t : Bool} {k k' : IntKind} {i j : Nat} (h : i ≤ j) (h1 : j ≤ n) : slcW es (.own b L off n t) (some (.int k (i : Int))) (some (.int k' (j : Int))) none K = K (.own b L (off + i * es) (j - i) (t && decide (j = n))) := by
  have e1 : ((j : Int) - (i : Int)).toNat = j - i := by omega
  have e3 : ((j : Int) = n) ↔ j = n := by omega
  simp [slcW, optI, e1, e3, h, h1]
theorem slc_own2' {es b L off n : Nat} {t : Bool} {k' : IntKind} {j : Nat} (h1 : j ≤ n) : slcW es (.own b L off n t) none (some (.int k' (j : Int))) none K = K (.own b L off j (t && decide (j = n))) := by
  have e3 : ((j : Int) = n) ↔ j = n := by omega
  have e4 : (0 : Int) ≤ j := by omega
  simp [slcW, optI, e3, e4, h1]
theorem slc_LS2' {l : List Nat} {t : Bool} {k' : IntKind} {b : Nat} (h1 : b ≤ l.length) : slcW 1 (LS l t) none (some (.int k' (b : Int))) none K = K (LS (l.take b) (t && decide (b = l.length))) := by
  have e2 : min b l.length = b := by omega
  have e3 : ((b : Int) = l.length) ↔ b = l.length := by omega
  have e4 : (0 : Int) ≤ b := by omega
  simp [slcW, LS, optI, e2, e3, e4, h1, U_take]
theorem slc_LS2 {l : List Nat} {t : Bool} {k k' : IntKind} {a b : Nat} (h : a ≤ b) (h1 : b ≤ l.length) : slcW 1 (LS l t) (some (.int k (a : Int))) (some (.int k' (b : Int))) none K = K (LS ((l.drop a).take (b - a)) (t && decide (b = l.length))) := by
  have e1 : ((b : Int) - (a : Int)).toNat = b - a := by omega
  have e2 : min (b - a) (l.length - a) = b - a := by omega
  have e3 : ((b : Int) = l.length) ↔ b = l.length := by omega
  simp [slcW, LS, optI, e1, e2, e3, h, h1, U_take, U_drop]
theorem slc_LS1 {l : List Nat} {t : Bool} {k : IntKind} {a : Nat} (h : a ≤ l.length) : slcW 1 (LS l t) (some (.int k (a : Int))) none none K = K (LS (l.drop a) t) := by
  have e1 : ((l.length : Int) - (a : Int)).toNat = l.length - a := by omega
  simp [slcW, LS, optI, e1, h, U_drop, List.take_of_length_le]
theorem liveS_LS {l : List Nat} {t : Bool} : liveS H (LS l t) = True := id rfl
theorem liveE_LS {es : Nat} {l : List Nat} {t : Bool} : liveE es H (LS l t) = True := id rfl
theorem idx_LS {l : List Nat} {t : Bool} {k : IntKind} {i : Nat} (h : i < l.length) : idxAW 1 (LS l t) (.int k (i : Int)) K = K (.cptr ((U l).drop i)) := by
  simp [idxAW, LS, h]
theorem load_LS {l : List Nat} {i : Nat} (h : i < l.length) : loadW H none (.cptr ((U l).drop i)) K = K (.int .u32 ((l.getD i 0 : Nat) : Int)) := by
  simp only [loadW, cellsAt, U_drop_cons l i h, eq_iff_iff]
  simp
theorem slc_LS3 {l : List Nat} {t : Bool} {k k' k'' : IntKind} {a b c : Nat} (h : a ≤ b) (h1 : b ≤ c) (h2 : c ≤ l.length) : slcW 1 (LS l t) (some (.int k (a : Int))) (some (.int k' (b : Int))) (some (.int k'' (c : Int))) K = K (LS ((l.drop a).take (b - a)) (decide (b = c))) := by
  have e1 : ((b : Int) - (a : Int)).toNat = b - a := by omega
  have e2 : min (b - a) (l.length - a) = b - a := by omega
  have e3 : ((b : Int) = c) ↔ b = c := by omega
  simp [slcW, LS, optI, e1, e2, e3, h, h1, h2, U_take, U_drop]
theorem slc_LS3' {l : List Nat} {t : Bool} {k' k'' : IntKind} {b c : Nat} (h1 : b ≤ c) (h2 : c ≤ l.length) : slcW 1 (LS l t) none (some (.int k' (b : Int))) (some (.int k'' (c : Int))) K = K (LS (l.take b) (decide (b = c))) := by
  have e1 : ((b : Int) - 0).toNat = b := by omega
  have e2 : min b l.length = b := by omega
  have e3 : ((b : Int) = c) ↔ b = c := by omega
  have e4 : (0 : Int) ≤ b := by omega
  simp [slcW, LS, optI, e2, e3, e4, h1, h2, U_take]
end

/-! ### returning -/
section
variable {Q : AV → AHeap → Prop} {E : Nat → AV} {H : AHeap}
def consK (K : List AV → Prop) (v : AV) (l : List AV) : Prop := K (v :: l)
def cellK (E : Nat → AV) (H : AHeap) (r : List RV) (K : List AV → Prop) (v : AV) : Prop := resA E H r (consK K v)
theorem retN_r {rs : List RV} {E : Env} : retN rs Q .ret ⟨[], E, H⟩ = resA E.get H rs (resK Q H) := by simp [retN]
theorem retN_n {rs : List RV} {E : Env} : retN rs Q .normal ⟨[], E, H⟩ = resA E.get H rs (resK Q H) := by simp [retN]
theorem resA_nil {K : List AV → Prop} : resA E H [] K = K [] := id rfl
theorem resA_t {n : Nat} {r : List RV} {K : List AV → Prop} : resA E H (.t n :: r) K = resA E H r (consK K (E n)) := id rfl
theorem resA_cell {n : Nat} {ag : Option Nat} {r : List RV} {K : List AV → Prop} : resA E H (.cell n ag :: r) K = loadW H ag (E n) (cellK E H r K) := id rfl
theorem consK_eq {K : List AV → Prop} {v : AV} {l : List AV} : consK K v l = K (v :: l) := id rfl
theorem cellK_eq {r : List RV} {K : List AV → Prop} {v : AV} : cellK E H r K v = resA E H r (consK K v) := id rfl
theorem resK_1 {v : AV} : resK Q H [v] = SetR Q v H := id rfl
theorem resK_2 {v v' : AV} {l : List AV} : resK Q H (v :: v' :: l) = SetR Q (.tup (v :: v' :: l)) H := id rfl
theorem resK_0 : resK Q H [] = SetR Q (.tup []) H := id rfl
end
/-- Blocks that are not one (told so that arithmetic does not look at it). -/
def Ap (a b : Nat) : Prop := a ≠ b
theorem Ap.symm {a b : Nat} (h : Ap a b) : Ap b a := Ne.symm h
/-! ### memory -/
section
variable {H : AHeap} {K : AV → Prop} {K2 : AV → AHeap → Prop}
def ldC (n : Option Nat) (K : AV → Prop) (l : List AV) : Prop :=
  match n with
  | some _ => K (.agg l)
  | none => match l with
    | [y] => K y
    | _ => False
theorem ldC_s {n : Nat} {l : List AV} : ldC (some n) K l = K (.agg l) := id rfl
theorem ldC_n {y : AV} : ldC none K [y] = K y := id rfl
def ldP (n : Option Nat) (L off : Nat) (K : AV → Prop) : Option ABlk → Prop
  | some (.row _ _ cells) => cells.length = L ∧ off + n.getD 1 ≤ L ∧ ldC n K ((cells.drop off).take (n.getD 1))
  | _ => False
theorem loadW_ptr {n : Option Nat} {b L off : Nat} : loadW H n (.ptr b L off) K = ldP n L off K (H b) := by
  simp only [loadW, cellsAt, ldP]
  cases n <;> cases H b with
  | none => rfl
  | some x => cases x <;> rfl
theorem ldP_lit {n : Option Nat} {L off : Nat} {ty es : Nat} {x : AV} {cells : List AV} : ldP n L off K (some (.row ty es (x :: cells))) = ((x :: cells).length = L ∧ off + n.getD 1 ≤ L ∧ ldC n K (((x :: cells).drop off).take (n.getD 1))) := id rfl
theorem ldP_U {L off : Nat} {ty es : Nat} {l : List Nat} (hL : l.length = L) (h : off < L) : ldP none L off K (some (.row ty es (U l))) = K (.int .u32 ((l.getD off 0 : Nat) : Int)) := by
  subst hL
  have : off + 1 ≤ l.length := h
  simp [ldP, this, U_drop_cons l off h, ldC]
def liveP (L : Nat) : Option ABlk → Prop
  | some y => y.len = L
  | none => False
theorem live_ptr {b L off : Nat} : live H (.ptr b L off) = liveP L (H b) := by
  simp only [live, liveP]; cases H b <;> rfl
theorem liveP_row {L ty es : Nat} {cells : List AV} : liveP L (some (.row ty es cells)) = (cells.length = L) := id rfl
theorem liveP_rowk {L ty es : Nat} {cells : List AV} (h : cells.length = L) : liveP L (some (.row ty es cells)) = True := by rw [liveP_row]; simp [h]
theorem live_cptr {l : List AV} : live H (.cptr l) = True := id rfl
def liveSP (L : Nat) : Option ABlk → Prop
  | some (.row _ _ cells) => cells.length = L
  | _ => False
theorem liveS_own {b L off n : Nat} {t : Bool} : liveS H (.own b L off n t) = liveSP L (H b) := by
  simp only [liveS, liveSP]
  cases H b with
  | none => rfl
  | some x => cases x <;> rfl
theorem liveSP_row {L ty es : Nat} {cells : List AV} : liveSP L (some (.row ty es cells)) = (cells.length = L) := id rfl
theorem liveSP_rowk {L ty es : Nat} {cells : List AV} (h : cells.length = L) : liveSP L (some (.row ty es cells)) = True := by simp [liveSP, h]
def liveEP (es L : Nat) : Option ABlk → Prop
  | some (.row _ es' cells) => cells.length = L ∧ es' = es
  | _ => False
theorem liveE_own {es b L off n : Nat} {t : Bool} : liveE es H (.own b L off n t) = liveEP es L (H b) := by
  simp only [liveE, liveEP]
  cases H b with
  | none => rfl
  | some x => cases x <;> rfl
theorem liveEP_row {es es' L ty : Nat} {cells : List AV} : liveEP es L (some (.row ty es' cells)) = (cells.length = L ∧ es' = es) := id rfl
theorem liveEP_rowk {es L ty : Nat} {cells : List AV} (h : cells.length = L) : liveEP es L (some (.row ty es cells)) = True := by simp [liveEP, h]
theorem liveS_seq {n : Nat} {l : List AV} {t : Bool} : liveS H (.seq n l t) = True := id rfl
theorem liveE_seq {es n : Nat} {l : List AV} {t : Bool} : liveE es H (.seq n l t) = True := id rfl
theorem fldA_ptr {off b L o : Nat} : fldAW off (.ptr b L o) K = K (.ptr b L (o + off)) := id rfl
theorem fldA_cptr {off : Nat} {l : List AV} : fldAW off (.cptr l) K = K (.cptr (l.drop off)) := id rfl
theorem idx_own {es b L off n : Nat} {t : Bool} {k : IntKind} {i : Nat} (h : i < n) : idxAW es (.own b L off n t) (.int k (i : Int)) K = K (.ptr b L (off + i * es)) := by
  simp [idxAW, h]
def stP (H : AHeap) (n b L off : Nat) (K : AV → AHeap → Prop) : Option (List AV) → Option ABlk → Prop
  | some l, some (.row ty es cells) => cells.length = L ∧ l.length = n ∧ off + n ≤ L ∧ K .bot (H.upd b (some (.row ty es (splice cells off l))))
  | _, _ => False
theorem store_ptr' {n b L off : Nat} {y : AV} : storeW H n (.ptr b L off) y K2 = stP H n b L off K2 y.cells (H b) := by
  simp only [storeW, stP]
  cases H b with
  | none => cases y.cells <;> rfl
  | some x => cases x <;> cases y.cells <;> rfl
theorem stP_lit {n b L off ty es : Nat} {x : AV} {cells l : List AV} : stP H n b L off K2 (some l) (some (.row ty es (x :: cells))) = ((x :: cells).length = L ∧ l.length = n ∧ off + n ≤ L ∧ K2 .bot (H.upd b (some (.row ty es (splice (x :: cells) off l))))) := id rfl
theorem stP_U {b L off ty es x : Nat} {l : List Nat} (hL : l.length = L) (h : off < L) : stP H 1 b L off K2 (some [.int .u32 (x : Int)]) (some (.row ty es (U l))) = K2 .bot (H.upd b (some (.row ty es (U (l.set off x))))) := by
  subst hL
  have : off + 1 ≤ l.length := h
  simp [stP, this, splice_one l off x h]
theorem cells_int {k : IntKind} {n : Int} : (AV.int k n).cells = some [.int k n] := id rfl
theorem cells_bool {b : Bool} : (AV.bool b).cells = some [.bool b] := id rfl
theorem cells_agg {l : List AV} (h : l.all AV.cell = true) : (AV.agg l).cells = some l := by simp [AV.cells, h]
theorem cells_a2 {b : Bool} {l : List Nat} {t : Bool} : (AV.agg [.bool b, LS l t]).cells = some [.bool b, LS l t] := rfl
theorem cells_a2' {b : Bool} {n : Nat} {l : List AV} {t : Bool} : (AV.agg [.bool b, .seq n l t]).cells = some [.bool b, .seq n l t] := rfl
theorem cells_LS {l : List Nat} {t : Bool} : (LS l t).cells = some [LS l t] := id rfl
theorem cells_seq {n : Nat} {l : List AV} {t : Bool} : (AV.seq n l t).cells = some [.seq n l t] := id rfl
theorem cells_own {b L off n : Nat} {t : Bool} : (AV.own b L off n t).cells = some [.own b L off n t] := id rfl
theorem cell_int {k : IntKind} {n : Int} : (AV.int k n).cell = true := id rfl
theorem cell_bool {b : Bool} : (AV.bool b).cell = true := id rfl
theorem cell_LS {l : List Nat} {t : Bool} : (LS l t).cell = true := id rfl
theorem cell_seq {n : Nat} {l : List AV} {t : Bool} : (AV.seq n l t).cell = true := id rfl
theorem cell_own {b L off n : Nat} {t : Bool} : (AV.own b L off n t).cell = true := id rfl
theorem splice_lit {cells l : List AV} {off : Nat} : splice cells off l = cells.take off ++ l ++ cells.drop (off + l.length) := id rfl
theorem binB_eql {a b : Bool} : binBW .eql (.bool a) (.bool b) K = K (.bool (a == b)) := id rfl
theorem binB_neq {a b : Bool} : binBW .neq (.bool a) (.bool b) K = K (.bool (!(a == b))) := id rfl
theorem un_not {b : Bool} : unW .not (.bool b) K = K (.bool (!b)) := id rfl
theorem un_neg {k : IntKind} {n : Int} : unW .neg (.int k n) K = K (.int k (k.wrap (0 - n))) := id rfl
theorem ext_0 {x : AV} {l : List AV} : extW (.tup (x :: l)) 0 K = K x := id rfl
theorem ext_1 {x y : AV} {l : List AV} : extW (.tup (x :: y :: l)) 1 K = K y := id rfl
theorem ext_2 {x y z : AV} {l : List AV} : extW (.tup (x :: y :: z :: l)) 2 K = K z := id rfl
theorem fld_0 {x : AV} {l : List AV} : fldW 0 none (.agg (x :: l)) K = K x := id rfl
theorem fld_1 {x y : AV} {l : List AV} : fldW 1 none (.agg (x :: y :: l)) K = K y := id rfl
theorem fld_2 {x y z : AV} {l : List AV} : fldW 2 none (.agg (x :: y :: z :: l)) K = K z := id rfl
theorem fld_s {off n : Nat} {l : List AV} : fldW off (some n) (.agg l) K = (off + n ≤ l.length ∧ K (.agg ((l.drop off).take n))) := id rfl
def buK (K : AV → Prop) : Option (List AV) → Prop
  | some l => K (.agg l)
  | none => False
theorem build_eq {z : List AV} {ps : List (Nat × Nat × AV)} : buildW z ps K = buK K (fillA z ps) := by
  simp only [buildW, buK]; cases fillA z ps <;> rfl
theorem buK_s {l : List AV} : buK K (some l) = K (.agg l) := id rfl
def bsK (n : Nat) (K : AV → Prop) : Option (List AV) → Prop
  | some l => K (.seq n l true)
  | none => False
theorem bsl_eq {z : List AV} {n es : Nat} {ps : List (Nat × Nat × AV)} : bslW z n es ps K = bsK n K (fillA (repA z (n * es)) ps) := by
  simp only [bslW, bsK]; cases fillA (repA z (n * es)) ps <;> rfl
theorem bsK_s {n : Nat} {l : List AV} : bsK n K (some l) = K (.seq n l true) := id rfl
theorem fill_nil {cells : List AV} : fillA cells [] = some cells := id rfl
def fillN (cells : List AV) (off size : Nat) (r : List (Nat × Nat × AV)) : Option (List AV) → Option (List AV)
  | some l => if l.length = size ∧ off + l.length ≤ cells.length then fillA (splice cells off l) r else none
  | none => none
theorem fill_cons {cells : List AV} {off size : Nat} {x : AV} {r : List (Nat × Nat × AV)} : fillA cells ((off, size, x) :: r) = fillN cells off size r x.cells := by
  simp only [fillA, fillN]; cases x.cells <;> rfl
theorem fillN_s {cells l : List AV} {off size : Nat} {r : List (Nat × Nat × AV)} (h : l.length = size) (h' : off + l.length ≤ cells.length) : fillN cells off size r (some l) = fillA (splice cells off l) r := by
  simp only [fillN, if_pos (And.intro h h')]
theorem rep1 {z : AV} : repA [z] 1 = [z] := by rw [repA_one]; rfl
theorem rep2 {z : AV} : repA [z] 2 = [z, z] := by rw [repA_one]; rfl
theorem rep3 {z : AV} : repA [z] 3 = [z, z, z] := by rw [repA_one]; rfl
theorem rep4 {z : AV} : repA [z] 4 = [z, z, z, z] := by rw [repA_one]; rfl
def newU (H : AHeap) (ty n : Nat) (K : AV → AHeap → Prop) : Prop := ∀ b, H b = none → K (.own b n 0 n true) (H.upd b (some (.row ty 1 (U (List.replicate n 0)))))
theorem newU_i {ty n : Nat} (h : ∀ b, H b = none → K2 (.own b n 0 n true) (H.upd b (some (.row ty 1 (U (List.replicate n 0)))))) : newU H ty n K2 := h
theorem alloc_i {ty es : Nat} {cells : List AV} (h : ∀ b, H b = none → K2 (.ptr b cells.length 0) (H.upd b (some (.row ty es cells)))) : allocW H ty es cells K2 := h
theorem mks_U {ty n : Nat} (h : n ≤ 70368744177664) : mksW H ty 1 4 [.int .u32 ((0 : Nat) : Int)] (.int .i64 (n : Int)) (.int .i64 (n : Int)) K2 = newU H ty n K2 := by
  have h1 : (4 : Int) * n ≤ 281474976710656 := by omega
  have h2 : (n : Int) < 9223372036854775808 := by omega
  simp [mksW, newU, h1, h2, repA_one, U_rep]
theorem upd_otherA {b i : Nat} {x : Option ABlk} (h : Ap i b) : (H.upd b x) i = H i := upd_other H x h
theorem upd_over {b b' : Nat} {x y z : Option ABlk} (h : Ap b' b) : ((H.upd b x).upd b' y).upd b z = (H.upd b z).upd b' y := by
  rw [upd_comm _ _ _ h, upd_upd]
theorem upd_over2 {b b' b'' : Nat} {x y y' z : Option ABlk} (h : Ap b' b) (h' : Ap b'' b) : (((H.upd b x).upd b' y).upd b'' y').upd b z = ((H.upd b z).upd b' y).upd b'' y' := by
  rw [upd_comm _ _ _ h', upd_over h]
theorem upd_over3 {b b' b'' b3 : Nat} {x y y' y3 z : Option ABlk} (h : Ap b' b) (h' : Ap b'' b) (h3 : Ap b3 b) : ((((H.upd b x).upd b' y).upd b'' y').upd b3 y3).upd b z = (((H.upd b z).upd b' y).upd b'' y').upd b3 y3 := by
  rw [upd_comm _ _ _ h3, upd_over2 h h']
theorem upd_over4 {b b' b'' b3 b4 : Nat} {x y y' y3 y4 z : Option ABlk} (h : Ap b' b) (h' : Ap b'' b) (h3 : Ap b3 b) (h4 : Ap b4 b) : (((((H.upd b x).upd b' y).upd b'' y').upd b3 y3).upd b4 y4).upd b z = ((((H.upd b z).upd b' y).upd b'' y').upd b3 y3).upd b4 y4 := by
  rw [upd_comm _ _ _ h4, upd_over3 h h' h3]
theorem upd_over5 {b b' b'' b3 b4 b5 : Nat} {x y y' y3 y4 y5 z : Option ABlk} (h : Ap b' b) (h' : Ap b'' b) (h3 : Ap b3 b) (h4 : Ap b4 b) (h5 : Ap b5 b) : ((((((H.upd b x).upd b' y).upd b'' y').upd b3 y3).upd b4 y4).upd b5 y5).upd b z = (((((H.upd b z).upd b' y).upd b'' y').upd b3 y3).upd b4 y4).upd b5 y5 := by
  rw [upd_comm _ _ _ h5, upd_over4 h h' h3 h4]
theorem upd_none {b b' : Nat} {x : ABlk} : (H.upd b (some x)) b' = none ↔ Ap b' b ∧ H b' = none := by
  unfold AHeap.upd Ap
  by_cases e : b' = b
  · simp [e]
  · simp [e]
end
end Go.Proofs.Ytipbcjnniamcgaa.Fw
