/- The framework, part F: lengths, pieces, built values. -/
import Derived.Test.YtipbcjnniamcgaaFwE
namespace Go.Proofs.Ytipbcjnniamcgaa.Fw
set_option linter.unusedSimpArgs false
set_option linter.unusedVariables false
open Go

/-! ### len -/
def lenW (s : Bool) (x : AV) (K : AV → Prop) : Prop :=
  match s, x with
  | false, .seq n _ _ => n < 2 ^ 63 → K (.int .i64 n)
  | false, .own _ _ _ n _ => n < 2 ^ 63 → K (.int .i64 n)
  | true, .str s => K (.int .i64 s.size)
  | _, _ => False

theorem lenW_slice {P : Program} {c : Ctx} {t e ty : TypeId} (hu : P.underlying t = some (.slice e)) {x : AV} {v : Value} {K : AV → Prop} (h : lenW false x K) (he : Enc c x v) : ∃ r v', (Builtin.len_ #[t] ty #[v]).run P c.w = .ok v' c.w ∧ Enc c r v' ∧ K r := by
  unfold lenW at h
  split at h
  · rename_i hs
    cases he with
    | seq _ _ _ base cap cv hlen hcap hmax => exact ⟨_, _, by simp [Builtin.len_, run_underlying hu]; rfl, .int .i64 _, h (by omega)⟩
  · cases he with
    | own _ _ _ _ _ _ hs' =>
      obtain ⟨p, r, rfl, hn⟩ := hs'
      exact ⟨_, _, by simp [Builtin.len_, run_underlying hu]; rfl, .int .i64 _, h hn⟩
  · rename_i hs; cases hs
  · exact h.elim
theorem lenW_str {P : Program} {c : Ctx} {t ty : TypeId} (hu : P.underlying t = some .string) {x : AV} {v : Value} {K : AV → Prop} (h : lenW true x K) (he : Enc c x v) : ∃ r v', (Builtin.len_ #[t] ty #[v]).run P c.w = .ok v' c.w ∧ Enc c r v' ∧ K r := by
  unfold lenW at h
  split at h
  · rename_i hs; cases hs
  · rename_i hs; cases hs
  · cases he
    exact ⟨_, _, by simp [Builtin.len_, run_underlying hu]; rfl, .int .i64 _, h⟩
  · exact h.elim

/-! ### pieces of slices -/
def optI (x : Option AV) (d : Int) : Option Int :=
  match x with
  | none => some d
  | some (.int _ i) => some i
  | _ => none
/-- The end of a piece's room: what is told, or (nothing being told) the whole. -/
def slcW (es : Nat) (x : AV) (lo hi mx : Option AV) (K : AV → Prop) : Prop :=
  match x with
  | .seq n cells ti => match optI lo 0, optI hi n, mx with
    | some l, some h, none => (0 ≤ l ∧ l ≤ h ∧ h ≤ n) ∧ cells.length = n * es ∧ K (.seq (h - l).toNat ((cells.drop (l.toNat * es)).take ((h - l).toNat * es)) (ti && decide (h = n)))
    | some l, some h, some (.int _ m) => hi.isSome = true ∧ (0 ≤ l ∧ l ≤ h ∧ h ≤ m ∧ m ≤ n) ∧ cells.length = n * es ∧ K (.seq (h - l).toNat ((cells.drop (l.toNat * es)).take ((h - l).toNat * es)) (decide (h = m)))
    | _, _, _ => False
  | .own b L off n ti => match optI lo 0, optI hi n, mx with
    | some l, some h, none => (0 ≤ l ∧ l ≤ h ∧ h ≤ n) ∧ K (.own b L (off + l.toNat * es) (h - l).toNat (ti && decide (h = n)))
    | some l, some h, some (.int _ m) => hi.isSome = true ∧ (0 ≤ l ∧ l ≤ h ∧ h ≤ m ∧ m ≤ n) ∧ K (.own b L (off + l.toNat * es) (h - l).toNat (decide (h = m)))
    | _, _, _ => False
  | _ => False

/-- An owned row that is still followed, its elements' size being known. -/
def liveE (es : Nat) (H : AHeap) (x : AV) : Prop :=
  match x with
  | .own b L _ _ _ => match H b with
    | some (.row _ es' cells) => cells.length = L ∧ es' = es
    | _ => False
  | _ => True

/-- What is told of a bound. -/
def EncO (c : Ctx) : Option AV → Option Value → Prop
  | none, none => True
  | some x, some v => Enc c x v
  | _, _ => False

theorem run_sliceBound {P : Program} {w : World} {k : IntKind} {i : Int} {y : Nat} {code : BoundsCode} (h0 : 0 ≤ i) (h1 : i ≤ y) : (Instr.sliceBound (.int k i) y code).run P w = .ok i.toNat w := by
  simp [Instr.sliceBound, asIntOf, h0, h1]

theorem run_sliceBounds {P : Program} {c : Ctx} {n cap : Nat} {lo hi mx : Option AV} {vl vh vm : Option Value} (hl : EncO c lo vl) (hh : EncO c hi vh) (hm : EncO c mx vm) {l h m : Int} (el : optI lo 0 = some l) (eh : optI hi n = some h)
    (em : optI mx cap = some m) (hmh : mx.isSome = true → hi.isSome = true) (hb : 0 ≤ l ∧ l ≤ h ∧ h ≤ m ∧ m ≤ cap) : (Instr.sliceBounds true n cap vl vh vm).run P c.w = .ok (l.toNat, h.toNat, m.toNat) c.w := by
  have bd : ∀ {x : Option AV} {v : Option Value} {d i : Int}, EncO c x v → optI x d = some i → (x = none ∧ v = none ∧ i = d) ∨ ∃ k, x = some (.int k i) ∧ v = some (.int k i) := by
    intro x v d i he ho
    match x, v, he with
    | none, none, _ => injection ho with ho; exact .inl ⟨rfl, rfl, ho.symm⟩
    | some y, some v, he =>
      cases y with
      | int k j =>
        injection ho with ho
        subst ho
        cases he
        exact .inr ⟨k, rfl, rfl⟩
      | _ => cases ho
  obtain ⟨h0, h1, h2, h3⟩ := hb
  unfold Instr.sliceBounds
  rcases bd hm em with ⟨rfl, rfl, rfl⟩ | ⟨km, rfl, rfl⟩
  · rcases bd hh eh with ⟨rfl, rfl, rfl⟩ | ⟨kh, rfl, rfl⟩ <;> rcases bd hl el with ⟨rfl, rfl, rfl⟩ | ⟨kl, rfl, rfl⟩
    · simp
    · simp [run_sliceBound h0 h1]
    · simp [run_sliceBound (by omega) h2]
    · have := run_sliceBound (P := P) (w := c.w) (k := kl) (y := h.toNat) (code := .sliceB) h0 (by omega)
      simp [run_sliceBound (by omega) h2, this]
  · rcases bd hh eh with ⟨rfl, rfl, rfl⟩ | ⟨kh, rfl, rfl⟩
    · exact absurd (hmh rfl) (by simp)
    · have a1 := run_sliceBound (P := P) (w := c.w) (k := km) (y := cap) (code := .slice3Acap) (by omega) h3
      have a2 := run_sliceBound (P := P) (w := c.w) (k := kh) (y := m.toNat) (code := .slice3B) (by omega) (by omega : h ≤ (m.toNat : Int))
      rcases bd hl el with ⟨rfl, rfl, rfl⟩ | ⟨kl, rfl, rfl⟩
      · simp [a1, a2]
      · have a3 := run_sliceBound (P := P) (w := c.w) (k := kl) (y := h.toNat) (code := .slice3C) h0 (by omega)
        simp [a1, a2, a3]

theorem enc_piece {c : Ctx} {n : Nat} {cells : List AV} {ti ti' : Bool} {base : Option Addr} {cap es : Nat} (he : Enc c (.seq n cells ti) (.slice base n cap)) (hce : cells.length = n * es) {l h m : Nat} (h1 : l ≤ h) (h2 : h ≤ n) (h3 : h ≤ m) (h4 : m ≤ cap)
    (ht : ti' = true → m = h) : Enc c (.seq (h - l) ((cells.drop (l * es)).take ((h - l) * es)) ti') (.slice (if m = l then base else base.map (·.add (l * es))) (h - l) (m - l)) := by
  cases he with
  | seq _ _ _ _ _ cv hlen hcap hmax htt hb hn hc =>
    have hlen' : ((cells.drop (l * es)).take ((h - l) * es)).length ≤ (h - l) * es := by simp; omega
    have hidx : ∀ i, i < ((cells.drop (l * es)).take ((h - l) * es)).length → l * es + i < cells.length := by
      intro i hi; simp at hi; omega
    refine .seq _ _ _ _ _ (fun i => cv (l * es + i)) (fun e => by rw [e]; simp) (by omega) (by omega) (fun e => by have := ht e; omega) ?_ ?_ ?_
    · intro hpos
      have hlt : l < h := by
        rcases Nat.lt_or_ge l h with h | hge
        · exact h
        · have : h - l = 0 := by omega
          rw [this] at hpos; simp at hpos
      obtain ⟨k, off, e1, hm, hk, hcell⟩ := hb (by have := hidx 0 hpos; omega)
      subst e1
      refine ⟨k, off + l * es, ?_, hm, hk, fun i hi => ?_⟩
      · rw [if_neg (by omega)]; simp [add_off]
      · have := hcell (l * es + i) (hidx i hi)
        rw [show off + l * es + i = off + (l * es + i) by omega]; exact this
    · rcases Nat.eq_zero_or_pos (h - l) with e | e
      · exact .inl e
      · right
        rw [if_neg (by omega)]
        have : base ≠ none := hn.resolve_left (by omega)
        cases base with
        | none => exact absurd rfl this
        | some a => simp
    · intro i hi
      have := hc (l * es + i) (hidx i hi)
      simpa using this

theorem slcW_sound {P : Program} {c : Ctx} {t : TypeId} {es : Nat} (ht : sliceEs P t = some es) {x : AV} {v : Value} {lo hi mx : Option AV} {vl vh vm : Option Value} {K : AV → Prop} (h : liveE es c.H x ∧ slcW es x lo hi mx K) (he : Enc c x v)
    (hl : EncO c lo vl) (hh : EncO c hi vh) (hm : EncO c mx vm) : ∃ r v', (Instr.sliceAt t v vl vh vm).run P c.w = .ok v' c.w ∧ Enc c r v' ∧ K r := by
  obtain ⟨hlv, h⟩ := h
  obtain ⟨e, inf, hu, hinf, hes, hes0⟩ := sliceEs_spec ht
  have hrun : ∀ {base : Option Addr} {n cap : Nat} {l h m : Int}, optI lo 0 = some l → optI hi n = some h → optI mx cap = some m → (mx.isSome = true → hi.isSome = true) → (0 ≤ l ∧ l ≤ h ∧ h ≤ m ∧ m ≤ cap) →
      (Instr.sliceAt t (.slice base n cap) vl vh vm).run P c.w = .ok (.slice (if m.toNat = l.toNat then base else base.map (·.add (l.toNat * es))) (h.toNat - l.toNat) (m.toNat - l.toNat)) c.w := by
    intro base n cap l h m el eh em hmh hb
    simp only [Instr.sliceAt, Sem.run_bind, run_underlying hu, Result.andThen_ok, Instr.slice, run_sliceBounds hl hh hm el eh em hmh hb, run_sizeOf hinf, hes, Sem.run_pure]
  have main : ∀ {n : Nat} {l h m : Int} {ti' : Bool} {cap : Nat} {base : Option Addr} {cells : List AV} {ti : Bool}, Enc c (.seq n cells ti) (.slice base n cap) → optI lo 0 = some l → optI hi n = some h → optI mx cap = some m → (mx.isSome = true → hi.isSome = true) →
      (0 ≤ l ∧ l ≤ h ∧ h ≤ m ∧ m ≤ cap) → h ≤ n → cells.length = n * es → (ti' = true → m = h) → K (.seq (h - l).toNat ((cells.drop (l.toNat * es)).take ((h - l).toNat * es)) ti') →
      ∃ r v', (Instr.sliceAt t (.slice base n cap) vl vh vm).run P c.w = .ok v' c.w ∧ Enc c r v' ∧ K r := by
    intro n l h m ti' cap base cells ti he el eh em hmh hb hn hce ht' hK
    refine ⟨_, _, hrun el eh em hmh hb, enc_piece (ti' := ti') he hce (by omega) (by omega) (by omega) (by omega) (fun e => by have := ht' e; omega), ?_⟩
    rw [show h.toNat - l.toNat = (h - l).toNat by omega]; exact hK
  have mainO : ∀ {b L off n : Nat} {l h m : Int} {ti ti' : Bool} {cap : Nat} {base : Option Addr}, Enc c (.own b L off n ti) (.slice base n cap) → liveE es c.H (.own b L off n ti) → optI lo 0 = some l → optI hi n = some h → optI mx cap = some m → (mx.isSome = true → hi.isSome = true) →
      (0 ≤ l ∧ l ≤ h ∧ h ≤ m ∧ m ≤ cap) → h ≤ n → (ti' = true → m = h) → K (.own b L (off + l.toNat * es) (h - l).toNat ti') →
      ∃ r v', (Instr.sliceAt t (.slice base n cap) vl vh vm).run P c.w = .ok v' c.w ∧ Enc c r v' ∧ K r := by
    intro b L off n l h1 m ti ti' cap base he hlv el eh em hmh hb hn ht' hK
    refine ⟨.own b L (off + l.toNat * es) (h1 - l).toNat ti', _, hrun el eh em hmh hb, ?_, hK⟩
    simp only [liveE] at hlv
    split at hlv
    · rename_i ty es' cells hH
      obtain ⟨hlv', rfl⟩ := hlv
      cases he with
      | own _ _ _ _ _ _ hs hbb hL hv =>
        obtain ⟨base', cap', arr, e1, g0, g1, g2, g3, g4, g5⟩ := hv ty es' cells hH hlv'
        injection e1 with e1 _ e2
        subst e1; subst e2
        rw [show h1.toNat - l.toNat = (h1 - l).toNat by omega]
        refine .own b L _ _ ti' _ ⟨_, _, rfl, by omega⟩ hbb hL fun ty2 es2 cells2 hH2 hl2 => ?_
        rw [hH] at hH2
        injection hH2 with hH2; injection hH2 with k1 k2 k3
        subst k1; subst k2; subst k3
        refine ⟨_, _, arr, rfl, ?_, by omega, by omega, fun e => by have := ht' e; omega, g4, ?_⟩
        · by_cases hz : m.toNat - l.toNat = 0
          · exact .inl hz
          · right
            rw [if_neg (by omega)]
            have := g0.resolve_left (by omega)
            subst this
            simp [add_off]
        · have : (m.toNat - l.toNat) * es' + l.toNat * es' = m.toNat * es' := by rw [← Nat.add_mul]; congr 1; omega
          have h2 : m.toNat * es' ≤ cap * es' := Nat.mul_le_mul_right _ (by omega)
          omega
    · exact hlv.elim
  unfold slcW at h
  split at h
  · rename_i n cells ti
    have he0 := he
    cases he with
    | seq _ _ _ base cap cv hlen hcap hmax htt hb hn hc =>
      split at h
      · rename_i l h' el eh
        obtain ⟨⟨b1, b2, b3⟩, hce, hK⟩ := h
        refine main (ti' := ti && decide (h' = n)) he0 el eh (m := cap) rfl (fun e => by simp at e) ⟨b1, b2, by omega, by omega⟩ b3 hce (fun e => ?_) hK
        simp only [Bool.and_eq_true, decide_eq_true_eq] at e
        have := htt e.1
        omega
      · rename_i l h' km m el eh
        obtain ⟨hhi, ⟨b1, b2, b3, b4⟩, hce, hK⟩ := h
        exact main (ti' := decide (h' = m)) he0 el eh rfl (fun _ => hhi) ⟨b1, b2, b3, by omega⟩ (by omega) hce (fun e => (of_decide_eq_true e).symm) hK
      · exact h.elim
  · rename_i b L off n ti
    have he0 := he
    have hlv0 := hlv
    simp only [liveE] at hlv
    split at hlv
    · rename_i ty es' cells hH
      cases he with
      | own _ _ _ _ _ _ hs hbb hL hv =>
        obtain ⟨base, cap, arr, rfl, g0, g1, g2, g3, g4, g5⟩ := hv ty es' cells hH hlv.1
        split at h
        · rename_i l h' el eh
          obtain ⟨⟨b1, b2, b3⟩, hK⟩ := h
          refine mainO (ti' := ti && decide (h' = n)) he0 hlv0 el eh (m := cap) rfl (fun e => by simp at e) ⟨b1, b2, by omega, by omega⟩ b3 (fun e => ?_) hK
          simp only [Bool.and_eq_true, decide_eq_true_eq] at e
          have := g3 e.1
          omega
        · rename_i l h' km m el eh
          obtain ⟨hhi, ⟨b1, b2, b3, b4⟩, hK⟩ := h
          exact mainO (ti' := decide (h' = m)) he0 hlv0 el eh rfl (fun _ => hhi) ⟨b1, b2, b3, by omega⟩ (by omega) (fun e => (of_decide_eq_true e).symm) hK
        · exact h.elim
    · exact hlv.elim
  · exact h.elim

/-! ### strings -/
def slcSW (x : AV) (lo hi : Option AV) (K : AV → Prop) : Prop :=
  match x with
  | .str s => match optI lo 0, optI hi s.size with
    | some l, some h => (0 ≤ l ∧ l ≤ h ∧ h ≤ s.size) ∧ K (.str (s.extract l.toNat h.toNat))
    | _, _ => False
  | _ => False

theorem slcSW_sound {P : Program} {c : Ctx} {t : TypeId} (ht : P.underlying t = some .string) {x : AV} {v : Value} {lo hi : Option AV} {vl vh : Option Value} {K : AV → Prop} (h : slcSW x lo hi K) (he : Enc c x v)
    (hl : EncO c lo vl) (hh : EncO c hi vh) : ∃ r v', (Instr.sliceAt t v vl vh none).run P c.w = .ok v' c.w ∧ Enc c r v' ∧ K r := by
  unfold slcSW at h
  split at h
  · rename_i s
    cases he
    split at h
    · rename_i l h' el eh
      obtain ⟨⟨b1, b2, b3⟩, hK⟩ := h
      have bd : ∀ {x : Option AV} {v : Option Value} {d i : Int}, EncO c x v → optI x d = some i → (x = none ∧ v = none ∧ i = d) ∨ ∃ k, x = some (.int k i) ∧ v = some (.int k i) := by
        intro x v d i he ho
        match x, v, he with
        | none, none, _ => injection ho with ho; exact .inl ⟨rfl, rfl, ho.symm⟩
        | some y, some v, he =>
          cases y with
          | int k j =>
            injection ho with ho
            subst ho
            cases he
            exact .inr ⟨k, rfl, rfl⟩
          | _ => cases ho
      refine ⟨_, .string (s.extract l.toNat h'.toNat), ?_, .str _, hK⟩
      simp only [Instr.sliceAt, Sem.run_bind, run_underlying ht, Result.andThen_ok, Instr.slice, Instr.sliceBounds, Option.isSome_none]
      rcases bd hh eh with ⟨rfl, rfl, rfl⟩ | ⟨kh, rfl, rfl⟩ <;> rcases bd hl el with ⟨rfl, rfl, rfl⟩ | ⟨kl, rfl, rfl⟩
      · simp
      · simp [run_sliceBound b1 b2]
      · simp [run_sliceBound (by omega) b3]
      · have := run_sliceBound (P := P) (w := c.w) (k := kl) (y := h'.toNat) (code := .sliceB) b1 (by omega)
        simp [run_sliceBound (by omega) b3, this]
    · exact h.elim
  · exact h.elim

/-- A byte of a text. -/
def byteAt (s : ByteArray) (i : Nat) : Nat := (s.data.toList.getD i 0).toNat
def idxSW (x i : AV) (K : AV → Prop) : Prop :=
  match x, i with
  | .str s, .int _ j => (0 ≤ j ∧ j < s.size) ∧ K (.int .u8 (byteAt s j.toNat))
  | _, _ => False
theorem idxSW_sound {P : Program} {c : Ctx} {t : TypeId} (ht : P.underlying t = some .string) {x i : AV} {v u : Value} {K : AV → Prop} (h : idxSW x i K) (he : Enc c x v) (hi : Enc c i u) :
    ∃ r v', (Instr.index t v u).run P c.w = .ok v' c.w ∧ Enc c r v' ∧ K r := by
  unfold idxSW at h
  split at h
  · rename_i s k j
    obtain ⟨⟨b1, b2⟩, hK⟩ := h
    cases he; cases hi
    refine ⟨_, .int .u8 (byteAt s j.toNat), ?_, .int _ _, hK⟩
    have hlt : j.toNat < s.size := by omega
    simp only [Instr.index, asIntOf, Sem.run_bind, Sem.run_pure, Result.andThen_ok, run_underlying ht, if_pos b1]
    rw [getElem?_pos s j.toNat hlt]
    simp only [Sem.run_pure]
    congr 3
    have hlt' : j.toNat < s.data.size := hlt
    simp only [byteAt, List.getD_eq_getElem?_getD]
    rw [List.getElem?_eq_getElem (by simpa using hlt')]
    simp
    rfl
  · exact h.elim

/-! ### parts of values -/
def extW (x : AV) (i : Nat) (K : AV → Prop) : Prop :=
  match x with
  | .tup l => match l[i]? with
    | some y => K y
    | none => False
  | _ => False
theorem extW_sound {P : Program} {c : Ctx} {x : AV} {i : Nat} {v : Value} {K : AV → Prop} (h : extW x i K) (he : Enc c x v) : ∃ r v', (Instr.extract v i).run P c.w = .ok v' c.w ∧ Enc c r v' ∧ K r := by
  unfold extW at h
  split at h
  · split at h
    · rename_i l y hy
      cases he with
      | tup _ vs hlen hc =>
        obtain ⟨hi, e⟩ := List.getElem?_eq_some_iff.1 hy
        have hi' : i < vs.size := by omega
        refine ⟨y, vs[i], by simp [Instr.extract, hi'], ?_, h⟩
        have := hc i hi hi'
        rwa [e] at this
    · exact h.elim
  · exact h.elim

/-- The place of a field inside a value: its offset, and how many cells it has. -/
def fieldIn (P : Program) (s : TypeId) (f : Nat) : Option (Nat × Option Nat) :=
  match P.underlying s with
  | some (.struct fields) => match fields[f]? with
    | some fd => (aggOf P fd.type).map fun n => (fd.offset, n)
    | none => none
  | _ => none
def fldW (off : Nat) (n : Option Nat) (x : AV) (K : AV → Prop) : Prop :=
  match x with
  | .agg l => match n with
    | some n => off + n ≤ l.length ∧ K (.agg ((l.drop off).take n))
    | none => match l[off]? with
      | some y => K y
      | none => False
  | _ => False
theorem fldW_sound {P : Program} {c : Ctx} {s : TypeId} {f off : Nat} {n : Option Nat} (hf : fieldIn P s f = some (off, n)) {x : AV} {v : Value} {K : AV → Prop} (h : fldW off n x K) (he : Enc c x v) :
    ∃ r v', (Instr.field s v f).run P c.w = .ok v' c.w ∧ Enc c r v' ∧ K r := by
  unfold fieldIn at hf
  split at hf
  · rename_i fields hu
    split at hf
    · rename_i fd hfd
      cases ha : aggOf P fd.type with
      | none => rw [ha] at hf; cases hf
      | some n' =>
        rw [ha] at hf
        injection hf with hf
        injection hf with h1 h2
        subst h1; subst h2
        unfold fldW at h
        split at h
        · rename_i l
          cases he with
          | agg _ vs hlen hc =>
            split at h
            · rename_i n
              obtain ⟨i, hi, hs, hag⟩ := aggOf_some ha
              refine ⟨_, .agg (vs.extract fd.offset (fd.offset + n)), ?_, ?_, h.2⟩
              · simp only [Instr.field, Sem.run_bind, run_underlying hu, Result.andThen_ok, hfd, asAgg, Sem.run_pure, part, hag, if_true, run_sizeOf hi, hs]
              · refine .agg _ _ (by simp; omega) fun i hi hi' => ?_
                have := hc (fd.offset + i) (by simp at hi; omega) (by simp at hi'; omega)
                simpa using this
            · have hag := aggOf_none ha
              split at h
              · rename_i y hy
                obtain ⟨hi, e⟩ := List.getElem?_eq_some_iff.1 hy
                have hi' : fd.offset < vs.size := by omega
                refine ⟨y, vs[fd.offset], ?_, ?_, h⟩
                · simp only [Instr.field, Sem.run_bind, run_underlying hu, Result.andThen_ok, hfd, asAgg, Sem.run_pure, part, hag, Bool.false_eq_true, if_false]
                  rw [Array.getElem?_eq_getElem hi']; rfl
                · have := hc fd.offset hi hi'
                  rwa [e] at this
              · exact h.elim
        · exact h.elim
    · cases hf
  · cases hf

end Go.Proofs.Ytipbcjnniamcgaa.Fw
