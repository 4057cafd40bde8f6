/- The framework, part E: reading memory, parts of values, slices. -/
import Derived.Test.YtipbcjnniamcgaaFwD
namespace Go.Proofs.Ytipbcjnniamcgaa.Fw
set_option linter.unusedSimpArgs false
set_option linter.unusedVariables false
open Go

theorem add_off (k off i : Nat) : (⟨k, off, none⟩ : Addr).add i = ⟨k, off + i, none⟩ := by unfold Addr.add; split <;> simp_all

/-- A place that lies in a followed row. -/
theorem ptr_spec {c : Ctx} (hok : Ok c) {b L off : Nat} {v : Value} {ty es : Nat} {cells : List AV} (h : Enc c (.ptr b L off) v) (hH : c.H b = some (.row ty es cells)) (hL : cells.length = L) :
    v = .pointer (some ⟨c.μ b, off, none⟩) ∧ ∃ arr, c.w.heap[c.μ b]? = some (.cells arr ty) ∧ cells.length ≤ arr.size ∧ ∀ i (h : i < cells.length) (h' : i < arr.size), Enc c (cells[i]) (arr[i]) := by
  cases h with
  | ptr _ _ _ _ _ _ _ hv => exact ⟨hv _ hH hL, hok.blk b _ hH⟩

theorem row_cell {w : World} {k ty off : Nat} {arr : Array Value} (h : w.heap[k]? = some (.cells arr ty)) (ho : off < arr.size) : w.cell? ⟨k, off, none⟩ = some (arr[off]) := by
  simp [World.cell?, h, ho]

/-! ### load -/
/-- 'n' cells from a place on, as a list. -/
def cellsAt (H : AHeap) (x : AV) (n : Nat) (K : List AV → Prop) : Prop :=
  match x with
  | .ptr b L off => match H b with
    | some (.row _ _ cells) => cells.length = L ∧ off + n ≤ L ∧ K ((cells.drop off).take n)
    | _ => False
  | .cptr cells => n ≤ cells.length ∧ K (cells.take n)
  | _ => False

theorem cellsAt_sound {c : Ctx} (hok : Ok c) {x : AV} {v : Value} {n : Nat} {K : List AV → Prop} (h : cellsAt c.H x n K) (he : Enc c x v) :
    ∃ (k off : Nat) (l : List AV) (cv : Nat → Value), v = .pointer (some ⟨k, off, none⟩) ∧ l.length = n ∧ K l ∧ (∀ i, i < n → c.w.cell? ⟨k, off + i, none⟩ = some (cv i)) ∧ ∀ i (h : i < l.length), Enc c (l[i]) (cv i) := by
  unfold cellsAt at h
  split at h
  · rename_i b L off
    split at h
    · rename_i ty es cells hH
      obtain ⟨h1, h2, h3⟩ := h
      obtain ⟨rfl, arr, g1, g2, g3⟩ := ptr_spec hok he hH h1
      refine ⟨c.μ b, off, _, fun i => arr.getD (off + i) undef, rfl, by simp; omega, h3, fun i hi => ?_, fun i hi => ?_⟩
      · have : off + i < arr.size := by omega
        rw [row_cell g1 this]
        simp [Array.getD_eq_getD_getElem?, this]
      · have hi' : i < n := by simp at hi; omega
        have h4 : off + i < arr.size := by omega
        have := g3 (off + i) (by omega) h4
        simpa [Array.getD_eq_getD_getElem?, h4] using this
    · exact h.elim
  · rename_i cells
    cases he with
    | cptr _ k off cv hm hk hcell hc =>
      refine ⟨k, off, _, cv, rfl, by simp; omega, h.2, fun i hi => hcell i (by omega), fun i hi => ?_⟩
      have : i < cells.length := by simp at hi; omega
      simpa using hc i this
  · exact h.elim

/-- A value out of its cells. -/
def loadW (H : AHeap) (n : Option Nat) (x : AV) (K : AV → Prop) : Prop :=
  match n with
  | some n => cellsAt H x n fun l => K (.agg l)
  | none => cellsAt H x 1 fun l => match l with
    | [y] => K y
    | _ => False

theorem loadW_sound {P : Program} {c : Ctx} (hok : Ok c) {t : TypeId} {n : Option Nat} (ht : aggOf P t = some n) {x : AV} {v : Value} {K : AV → Prop} (h : loadW c.H n x K) (he : Enc c x v) :
    ∃ r v', (Instr.loadAt t v).run P c.w = .ok v' c.w ∧ Enc c r v' ∧ K r := by
  unfold loadW at h
  split at h
  · rename_i n
    obtain ⟨i, hi, hs, ha⟩ := aggOf_some ht
    obtain ⟨k, off, l, cv, rfl, hl, hK, hc, hcs⟩ := cellsAt_sound hok h he
    have hlc := run_loadCells (P := P) c.w ⟨k, off, none⟩ n cv (fun j hj => by rw [add_off]; exact hc j hj)
    refine ⟨.agg l, .agg ((List.range n).map cv).toArray, ?_, ?_, hK⟩
    · simp only [Instr.loadAt, Instr.sureAddr, loadVar, Sem.run_bind, Sem.run_pure, Result.andThen_ok, ha, if_true, run_sizeOf hi, hs, hlc]
    · refine .agg l _ (by simp [hl]) fun i hi hi' => ?_
      simpa using hcs i hi
  · obtain ⟨k, off, l, cv, rfl, hl, hK, hc, hcs⟩ := cellsAt_sound hok h he
    have ha := aggOf_none ht
    match l, hl, hK, hcs with
    | [y], _, hK, hcs =>
      have h0 := hc 0 (by omega)
      refine ⟨y, cv 0, ?_, hcs 0 (by simp), hK⟩
      simp only [Instr.loadAt, Instr.sureAddr, loadVar, Sem.run_bind, Sem.run_pure, Result.andThen_ok, ha, Bool.false_eq_true, if_false, run_load]
      simp only [Nat.add_zero] at h0
      rw [h0]

/-! ### addresses -/
def fldAW (off : Nat) (x : AV) (K : AV → Prop) : Prop :=
  match x with
  | .ptr b L o => K (.ptr b L (o + off))
  | .cptr cells => K (.cptr (cells.drop off))
  | _ => False

/-- The place of a field: its offset. -/
def fieldOff (P : Program) (s : TypeId) (f : Nat) : Option Nat :=
  match P.underlying s with
  | some (.struct fields) => match fields[f]? with
    | some fd => match P.info? fd.type with
      | some i => if i.size = 0 then none else some fd.offset
      | none => none
    | none => none
  | _ => none

theorem enc_shift {c : Ctx} {x : AV} {v : Value} (he : Enc c x v) (d : Nat) :
    (∀ b L o, x = .ptr b L o → ∃ p, v = .pointer p ∧ (∀ a, p = some a → Enc c (.ptr b L (o + d)) (.pointer (some (a.add d)))) ∧ (p = none → Enc c (.ptr b L (o + d)) (.pointer none))) := by
  rintro b L o rfl
  cases he with
  | ptr _ _ _ _ hs hb hL hv =>
    obtain ⟨p, rfl⟩ := hs
    refine ⟨p, rfl, fun a ha => ?_, fun hp => ?_⟩
    · subst ha
      refine .ptr b L _ _ ⟨_, rfl⟩ hb hL fun x hx hl => ?_
      have := hv x hx hl
      injection this with this; injection this with this
      rw [this, add_off]
    · subst hp
      refine .ptr b L _ _ ⟨_, rfl⟩ hb hL fun x hx hl => ?_
      have := hv x hx hl
      injection this with this
      cases this

/-- A pointer that is followed is not nil. -/
def live (H : AHeap) (x : AV) : Prop :=
  match x with
  | .ptr b L _ => match H b with
    | some y => y.len = L
    | none => False
  | .cptr _ => True
  | _ => False

theorem live_spec {c : Ctx} {x : AV} {v : Value} (h : live c.H x) (he : Enc c x v) : ∃ k off, v = .pointer (some ⟨k, off, none⟩) := by
  unfold live at h
  split at h
  · split at h
    · rename_i y hy
      cases he with
      | ptr _ _ _ _ hs hb hL hv => exact ⟨_, _, hv y hy h⟩
    · exact h.elim
  · cases he with
    | cptr cells k off cv => exact ⟨k, off, rfl⟩
  · exact h.elim

theorem fldAW_sound {P : Program} {c : Ctx} {s : TypeId} {f off : Nat} (hf : fieldOff P s f = some off) {x : AV} {v : Value} {K : AV → Prop} (h : live c.H x ∧ fldAW off x K) (he : Enc c x v) :
    ∃ r v', (Instr.fieldAt s v f).run P c.w = .ok v' c.w ∧ Enc c r v' ∧ K r := by
  obtain ⟨hl, h⟩ := h
  obtain ⟨k, o, rfl⟩ := live_spec hl he
  have hrun : (Instr.fieldAt s (.pointer (some ⟨k, o, none⟩)) f).run P c.w = .ok (.pointer (some ⟨k, o + off, none⟩)) c.w := by
    unfold fieldOff at hf
    split at hf
    · rename_i fields hu
      split at hf
      · rename_i fd hfd
        split at hf
        · rename_i i hi
          split at hf
          · cases hf
          · rename_i hz
            injection hf with hf
            subst hf
            simp only [Instr.fieldAt, Sem.run_bind, run_underlying hu, Result.andThen_ok, hfd, Instr.sureAddr, Sem.run_pure, fieldPlace, run_sizeOf hi, if_neg hz, add_off]
        · cases hf
      · cases hf
    · cases hf
  unfold fldAW at h
  split at h
  · rename_i b L o'
    obtain ⟨p, hp, h1, _⟩ := enc_shift he off b L o' rfl
    injection hp with hp
    subst hp
    have := h1 _ rfl
    rw [add_off] at this
    exact ⟨_, _, hrun, this, h⟩
  · rename_i cells
    cases he with
    | cptr _ k off' cv hm hk hcell hc =>
      refine ⟨_, _, hrun, .cptr _ k _ (fun i => cv (off + i)) hm hk (fun i hi => ?_) (fun i hi => ?_), h⟩
      · have := hcell (off + i) (by simp at hi; omega)
        rw [show o + off + i = o + (off + i) by omega]; exact this
      · have := hc (off + i) (by simp at hi; omega)
        simpa using this
  · exact h.elim

/-- The element type's size of a slice type. -/
def sliceEs (P : Program) (t : TypeId) : Option Nat :=
  match P.underlying t with
  | some (.slice e) => match P.info? e with
    | some i => if i.size = 0 then none else some i.size
    | none => none
  | _ => none
theorem sliceEs_spec {P : Program} {t : TypeId} {es : Nat} (h : sliceEs P t = some es) : ∃ e i, P.underlying t = some (.slice e) ∧ P.info? e = some i ∧ i.size = es ∧ es ≠ 0 := by
  unfold sliceEs at h
  split at h
  · rename_i e hu
    split at h
    · rename_i i hi
      split at h
      · cases h
      · rename_i hz
        injection h with h
        exact ⟨e, i, hu, hi, h, by omega⟩
    · cases h
  · cases h

def idxAW (es : Nat) (x i : AV) (K : AV → Prop) : Prop :=
  match x, i with
  | .seq n cells _, .int _ j => (0 ≤ j ∧ j < n) ∧ cells.length = n * es ∧ K (.cptr (cells.drop (j.toNat * es)))
  | .own b L off n _, .int _ j => (0 ≤ j ∧ j < n) ∧ K (.ptr b L (off + j.toNat * es))
  | _, _ => False
/-- An owned row that is still followed. -/
def liveS (H : AHeap) (x : AV) : Prop :=
  match x with
  | .own b L _ _ _ => match H b with
    | some (.row _ _ cells) => cells.length = L
    | _ => False
  | _ => True

theorem idxAW_sound {P : Program} {c : Ctx} {t : TypeId} {es : Nat} (ht : sliceEs P t = some es) {x i : AV} {v u : Value} {K : AV → Prop} (h : liveS c.H x ∧ idxAW es x i K) (he : Enc c x v) (hi : Enc c i u) :
    ∃ r v', (Instr.indexAt t v u).run P c.w = .ok v' c.w ∧ Enc c r v' ∧ K r := by
  obtain ⟨hl, h⟩ := h
  obtain ⟨e, inf, hu, hinf, hes, hes0⟩ := sliceEs_spec ht
  have hu' : P.underlying t = some (.slice (P.elem t)) := by simp only [Program.elem, hu]
  have hel : P.elem t = e := by simp only [Program.elem, hu]
  unfold idxAW at h
  split at h
  · rename_i n cells ti k j
    obtain ⟨⟨h1, h2⟩, h3, h4⟩ := h
    cases hi
    cases he with
    | seq _ _ _ base cap cv hlen hcap hmax htt hb hn hc =>
      have hne : n ≠ 0 := by omega
      obtain ⟨a, rfl⟩ : ∃ a, base = some a := by
        cases base with
        | none => exact absurd rfl (hn.resolve_left hne)
        | some a => exact ⟨a, rfl⟩
      have hrun : (Instr.indexAt t (.slice (some a) n cap) (.int k j)).run P c.w = .ok (.pointer (some (a.add (j.toNat * es)))) c.w := by
        rw [run_indexAt_slice c.w t a n cap k j hu', if_pos ⟨h1, h2⟩, hel, run_sizeOf hinf, hes]; rfl
      have hz : 0 < cells.length := by rw [h3]; exact Nat.mul_pos (by omega) (by omega)
      obtain ⟨kk, off, e1, hm, hk, hcell⟩ := hb hz
      injection e1 with e1
      subst e1
      refine ⟨_, _, hrun, ?_, h4⟩
      rw [add_off]
      refine .cptr _ kk _ (fun q => cv (j.toNat * es + q)) hm hk (fun q hq => ?_) (fun q hq => ?_)
      · have := hcell (j.toNat * es + q) (by simp at hq; omega)
        rw [show off + j.toNat * es + q = off + (j.toNat * es + q) by omega]; exact this
      · have := hc (j.toNat * es + q) (by simp at hq; omega)
        simpa using this
  · rename_i b L off n ti k j
    obtain ⟨⟨h1, h2⟩, h4⟩ := h
    cases hi
    simp only [liveS] at hl
    split at hl
    · rename_i ty es' cells hH
      cases he with
      | own _ _ _ _ _ _ hs hb hL hv =>
        obtain ⟨base, cap, arr, rfl, g0, g1, g2, g3, g4, g5⟩ := hv ty es' cells hH hl
        have hbase := g0.resolve_left (by omega)
        subst hbase
        refine ⟨_, _, by rw [run_indexAt_slice c.w t _ n cap k j hu', if_pos ⟨h1, h2⟩, hel, run_sizeOf hinf, hes]; rfl, ?_, h4⟩
        rw [add_off]
        refine .ptr b L _ _ ⟨_, rfl⟩ hb hL fun x hx _ => ?_
        rfl
    · exact hl.elim
  · exact h.elim

end Go.Proofs.Ytipbcjnniamcgaa.Fw
