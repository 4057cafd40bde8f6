/- The framework, part A: abstract values, abstract memory, what it is that a value and a world stand for them. -/
import Derived.CallsIn
import Derived.Orders
import Derived.Laws.Sem
import Derived.Laws.World
import Derived.KernelRfl
namespace Go.Proofs.Ytipbcjnniamcgaa.Fw
set_option linter.unusedSimpArgs false
set_option linter.unusedVariables false
open Go

/-- An abstract value. -/
inductive AV where
  | bot
  | int (k : IntKind) (n : Int)
  | bool (b : Bool)
  | str (s : ByteArray)
  | nilP
  | nilI
  | nilF
  | seq (n : Nat) (cells : List AV) (tight : Bool)
  | own (b L off n : Nat) (tight : Bool)
  | ptr (b L off : Nat)
  | cptr (cells : List AV)
  | agg (l : List AV)
  | tup (l : List AV)
  | fn (f : Fn) (first caps : List AV)
  | iface (t : TypeId) (v : AV)
  | yld (b : Nat)

/-- An abstract block: a row of cells, or an object that is known to the letter. -/
inductive ABlk where
  | row (ty : TypeId) (es : Nat) (cells : List AV)
  | raw (o : Obj)

def ABlk.len : ABlk → Nat
  | .row _ _ c => c.length
  | .raw _ => 0

abbrev AHeap := Nat → Option ABlk
def AHeap.upd (H : AHeap) (b : Nat) (x : Option ABlk) : AHeap := fun c => if c = b then x else H c

structure Ctx where
  μ : Nat → Nat
  U : Nat → Prop
  R : Nat → Prop
  H : AHeap
  w : World

/-- A concrete block that may still be written. -/
def Mut (c : Ctx) (k : Nat) : Prop := ∃ b, c.H b ≠ none ∧ c.μ b = k

inductive Enc (c : Ctx) : AV → Value → Prop
  | bot (v : Value) : Enc c .bot v
  | int (k : IntKind) (n : Int) : Enc c (.int k n) (.int k n)
  | bool (b : Bool) : Enc c (.bool b) (.bool b)
  | str (s : ByteArray) : Enc c (.str s) (.string s)
  | nilP : Enc c .nilP (.pointer none)
  | nilI : Enc c .nilI .nilIface
  | nilF : Enc c .nilF .nilFunc
  | seq (n : Nat) (cells : List AV) (tight : Bool) (base : Option Addr) (cap : Nat) (cv : Nat → Value)
      (hlen : n = 0 → cells = []) (hcap : n ≤ cap) (hmax : cap < 2 ^ 63) (ht : tight = true → cap = n)
      (hb : 0 < cells.length → ∃ k off, base = some ⟨k, off, none⟩ ∧ ¬ Mut c k ∧ k < c.w.heap.size ∧ ∀ i, i < cells.length → c.w.cell? ⟨k, off + i, none⟩ = some (cv i))
      (hn : n = 0 ∨ base ≠ none)
      (hc : ∀ i (h : i < cells.length), Enc c (cells[i]) (cv i)) : Enc c (.seq n cells tight) (.slice base n cap)
  | own (b L off n : Nat) (tight : Bool) (v : Value) (hs : ∃ p r, v = .slice p n r ∧ n < 2 ^ 63) (hb : c.U b) (hL : ∀ x, c.H b = some x → L ≤ x.len)
      (hv : ∀ ty es cells, c.H b = some (.row ty es cells) → cells.length = L → ∃ base cap arr, v = .slice base n cap ∧ (cap = 0 ∨ base = some ⟨c.μ b, off, none⟩) ∧ n ≤ cap ∧ cap < 2 ^ 63 ∧
        (tight = true → cap = n) ∧ c.w.heap[c.μ b]? = some (.cells arr ty) ∧ off + cap * es ≤ arr.size) : Enc c (.own b L off n tight) v
  | ptr (b L off : Nat) (v : Value) (hs : ∃ p, v = .pointer p) (hb : c.U b) (hL : ∀ x, c.H b = some x → L ≤ x.len)
      (hv : ∀ x, c.H b = some x → x.len = L → v = .pointer (some ⟨c.μ b, off, none⟩)) : Enc c (.ptr b L off) v
  | cptr (cells : List AV) (k off : Nat) (cv : Nat → Value) (hm : ¬ Mut c k) (hk : k < c.w.heap.size)
      (hcell : ∀ i, i < cells.length → c.w.cell? ⟨k, off + i, none⟩ = some (cv i))
      (hc : ∀ i (h : i < cells.length), Enc c (cells[i]) (cv i)) : Enc c (.cptr cells) (.pointer (some ⟨k, off, none⟩))
  | agg (l : List AV) (vs : Array Value) (hlen : vs.size = l.length) (hc : ∀ i (h : i < l.length) (h' : i < vs.size), Enc c (l[i]) (vs[i])) : Enc c (.agg l) (.agg vs)
  | tup (l : List AV) (vs : Array Value) (hlen : vs.size = l.length) (hc : ∀ i (h : i < l.length) (h' : i < vs.size), Enc c (l[i]) (vs[i])) : Enc c (.tup l) (.tuple vs)
  | fn (f : Fn) (first caps : List AV) (fv cv : Array Value) (hf : fv.size = first.length) (hcs : cv.size = caps.length)
      (h1 : ∀ i (h : i < first.length) (h' : i < fv.size), Enc c (first[i]) (fv[i])) (h2 : ∀ i (h : i < caps.length) (h' : i < cv.size), Enc c (caps[i]) (cv[i])) :
      Enc c (.fn f first caps) (.func f fv cv)
  | iface (t : TypeId) (x : AV) (v : Value) (h : Enc c x v) : Enc c (.iface t x) (.iface t v)
  | yld (b : Nat) (v : Value) (hs : ∃ l, v = .func (.yield l) #[] #[]) (hb : c.U b) (hv : ∀ x, c.H b = some x → x.len = 0 → v = .func (.yield (c.μ b)) #[] #[]) : Enc c (.yld b) v

/-- What an abstract block says of the concrete one. -/
def BlkOk (c : Ctx) (b : Nat) : ABlk → Prop
  | .row ty _ cells => ∃ arr : Array Value, c.w.heap[c.μ b]? = some (.cells arr ty) ∧ cells.length ≤ arr.size ∧
      ∀ i (h : i < cells.length) (h' : i < arr.size), Enc c (cells[i]) (arr[i])
  | .raw o => c.w.heap[c.μ b]? = some o ∧ (∀ x t f, o ≠ .cells x t f)

structure Ok (c : Ctx) : Prop where
  used : ∀ b, c.H b ≠ none → c.U b
  fin : ∃ M, ∀ b, c.U b ∨ c.R b → b < M
  inj : ∀ b b', c.H b ≠ none → c.H b' ≠ none → c.μ b = c.μ b' → b = b'
  blk : ∀ b x, c.H b = some x → BlkOk c b x

/-- What may have become of memory later on. -/
structure Later0 (c c' : Ctx) : Prop where
  size : c.w.heap.size ≤ c'.w.heap.size
  os : c'.w.os = c.w.os
  tape : c'.w.tape = c.w.tape
  output : c'.w.output = c.w.output
  used : ∀ b, c.U b → c'.U b
  old : ∀ b x', c.U b → c'.H b = some x' → ∃ x, c.H b = some x ∧ x.len ≤ x'.len ∧ (x.len = x'.len → c'.μ b = c.μ b ∧
    ∀ ty' es' cells', x' = .row ty' es' cells' → ∃ cells, x = .row ty' es' cells ∧
      ∀ arr, c.w.heap[c.μ b]? = some (.cells arr ty') → ∃ arr', c'.w.heap[c'.μ b]? = some (.cells arr' ty') ∧ arr'.size = arr.size)
  keep : ∀ k, k < c.w.heap.size → ¬ Mut c k → c'.w.heap[k]? = c.w.heap[k]? ∧ ¬ Mut c' k

/-- .. numbers that are kept free staying free. -/
structure Later (c c' : Ctx) : Prop extends Later0 c c' where
  res : ∀ b, c.R b → c'.R b ∧ (c'.U b → c.U b)

theorem Later0.refl (c : Ctx) : Later0 c c :=
  ⟨Nat.le_refl _, rfl, rfl, rfl, fun _ h => h, fun _ x' _ hx => ⟨x', hx, Nat.le_refl _, fun _ => ⟨rfl, fun _ _ cells e => ⟨cells, e, fun arr h => ⟨arr, h, rfl⟩⟩⟩⟩, fun _ _ h => ⟨rfl, h⟩⟩

theorem Later0.trans {a b c : Ctx} (h : Later0 a b) (k : Later0 b c) : Later0 a c := by
  refine ⟨Nat.le_trans h.size k.size, k.os.trans h.os, k.tape.trans h.tape, k.output.trans h.output, fun b hb => k.used b (h.used b hb), ?_, ?_⟩
  · intro i x'' hi hx''
    obtain ⟨x', hx', hle', heq'⟩ := k.old i x'' (h.used _ hi) hx''
    obtain ⟨x, hx, hle, heq⟩ := h.old i x' hi hx'
    refine ⟨x, hx, Nat.le_trans hle hle', fun e => ?_⟩
    have e1 : x.len = x'.len := by omega
    have e2 : x'.len = x''.len := by omega
    obtain ⟨m1, r1⟩ := heq e1
    obtain ⟨m2, r2⟩ := heq' e2
    refine ⟨m2.trans m1, fun ty es cells'' e'' => ?_⟩
    obtain ⟨cells', ec', f2⟩ := r2 ty es cells'' e''
    obtain ⟨cells, ec, f1⟩ := r1 ty es cells' ec'
    refine ⟨cells, ec, fun arr ha => ?_⟩
    obtain ⟨arr', ha', hs'⟩ := f1 arr ha
    obtain ⟨arr'', ha'', hs''⟩ := f2 arr' ha'
    exact ⟨arr'', ha'', hs''.trans hs'⟩
  · intro j hj hm
    obtain ⟨e1, m1⟩ := h.keep j hj hm
    obtain ⟨e2, m2⟩ := k.keep j (Nat.lt_of_lt_of_le hj h.size) m1
    exact ⟨e2.trans e1, m2⟩

theorem Later.refl (c : Ctx) : Later c c := ⟨Later0.refl c, fun _ h => ⟨h, fun k => k⟩⟩
theorem Later.trans {a b c : Ctx} (h : Later a b) (k : Later b c) : Later a c := ⟨h.toLater0.trans k.toLater0, fun i hi => ⟨(k.res i (h.res i hi).1).1, fun hu => (h.res i hi).2 ((k.res i (h.res i hi).1).2 hu)⟩⟩

theorem cell_keep {c c' : Ctx} (h : Later0 c c') {k off : Nat} (hk : k < c.w.heap.size) (hm : ¬ Mut c k) : c'.w.cell? ⟨k, off, none⟩ = c.w.cell? ⟨k, off, none⟩ := by
  simp only [World.cell?, (h.keep k hk hm).1]

theorem Enc.later0 {c c' : Ctx} (h : Later0 c c') {x : AV} {v : Value} (he : Enc c x v) : Enc c' x v := by
  induction he with
  | bot v => exact .bot v
  | int k n => exact .int k n
  | bool b => exact .bool b
  | str s => exact .str s
  | nilP => exact .nilP
  | nilI => exact .nilI
  | nilF => exact .nilF
  | seq n cells tight base cap cv hlen hcap hmax ht hb hn _ ih =>
    refine .seq n cells tight base cap cv hlen hcap hmax ht ?_ hn ih
    intro h0
    obtain ⟨k, off, e, hm, hk, hr⟩ := hb h0
    exact ⟨k, off, e, (h.keep k hk hm).2, Nat.lt_of_lt_of_le hk h.size, fun i hi => by rw [cell_keep h hk hm]; exact hr i hi⟩
  | own b L off n tight v hs hb hL hv =>
    refine .own b L off n tight v hs (h.used _ hb) ?_ ?_
    · intro x' hx'
      obtain ⟨x, hx, hle, _⟩ := h.old b x' hb hx'
      exact Nat.le_trans (hL x hx) hle
    · intro ty es cells' hx' hl'
      obtain ⟨x, hx, hle, heq⟩ := h.old b _ hb hx'
      have hl : x.len = cells'.length := by
        have := hL x hx
        have hle' : x.len ≤ cells'.length := hle
        omega
      obtain ⟨em, hr⟩ := heq hl
      obtain ⟨cells, ec, hf⟩ := hr ty es cells' rfl
      subst ec
      obtain ⟨base, cap, arr, ev, h0, h1, h2, ht, h3, h4⟩ := hv ty es cells hx (by simpa [ABlk.len, hl'] using hl)
      obtain ⟨arr', h5, h6⟩ := hf arr h3
      exact ⟨base, cap, arr', ev, by rw [em]; exact h0, h1, h2, ht, h5, by omega⟩
  | ptr b L off v hs hb hL hv =>
    refine .ptr b L off v hs (h.used _ hb) ?_ ?_
    · intro x' hx'
      obtain ⟨x, hx, hle, _⟩ := h.old b x' hb hx'
      exact Nat.le_trans (hL x hx) hle
    · intro x' hx' hl'
      obtain ⟨x, hx, hle, heq⟩ := h.old b _ hb hx'
      have hl : x.len = x'.len := by
        have := hL x hx
        omega
      rw [(heq hl).1]
      exact hv x hx (by omega)
  | cptr cells k off cv hm hk hcell _ ih =>
    exact .cptr cells k off cv (h.keep k hk hm).2 (Nat.lt_of_lt_of_le hk h.size) (fun i hi => by rw [cell_keep h hk hm]; exact hcell i hi) ih
  | agg l vs hlen _ ih => exact .agg l vs hlen ih
  | tup l vs hlen _ ih => exact .tup l vs hlen ih
  | fn f first caps fv cv hf hcs _ _ ih1 ih2 => exact .fn f first caps fv cv hf hcs ih1 ih2
  | iface t x v _ ih => exact .iface t x v ih
  | yld b v hs hb hv =>
    refine .yld b v hs (h.used _ hb) fun x' hx' hl' => ?_
    obtain ⟨x, hx, hle, heq⟩ := h.old b _ hb hx'
    have hl : x.len = x'.len := by omega
    rw [(heq hl).1]
    exact hv x hx (by omega)

theorem Enc.later {c c' : Ctx} (h : Later c c') {x : AV} {v : Value} (he : Enc c x v) : Enc c' x v := he.later0 h.toLater0

end Go.Proofs.Ytipbcjnniamcgaa.Fw
