/- The texts Fa, joined. -/
import Derived.CallsIn
import Derived.Orders
import Derived.Laws.Sem
import Derived.Laws.World
import Derived.KernelRfl
import Derived.OrdersIn
import Derived.RangeFuncIn
import Derived.RangeFuncRecord
import Derived.Laws.CopyRow
import Derived.Laws.Cells
import Derived.Laws.Entries
import Derived.Laws.AppendOwn
import Derived.Laws.Tables
set_option linter.unusedSimpArgs false
set_option linter.unusedVariables false
namespace Go.Proofs.YtmndejlpfmmaiaaGreatDoor.Fw
open Go
inductive AV where
 |bot
 |int (k:IntKind) (n:Int)
 |bool (b:Bool)
 |str (s:ByteArray)
 |nilP
 |nilI
 |nilF
 |seq (n:Nat) (cells:List AV) (tight:Bool)
 |own (b L off n:Nat) (tight:Bool)
 |ptr (b L off:Nat)
 |cptr (cells:List AV)
 |agg (l:List AV)
 |tup (l:List AV)
 |fn (f:Fn) (first caps:List AV)
 |iface (t:TypeId) (v:AV)
 |yld (b:Nat)
 |ext (n:Nat) (cells:List AV)
 |ownc (b L n cap:Nat)
 |exte (es n:Nat) (cells:List AV)
inductive ABlk where
 |row (ty:TypeId) (es:Nat) (cells:List AV)
 |raw (o:Obj)
 |glob (g:Nat) (cells:List AV)
 |loop (st:LoopState) (pend:Option Code) (fn:FuncId) (ps:Array Tmp) (assign body:Code) (n:Nat) (E:List (Nat×AV))
def ABlk.len:ABlk→Nat
 |.row _ _ c=>c.length
 |.raw _=>0
 |.glob _ c=>c.length
 |.loop .. =>0
abbrev AHeap:=Nat→Option ABlk
def AHeap.upd(H:AHeap)(b:Nat)(x:Option ABlk):AHeap:=fun c=>if c=b then x else H c
structure Ctx where
 μ:Nat→Nat
 U:Nat→Prop
 R:Nat→Prop
 H:AHeap
 w:World
def ABlk.mut:Option ABlk→Prop
 |none=>False
 |some (.glob _ _)=>False
 |some _=>True
def Mut(c:Ctx)(k:Nat):Prop:= ∃b,ABlk.mut (c.H b)∧c.μ b=k
inductive Enc(c:Ctx):AV→Value→Prop
 |bot (v:Value):Enc c .bot v
 |int (k:IntKind) (n:Int):Enc c (.int k n) (.int k n)
 |bool (b:Bool):Enc c (.bool b) (.bool b)
 |str (s:ByteArray):Enc c (.str s) (.string s)
 |nilP:Enc c .nilP (.pointer none)
 |nilI:Enc c .nilI .nilIface
 |nilF:Enc c .nilF .nilFunc
 |seq (n:Nat) (cells:List AV) (tight:Bool) (base:Option Addr) (cap:Nat) (cv:Nat→Value)
  (hlen:n=0→cells=[]) (hcap:n≤cap) (hmax:cap<2^63) (ht:tight=true→cap=n)
  (hb:0<cells.length→∃k off,base=some ⟨k,off,none⟩∧¬Mut c k∧k<c.w.heap.size∧∀i,i<cells.length→c.w.cell? ⟨k,off+i,none⟩=some (cv i))
  (hn:n=0∨base≠none)
  (hc: ∀i(h:i<cells.length),Enc c (cells[i]) (cv i)):Enc c (.seq n cells tight) (.slice base n cap)
 |own (b L off n:Nat) (tight:Bool) (v:Value) (hs: ∃p r,v=.slice p n r∧n<2^63) (hb:c.U b) (hL: ∀x,c.H b=some x→L≤x.len)
  (hv: ∀ty es cells,c.H b=some (.row ty es cells)→cells.length=L→∃base cap arr,v=.slice base n cap∧(cap=0∨base=some ⟨c.μ b,off,none⟩)∧n≤cap∧cap<2^63∧
   (tight=true→cap=n)∧c.w.heap[c.μ b]? =some (.cells arr ty)∧off+cap*es≤arr.size):Enc c (.own b L off n tight) v
 |ptr (b L off:Nat) (v:Value) (hs: ∃p,v=.pointer p) (hb:c.U b) (hL: ∀x,c.H b=some x→L≤x.len)
  (hv: ∀x,c.H b=some x→x.len=L→v=.pointer (some ⟨c.μ b,off,none⟩)):Enc c (.ptr b L off) v
 |cptr (cells:List AV) (k off:Nat) (cv:Nat→Value) (hm: ¬Mut c k) (hk:k<c.w.heap.size)
  (hcell: ∀i,i<cells.length→c.w.cell? ⟨k,off+i,none⟩=some (cv i))
  (hc: ∀i(h:i<cells.length),Enc c (cells[i]) (cv i)):Enc c (.cptr cells) (.pointer (some ⟨k,off,none⟩))
 |agg (l:List AV) (vs:Array Value) (hlen:vs.size=l.length) (hc: ∀i(h:i<l.length)(h':i<vs.size),Enc c (l[i]) (vs[i])):Enc c (.agg l) (.agg vs)
 |tup (l:List AV) (vs:Array Value) (hlen:vs.size=l.length) (hc: ∀i(h:i<l.length)(h':i<vs.size),Enc c (l[i]) (vs[i])):Enc c (.tup l) (.tuple vs)
 |fn (f:Fn) (first caps:List AV) (fv cv:Array Value) (hf:fv.size=first.length) (hcs:cv.size=caps.length)
  (h1: ∀i(h:i<first.length)(h':i<fv.size),Enc c (first[i]) (fv[i])) (h2: ∀i(h:i<caps.length)(h':i<cv.size),Enc c (caps[i]) (cv[i])):
  Enc c (.fn f first caps) (.func f fv cv)
 |iface (t:TypeId) (x:AV) (v:Value) (h:Enc c x v):Enc c (.iface t x) (.iface t v)
 |yld (b:Nat) (v:Value) (hs: ∃l,v=.func (.yield l) #[] #[]) (hb:c.U b) (hv: ∀x,c.H b=some x→x.len=0→v=.func (.yield (c.μ b)) #[] #[]):Enc c (.yld b) v
 |ext (n:Nat) (cells:List AV) (k off cap:Nat) (cv:Nat→Value) (h1:n≤cells.length) (h2:cells.length≤cap) (h3:cap<2^63) (hm: ¬Mut c k) (hk:k<c.w.heap.size)
  (hcell: ∀i,i<cells.length→c.w.cell? ⟨k,off+i,none⟩=some (cv i))
  (hc: ∀i(h:i<cells.length),Enc c (cells[i]) (cv i)):Enc c (.ext n cells) (.slice (some ⟨k,off,none⟩) n cap)
 |ownc (b L n cap:Nat) (p:Option Addr) (hn:n≤cap) (hm:cap<2^63) (hb:c.U b) (hL: ∀x,c.H b=some x→L≤x.len)
  (hv: ∀ty es cells,c.H b=some (.row ty es cells)→cells.length=L→∃arr,(cap=0∨p=some ⟨c.μ b,0,none⟩)∧c.w.heap[c.μ b]? =some (.cells arr ty)∧cap*es≤arr.size):Enc c (.ownc b L n cap) (.slice p n cap)
 |exte (es n:Nat) (cells:List AV) (k off cap:Nat) (cv:Nat→Value) (h1:n≤cap) (h2:cells.length≤cap*es) (h0:n*es≤cells.length) (h3:cap<2^63) (hm: ¬Mut c k) (hk:k<c.w.heap.size)
  (hcell: ∀i,i<cells.length→c.w.cell? ⟨k,off+i,none⟩=some (cv i))
  (hc: ∀i(h:i<cells.length),Enc c (cells[i]) (cv i)):Enc c (.exte es n cells) (.slice (some ⟨k,off,none⟩) n cap)
abbrev Env:=List (Nat×AV)
def Env.get:Env→Nat→AV
 |[],_=>.bot
 |(k,v)::r,t=>if k=t then v else Env.get r t
def BlkOk(c:Ctx)(b:Nat):ABlk→Prop
 |.row ty _ cells=> ∃arr:Array Value,c.w.heap[c.μ b]? =some (.cells arr ty)∧cells.length≤arr.size∧
  ∀i(h:i<cells.length)(h':i<arr.size),Enc c (cells[i]) (arr[i])
 |.raw o=>c.w.heap[c.μ b]? =some o∧(∀x t f,o≠.cells x t f)
 |.glob g cells=>c.μ b=g∧g<c.w.heap.size∧∃cv:Nat→Value,(∀i,i<cells.length→c.w.cell? ⟨g,i,none⟩=some (cv i))∧∀i(h:i<cells.length),Enc c (cells[i]) (cv i)
 |.loop st pend fn ps assign body n E=> ∃(tmps:Array Value)(dd:Nat),c.w.heap[c.μ b]? =some (.loop ⟨st,pend,fn,tmps,ps,assign,body,dd⟩)∧tmps.size=n∧∀t,Enc c (Env.get E t) (tmps.getD t undef)
structure Ok(c:Ctx):Prop where
 used: ∀b,c.H b≠none→c.U b
 fin: ∃M,∀b,c.U b∨c.R b→b<M
 inj: ∀b b',c.H b≠none→c.H b'≠none→c.μ b=c.μ b'→b=b'
 blk: ∀b x,c.H b=some x→BlkOk c b x
structure Later0(c c':Ctx):Prop where
 size:c.w.heap.size≤c'.w.heap.size
 os:c'.w.os=c.w.os
 tape:c'.w.tape=c.w.tape
 output:c'.w.output=c.w.output
 used: ∀b,c.U b→c'.U b
 old: ∀b x',c.U b→c'.H b=some x'→∃x,c.H b=some x∧x.len≤x'.len∧(x.len=x'.len→c'.μ b=c.μ b∧
  ∀ty' es' cells',x'=.row ty' es' cells'→∃cells,x=.row ty' es' cells∧
   ∀arr,c.w.heap[c.μ b]? =some (.cells arr ty')→∃arr',c'.w.heap[c'.μ b]? =some (.cells arr' ty')∧arr'.size=arr.size)
 keep: ∀k,k<c.w.heap.size→¬Mut c k→c'.w.heap[k]? =c.w.heap[k]? ∧¬Mut c' k
structure Later(c c':Ctx):Prop extends Later0 c c' where
 res: ∀b,c.R b→c'.R b∧(c'.U b→c.U b)
theorem Later0.refl(c:Ctx):Later0 c c:=
 ⟨Nat.le_refl _,rfl,rfl,rfl,fun _ h=>h,fun _ x' _ hx=>⟨x',hx,Nat.le_refl _,fun _=>⟨rfl,fun _ _ cells e=>⟨cells,e,fun arr h=>⟨arr,h,rfl⟩⟩⟩⟩,fun _ _ h=>⟨rfl,h⟩⟩
theorem Later0.trans{a b c:Ctx}(h:Later0 a b)(k:Later0 b c):Later0 a c:=by
 refine⟨Nat.le_trans h.size k.size,k.os.trans h.os,k.tape.trans h.tape,k.output.trans h.output,fun b hb=>k.used b (h.used b hb),?_,?_⟩
 ·intro i x'' hi hx''
  obtain⟨x',hx',hle',heq'⟩:=k.old i x'' (h.used _ hi) hx''
  obtain⟨x,hx,hle,heq⟩:=h.old i x' hi hx'
  refine⟨x,hx,Nat.le_trans hle hle',fun e=>?_⟩
  have e1:x.len=x'.len:=by omega
  have e2:x'.len=x''.len:=by omega
  obtain⟨m1,r1⟩:=heq e1
  obtain⟨m2,r2⟩:=heq' e2
  refine⟨m2.trans m1,fun ty es cells'' e''=>?_⟩
  obtain⟨cells',ec',f2⟩:=r2 ty es cells'' e''
  obtain⟨cells,ec,f1⟩:=r1 ty es cells' ec'
  refine⟨cells,ec,fun arr ha=>?_⟩
  obtain⟨arr',ha',hs'⟩:=f1 arr ha
  obtain⟨arr'',ha'',hs''⟩:=f2 arr' ha'
  exact⟨arr'',ha'',hs''.trans hs'⟩
 ·intro j hj hm
  obtain⟨e1,m1⟩:=h.keep j hj hm
  obtain⟨e2,m2⟩:=k.keep j (Nat.lt_of_lt_of_le hj h.size) m1
  exact⟨e2.trans e1,m2⟩
theorem Later.refl(c:Ctx):Later c c:=⟨Later0.refl c,fun _ h=>⟨h,fun k=>k⟩⟩
theorem Later.trans{a b c:Ctx}(h:Later a b)(k:Later b c):Later a c:=⟨h.toLater0.trans k.toLater0,fun i hi=>⟨(k.res i (h.res i hi).1).1,fun hu=>(h.res i hi).2 ((k.res i (h.res i hi).1).2 hu)⟩⟩
theorem zEZ{c c':Ctx}(h:Later0 c c'){k off:Nat}(hk:k<c.w.heap.size)(hm: ¬Mut c k):c'.w.cell? ⟨k,off,none⟩=c.w.cell? ⟨k,off,none⟩:=by
 simp only[World.cell?,(h.keep k hk hm).1]
theorem Enc.later0{c c':Ctx}(h:Later0 c c'){x:AV}{v:Value}(he:Enc c x v):Enc c' x v:=by
 induction he with
 |bot v=>exact .bot v
 |int k n=>exact .int k n
 |bool b=>exact .bool b
 |str s=>exact .str s
 |nilP=>exact .nilP
 |nilI=>exact .nilI
 |nilF=>exact .nilF
 |seq n cells tight base cap cv hlen hcap hmax ht hb hn _ ih=>
  refine .seq n cells tight base cap cv hlen hcap hmax ht ?_ hn ih
  intro h0
  obtain⟨k,off,e,hm,hk,hr⟩:=hb h0
  exact⟨k,off,e,(h.keep k hk hm).2,Nat.lt_of_lt_of_le hk h.size,fun i hi=>by rw[zEZ h hk hm];exact hr i hi⟩
 |own b L off n tight v hs hb hL hv=>
  refine .own b L off n tight v hs (h.used _ hb) ?_ ?_
  ·intro x' hx'
   obtain⟨x,hx,hle,_⟩:=h.old b x' hb hx'
   exact Nat.le_trans (hL x hx) hle
  ·intro ty es cells' hx' hl'
   obtain⟨x,hx,hle,heq⟩:=h.old b _ hb hx'
   have hl:x.len=cells'.length:=by
    have:=hL x hx
    have hle':x.len≤cells'.length:=hle
    omega
   obtain⟨em,hr⟩:=heq hl
   obtain⟨cells,ec,hf⟩:=hr ty es cells' rfl
   subst ec
   obtain⟨base,cap,arr,ev,h0,h1,h2,ht,h3,h4⟩:=hv ty es cells hx (by simpa[ABlk.len,hl']using hl)
   obtain⟨arr',h5,h6⟩:=hf arr h3
   exact⟨base,cap,arr',ev,by rw[em];exact h0,h1,h2,ht,h5,by omega⟩
 |ptr b L off v hs hb hL hv=>
  refine .ptr b L off v hs (h.used _ hb) ?_ ?_
  ·intro x' hx'
   obtain⟨x,hx,hle,_⟩:=h.old b x' hb hx'
   exact Nat.le_trans (hL x hx) hle
  ·intro x' hx' hl'
   obtain⟨x,hx,hle,heq⟩:=h.old b _ hb hx'
   have hl:x.len=x'.len:=by
    have:=hL x hx
    omega
   rw[(heq hl).1]
   exact hv x hx (by omega)
 |cptr cells k off cv hm hk hcell _ ih=>
  exact .cptr cells k off cv (h.keep k hk hm).2 (Nat.lt_of_lt_of_le hk h.size) (fun i hi=>by rw[zEZ h hk hm];exact hcell i hi) ih
 |agg l vs hlen _ ih=>exact .agg l vs hlen ih
 |tup l vs hlen _ ih=>exact .tup l vs hlen ih
 |fn f first caps fv cv hf hcs _ _ ih1 ih2=>exact .fn f first caps fv cv hf hcs ih1 ih2
 |iface t x v _ ih=>exact .iface t x v ih
 |yld b v hs hb hv=>
  refine .yld b v hs (h.used _ hb) fun x' hx' hl'=>?_
  obtain⟨x,hx,hle,heq⟩:=h.old b _ hb hx'
  have hl:x.len=x'.len:=by omega
  rw[(heq hl).1]
  exact hv x hx (by omega)
 |ext n cells k off cap cv h1 h2 h3 hm hk hcell _ ih=>
  exact .ext n cells k off cap cv h1 h2 h3 (h.keep k hk hm).2 (Nat.lt_of_lt_of_le hk h.size) (fun i hi=>by rw[zEZ h hk hm];exact hcell i hi) ih
 |exte es n cells k off cap cv h1 h2 h0 h3 hm hk hcell _ ih=>
  exact .exte es n cells k off cap cv h1 h2 h0 h3 (h.keep k hk hm).2 (Nat.lt_of_lt_of_le hk h.size) (fun i hi=>by rw[zEZ h hk hm];exact hcell i hi) ih
 |ownc b L n cap p hn hm hb hL hv=>
  refine .ownc b L n cap p hn hm (h.used _ hb) ?_ ?_
  ·intro x' hx'
   obtain⟨x,hx,hle,_⟩:=h.old b x' hb hx'
   exact Nat.le_trans (hL x hx) hle
  ·intro ty es cells' hx' hl'
   obtain⟨x,hx,hle,heq⟩:=h.old b _ hb hx'
   have hl:x.len=cells'.length:=by
    have:=hL x hx
    have hle':x.len≤cells'.length:=hle
    omega
   obtain⟨em,hr⟩:=heq hl
   obtain⟨cells,ec,hf⟩:=hr ty es cells' rfl
   subst ec
   obtain⟨arr,h0,h3,h4⟩:=hv ty es cells hx (by simpa[ABlk.len,hl']using hl)
   obtain⟨arr',h5,h6⟩:=hf arr h3
   exact⟨arr',by rw[em];exact h0,h5,by omega⟩
theorem Enc.ext_seq{c:Ctx}{n:Nat}{cells:List AV}{v:Value}(h:Enc c (.ext n cells) v):Enc c (.seq n (cells.take n) false) v:=by
 cases h with
 |ext _ _ k off cap cv h1 h2 h3 hm hk hcell hc=>
  refine .seq n _ false _ cap cv (fun e=>by subst e;simp) (by omega) h3 (fun e=>by cases e) (fun _=>⟨k,off,rfl,hm,hk,fun i hi=>hcell i (by simp at hi;omega)⟩) (.inr (by simp)) fun i hi=>?_
  have hi':i<cells.length:=by simp at hi;omega
  simpa using hc i hi'
theorem Enc.exte_seq{c:Ctx}{es n:Nat}{cells:List AV}{v:Value}(h:Enc c (.exte es n cells) v):Enc c (.seq n (cells.take (n*es)) false) v:=by
 cases h with
 |exte _ _ _ k off cap cv h1 h2 h0 h3 hm hk hcell hc=>
  refine .seq n _ false _ cap cv (fun e=>by subst e;simp) h1 h3 (fun e=>by cases e) (fun _=>⟨k,off,rfl,hm,hk,fun i hi=>hcell i (by simp at hi;omega)⟩) (.inr (by simp)) fun i hi=>?_
  have hi':i<cells.length:=by simp at hi;omega
  simpa using hc i hi'
theorem Enc.later{c c':Ctx}(h:Later c c'){x:AV}{v:Value}(he:Enc c x v):Enc c' x v:=he.later0 h.toLater0
end Go.Proofs.YtmndejlpfmmaiaaGreatDoor.Fw
namespace Go.Proofs.YtmndejlpfmmaiaaGreatDoor.Fw
open Go
def Env.set:Env→Nat→AV→Env
 |[],t,x=>[(t,x)]
 |(k,v)::r,t,x=>if t<k then(t,x)::(k,v)::r else if k=t then(t,x)::r else(k,v)::Env.set r t x
def Env.keep:Env→List Nat→Env
 |[],_=>[]
 |(k,v)::r,l=>if l.contains k then(k,v)::Env.keep r l else Env.keep r l
theorem Env.get_set(E:Env)(t:Nat)(x:AV)(u:Nat):(E.set t x).get u=if u=t then x else E.get u:=by
 induction E with
 |nil=>
  simp only[Env.set,Env.get]
  by_cases h:u=t
  ·rw[if_pos h,if_pos h.symm]
  ·rw[if_neg h,if_neg (fun e=>h e.symm)]
 |cons p r ih=>
  obtain⟨k,v⟩:=p
  simp only[Env.set]
  by_cases h1:t<k
  ·rw[if_pos h1]
   simp only[Env.get]
   by_cases h:u=t
   ·rw[if_pos h,if_pos h.symm]
   ·rw[if_neg h,if_neg (fun e=>h e.symm)]
  ·rw[if_neg h1]
   by_cases h2:k=t
   ·rw[if_pos h2]
    simp only[Env.get]
    by_cases h:u=t
    ·rw[if_pos h,if_pos h.symm]
    ·rw[if_neg h,if_neg (fun e=>h e.symm),if_neg (fun e=>h (e.symm.trans h2))]
   ·rw[if_neg h2]
    simp only[Env.get]
    by_cases h:k=u
    ·rw[if_pos h,if_pos h,if_neg (fun e=>h2 (h.trans e))]
    ·rw[if_neg h,if_neg h];exact ih
theorem Env.get_keep(E:Env)(l:List Nat)(u:Nat):(E.keep l).get u=.bot∨(E.keep l).get u=E.get u:=by
 induction E with
 |nil=>exact .inl rfl
 |cons p r ih=>
  obtain⟨k,v⟩:=p
  simp only[Env.keep]
  split
  ·simp only[Env.get];split
   ·exact .inr rfl
   ·exact ih
  ·rename_i hk
   rcases ih with h|h
   ·exact .inl h
   ·simp only[Env.get];split
    ·rename_i e;subst e
     left
     have: ∀(r:Env),(∀w,l.contains k=false→(Env.keep r l).get k=w→w=.bot):=by
      intro r
      induction r with
      |nil=>intro w _ h;exact h.symm
      |cons q r ih2=>
       obtain⟨k2,v2⟩:=q
       intro w hl h
       simp only[Env.keep]at h
       split at h
       ·rename_i hc
        simp only[Env.get]at h
        split at h
        ·rename_i e2;subst e2;rw[hl]at hc;cases hc
        ·exact ih2 w hl h
       ·exact ih2 w hl h
     exact this r _ (by simpa using hk) rfl
    ·exact .inr h
structure St where
 D:List Nat
 E:Env
 H:AHeap
def FW(ro:Option Nat):Fence:={ Fence.wide with round:=ro }
structure RelA(N:Nat)(c:Ctx)(D:List Nat)(E:Env)(a:Act):Prop where
 size:a.tmps.size=N
 tmp: ∀t,Enc c (E.get t) (a.tmps.getD t undef)
 dlen:a.defers.length=D.length
 dmark: ∀i(h:i<D.length),∃r,a.defers[i]? =some { target:=.collected r,args:= #[] }∧Enc c (.ptr D[i] 0 0) (.pointer (some ⟨r,0,none⟩))
theorem RelA.later{N:Nat}{c c':Ctx}{D:List Nat}{E:Env}{a:Act}(h:Later c c')(r:RelA N c D E a):RelA N c' D E a:=
 ⟨r.size,fun t=>(r.tmp t).later h,r.dlen,fun i hi=>let⟨q,e,k⟩:=r.dmark i hi;⟨q,e,k.later h⟩⟩
def Post(N:Nat)(c:Ctx)(Q:Exit→St→Prop):Exit→Act→World→Prop:=fun e a w=>
 ∃(c':Ctx)(s:St),c'.H=s.H∧c'.w=w∧Ok c'∧RelA N c' s.D s.E a∧Later c c'∧Q e s
def AW(P:Program)(rr:Bool)(N:Nat)(code:Code)(Q:Exit→St→Prop)(s:St):Prop:=
 ∀(ro:Option Nat)(c:Ctx)(a:Act),(rr=false→ro=none)→c.H=s.H→Ok c→RelA N c s.D s.E a→code.wpIn (FW ro) 0 P (Post N c Q) a c.w
def Run(P:Program)(f:FuncId)(args:List AV)(H:AHeap)(Q:AV→AHeap→Prop):Prop:=
 (∃fn,P.funcs[f]? =some fn∧(fn.name=="runtime.NumGoroutine")=false∧fn.body.isNone=false)∧
 ∀(c:Ctx)(vs:Array Value),c.H=H→Ok c→vs.size=args.length→(∀i(h:i<args.length)(h':i<vs.size),Enc c (args[i]) (vs[i]))→
  Calls P f vs c.w fun e w'=> ∃(c':Ctx)(v:Value)(r:AV),e=.returned v∧c'.w=w'∧Ok c'∧Later c c'∧Enc c' r v∧Q r c'.H
theorem Run.mono{P:Program}{f:FuncId}{args:List AV}{H:AHeap}{Q Q':AV→AHeap→Prop}(h:Run P f args H Q)(hq: ∀r H',Q r H'→Q' r H'):Run P f args H Q':=
 ⟨h.1,fun c vs hH hok hs he=>(h.2 c vs hH hok hs he).mono fun _ _ ⟨c',v,r,a1,a2,a3,a4,a5,a6⟩=>⟨c',v,r,a1,a2,a3,a4,a5,hq _ _ a6⟩⟩
theorem zHU{ro:Option Nat}{n:Nat}{P:Program}{f:FuncId}{args:Array Value}{w:World}{R:Ending→World→Prop}(h:Calls P f args w R):CallsIn (FW ro) n P f args w R:=
 (callsIn_wide (n:=n)).2 h
theorem Post.mono{N:Nat}{c0 c:Ctx}{Q Q':Exit→St→Prop}{e:Exit}{a:Act}{w:World}(hl:Later c0 c)(hq: ∀s,Q e s→Q' e s)(h:Post N c Q e a w):Post N c0 Q' e a w:=
 let⟨c',s,h1,h2,h3,h4,h5,h6⟩:=h
 ⟨c',s,h1,h2,h3,h4,hl.trans h5,hq s h6⟩
theorem AW.mono{P:Program}{rr:Bool}{N:Nat}{code:Code}{Q Q':Exit→St→Prop}{s:St}(h:AW P rr N code Q s)(hq: ∀e s,Q e s→Q' e s):AW P rr N code Q' s:=
 fun ro c a hr hH hok hrel=>wpIn_mono (h ro c a hr hH hok hrel) fun e _ _ hp=>Post.mono (Later.refl c) (hq e) hp
def Settle(K:St→Prop)(s:St):Prop:=
 ∀(N:Nat)(c:Ctx)(a:Act),c.H=s.H→Ok c→RelA N c s.D s.E a→∃(c':Ctx)(s':St),c'.H=s'.H∧c'.w=c.w∧Ok c'∧RelA N c' s'.D s'.E a∧Later c c'∧K s'
theorem Settle.now{K:St→Prop}{s:St}(h:K s):Settle K s:=fun _ c _ hH hok hr=>⟨c,s,hH,rfl,hok,hr,Later.refl c,h⟩
theorem Settle.mono{K K':St→Prop}{s:St}(h:Settle K s)(hk: ∀s,K s→K' s):Settle K' s:=fun N c a hH hok hr=>
 let⟨c',s',h1,h2,h3,h4,h5,h6⟩:=h N c a hH hok hr;⟨c',s',h1,h2,h3,h4,h5,hk _ h6⟩
theorem Settle.join{K:St→Prop}{s:St}(h:Settle (Settle K) s):Settle K s:=fun N c a hH hok hr=>
 let⟨c',s',h1,h2,h3,h4,h5,h6⟩:=h N c a hH hok hr
 let⟨c'',s'',g1,g2,g3,g4,g5,g6⟩:=h6 N c' a h1 h3 h4
 ⟨c'',s'',g1,g2.trans h2,g3,g4,h5.trans g5,g6⟩
theorem AW.settle{P:Program}{rr:Bool}{N:Nat}{code:Code}{Q:Exit→St→Prop}{s:St}(h:Settle (fun s'=>AW P rr N code Q s') s):AW P rr N code Q s:=
 fun ro c a hr hH hok hrel=>
  let⟨c',s',h1,h2,h3,h4,h5,h6⟩:=h N c a hH hok hrel
  h2▸wpIn_mono (h6 ro c' a hr h1 h3 h4) fun _ _ _ hp=>Post.mono h5 (fun _ q=>q) hp
theorem Post.settle{N:Nat}{c:Ctx}{Q:Exit→St→Prop}{e:Exit}{a:Act}{w:World}(h:Post N c (fun e s=>Settle (Q e) s) e a w):Post N c Q e a w:=
 let⟨c',s,h1,h2,h3,h4,h5,h6⟩:=h
 let⟨c'',s'',g1,g2,g3,g4,g5,g6⟩:=h6 N c' a h1 h3 h4
 ⟨c'',s'',g1,g2.trans h2,g3,g4,h5.trans g5,g6⟩
theorem Settle.env{K:St→Prop}{D:List Nat}{E E':Env}{H:AHeap}(he: ∀t,E'.get t=.bot∨E'.get t=E.get t)(h:K ⟨D,E',H⟩):Settle K ⟨D,E,H⟩:=
 fun _ c _ hH hok hr=>⟨c,⟨D,E',H⟩,hH,rfl,hok,⟨hr.size,fun t=>by
  rcases he t with e|e
  ·rw[e];exact .bot _
  ·rw[e];exact hr.tmp t,hr.dlen,hr.dmark⟩,Later.refl c,h⟩
theorem Settle.keep{K:St→Prop}{D:List Nat}{E:Env}{H:AHeap}(l:List Nat)(h:K ⟨D,E.keep l,H⟩):Settle K ⟨D,E,H⟩:=Settle.env (fun t=>Env.get_keep E l t) h
def Ctx.drop(c:Ctx)(b:Nat):Ctx:={ c with H:=c.H.upd b none }
theorem Ctx.drop_later(c:Ctx)(b:Nat):Later c (c.drop b):=by
 refine⟨⟨Nat.le_refl _,rfl,rfl,rfl,fun _ h=>h,?_,?_⟩,fun _ h=>⟨h,fun k=>k⟩⟩
 ·intro i x' _ hx
  have hx2:(if i=b then none else c.H i)=some x':=hx
  split at hx2
  ·cases hx2
  ·exact⟨x',hx2,Nat.le_refl _,fun _=>⟨rfl,fun _ _ cells e=>⟨cells,e,fun arr h=>⟨arr,h,rfl⟩⟩⟩⟩
 ·rintro k _ hm
  refine⟨rfl,fun⟨i,hi,e⟩=>hm ⟨i,?_,e⟩⟩
  have hi2:ABlk.mut (if i=b then none else c.H i):=hi
  split at hi2
  ·exact hi2.elim
  ·exact hi2
theorem Ctx.drop_H(c:Ctx)(b i:Nat)(x:ABlk)(h:(c.drop b).H i=some x):i≠b∧c.H i=some x:=by
 have h2:(if i=b then none else c.H i)=some x:=h
 split at h2
 ·cases h2
 ·exact⟨‹_›,h2⟩
theorem BlkOk.later0{c c':Ctx}{b:Nat}{x:ABlk}(h:Later0 c c')(hμ:c'.μ b=c.μ b)(hw:c'.w.heap[c.μ b]? =c.w.heap[c.μ b]?)(k:BlkOk c b x):BlkOk c' b x:=by
 cases x with
 |row ty es cells=>
  obtain⟨arr,h1,h2,h3⟩:=k
  exact⟨arr,by rw[hμ,hw];exact h1,h2,fun i hi hi'=>(h3 i hi hi').later0 h⟩
 |raw o=>exact⟨by rw[hμ,hw];exact k.1,k.2⟩
 |glob g cells=>
  obtain⟨h1,h2,cv,h3,h4⟩:=k
  refine⟨by rw[hμ];exact h1,Nat.lt_of_lt_of_le h2 h.size,cv,fun i hi=>?_,fun i hi=>(h4 i hi).later0 h⟩
  have:=h3 i hi
  rw[h1]at hw
  simp only[World.cell?,hw]at this ⊢
  exact this
 |loop st pend fn ps assign body n E=>
  obtain⟨tmps,dd,h1,h2,h3⟩:=k
  exact⟨tmps,dd,by rw[hμ,hw];exact h1,h2,fun t=>(h3 t).later0 h⟩
theorem BlkOk.later{c c':Ctx}{b:Nat}{x:ABlk}(h:Later c c')(hμ:c'.μ b=c.μ b)(hw:c'.w.heap[c.μ b]? =c.w.heap[c.μ b]?)(k:BlkOk c b x):BlkOk c' b x:=k.later0 h.toLater0 hμ hw
theorem Ctx.drop_ok{c:Ctx}(h:Ok c)(b:Nat):Ok (c.drop b):=by
 have ne: ∀i,(c.drop b).H i≠none→c.H i≠none:=by
  intro i hi
  cases hx:(c.drop b).H i with
  |none=>exact absurd hx hi
  |some x=>rw[(c.drop_H b i x hx).2];simp
 refine⟨fun i hi=>h.used i (ne i hi),h.fin,fun i j hi hj e=>h.inj i j (ne i hi) (ne j hj) e,fun i x hx=>?_⟩
 exact(h.blk i x (c.drop_H b i x hx).2).later (c.drop_later b) rfl rfl
theorem Settle.kill{K:St→Prop}{D:List Nat}{E:Env}{H:AHeap}(b:Nat)(h:Settle K ⟨D,E,H.upd b none⟩):Settle K ⟨D,E,H⟩:=by
 refine Settle.join ?_
 intro N c a hH hok hr
 exact⟨c.drop b,⟨D,E,H.upd b none⟩,by simp only[Ctx.drop,hH],rfl,Ctx.drop_ok hok b,hr.later (c.drop_later b),c.drop_later b,h⟩
theorem Enc.freeze{c:Ctx}(hok:Ok c){b L off n:Nat}{t:Bool}{ty:TypeId}{es:Nat}{cells:List AV}{v:Value}(h:Enc c (.own b L off n t) v)(hH:c.H b=some (.row ty es cells))(hL:cells.length=L)
 (hn:n=0∨off+n*es≤L):Enc (c.drop b) (.seq n ((cells.drop off).take (n*es)) t) v:=by
 cases h with
 |own _ _ _ _ _ _ _ hb hL' hv=>
  obtain⟨base,cap,arr,rfl,h0,h1,h2,h3,h4,h5⟩:=hv ty es cells hH hL
  obtain⟨arr',g1,g2,g3⟩:=hok.blk b _ hH
  obtain rfl:arr=arr':=by rw[h4]at g1;injection g1 with g1;injection g1
  refine .seq n _ t base cap (fun i=>arr.getD (off+i) undef) (fun e=>by subst e;simp) h1 h2 h3 ?_ ?_ ?_
  ·intro hpos
   have hpos':0<n:=by
    rcases Nat.eq_zero_or_pos n with e|e
    ·subst e;simp at hpos
    ·exact e
   have hbase:base=some ⟨c.μ b,off,none⟩:=h0.resolve_left (by omega)
   refine⟨c.μ b,off,hbase,?_,(Array.getElem?_eq_some_iff.1 h4).1,?_⟩
   ·rintro⟨i,hi,e⟩
    cases hx:(c.drop b).H i with
    |none=>have hi':ABlk.mut ((c.drop b).H i):=hi;rw[hx]at hi';exact hi'
    |some x=>
     obtain⟨hne,hci⟩:=c.drop_H b i x hx
     exact hne (hok.inj i b (by rw[hci];simp) (by rw[hH];simp) e)
   ·intro i hi
    have hi':off+i<cells.length:=by
     simp only[List.length_take,List.length_drop]at hi
     omega
    show World.cell? c.w _=_
    simp only[World.cell?,h4]
    rw[Array.getD_eq_getD_getElem?]
    have:off+i<arr.size:=by omega
    simp[this]
  ·rcases Nat.eq_zero_or_pos n with e|e
   ·exact .inl e
   ·exact .inr (by rw[h0.resolve_left (by omega)];simp)
  ·intro i hi
   have hi':off+i<cells.length:=by
    simp only[List.length_take,List.length_drop]at hi
    omega
   have h6:off+i<arr.size:=by omega
   have:=(g3 (off+i) hi' h6).later (c.drop_later b)
   simpa[Array.getD_eq_getD_getElem?,h6]using this
theorem Enc.freezeX{c:Ctx}(hok:Ok c){b L n:Nat}{t:Bool}{ty:TypeId}{cells:List AV}{v:Value}(h:Enc c (.own b L 0 n t) v)(hH:c.H b=some (.row ty 1 cells))(hL:cells.length=L)
 (hn:n=L) (h0:0<n):Enc (c.drop b) (.ext n cells) v:=by
 cases h with
 |own _ _ _ _ _ _ _ hb hL' hv=>
  obtain⟨base,cap,arr,rfl,q0,h1,h2,h3,h4,h5⟩:=hv ty 1 cells hH hL
  obtain⟨arr',g1,g2,g3⟩:=hok.blk b _ hH
  obtain rfl:arr=arr':=by rw[h4]at g1;injection g1 with g1;injection g1
  obtain rfl:=q0.resolve_left (by omega)
  refine .ext n cells (c.μ b) 0 cap (fun i=>arr.getD i undef) (by omega) (by omega) h2 ?_ (Array.getElem?_eq_some_iff.1 h4).1 (fun i hi=>?_) (fun i hi=>?_)
  ·rintro⟨i,hi,e⟩
   cases hx:(c.drop b).H i with
   |none=>have hi':ABlk.mut ((c.drop b).H i):=hi;rw[hx]at hi';exact hi'
   |some x=>
    obtain⟨hne,hci⟩:=c.drop_H b i x hx
    exact hne (hok.inj i b (by rw[hci];simp) (by rw[hH];simp) e)
  ·rw[Nat.zero_add]
   show World.cell? c.w _=_
   simp only[World.cell?,h4]
   rw[Array.getD_eq_getD_getElem?]
   have:i<arr.size:=by omega
   simp[this]
  ·have h6:i<arr.size:=by omega
   have:=(g3 i hi h6).later (c.drop_later b)
   simpa[Array.getD_eq_getD_getElem?,h6]using this
theorem Enc.freezeE{c:Ctx}(hok:Ok c){b L n:Nat}{t:Bool}{ty:TypeId}{es:Nat}{cells:List AV}{v:Value}(h:Enc c (.own b L 0 n t) v)(hH:c.H b=some (.row ty es cells))(hL:cells.length=L)
 (hn:L=n*es) (h0:0<n):Enc (c.drop b) (.exte es n cells) v:=by
 cases h with
 |own _ _ _ _ _ _ _ hb hL' hv=>
  obtain⟨base,cap,arr,rfl,q0,h1,h2,h3,h4,h5⟩:=hv ty es cells hH hL
  obtain⟨arr',g1,g2,g3⟩:=hok.blk b _ hH
  obtain rfl:arr=arr':=by rw[h4]at g1;injection g1 with g1;injection g1
  obtain rfl:=q0.resolve_left (by omega)
  have hmul:n*es≤cap*es:=Nat.mul_le_mul_right _ h1
  refine .exte es n cells (c.μ b) 0 cap (fun i=>arr.getD i undef) h1 (by omega) (by omega) h2 ?_ (Array.getElem?_eq_some_iff.1 h4).1 (fun i hi=>?_) (fun i hi=>?_)
  ·rintro⟨i,hi,e⟩
   cases hx:(c.drop b).H i with
   |none=>have hi':ABlk.mut ((c.drop b).H i):=hi;rw[hx]at hi';exact hi'
   |some x=>
    obtain⟨hne,hci⟩:=c.drop_H b i x hx
    exact hne (hok.inj i b (by rw[hci];simp) (by rw[hH];simp) e)
  ·rw[Nat.zero_add]
   show World.cell? c.w _=_
   simp only[World.cell?,h4]
   rw[Array.getD_eq_getD_getElem?]
   have:i<arr.size:=by omega
   simp[this]
  ·have h6:i<arr.size:=by omega
   have:=(g3 i hi h6).later (c.drop_later b)
   simpa[Array.getD_eq_getD_getElem?,h6]using this
theorem Settle.freeze{K:St→Prop}{D:List Nat}{E:Env}{H:AHeap}(t:Nat){b L off n:Nat}{ti:Bool}{ty:TypeId}{es:Nat}{cells:List AV}(he:E.get t=.own b L off n ti)(hH:H b=some (.row ty es cells))
 (hL:cells.length=L) (hn:n=0∨off+n*es≤L) (h:Settle K ⟨D,E.set t (.seq n ((cells.drop off).take (n*es)) ti),H.upd b none⟩):Settle K ⟨D,E,H⟩:=by
 refine Settle.join ?_
 intro N c a hc hok hr
 refine⟨c.drop b,⟨D,E.set t (.seq n ((cells.drop off).take (n*es)) ti),H.upd b none⟩,by simp only[Ctx.drop,hc],rfl,Ctx.drop_ok hok b,?_,c.drop_later b,h⟩
 have hr':=hr.later (c.drop_later b)
 refine⟨hr'.size,fun u=>?_,hr'.dlen,hr'.dmark⟩
 simp only[Env.get_set]
 split
 ·rename_i e;subst e
  have:=hr.tmp u
  rw[show E.get u=_ from he]at this
  exact Enc.freeze hok this (by rw[hc];exact hH) hL hn
 ·exact hr'.tmp u
def zDK(K:St→Prop)(Q:Exit→St→Prop):Exit→St→Prop
 |.normal,s=>K s
 |e,s=>Q e s
def zDZ(id:Nat)(Q:Exit→St→Prop):Exit→St→Prop
 |.exit id',s=>if id'=id then Q .normal s else Q (.exit id') s
 |e,s=>Q e s
section
variable {P:Program} {rr:Bool} {N:Nat} {Q:Exit→St→Prop} {s:St}
theorem zYc(h:Q .normal s):AW P rr N .skip Q s:=fun _ c _ _ hH hok hr=>wpIn_skip ⟨c,s,hH,rfl,hok,hr,Later.refl c,h⟩
theorem zUa{l:Nat}(h:Q .normal s):AW P rr N (.label l) Q s:=fun _ c _ _ hH hok hr=>wpIn_label ⟨c,s,hH,rfl,hok,hr,Later.refl c,h⟩
theorem zPo{id:Nat}(h:Q (.exit id) s):AW P rr N (.exit id) Q s:=fun _ c _ _ hH hok hr=>wpIn_exit ⟨c,s,hH,rfl,hok,hr,Later.refl c,h⟩
theorem zXY{l:Nat}(h:Q (.goto l) s):AW P rr N (.goto l) Q s:=fun _ c _ _ hH hok hr=>wpIn_goto ⟨c,s,hH,rfl,hok,hr,Later.refl c,h⟩
theorem zWC(h:Q .ret s):AW P rr N .ret Q s:=fun _ c _ _ hH hok hr=>wpIn_ret ⟨c,s,hH,rfl,hok,hr,Later.refl c,h⟩
theorem zQ1{x y:Code}(h:AW P rr N x (zDK (fun s'=>AW P rr N y Q s') Q) s):AW P rr N (.seq x y) Q s:=by
 intro ro c a hro hH hok hr
 refine wpIn_seq (wpIn_mono (h ro c a hro hH hok hr) fun e a' w' hp=>?_)
 obtain⟨c',s',h1,h2,h3,h4,h5,h6⟩:=hp
 cases e with
 |normal=>
  subst h2
  exact wpIn_mono (h6 ro c' a' hro h1 h3 h4) fun _ _ _ hp=>Post.mono h5 (fun _ q=>q) hp
 |_=>exact⟨c',s',h1,h2,h3,h4,h5,h6⟩
theorem zYw{x:Operand}{y z:Code}{b:Bool}(hx: ∀c a,c.H=s.H→Ok c→RelA N c s.D s.E a→a.eval x=.bool b)(ht:b=true→AW P rr N y Q s)(hf:b=false→AW P rr N z Q s):AW P rr N (.cond x y z) Q s:=
 fun ro c a hro hH hok hr=>wpIn_cond_split (hx c a hH hok hr) (fun e=>ht e ro c a hro hH hok hr) (fun e=>hf e ro c a hro hH hok hr)
theorem zT8{id:Nat}{x:Code}(h:AW P rr N x (zDZ id Q) s):AW P rr N (.block id x) Q s:=by
 intro ro c a hro hH hok hr
 refine wpIn_block (wpIn_mono (h ro c a hro hH hok hr) fun e a' w' hp=>?_)
 obtain⟨c',s',h1,h2,h3,h4,h5,h6⟩:=hp
 cases e with
 |exit id'=>
  simp only[Exit.inBlock]
  simp only[zDZ]at h6
  split at h6
  ·rename_i e;rw[if_pos e];exact⟨c',s',h1,h2,h3,h4,h5,h6⟩
  ·rename_i e;rw[if_neg e];exact⟨c',s',h1,h2,h3,h4,h5,h6⟩
 |_=>exact⟨c',s',h1,h2,h3,h4,h5,h6⟩
theorem zW4{x:Code}(I:Nat→St→Prop)(h0: ∃n,Settle (I n) s)(h: ∀n s',I n s'→AW P rr N x (zDK (Settle fun s''=> ∃n',n'<n∧I n' s'') Q) s'):AW P rr N (.loop x) Q s:=by
 intro ro c a hro hH hok hr
 obtain⟨n0,h0⟩:=h0
 have start: ∃(n:Nat)(c':Ctx)(s':St),c'.H=s'.H∧c'.w=c.w∧Ok c'∧RelA N c' s'.D s'.E a∧Later c c'∧I n s':=by
  obtain⟨c',s',h1,h2,h3,h4,h5,h6⟩:=h0 N c a hH hok hr
  exact⟨n0,c',s',h1,h2,h3,h4,h5,h6⟩
 let J:Nat→Act→World→Prop:=fun n a' w'=> ∃(c':Ctx)(s':St),c'.H=s'.H∧c'.w=w'∧Ok c'∧RelA N c' s'.D s'.E a'∧Later c c'∧I n s'
 have key: ∀n a' w',J n a' w'→(Code.loop x).wpIn (FW ro) 0 P (Post N c Q) a' w':=by
  intro n a' w' hJ b k cs hb1 hb2 hb3
  have round: ∀n a w,J n a w→x.wpIn (FW ro) 0 P (Exit.then (fun a' w'=> ∃n',n'<n∧J n' a' w') (Post N c Q)) a w:=by
   intro n a1 w1 hJ1
   obtain⟨c1,s1,h1,h2,h3,h4,h5,h6⟩:=hJ1
   subst h2
   refine wpIn_mono (h n s1 h6 ro c1 a1 hro h1 h3 h4) fun e a2 w2 hp=>?_
   obtain⟨c2,s2,g1,g2,g3,g4,g5,g6⟩:=hp
   cases e with
   |normal=>
    obtain⟨c3,s3,k1,k2,k3,k4,k5,n',hn,k6⟩:=g6 N c2 a2 g1 g3 g4
    exact⟨n',hn,c3,s3,k1,k2.trans g2,k3,k4,(h5.trans g5).trans k5,k6⟩
   |_=>exact⟨c2,s2,g1,g2,g3,g4,h5.trans g5,g6⟩
  have go: ∀m a w,J m a w→∃e a' w',Post N c Q e a' w'∧ArrivesIn (Machine.fenced P (FW ro)) P (lone (b.atR a (.code x::.inLoop x::k)) cs w) b k cs e a' w':=by
   intro m
   induction m using Nat.strongRecOn with
   |_ m ih=>
    intro a w hI
    obtain⟨e,a₁,w₁,hq,harr⟩:=round m a w hI b (.inLoop x::k) cs hb1 hb2 hb3
    cases e with
    |normal=>
     obtain⟨n',hlt,hI₁⟩:=hq
     obtain⟨e₂,a₂,w₂,hq₂,harr₂⟩:=ih n' hlt a₁ w₁ hI₁
     exact⟨e₂,a₂,w₂,hq₂,.of_steps (StepsIn.trans harr (.one (fenced_calm hb2 hb3 rfl) stepR_inLoop)) harr₂⟩
    |exit id=>exact⟨_,a₁,w₁,hq,.pass (x:=.inLoop x) rfl (fun _ _=>.inl (by simp)) harr⟩
    |goto l=>exact⟨_,a₁,w₁,hq,.pass (x:=.inLoop x) rfl (fun _ _=>.inl (by simp)) harr⟩
    |ret=>exact⟨_,a₁,w₁,hq,.pass (x:=.inLoop x) rfl (fun _ _=>.inl (by simp)) harr⟩
    |panic ch=>exact⟨_,a₁,w₁,hq,.pass (x:=.inLoop x) rfl (fun _ _=>.inl (by simp)) harr⟩
    |outgrown=>exact⟨_,a₁,w₁,hq,.pass (x:=.inLoop x) rfl (fun _ _=>.inl (by simp)) harr⟩
  obtain⟨e,a',w',hq,harr⟩:=go n a' w' hJ
  exact⟨e,a',w',hq,.of_steps (.one (fenced_calm hb2 hb3 rfl) stepR_loop) harr⟩
 obtain⟨n,c',s',h1,h2,h3,h4,h5,h6⟩:=start
 exact key n a c.w ⟨c',s',h1,h2,h3,h4,h5,h6⟩
def zF0(Q:Exit→St→Prop):Exit→St→Prop
 |.goto _,_=>False
 |e,s=>Q e s
theorem zAx{P:Program}{b:Frame}{a:Act}{k:List Item}{cs:List Frame}{w:World}{c:Code}:step P (lone (b.atR a (.code (.scope c)::k)) cs w)=.next (lone (b.atR a (.code c::.inScope c::k)) cs w):=
 step_lone_go (by simp[stepG,stepG.exec,Frame.atR])
theorem zC3{P:Program}{b:Frame}{a:Act}{k:List Item}{cs:List Frame}{w:World}{c:Code}:step P (lone (b.atR a (.inScope c::k)) cs w)=.next (lone (b.atR a k) cs w):=
 step_lone_go (by simp[stepG,stepG.exec,Frame.atR])
theorem zKC{x:Code}(h:AW P rr N x (zF0 Q) s):AW P rr N (.scope x) Q s:=by
 intro ro c a hro hH hok hr b k cs hb1 hb2 hb3
 have h0:(lone (b.atR a (.code (.scope x)::k)) cs c.w).fenced P (FW ro):=fenced_calm hb2 hb3 rfl
 obtain⟨e,a₁,w₁,hq,harr⟩:=h ro c a hro hH hok hr b (.inScope x::k) cs hb1 hb2 hb3
 have hx: ∀id,exitTo id (.inScope x::k)=exitTo id k:=fun id=>by simp[exitTo]
 cases e with
 |normal=>exact⟨.normal,a₁,w₁,hq,.head h0 zAx (StepsIn.trans harr (.one (fenced_calm hb2 hb3 rfl) zC3))⟩
 |exit id=>exact⟨.exit id,a₁,w₁,hq,fun k' hk=>.head h0 zAx (harr.1 k' (by rw[hx];exact hk)),fun hr' hk=>let⟨k₁,h1,h2⟩:=harr.2 hr' (by rw[hx];exact hk);⟨k₁,h1,.head h0 zAx h2⟩⟩
 |goto l=>obtain⟨_,_,_,_,_,_,_,h6⟩:=hq;exact h6.elim
 |ret=>exact⟨_,a₁,w₁,hq,.of_steps (.one h0 zAx) harr⟩
 |panic ch=>exact⟨_,a₁,w₁,hq,.of_steps (.one h0 zAx) harr⟩
 |outgrown=>exact⟨_,a₁,w₁,hq,.of_steps (b:=b) (k:=k) (cs:=cs) (e:=.outgrown) (.one h0 zAx) harr⟩
def zHx(l:Nat)(K:St→Prop)(Q:Exit→St→Prop):Exit→St→Prop
 |.goto l',s=>l'=l∧K s
 |e,s=>Q e s
theorem zQp{body y:Code}{l:Nat}(hf:findLabel body l=some (.seq .skip y))(J:Nat→St→Prop)(h0:AW P rr N body (zHx l (Settle fun s'=> ∃n,J n s') Q) s)(h: ∀n s',J n s'→AW P rr N y (zHx l (Settle fun s''=> ∃n',n'<n∧J n' s'') Q) s'):AW P rr N (.scope body) Q s:=by
 intro ro c a hro hH hok hr b k cs hb1 hb2 hb3
 have hg:gotoIn l (.inScope body::k)=some (.code (.seq .skip y)::.inScope body::k):=by simp[gotoIn,hf]
 let JJ:Nat→Act→World→Prop:=fun n a' w'=> ∃(c':Ctx)(s':St),c'.H=s'.H∧c'.w=w'∧Ok c'∧RelA N c' s'.D s'.E a'∧Later c c'∧J n s'
 let PJ:(Nat→Prop)→Exit→Act→World→Prop:=fun F e a' w'=>match e with
  |.goto l'=>l'=l∧∃n',F n'∧JJ n' a' w'
  |e=>Post N c Q e a' w'
 have hy: ∀n a' w',JJ n a' w'→y.wpIn (FW ro) 0 P (PJ fun n'=>n'<n) a' w':=by
  intro n a1 w1 hJ1
  obtain⟨c1,s1,h1,h2,h3,h4,h5,h6⟩:=hJ1
  subst h2
  refine wpIn_mono (h n s1 h6 ro c1 a1 hro h1 h3 h4) fun e a2 w2 hp=>?_
  obtain⟨c2,s2,g1,g2,g3,g4,g5,g6⟩:=hp
  cases e with
  |goto l'=>
   obtain⟨e1,g6⟩:=g6
   obtain⟨c3,s3,k1,k2,k3,k4,k5,n',hn,k6⟩:=g6 N c2 a2 g1 g3 g4
   exact⟨e1,n',hn,c3,s3,k1,k2.trans g2,k3,k4,(h5.trans g5).trans k5,k6⟩
  |_=>exact⟨c2,s2,g1,g2,g3,g4,h5.trans g5,g6⟩
 have key: ∀n a' w',JJ n a' w'→∃e a₂ w₂,Post N c Q e a₂ w₂∧ArrivesIn (Machine.fenced P (FW ro)) P (lone (b.atR a' (.code (.seq .skip y)::.inScope body::k)) cs w') b k cs e a₂ w₂:=by
  intro n
  induction n using Nat.strongRecOn with
  |_ n ih=>
   intro a' w' hJ
   have hw:(Code.seq .skip y).wpIn (FW ro) 0 P (PJ fun n'=>n'<n) a' w':=wpIn_seq (wpIn_skip (hy n a' w' hJ))
   obtain⟨e,a₁,w₁,hq,harr⟩:=hw b (.inScope body::k) cs hb1 hb2 hb3
   have hx: ∀id,exitTo id (.inScope body::k)=exitTo id k:=fun id=>by simp[exitTo]
   cases e with
   |normal=>exact⟨.normal,a₁,w₁,hq,StepsIn.trans harr (.one (fenced_calm hb2 hb3 rfl) zC3)⟩
   |exit id=>exact⟨.exit id,a₁,w₁,hq,fun k' hk=>harr.1 k' (by rw[hx];exact hk),fun hr' hk=>harr.2 hr' (by rw[hx];exact hk)⟩
   |goto l'=>
    obtain⟨rfl,n',hlt,hI⟩:=hq
    obtain⟨e₂,a₂,w₂,hq₂,harr₂⟩:=ih n' hlt a₁ w₁ hI
    exact⟨e₂,a₂,w₂,hq₂,.of_steps (harr.1 _ hg) harr₂⟩
   |ret=>exact⟨_,a₁,w₁,hq,harr⟩
   |panic ch=>exact⟨_,a₁,w₁,hq,harr⟩
   |outgrown=>exact⟨_,a₁,w₁,hq,harr⟩
 have hs:(lone (b.atR a (.code (.scope body)::k)) cs c.w).fenced P (FW ro):=fenced_calm hb2 hb3 rfl
 have first:body.wpIn (FW ro) 0 P (PJ fun _=>True) a c.w:=by
  refine wpIn_mono (h0 ro c a hro hH hok hr) fun e a1 w1 hp=>?_
  obtain⟨c1,s1,h1,h2,h3,h4,h5,h6⟩:=hp
  cases e with
  |goto l'=>
   obtain⟨e1,h6⟩:=h6
   obtain⟨c3,s3,k1,k2,k3,k4,k5,n',k6⟩:=h6 N c1 a1 h1 h3 h4
   exact⟨e1,n',trivial,c3,s3,k1,k2.trans h2,k3,k4,h5.trans k5,k6⟩
  |_=>exact⟨c1,s1,h1,h2,h3,h4,h5,h6⟩
 obtain⟨e,a₁,w₁,hq,harr⟩:=first b (.inScope body::k) cs hb1 hb2 hb3
 have hx: ∀id,exitTo id (.inScope body::k)=exitTo id k:=fun id=>by simp[exitTo]
 cases e with
 |normal=>exact⟨.normal,a₁,w₁,hq,.head hs zAx (StepsIn.trans harr (.one (fenced_calm hb2 hb3 rfl) zC3))⟩
 |exit id=>exact⟨.exit id,a₁,w₁,hq,fun k' hk=>.head hs zAx (harr.1 k' (by rw[hx];exact hk)),fun hr' hk=>let⟨k₁,h1,h2⟩:=harr.2 hr' (by rw[hx];exact hk);⟨k₁,h1,.head hs zAx h2⟩⟩
 |goto l'=>
  obtain⟨rfl,n',_,hI⟩:=hq
  obtain⟨e₂,a₂,w₂,hq₂,harr₂⟩:=key n' a₁ w₁ hI
  exact⟨e₂,a₂,w₂,hq₂,.of_steps (.head hs zAx (harr.1 _ hg)) harr₂⟩
 |ret=>exact⟨_,a₁,w₁,hq,.of_steps (.one hs zAx) harr⟩
 |panic ch=>exact⟨_,a₁,w₁,hq,.of_steps (.one hs zAx) harr⟩
 |outgrown=>exact⟨_,a₁,w₁,hq,.of_steps (b:=b) (k:=k) (cs:=cs) (e:=.outgrown) (.one hs zAx) harr⟩
end
end Go.Proofs.YtmndejlpfmmaiaaGreatDoor.Fw
namespace Go.Proofs.YtmndejlpfmmaiaaGreatDoor.Fw
open Go
def AV.cell:AV→Bool
 |.bot|.agg _|.tup _=>false
 |_=>true
theorem Enc.oneCell{c:Ctx}{x:AV}{v:Value}(h:Enc c x v)(hx:x.cell=true):v.oneCell'=true∧v.cells= #[v]:=by
 cases h with
 |yld b v hs=>obtain⟨p,rfl⟩:=hs;exact⟨rfl,rfl⟩
 |own b L off n t v hs=>obtain⟨p,r,rfl,_⟩:=hs;exact⟨rfl,rfl⟩
 |ptr b L off v hs=>obtain⟨p,rfl⟩:=hs;exact⟨rfl,rfl⟩
 |bot|agg|tup=>cases hx
 |_=>exact⟨rfl,rfl⟩
def AV.cells:AV→Option (List AV)
 |.agg l=>if l.all AV.cell then some l else none
 |x=>if x.cell then some [x]else none
theorem Enc.cells{c:Ctx}{x:AV}{v:Value}{l:List AV}(h:Enc c x v)(hx:x.cells=some l):
 v.cells.size=l.length∧(∀i(h:i<l.length)(h':i<v.cells.size),Enc c (l[i]) (v.cells[i]))∧(∀u∈v.cells.toList,u.oneCell'=true):=by
 have one: ∀{x:AV},Enc c x v→(if x.cell then some [x]else none)=some l→v.cells.size=l.length∧(∀i(h:i<l.length)(h':i<v.cells.size),Enc c (l[i]) (v.cells[i]))∧(∀u∈v.cells.toList,u.oneCell'=true):=by
  intro x h hx
  split at hx
  ·rename_i hc
   injection hx with hx
   subst hx
   obtain⟨h1,h2⟩:=h.oneCell hc
   rw[h2]
   refine⟨rfl,fun i hi hi'=>?_,fun u hu=>?_⟩
   ·have:i=0:=by simp at hi;omega
    subst this
    exact h
   ·have:u=v:=by simpa using hu
    rw[this];exact h1
  ·cases hx
 cases x with
 |agg l'=>
  simp only[AV.cells]at hx
  split at hx
  ·rename_i hc
   injection hx with hx
   subst hx
   cases h with
   |agg _ vs hlen hcs=>
    refine⟨hlen,fun i hi hi'=>hcs i hi hi',fun u hu=>?_⟩
    obtain⟨i,hi,rfl⟩:=List.mem_iff_getElem.1 hu
    have hi':i<vs.size:=by simpa[Value.cells]using hi
    have:=hcs i (by omega) hi'
    refine(this.oneCell ?_).1
    exact(List.all_eq_true.1 hc) _ (List.getElem_mem _)
  ·cases hx
 |_=>exact one h hx
def Ctx.push(c:Ctx)(o:Obj):Ctx:={ c with w:=c.w.alloc o }
theorem zB7(w:World)(o:Obj){k:Nat}(h:k<w.heap.size):(w.alloc o).heap[k]? =w.heap[k]? :=by
 show(w.heap.push o)[k]? =_
 rw[Array.getElem?_push,if_neg (by omega)]
theorem zB1(w:World)(o:Obj):(w.alloc o).heap[w.heap.size]? =some o:=by
 show(w.heap.push o)[w.heap.size]? =_
 simp
theorem zHH{c c':Ctx}(hμ:c'.μ=c.μ)(hn:c'.U=c.U)(hR:c'.R=c.R)(hH:c'.H=c.H)(hs:c.w.heap.size≤c'.w.heap.size)(ho:c'.w.os=c.w.os)(ht:c'.w.tape=c.w.tape)(hp:c'.w.output=c.w.output)
 (hk: ∀k,k<c.w.heap.size→c'.w.heap[k]? =c.w.heap[k]?):Later c c':=by
 refine⟨⟨hs,ho,ht,hp,fun b hb=>hn▸hb,fun b x' hb hx=>⟨x',hH▸hx,Nat.le_refl _,fun _=>⟨by rw[hμ],fun ty es cells e=>⟨cells,e,fun arr h=>⟨arr,?_,rfl⟩⟩⟩⟩,fun k hk' hm=>⟨hk k hk',?_⟩⟩,fun b hb=>⟨hR▸hb,fun h=>hn▸h⟩⟩
 ·rw[hμ,hk _ (Array.getElem?_eq_some_iff.1 h).1];exact h
 ·rintro⟨b,h1,h2⟩
  exact hm ⟨b,hH▸h1,hμ▸h2⟩
theorem BlkOk.lt{c:Ctx}{b:Nat}{x:ABlk}(h:BlkOk c b x):c.μ b<c.w.heap.size:=by
 cases x with
 |row ty es cells=>obtain⟨arr,h1,_⟩:=h;exact(Array.getElem?_eq_some_iff.1 h1).1
 |raw o=>exact(Array.getElem?_eq_some_iff.1 h.1).1
 |glob g cells=>rw[h.1];exact h.2.1
 |loop st pend fn ps assign body n E=>obtain⟨_,_,h1,_⟩:=h;exact(Array.getElem?_eq_some_iff.1 h1).1
theorem zQ6{c c':Ctx}(hok:Ok c)(hl:Later c c')(hμ:c'.μ=c.μ)(hn:c'.U=c.U)(hR:c'.R=c.R)(hH:c'.H=c.H)(hk: ∀k,k<c.w.heap.size→c'.w.heap[k]? =c.w.heap[k]?):Ok c':=by
 refine⟨fun b hb=>by rw[hn];exact hok.used b (hH▸hb),by rw[hn,hR];exact hok.fin,fun b b' h1 h2 e=>hok.inj b b' (hH▸h1) (hH▸h2) (hμ▸e),fun b x hx=>?_⟩
 have h:=hok.blk b x (hH▸hx)
 exact h.later hl (by rw[hμ]) (hk _ h.lt)
theorem Ctx.push_later(c:Ctx)(o:Obj):Later c (c.push o):=zHH rfl rfl rfl rfl (by simp[Ctx.push]) rfl rfl rfl (fun _ h=>zB7 _ _ h)
theorem Ctx.push_ok{c:Ctx}(h:Ok c)(o:Obj):Ok (c.push o):=zQ6 h (c.push_later o) rfl rfl rfl rfl (fun _ h=>zB7 _ _ h)
def Ctx.drew(c:Ctx):Ctx:={ c with w:=c.w.drew }
theorem Ctx.drew_later(c:Ctx):Later c c.drew:=zHH rfl rfl rfl rfl (Nat.le_refl _) rfl rfl rfl (fun _ _=>rfl)
theorem Ctx.drew_ok{c:Ctx}(h:Ok c):Ok c.drew:=zQ6 h c.drew_later rfl rfl rfl rfl (fun _ _=>rfl)
def Ctx.new(c:Ctx)(b:Nat)(o:Obj)(x:ABlk):Ctx:=
 { μ:=fun i=>if i=b then c.w.heap.size else c.μ i,U:=fun i=>c.U i∨i=b,R:=c.R,H:=c.H.upd b (some x),w:=c.w.alloc o }
theorem zBS{H:AHeap}{b i:Nat}{x:Option ABlk}{y:ABlk}(h:(H.upd b x) i=some y):(i=b∧x=some y)∨(i≠b∧H i=some y):=by
 have h2:(if i=b then x else H i)=some y:=h
 split at h2
 ·exact .inl ⟨‹_›,h2⟩
 ·exact .inr ⟨‹_›,h2⟩
theorem zFA{H:AHeap}{b i:Nat}{x:Option ABlk}(h:ABlk.mut ((H.upd b x) i)):i=b∨(i≠b∧ABlk.mut (H i)):=by
 have h2:ABlk.mut (if i=b then x else H i):=h
 split at h2
 ·exact .inl ‹_›
 ·exact .inr ⟨‹_›,h2⟩
theorem zGH{x:Option ABlk}{ty:TypeId}{es:Nat}{cells:List AV}(h:x=some (.row ty es cells)):ABlk.mut x:=by rw[h];trivial
theorem zD1{H:AHeap}{b i:Nat}{x:Option ABlk}(h:(H.upd b x) i≠none):i=b∨(i≠b∧H i≠none):=by
 have h2:(if i=b then x else H i)≠none:=h
 split at h2
 ·exact .inl ‹_›
 ·exact .inr ⟨‹_›,h2⟩
theorem zAC(H:AHeap)(b:Nat)(x:Option ABlk):(H.upd b x) b=x:=by simp[AHeap.upd]
theorem zAA(H:AHeap){b i:Nat}(x:Option ABlk)(h:i≠b):(H.upd b x) i=H i:=by simp[AHeap.upd,h]
theorem zAR(H:AHeap)(b:Nat)(x y:Option ABlk):(H.upd b x).upd b y=H.upd b y:=by
 funext i;simp only[AHeap.upd];split<;>rfl
theorem zAZ(H:AHeap){b:Nat}{x:Option ABlk}(h:H b=x):H.upd b x=H:=by
 funext i;simp only[AHeap.upd];split
 ·rename_i e;rw[e,h]
 ·rfl
theorem zAq(H:AHeap){b b':Nat}(x y:Option ABlk)(h:b≠b'):(H.upd b x).upd b' y=(H.upd b' y).upd b x:=by
 funext i;simp only[AHeap.upd];split<;>split<;>simp_all
theorem Ctx.new_later{c:Ctx}(hok:Ok c){b:Nat}(hb: ¬c.U b∧¬c.R b)(o:Obj)(x:ABlk):Later c (c.new b o x):=by
 refine⟨⟨by simp[Ctx.new],rfl,rfl,rfl,fun i hi=>.inl hi,fun i x' hi hx=>?_,fun k hk hm=>⟨zB7 _ _ hk,?_⟩⟩,fun i hi=>⟨hi,fun h=>h.resolve_right fun e=>hb.2 (e▸hi)⟩⟩
 ·rcases zBS hx with⟨e,_⟩|⟨hne,hx⟩
  ·exact absurd (e▸hi) hb.1
  ·have hμ:(c.new b o x).μ i=c.μ i:=by simp[Ctx.new,hne]
   refine⟨x',hx,Nat.le_refl _,fun _=>⟨hμ,fun ty es cells e=>⟨cells,e,fun arr h=>⟨arr,?_,rfl⟩⟩⟩⟩
   rw[hμ]
   exact(zB7 _ _ (Array.getElem?_eq_some_iff.1 h).1).trans h
 ·rintro⟨i,h1,h2⟩
  rcases zFA h1 with e|⟨hne,h1⟩
  ·simp only[Ctx.new,e,if_true]at h2
   omega
  ·exact hm ⟨i,h1,by simpa[Ctx.new,hne]using h2⟩
theorem Ctx.new_ok{c:Ctx}(hok:Ok c){b:Nat}(hb: ¬c.U b∧¬c.R b)(o:Obj)(x:ABlk)(hx:BlkOk (c.new b o x) b x):Ok (c.new b o x):=by
 have hl:=Ctx.new_later hok hb o x
 have hμ: ∀i,i≠b→(c.new b o x).μ i=c.μ i:=fun i h=>by simp[Ctx.new,h]
 have hμb:(c.new b o x).μ b=c.w.heap.size:=by simp[Ctx.new]
 have lt: ∀i,c.H i≠none→c.μ i<c.w.heap.size:=by
  intro i hi
  cases hx:c.H i with
  |none=>exact absurd hx hi
  |some y=>exact(hok.blk i y hx).lt
 refine⟨fun i hi=>?_,?_,fun i j hi hj e=>?_,fun i y hy=>?_⟩
 ·rcases zD1 hi with e|⟨_,h⟩
  ·exact .inr e
  ·exact .inl (hok.used i h)
 ·obtain⟨M,hM⟩:=hok.fin
  refine⟨max M (b+1),fun i hi=>?_⟩
  rcases hi with(h|h)|h
  ·have:=hM i (.inl h);omega
  ·omega
  ·have:=hM i (.inr h);omega
 ·rcases zD1 hi with ei|⟨hi1,hi2⟩<;>rcases zD1 hj with ej|⟨hj1,hj2⟩
  ·rw[ei,ej]
  ·rw[ei,hμb,hμ j hj1]at e;have:=lt j hj2;omega
  ·rw[ej,hμb,hμ i hi1]at e;have:=lt i hi2;omega
  ·rw[hμ i hi1,hμ j hj1]at e;exact hok.inj i j hi2 hj2 e
 ·rcases zBS hy with⟨e,h⟩|⟨hne,h⟩
  ·subst e;injection h with h;subst h;exact hx
  ·have hb':=hok.blk i y h
   exact hb'.later hl (hμ i hne) (zB7 _ _ hb'.lt)
theorem Ctx.new_row{c:Ctx}(hok:Ok c){b:Nat}(hb: ¬c.U b∧¬c.R b)(ty es:Nat)(cells:List AV)(arr:Array Value)(hlen:cells.length≤arr.size)
 (he: ∀i(h:i<cells.length)(h':i<arr.size),Enc c (cells[i]) (arr[i])):Ok (c.new b (.cells arr ty) (.row ty es cells)):=
 Ctx.new_ok hok hb _ _ ⟨arr,by
  show(c.w.alloc _).heap[(if b=b then c.w.heap.size else c.μ b)]? =_
  rw[if_pos rfl];exact zB1 _ _,hlen,fun i h h'=>(he i h h').later (Ctx.new_later hok hb _ _)⟩
def Ctx.put(c:Ctx)(b:Nat)(x:ABlk)(arr:Array Value):Ctx:={ c with H:=c.H.upd b (some x),w:=c.w.setRow (c.μ b) arr }
theorem Ctx.put_later{c:Ctx}(hok:Ok c){b ty es:Nat}{cells cells':List AV}{arr arr':Array Value}(hH:c.H b=some (.row ty es cells))(hw:c.w.heap[c.μ b]? =some (.cells arr ty))
 (hle:cells.length≤cells'.length) (hs:arr'.size=arr.size):Later c (c.put b (.row ty es cells') arr'):=by
 refine⟨⟨by simp[Ctx.put],rfl,rfl,rfl,fun _ h=>h,fun i x' hi hx=>?_,fun k hk hm=>⟨setRow_other _ _ _ _ ?_,?_⟩⟩,fun _ h=>⟨h,fun k=>k⟩⟩
 ·rcases zBS hx with⟨e,h⟩|⟨hne,hx⟩
  ·subst e;injection h with h;subst h
   refine⟨_,hH,hle,fun _=>⟨rfl,fun ty' es' cells'' e=>?_⟩⟩
   injection e with e1 e2 e3
   subst e1;subst e2;subst e3
   refine⟨cells,rfl,fun zPS h=>⟨arr',setRow_heap _ _ arr _ _ _ hw,?_⟩⟩
   rw[hw]at h;injection h with h;injection h with h;rw[hs,h]
  ·refine⟨x',hx,Nat.le_refl _,fun _=>⟨rfl,fun ty' es' cells'' e=>⟨cells'',e,fun zPS h=>⟨zPS,?_,rfl⟩⟩⟩⟩
   have hne':c.μ i≠c.μ b:=fun e=>hne (hok.inj i b (by rw[hx];simp) (by rw[hH];simp) e)
   show(c.w.setRow _ _).heap[c.μ i]? =_
   rw[setRow_other _ _ _ _ hne'];exact h
 ·rintro rfl
  exact hm ⟨b,zGH hH,rfl⟩
 ·rintro⟨i,h1,h2⟩
  rcases zFA h1 with e|⟨_,h1⟩
  ·subst e;exact hm ⟨i,zGH hH,h2⟩
  ·exact hm ⟨i,h1,h2⟩
theorem Ctx.put_ok{c:Ctx}(hok:Ok c){b ty es:Nat}{cells cells':List AV}{arr arr':Array Value}(hH:c.H b=some (.row ty es cells))(hw:c.w.heap[c.μ b]? =some (.cells arr ty))
 (hle:cells.length≤cells'.length) (hs:arr'.size=arr.size) (hlen:cells'.length≤arr'.size)
 (he: ∀i(h:i<cells'.length)(h':i<arr'.size),Enc c (cells'[i]) (arr'[i])):Ok (c.put b (.row ty es cells') arr'):=by
 have hl:=Ctx.put_later hok hH hw hle hs
 refine⟨fun i hi=>?_,hok.fin,fun i j hi hj e=>?_,fun i y hy=>?_⟩
 ·rcases zD1 hi with e|⟨_,h⟩
  ·subst e;exact hok.used i (by rw[hH];simp)
  ·exact hok.used i h
 ·have ne: ∀i,(c.H.upd b (some (.row ty es cells'))) i≠none→c.H i≠none:=by
   intro i hi
   rcases zD1 hi with e|⟨_,h⟩
   ·subst e;rw[hH];simp
   ·exact h
  exact hok.inj i j (ne i hi) (ne j hj) e
 ·rcases zBS hy with⟨e,h⟩|⟨hne,h⟩
  ·subst e;injection h with h;subst h
   exact⟨arr',setRow_heap _ _ arr _ _ _ hw,hlen,fun i h h'=>(he i h h').later hl⟩
  ·have hb':=hok.blk i y h
   refine hb'.later hl rfl (setRow_other _ _ _ _ ?_)
   exact fun e=>hne (hok.inj i b (by rw[h];simp) (by rw[hH];simp) e)
def Ctx.move(c:Ctx)(b:Nat)(x:ABlk)(o:Obj):Ctx:={ c with μ:=fun i=>if i=b then c.w.heap.size else c.μ i,H:=c.H.upd b (some x),w:=c.w.alloc o }
theorem Ctx.move_later{c:Ctx}{b:Nat}{x y:ABlk}(hH:c.H b=some x)(hlt:x.len<y.len)(o:Obj):Later c (c.move b y o):=by
 refine⟨⟨by simp[Ctx.move],rfl,rfl,rfl,fun _ h=>h,fun i x' hi hx=>?_,fun k hk hm=>⟨zB7 _ _ hk,?_⟩⟩,fun _ h=>⟨h,fun k=>k⟩⟩
 ·rcases zBS hx with⟨e,h⟩|⟨hne,hx⟩
  ·subst e;injection h with h;subst h
   exact⟨x,hH,by omega,fun e=>by omega⟩
  ·have hμ:(c.move b y o).μ i=c.μ i:=by simp[Ctx.move,hne]
   refine⟨x',hx,Nat.le_refl _,fun _=>⟨hμ,fun ty es cells e=>⟨cells,e,fun arr h=>⟨arr,?_,rfl⟩⟩⟩⟩
   rw[hμ]
   exact(zB7 _ _ (Array.getElem?_eq_some_iff.1 h).1).trans h
 ·rintro⟨i,h1,h2⟩
  rcases zFA h1 with e|⟨hne,h1⟩
  ·simp only[Ctx.move,e,if_true]at h2
   omega
  ·exact hm ⟨i,h1,by simpa[Ctx.move,hne]using h2⟩
theorem Ctx.move_ok{c:Ctx}(hok:Ok c){b ty es:Nat}{x:ABlk}{cells':List AV}{arr:Array Value}(hH:c.H b=some x)(hlt:x.len<cells'.length)(hlen:cells'.length≤arr.size)
 (he: ∀i(h:i<cells'.length)(h':i<arr.size),Enc c (cells'[i]) (arr[i])):Ok (c.move b (.row ty es cells') (.cells arr ty)):=by
 have hl:=Ctx.move_later (y:=.row ty es cells') hH hlt (.cells arr ty)
 have hμ: ∀i,i≠b→(c.move b (.row ty es cells') (.cells arr ty)).μ i=c.μ i:=fun i h=>by simp[Ctx.move,h]
 have hμb:(c.move b (.row ty es cells') (.cells arr ty)).μ b=c.w.heap.size:=by simp[Ctx.move]
 have lt: ∀i,c.H i≠none→c.μ i<c.w.heap.size:=by
  intro i hi
  cases hx:c.H i with
  |none=>exact absurd hx hi
  |some y=>exact(hok.blk i y hx).lt
 refine⟨fun i hi=>?_,hok.fin,fun i j hi hj e=>?_,fun i y hy=>?_⟩
 ·rcases zD1 hi with e|⟨_,h⟩
  ·subst e;exact hok.used i (by rw[hH];simp)
  ·exact hok.used i h
 ·rcases zD1 hi with ei|⟨hi1,hi2⟩<;>rcases zD1 hj with ej|⟨hj1,hj2⟩
  ·rw[ei,ej]
  ·rw[ei,hμb,hμ j hj1]at e;have:=lt j hj2;omega
  ·rw[ej,hμb,hμ i hi1]at e;have:=lt i hi2;omega
  ·rw[hμ i hi1,hμ j hj1]at e;exact hok.inj i j hi2 hj2 e
 ·rcases zBS hy with⟨e,h⟩|⟨hne,h⟩
  ·subst e;injection h with h;subst h
   refine⟨arr,?_,hlen,fun i h h'=>(he i h h').later hl⟩
   rw[hμb];exact zB1 _ _
  ·have hb':=hok.blk i y h
   exact hb'.later hl (hμ i hne) (zB7 _ _ hb'.lt)
end Go.Proofs.YtmndejlpfmmaiaaGreatDoor.Fw
namespace Go.Proofs.YtmndejlpfmmaiaaGreatDoor.Fw
open Go
inductive Opd where
 |t (n:Nat)
 |k (v:AV)
def zMl:Value→Option AV
 |.int k n=>some (.int k n)
 |.bool b=>some (.bool b)
 |.string s=>some (.str s)
 |.pointer none=>some .nilP
 |.nilIface=>some .nilI
 |.nilFunc=>some .nilF
 |.slice none 0 0=>some (.seq 0 [] true)
 |_=>none
def zHJ:List Value→Option (List AV)
 |[]=>some []
 |v::r=>match zMl v,zHJ r with
  |some x,some l=>some (x::l)
  |_,_=>none
def zU3:Value→Option AV
 |.agg cs=>(zHJ cs.toList).map .agg
 |v=>zMl v
def zKY(v:Value):Option (List AV):=zHJ v.cells.toList
def zBB:Operand→Option Opd
 |.tmp n=>some (.t n)
 |.const v=>(zU3 v).map .k
 |.func f=>some (.k (.fn (.func f) [] []))
 |.global _=>none
def zDA:List Operand→Option (List Opd)
 |[]=>some []
 |x::r=>match zBB x,zDA r with
  |some y,some l=>some (y::l)
  |_,_=>none
def zGh:Option Operand→Option (Option Opd)
 |none=>some none
 |some x=>(zBB x).map some
def Opd.ev(E:Nat→AV):Opd→AV
 |.t n=>E n
 |.k v=>v
def Opd.reads:Opd→List Nat
 |.t n=>[n]
 |.k _=>[]
def evs(E:Nat→AV)(l:List Opd):List AV:=l.map (Opd.ev E)
theorem zHF(c:Ctx){v:Value}{x:AV}(h:zMl v=some x):Enc c x v∧x.cell=true:=by
 unfold zMl at h
 split at h<;>first|(injection h with h;subst h;first|exact⟨.int _ _,rfl⟩|exact⟨.bool _,rfl⟩|exact⟨.str _,rfl⟩|exact⟨.nilP,rfl⟩|exact⟨.nilI,rfl⟩|exact⟨.nilF,rfl⟩|exact⟨.seq 0 [] true none 0 (fun _=>undef) (fun _=>rfl) (Nat.le_refl _) (by decide) (fun _=>rfl) (fun h=>absurd h (by simp)) (.inl rfl) (fun i h=>absurd h (by simp)),rfl⟩)|cases h
theorem zE6(c:Ctx): ∀{l:List Value}{xs:List AV},zHJ l=some xs→l.length=xs.length∧(∀i(h:i<xs.length)(h':i<l.length),Enc c (xs[i]) (l[i]))∧xs.all AV.cell=true
 |[],xs,h=>by
  injection h with h;subst h
  exact⟨rfl,fun i h=>absurd h (by simp),rfl⟩
 |v::r,xs,h=>by
  simp only[zHJ]at h
  split at h
  ·rename_i x l hx hl
   injection h with h;subst h
   obtain⟨h1,h2,h3⟩:=zE6 c hl
   obtain⟨g1,g2⟩:=zHF c hx
   refine⟨by simp[h1],fun i hi hi'=>?_,by simp only[List.all_cons,g2,h3];rfl⟩
   cases i with
   |zero=>exact g1
   |succ i=>exact h2 i (by simpa using hi) (by simpa using hi')
  ·cases h
theorem zPD(c:Ctx){v:Value}{x:AV}(h:zU3 v=some x):Enc c x v:=by
 unfold zU3 at h
 split at h
 ·rename_i cs
  cases hl:zHJ cs.toList with
  |none=>rw[hl]at h;cases h
  |some l=>
   rw[hl]at h;injection h with h;subst h
   obtain⟨h1,h2,_⟩:=zE6 c hl
   exact .agg l cs (by simpa using h1) fun i hi hi'=>by
    have h3:=h2 i hi (by simpa using hi')
    rw[Array.getElem_toList]at h3
    exact h3
 ·exact(zHF c h).1
def Reads(c:Ctx)(E:Nat→AV)(a:Act)(l:List Nat):Prop:= ∀t,t∈l→Enc c (E t) (a.tmps.getD t undef)
theorem Reads.mono{c:Ctx}{E:Nat→AV}{a:Act}{l l':List Nat}(h:Reads c E a l)(hl: ∀t,t∈l'→t∈l):Reads c E a l':=fun t ht=>h t (hl t ht)
theorem Reads.later{c c':Ctx}{E:Nat→AV}{a:Act}{l:List Nat}(hl:Later c c')(h:Reads c E a l):Reads c' E a l:=fun t ht=>(h t ht).later hl
theorem zAH{c:Ctx}{E:Nat→AV}{a:Act}{x:Operand}{o:Opd}(h:zBB x=some o)(hr:Reads c E a o.reads):Enc c (o.ev E) (a.eval x):=by
 cases x with
 |tmp n=>injection h with h;subst h;exact hr n (List.mem_singleton.2 rfl)
 |const v=>
  simp only[zBB]at h
  cases hv:zU3 v with
  |none=>rw[hv]at h;cases h
  |some y=>rw[hv]at h;injection h with h;subst h;exact zPD c hv
 |func f=>injection h with h;subst h;exact .fn _ [] [] #[] #[] rfl rfl (fun i h=>absurd h (by simp)) (fun i h=>absurd h (by simp))
 |global g=>cases h
theorem zEj{c:Ctx}{E:Nat→AV}{a:Act}: ∀{xs:List Operand}{os:List Opd},zDA xs=some os→Reads c E a (os.flatMap Opd.reads)→
 xs.length=os.length∧∀i(h:i<(evs E os).length)(h':i<(xs.map a.eval).length),Enc c ((evs E os)[i]) ((xs.map a.eval)[i])
 |[],os,h,_=>by
  injection h with h;subst h
  exact⟨rfl,fun i h=>absurd h (by simp[evs])⟩
 |x::r,os,h,hr=>by
  simp only[zDA]at h
  split at h
  ·rename_i y l hy hl
   injection h with h;subst h
   obtain⟨h1,h2⟩:=zEj hl (hr.mono fun t ht=>by simp only[List.flatMap_cons,List.mem_append];exact .inr ht)
   refine⟨by simp[h1],fun i hi hi'=>?_⟩
   cases i with
   |zero=>exact zAH hy (hr.mono fun t ht=>by simp only[List.flatMap_cons,List.mem_append];exact .inl ht)
   |succ i=>exact h2 i (by simpa[evs]using hi) (by simpa using hi')
  ·cases h
def ExecK(P:Program)(o:Oper)(a:Act)(c:Ctx)(K:AV→AHeap→Prop):Prop:=
 (∃(c':Ctx)(v:Value)(r:AV),(execOp a.eval o).run P c.w=.ok (.value v) c'.w∧Later c c'∧Ok c'∧Enc c' r v∧K r c'.H)∨
 (∃c':Ctx,(execOp a.eval o).run P c.w=.ok .skip c'.w∧Later c c'∧Ok c'∧K .bot c'.H)∨
 (∃(f:FuncId)(args:Array Value),(execOp a.eval o).run P c.w=.ok (.enter f args) c.w∧
  Calls P f args c.w fun e w'=> ∃(c':Ctx)(v:Value)(r:AV),e=.returned v∧c'.w=w'∧Ok c'∧Later c c'∧Enc c' r v∧K r c'.H)∨
 (∃(l:Nat)(fn:FuncId)(tmps:Array Value)(assign body:Code),(execOp a.eval o).run P c.w=.ok (.round l fn tmps assign body) c.w∧
  RoundIn Fence.wide 0 P l fn tmps assign body c.w fun e w'=> ∃(c':Ctx)(v:Value)(r:AV),e=.returned v∧c'.w=w'∧Ok c'∧Later c c'∧Enc c' r v∧K r c'.H)
theorem zNr{ro:Option Nat}{P:Program}{l:Nat}{f:FuncId}{tmps:Array Value}{assign body:Code}{w:World}{R:Ending→World→Prop}(h:RoundIn Fence.wide 0 P l f tmps assign body w R):RoundIn (FW ro) 0 P l f tmps assign body w R:=
 ⟨trivial,fun c cs hr=>h.2 c cs hr⟩
theorem ExecK.wpIn{P:Program}{ro:Option Nat}{o:Oper}{a:Act}{c:Ctx}{K:AV→AHeap→Prop}(hd: ∀d,o.op≠.defer d)(h:ExecK P o a c K){next:Act→World→Prop}{Q:Exit→Act→World→Prop}
 (hn: ∀(c':Ctx)(v:Value)(r:AV),Later c c'→Ok c'→Enc c' r v→K r c'.H→next (a.put o.dst v) c'.w):o.wpIn (FW ro) 0 P a c.w next Q:=by
 refine⟨fun _ _=>trivial,?_⟩
 rw[Oper.semAt_eq _ _ _ hd]
 rcases h with⟨c',v,r,h1,h2,h3,h4,h5⟩|⟨c',h1,h2,h3,h5⟩|⟨f,args,h1,h2⟩|⟨l,fn,tmps,assign,body,h1,h2⟩
 ·rw[h1];exact hn c' v r h2 h3 h4 h5
 ·rw[h1];exact hn c' undef .bot h2 h3 (.bot _) h5
 ·rw[h1]
  refine⟨fun h=>by simp[FW,Fence.wide]at h,zHU (h2.mono fun e w' hh=>?_)⟩
  obtain⟨c',v,r,rfl,rfl,g1,g2,g3,g4⟩:=hh
  exact hn c' v r g2 g1 g3 g4
 ·rw[h1]
  refine⟨fun h=>by simp[FW,Fence.wide]at h,zNr (h2.mono fun e w' hh=>?_)⟩
  obtain⟨c',v,r,rfl,rfl,g1,g2,g3,g4⟩:=hh
  exact hn c' v r g2 g1 g3 g4
theorem ExecK.val{P:Program}{o:Oper}{a:Act}{c:Ctx}{K:AV→AHeap→Prop}(hok:Ok c){v:Value}{r:AV}(h:(execOp a.eval o).run P c.w=.ok (.value v) c.w)(he:Enc c r v)(hk:K r c.H):ExecK P o a c K:=
 .inl ⟨c,v,r,h,Later.refl c,hok,he,hk⟩
theorem zYM{P:Program}{s:Sem Value}{v:Value}{w w':World}(h:s.run P w=.ok v w'):(do pure (Next.value (← s)):Sem Next).run P w=.ok (.value v) w':=by simp[h]
theorem zBm{P:Program}{t:TypeId}{i:TypeInfo}(h:P.info? t=some i)(w:World):(typeInfo t).run P w=.ok i w:=by simp[typeInfo,h]
theorem zAX{P:Program}{t:TypeId}{i:TypeInfo}(h:P.info? t=some i)(w:World):(sizeOf t).run P w=.ok i.size w:=by simp[sizeOf,zBm h]
theorem zBY{P:Program}{t:TypeId}{i:TypeInfo}{v:Value}(h:P.info? t=some i)(hz:i.zero=some v)(w:World):(zeroValue t).run P w=.ok v w:=by simp[zeroValue,zBm h,hz]
def zIP(P:Program)(t:TypeId):Option (Option Nat):=
 match P.underlying t,P.info? t with
 |some (.struct _),some i=>some (some i.size)
 |some (.array _ _),some i=>some (some i.size)
 |some _,some _=>some none
 |_,_=>none
theorem zHP{P:Program}{t:TypeId}{n:Nat}(h:zIP P t=some (some n)): ∃i,P.info? t=some i∧i.size=n∧∀w,(isAgg t).run P w=.ok true w:=by
 unfold zIP at h
 split at h
 ·rename_i i hu hi;simp only[Option.some.injEq]at h;exact⟨i,hi,h,fun w=>by simp[isAgg,run_underlying hu]⟩
 ·rename_i i hu hi;simp only[Option.some.injEq]at h;exact⟨i,hi,h,fun w=>by simp[isAgg,run_underlying hu]⟩
 ·simp at h
 ·cases h
theorem zHT{P:Program}{t:TypeId}(h:zIP P t=some none): ∀w,(isAgg t).run P w=.ok false w:=by
 intro w
 unfold zIP at h
 cases hu:P.underlying t with
 |none=>rw[hu]at h;simp at h
 |some d=>
  cases hi:P.info? t with
  |none=>rw[hu,hi]at h;cases d<;>simp at h
  |some i=>
   rw[hu,hi]at h
   simp only[isAgg,Sem.run_bind,run_underlying hu,Result.andThen_ok]
   cases d with
   |struct f=>simp at h
   |array n e=>simp at h
   |_=>rfl
def zAi(op:BinOp)(k:IntKind)(a b:Int)(K:AV→Prop):Prop:=
 match op with
 |.add=>K (.int k (k.wrap (a+b)))
 |.sub=>K (.int k (k.wrap (a-b)))
 |.mul=>K (.int k (k.wrap (a*b)))
 |.quo=>b≠0∧K (.int k (k.wrap (a.tdiv b)))
 |.rem=>b≠0∧K (.int k (a.tmod b))
 |.and=>K (.int k (k.wrap (BitVec.ofInt k.bits a &&& BitVec.ofInt k.bits b).toNat))
 |.or=>K (.int k (k.wrap (BitVec.ofInt k.bits a ||| BitVec.ofInt k.bits b).toNat))
 |.xor=>K (.int k (k.wrap (BitVec.ofInt k.bits a ^^^ BitVec.ofInt k.bits b).toNat))
 |.andNot=>K (.int k (k.wrap (BitVec.ofInt k.bits a &&& ~~~BitVec.ofInt k.bits b).toNat))
 |.eql=>K (.bool (decide (a=b)))
 |.neq=>K (.bool (!decide (a=b)))
 |.lss=>K (.bool (decide (a<b)))
 |.leq=>K (.bool (decide (a≤b)))
 |.gtr=>K (.bool (decide (b<a)))
 |.geq=>K (.bool (decide (b≤a)))
 |_=>False
def zJ3(op:BinOp)(a b:ByteArray)(K:AV→Prop):Prop:=
 match op with
 |.add=>(a.size+b.size:Nat)≤9223372036854775807∧K (.str (a++b))
 |.eql=>K (.bool (a.toList==b.toList))
 |.neq=>K (.bool (!(a.toList==b.toList)))
 |_=>False
def zAv(op:BinOp)(x y:AV)(K:AV→Prop):Prop:=
 match x,y with
 |.int k a,.int k' b=>
  match op with
  |.shl=>0≤b∧K (.int k (k.wrap (a*2^(min b.toNat k.bits))))
  |.shr=>0≤b∧K (.int k (a.fdiv (2^(min b.toNat k.bits))))
  |_=>k=k'∧zAi op k a b K
 |.str a,.str b=>zJ3 op a b K
 |_,_=>False
def zJL(op:BinOp)(x y:AV)(K:AV→Prop):Prop:=
 match x,y with
 |.bool a,.bool b=>match op with
  |.eql=>K (.bool (a==b))
  |.neq=>K (.bool (!(a==b)))
  |_=>False
 |_,_=>False
def unW(op:UnOp)(x:AV)(K:AV→Prop):Prop:=
 match op,x with
 |.neg,.int k n=>K (.int k (k.wrap (0-n)))
 |.xor,.int k n=>K (.int k (k.wrap (BitVec.ofInt k.bits (if k.signed then -1 else k.max) ^^^ BitVec.ofInt k.bits n).toNat))
 |.not,.bool b=>K (.bool (!b))
 |_,_=>False
theorem zNa{P:Program}{op:BinOp}{x y:AV}{K:AV→Prop}{c:Ctx}{u v:Value}(h:zAv op x y K)(hx:Enc c x u)(hy:Enc c y v)(t:TypeId)(p q:Operand)(w:World):
 ∃r v',(do eqGuard op t p q u v;binOp op t u v:Sem Value).run P w=.ok v' w∧Enc c r v'∧K r:=by
 unfold zAv at h
 split at h
 ·rename_i k a k' b
  cases hx;cases hy
  simp only[eqGuard_at_int,Sem.run_bind,Sem.run_pure,Result.andThen_ok]
  split at h
  ·obtain⟨h1,h2⟩:=h
   refine⟨_,.int k _,?_,.int k _,h2⟩
   simp only[binOp_shl,Op.shift,if_neg (by omega: ¬b<0),Sem.run_pure]
  ·obtain⟨h1,h2⟩:=h
   refine⟨_,.int k _,?_,.int k _,h2⟩
   simp only[binOp_shr,Op.shift,if_neg (by omega: ¬b<0),Sem.run_pure]
  ·rename_i hs1 hs2
   obtain⟨rfl,h⟩:=h
   unfold zAi at h
   split at h
   ·exact⟨_,_,by simp only[binOp_add,Op.intArith,Sem.run_pure],.int k _,h⟩
   ·exact⟨_,_,by simp only[binOp_sub,Op.intArith,Sem.run_pure],.int k _,h⟩
   ·exact⟨_,_,by simp only[binOp_mul,Op.intArith,Sem.run_pure],.int k _,h⟩
   ·exact⟨_,_,by simp only[binOp_quo,Op.intDiv,if_neg h.1,Sem.run_pure],.int k _,h.2⟩
   ·exact⟨_,_,by simp only[binOp_rem,Op.intDiv,if_neg h.1,Sem.run_pure],.int k _,h.2⟩
   ·exact⟨_,_,by simp only[binOp_and,Op.intBits,Sem.run_pure],.int k _,h⟩
   ·exact⟨_,_,by simp only[binOp_or,Op.intBits,Sem.run_pure],.int k _,h⟩
   ·exact⟨_,_,by simp only[binOp_xor,Op.intBits,Sem.run_pure],.int k _,h⟩
   ·exact⟨_,_,by simp only[binOp_andNot,Op.intBits,Sem.run_pure],.int k _,h⟩
   ·exact⟨_,_,by simp only[binOp_eql,Sem.run_pure];rfl,.bool _,h⟩
   ·exact⟨_,_,by simp only[binOp_neq,Sem.run_pure];rfl,.bool _,h⟩
   ·exact⟨_,_,by simp only[binOp_lss,Sem.run_pure],.bool _,h⟩
   ·exact⟨_,_,by simp only[binOp_leq,Sem.run_pure],.bool _,h⟩
   ·exact⟨_,_,by simp only[binOp_gtr,Sem.run_pure],.bool _,h⟩
   ·exact⟨_,_,by simp only[binOp_geq,Sem.run_pure],.bool _,h⟩
   ·exact h.elim
 ·rename_i a b
  cases hx;cases hy
  simp only[eqGuard_at_string,Sem.run_bind,Sem.run_pure,Result.andThen_ok]
  unfold zJ3 at h
  split at h
  ·refine⟨_,.string _,?_,.str _,h.2⟩
   have: ¬(((a.size+b.size:Nat):Int)>IntKind.i64.max):=by rw[IntKind.max_i64];omega
   simp only[binOp,Op.stringOp]
   rw[if_neg this];rfl
  ·exact⟨_,.bool _,rfl,.bool _,h⟩
  ·exact⟨_,.bool _,rfl,.bool _,h⟩
  ·exact h.elim
 ·exact h.elim
theorem zFQ{P:Program}{t:TypeId}(ht:P.underlying t=some .bool)(a b:Bool)(w:World)(d:Nat):(Op.equalIn (d+1) t (.bool a) (.bool b)).run P w=.ok (a==b) w:=by
 simp only[Op.equalIn,Sem.run_bind,run_underlying ht,Result.andThen_ok,Sem.run_pure]
theorem zDx{P:Program}{t:TypeId}(ht:P.underlying t=some .bool)(a b:Bool)(w:World):(Op.equal t (.bool a) (.bool b)).run P w=.ok (a==b) w:=
 zFQ ht a b w 9999
theorem zK1{P:Program}{op:BinOp}{x y:AV}{K:AV→Prop}{c:Ctx}{u v:Value}{t:TypeId}(ht:P.underlying t=some .bool)(h:zJL op x y K)(hx:Enc c x u)(hy:Enc c y v)(p q:Operand)(w:World):
 ∃r v',(do eqGuard op t p q u v;binOp op t u v:Sem Value).run P w=.ok v' w∧Enc c r v'∧K r:=by
 unfold zJL at h
 split at h
 ·cases hx;cases hy
  simp only[eqGuard_at_bool,Sem.run_bind,Sem.run_pure,Result.andThen_ok]
  split at h
  ·refine⟨_,.bool _,?_,.bool _,h⟩
   show(do pure (Value.bool (← Op.equal t _ _)):Sem Value).run P w=_
   simp only[Sem.run_bind,zDx ht,Result.andThen_ok,Sem.run_pure]
  ·refine⟨_,.bool _,?_,.bool _,h⟩
   show(do pure (Value.bool (!(← Op.equal t _ _))):Sem Value).run P w=_
   simp only[Sem.run_bind,zDx ht,Result.andThen_ok,Sem.run_pure]
  ·exact h.elim
 ·exact h.elim
def zOR(ng:Bool)(x:AV)(K:AV→Prop):Prop:=
 match x with
 |.seq n _ _=>(n=0→K (.bool true)∧K (.bool false))∧(n≠0→K (.bool ng))
 |_=>False
theorem zHe{P:Program}{ng:Bool}{x:AV}{K:AV→Prop}{c:Ctx}{u:Value}{t e:TypeId}(ht:P.underlying t=some (.slice e))(h:zOR ng x K)(hx:Enc c x u)(p q:Operand)(w:World):
 ∃r v',(do eqGuard (if ng then .neq else .eql) t p q u (.slice none 0 0);binOp (if ng then .neq else .eql) t u (.slice none 0 0):Sem Value).run P w=.ok v' w∧Enc c r v'∧K r:=by
 unfold zOR at h
 split at h
 ·rename_i n cells ti
  cases hx with
  |seq _ _ _ base cap cv hlen hcap hmax hti hb hn hc=>
   have gen: ∀d,∃b,(Op.equalIn (d+1) t (.slice base n cap) (.slice none 0 0)).run P w=.ok b w∧(n≠0→b=false):=by
    intro d
    cases base with
    |none=>
     refine⟨true,?_,fun hne=>(hn.elim (fun e=>(hne e).elim) fun e=>(e rfl).elim)⟩
     simp only[Op.equalIn,Sem.run_bind,run_underlying ht,Result.andThen_ok,Sem.run_pure,Option.isNone_none]
    |some a=>
     refine⟨false,?_,fun _=>rfl⟩
     simp only[Op.equalIn,Sem.run_bind,run_underlying ht,Result.andThen_ok,Sem.run_pure]
   obtain⟨b,hb',hn'⟩:=gen 9999
   have hb2:(Op.equal t (.slice base n cap) (.slice none 0 0)).run P w=.ok b w:=hb'
   cases ng with
   |false=>
    refine⟨_,.bool b,?_,.bool _,?_⟩
    ·simp only[Bool.false_eq_true,if_false,eqGuard_at_slice,Sem.run_bind,Sem.run_pure,Result.andThen_ok]
     show(do pure (Value.bool (← Op.equal t _ _)):Sem Value).run P w=_
     simp only[Sem.run_bind,hb2,Result.andThen_ok,Sem.run_pure]
    ·by_cases e:n=0
     ·cases b
      ·exact(h.1 e).2
      ·exact(h.1 e).1
     ·rw[hn' e];exact h.2 e
   |true=>
    refine⟨_,.bool (!b),?_,.bool _,?_⟩
    ·simp only[if_true,eqGuard_at_slice,Sem.run_bind,Sem.run_pure,Result.andThen_ok]
     show(do pure (Value.bool (!(← Op.equal t _ _))):Sem Value).run P w=_
     simp only[Sem.run_bind,hb2,Result.andThen_ok,Sem.run_pure]
    ·by_cases e:n=0
     ·cases b
      ·exact(h.1 e).1
      ·exact(h.1 e).2
     ·rw[hn' e];exact h.2 e
 ·exact h.elim
theorem zQX{P:Program}{op:UnOp}{x:AV}{K:AV→Prop}{c:Ctx}{u:Value}(h:unW op x K)(hx:Enc c x u)(w:World):
 ∃r v',(Op.unary op u).run P w=.ok v' w∧Enc c r v'∧K r:=by
 unfold unW at h
 split at h
 ·cases hx;exact⟨_,_,rfl,.int _ _,h⟩
 ·cases hx;exact⟨_,_,rfl,.int _ _,h⟩
 ·cases hx;exact⟨_,_,rfl,.bool _,h⟩
 ·exact h.elim
end Go.Proofs.YtmndejlpfmmaiaaGreatDoor.Fw
namespace Go.Proofs.YtmndejlpfmmaiaaGreatDoor.Fw
open Go
theorem zA8(k off i:Nat):(⟨k,off,none⟩:Addr).add i=⟨k,off+i,none⟩:=by unfold Addr.add;split<;>simp_all
theorem zMV{c:Ctx}(hok:Ok c){b L off:Nat}{v:Value}{ty es:Nat}{cells:List AV}(h:Enc c (.ptr b L off) v)(hH:c.H b=some (.row ty es cells))(hL:cells.length=L):
 v=.pointer (some ⟨c.μ b,off,none⟩)∧∃arr,c.w.heap[c.μ b]? =some (.cells arr ty)∧cells.length≤arr.size∧∀i(h:i<cells.length)(h':i<arr.size),Enc c (cells[i]) (arr[i]):=by
 cases h with
 |ptr _ _ _ _ _ _ _ hv=>exact⟨hv _ hH hL,hok.blk b _ hH⟩
theorem zEO{w:World}{k ty off:Nat}{arr:Array Value}(h:w.heap[k]? =some (.cells arr ty))(ho:off<arr.size):w.cell? ⟨k,off,none⟩=some (arr[off]):=by
 simp[World.cell?,h,ho]
def zA4(H:AHeap)(x:AV)(n:Nat)(K:List AV→Prop):Prop:=
 match x with
 |.ptr b L off=>match H b with
  |some (.row _ _ cells)=>cells.length=L∧off+n≤L∧K ((cells.drop off).take n)
  |some (.glob _ cells)=>cells.length=L∧off+n≤L∧K ((cells.drop off).take n)
  |_=>False
 |.cptr cells=>n≤cells.length∧K (cells.take n)
 |_=>False
theorem zEG{c:Ctx}(hok:Ok c){x:AV}{v:Value}{n:Nat}{K:List AV→Prop}(h:zA4 c.H x n K)(he:Enc c x v):
 ∃(k off:Nat)(l:List AV)(cv:Nat→Value),v=.pointer (some ⟨k,off,none⟩)∧l.length=n∧K l∧(∀i,i<n→c.w.cell? ⟨k,off+i,none⟩=some (cv i))∧∀i(h:i<l.length),Enc c (l[i]) (cv i):=by
 unfold zA4 at h
 split at h
 ·rename_i b L off
  split at h
  ·rename_i ty es cells hH
   obtain⟨h1,h2,h3⟩:=h
   obtain⟨rfl,arr,g1,g2,g3⟩:=zMV hok he hH h1
   refine⟨c.μ b,off,_,fun i=>arr.getD (off+i) undef,rfl,by simp;omega,h3,fun i hi=>?_,fun i hi=>?_⟩
   ·have:off+i<arr.size:=by omega
    rw[zEO g1 this]
    simp[Array.getD_eq_getD_getElem?,this]
   ·have hi':i<n:=by simp at hi;omega
    have h4:off+i<arr.size:=by omega
    have:=g3 (off+i) (by omega) h4
    simpa[Array.getD_eq_getD_getElem?,h4]using this
  ·rename_i g cells hH
   obtain⟨h1,h2,h3⟩:=h
   obtain⟨k1,k2,cv,k3,k4⟩:=hok.blk b _ hH
   have hv:v=.pointer (some ⟨g,off,none⟩):=by
    rw[← k1]
    cases he with
    |ptr _ _ _ _ _ _ _ hv=>exact hv _ hH h1
   subst hv
   refine⟨g,off,_,fun i=>cv (off+i),rfl,by simp;omega,h3,fun i hi=>k3 (off+i) (by omega),fun i hi=>?_⟩
   have:=k4 (off+i) (by simp at hi;omega)
   simpa using this
  ·exact h.elim
 ·rename_i cells
  cases he with
  |cptr _ k off cv hm hk hcell hc=>
   refine⟨k,off,_,cv,rfl,by simp;omega,h.2,fun i hi=>hcell i (by omega),fun i hi=>?_⟩
   have:i<cells.length:=by simp at hi;omega
   simpa using hc i this
 ·exact h.elim
def zA9(H:AHeap)(n:Option Nat)(x:AV)(K:AV→Prop):Prop:=
 match n with
 |some n=>zA4 H x n fun l=>K (.agg l)
 |none=>zA4 H x 1 fun l=>match l with
  |[y]=>K y
  |_=>False
theorem zF1{P:Program}{c:Ctx}(hok:Ok c){t:TypeId}{n:Option Nat}(ht:zIP P t=some n){x:AV}{v:Value}{K:AV→Prop}(h:zA9 c.H n x K)(he:Enc c x v):
 ∃r v',(Instr.loadAt t v).run P c.w=.ok v' c.w∧Enc c r v'∧K r:=by
 unfold zA9 at h
 split at h
 ·rename_i n
  obtain⟨i,hi,hs,ha⟩:=zHP ht
  obtain⟨k,off,l,cv,rfl,hl,hK,hc,hcs⟩:=zEG hok h he
  have hlc:=run_loadCells (P:=P) c.w ⟨k,off,none⟩ n cv (fun j hj=>by rw[zA8];exact hc j hj)
  refine⟨.agg l,.agg ((List.range n).map cv).toArray,?_,?_,hK⟩
  ·simp only[Instr.loadAt,Instr.sureAddr,loadVar,Sem.run_bind,Sem.run_pure,Result.andThen_ok,ha,if_true,zAX hi,hs,hlc]
  ·refine .agg l _ (by simp[hl]) fun i hi hi'=>?_
   simpa using hcs i hi
 ·obtain⟨k,off,l,cv,rfl,hl,hK,hc,hcs⟩:=zEG hok h he
  have ha:=zHT ht
  match l,hl,hK,hcs with
  |[y],_,hK,hcs=>
   have h0:=hc 0 (by omega)
   refine⟨y,cv 0,?_,hcs 0 (by simp),hK⟩
   simp only[Instr.loadAt,Instr.sureAddr,loadVar,Sem.run_bind,Sem.run_pure,Result.andThen_ok,ha,Bool.false_eq_true,if_false,run_load]
   simp only[Nat.add_zero]at h0
   rw[h0]
def zGK(off:Nat)(x:AV)(K:AV→Prop):Prop:=
 match x with
 |.ptr b L o=>K (.ptr b L (o+off))
 |.cptr cells=>K (.cptr (cells.drop off))
 |_=>False
def zHq(P:Program)(s:TypeId)(f:Nat):Option Nat:=
 match P.underlying s with
 |some (.struct fields)=>match fields[f]? with
  |some fd=>match P.info? fd.type with
   |some i=>if i.size=0 then none else some fd.offset
   |none=>none
  |none=>none
 |_=>none
theorem zI3{c:Ctx}{x:AV}{v:Value}(he:Enc c x v)(d:Nat):
 (∀b L o,x=.ptr b L o→∃p,v=.pointer p∧(∀a,p=some a→Enc c (.ptr b L (o+d)) (.pointer (some (a.add d))))∧(p=none→Enc c (.ptr b L (o+d)) (.pointer none))):=by
 rintro b L o rfl
 cases he with
 |ptr _ _ _ _ hs hb hL hv=>
  obtain⟨p,rfl⟩:=hs
  refine⟨p,rfl,fun a ha=>?_,fun hp=>?_⟩
  ·subst ha
   refine .ptr b L _ _ ⟨_,rfl⟩ hb hL fun x hx hl=>?_
   have:=hv x hx hl
   injection this with this;injection this with this
   rw[this,zA8]
  ·subst hp
   refine .ptr b L _ _ ⟨_,rfl⟩ hb hL fun x hx hl=>?_
   have:=hv x hx hl
   injection this with this
   cases this
def zEA(H:AHeap)(x:AV):Prop:=
 match x with
 |.ptr b L _=>match H b with
  |some y=>y.len=L
  |none=>False
 |.cptr _=>True
 |_=>False
theorem zFs{c:Ctx}{x:AV}{v:Value}(h:zEA c.H x)(he:Enc c x v): ∃k off,v=.pointer (some ⟨k,off,none⟩):=by
 unfold zEA at h
 split at h
 ·split at h
  ·rename_i y hy
   cases he with
   |ptr _ _ _ _ hs hb hL hv=>exact⟨_,_,hv y hy h⟩
  ·exact h.elim
 ·cases he with
  |cptr cells k off cv=>exact⟨k,off,rfl⟩
 ·exact h.elim
theorem zKW{P:Program}{c:Ctx}{s:TypeId}{f off:Nat}(hf:zHq P s f=some off){x:AV}{v:Value}{K:AV→Prop}(h:zEA c.H x∧zGK off x K)(he:Enc c x v):
 ∃r v',(Instr.fieldAt s v f).run P c.w=.ok v' c.w∧Enc c r v'∧K r:=by
 obtain⟨hl,h⟩:=h
 obtain⟨k,o,rfl⟩:=zFs hl he
 have hrun:(Instr.fieldAt s (.pointer (some ⟨k,o,none⟩)) f).run P c.w=.ok (.pointer (some ⟨k,o+off,none⟩)) c.w:=by
  unfold zHq at hf
  split at hf
  ·rename_i fields hu
   split at hf
   ·rename_i fd hfd
    split at hf
    ·rename_i i hi
     split at hf
     ·cases hf
     ·rename_i hz
      injection hf with hf
      subst hf
      simp only[Instr.fieldAt,Sem.run_bind,run_underlying hu,Result.andThen_ok,hfd,Instr.sureAddr,Sem.run_pure,fieldPlace,zAX hi,if_neg hz,zA8]
    ·cases hf
   ·cases hf
  ·cases hf
 unfold zGK at h
 split at h
 ·rename_i b L o'
  obtain⟨p,hp,h1,_⟩:=zI3 he off b L o' rfl
  injection hp with hp
  subst hp
  have:=h1 _ rfl
  rw[zA8]at this
  exact⟨_,_,hrun,this,h⟩
 ·rename_i cells
  cases he with
  |cptr _ k off' cv hm hk hcell hc=>
   refine⟨_,_,hrun,.cptr _ k _ (fun i=>cv (off+i)) hm hk (fun i hi=>?_) (fun i hi=>?_),h⟩
   ·have:=hcell (off+i) (by simp at hi;omega)
    rw[show o+off+i=o+(off+i) by omega];exact this
   ·have:=hc (off+i) (by simp at hi;omega)
    simpa using this
 ·exact h.elim
def zD7(P:Program)(t:TypeId):Option Nat:=
 match P.underlying t with
 |some (.slice e)=>match P.info? e with
  |some i=>if i.size=0 then none else some i.size
  |none=>none
 |_=>none
theorem zDf{P:Program}{t:TypeId}{es:Nat}(h:zD7 P t=some es): ∃e i,P.underlying t=some (.slice e)∧P.info? e=some i∧i.size=es∧es≠0:=by
 unfold zD7 at h
 split at h
 ·rename_i e hu
  split at h
  ·rename_i i hi
   split at h
   ·cases h
   ·rename_i hz
    injection h with h
    exact⟨e,i,hu,hi,h,by omega⟩
  ·cases h
 ·cases h
def zBg(es:Nat)(x i:AV)(K:AV→Prop):Prop:=
 match x,i with
 |.seq n cells _,.int _ j=>(0≤j∧j<n)∧cells.length=n*es∧K (.cptr (cells.drop (j.toNat*es)))
 |.own b L off n _,.int _ j=>(0≤j∧j<n)∧K (.ptr b L (off+j.toNat*es))
 |_,_=>False
def zCB(H:AHeap)(x:AV):Prop:=
 match x with
 |.own b L _ _ _=>match H b with
  |some (.row _ _ cells)=>cells.length=L
  |_=>False
 |_=>True
theorem zKP{P:Program}{c:Ctx}{t:TypeId}{es:Nat}(ht:zD7 P t=some es){x i:AV}{v u:Value}{K:AV→Prop}(h:zCB c.H x∧zBg es x i K)(he:Enc c x v)(hi:Enc c i u):
 ∃r v',(Instr.indexAt t v u).run P c.w=.ok v' c.w∧Enc c r v'∧K r:=by
 obtain⟨hl,h⟩:=h
 obtain⟨e,inf,hu,hinf,hes,hes0⟩:=zDf ht
 have hu':P.underlying t=some (.slice (P.elem t)):=by simp only[Program.elem,hu]
 have hel:P.elem t=e:=by simp only[Program.elem,hu]
 unfold zBg at h
 split at h
 ·rename_i n cells ti k j
  obtain⟨⟨h1,h2⟩,h3,h4⟩:=h
  cases hi
  cases he with
  |seq _ _ _ base cap cv hlen hcap hmax htt hb hn hc=>
   have hne:n≠0:=by omega
   obtain⟨a,rfl⟩: ∃a,base=some a:=by
    cases base with
    |none=>exact absurd rfl (hn.resolve_left hne)
    |some a=>exact⟨a,rfl⟩
   have hrun:(Instr.indexAt t (.slice (some a) n cap) (.int k j)).run P c.w=.ok (.pointer (some (a.add (j.toNat*es)))) c.w:=by
    rw[run_indexAt_slice c.w t a n cap k j hu',if_pos ⟨h1,h2⟩,hel,zAX hinf,hes];rfl
   have hz:0<cells.length:=by rw[h3];exact Nat.mul_pos (by omega) (by omega)
   obtain⟨kk,off,e1,hm,hk,hcell⟩:=hb hz
   injection e1 with e1
   subst e1
   refine⟨_,_,hrun,?_,h4⟩
   rw[zA8]
   refine .cptr _ kk _ (fun q=>cv (j.toNat*es+q)) hm hk (fun q hq=>?_) (fun q hq=>?_)
   ·have:=hcell (j.toNat*es+q) (by simp at hq;omega)
    rw[show off+j.toNat*es+q=off+(j.toNat*es+q) by omega];exact this
   ·have:=hc (j.toNat*es+q) (by simp at hq;omega)
    simpa using this
 ·rename_i b L off n ti k j
  obtain⟨⟨h1,h2⟩,h4⟩:=h
  cases hi
  simp only[zCB]at hl
  split at hl
  ·rename_i ty es' cells hH
   cases he with
   |own _ _ _ _ _ _ hs hb hL hv=>
    obtain⟨base,cap,arr,rfl,g0,g1,g2,g3,g4,g5⟩:=hv ty es' cells hH hl
    have hbase:=g0.resolve_left (by omega)
    subst hbase
    refine⟨_,_,by rw[run_indexAt_slice c.w t _ n cap k j hu',if_pos ⟨h1,h2⟩,hel,zAX hinf,hes];rfl,?_,h4⟩
    rw[zA8]
    refine .ptr b L _ _ ⟨_,rfl⟩ hb hL fun x hx _=>?_
    rfl
  ·exact hl.elim
 ·exact h.elim
end Go.Proofs.YtmndejlpfmmaiaaGreatDoor.Fw
namespace Go.Proofs.YtmndejlpfmmaiaaGreatDoor.Fw
open Go
def zDr(s:Bool)(x:AV)(K:AV→Prop):Prop:=
 match s,x with
 |false,.seq n _ _=>n<2^63→K (.int .i64 n)
 |false,.own _ _ _ n _=>n<2^63→K (.int .i64 n)
 |true,.str s=>K (.int .i64 s.size)
 |false,.ext n _=>K (.int .i64 n)
 |false,.exte _ n _=>K (.int .i64 n)
 |_,_=>False
theorem zNm{P:Program}{c:Ctx}{t e ty:TypeId}(hu:P.underlying t=some (.slice e)){x:AV}{v:Value}{K:AV→Prop}(h:zDr false x K)(he:Enc c x v): ∃r v',(Builtin.len_ #[t] ty #[v]).run P c.w=.ok v' c.w∧Enc c r v'∧K r:=by
 unfold zDr at h
 split at h
 ·rename_i hs
  cases he with
  |seq _ _ _ base cap cv hlen hcap hmax=>exact⟨_,_,by simp[Builtin.len_,run_underlying hu];rfl,.int .i64 _,h (by omega)⟩
 ·cases he with
  |own _ _ _ _ _ _ hs'=>
   obtain⟨p,r,rfl,hn⟩:=hs'
   exact⟨_,_,by simp[Builtin.len_,run_underlying hu];rfl,.int .i64 _,h hn⟩
 ·rename_i hs;cases hs
 ·cases he
  exact⟨_,_,by simp[Builtin.len_,run_underlying hu];rfl,.int .i64 _,h⟩
 ·cases he
  exact⟨_,_,by simp[Builtin.len_,run_underlying hu];rfl,.int .i64 _,h⟩
 ·exact h.elim
theorem zUj{P:Program}{c:Ctx}{t ty:TypeId}(hu:P.underlying t=some .string){x:AV}{v:Value}{K:AV→Prop}(h:zDr true x K)(he:Enc c x v): ∃r v',(Builtin.len_ #[t] ty #[v]).run P c.w=.ok v' c.w∧Enc c r v'∧K r:=by
 unfold zDr at h
 split at h
 ·rename_i hs;cases hs
 ·rename_i hs;cases hs
 ·cases he
  exact⟨_,_,by simp[Builtin.len_,run_underlying hu];rfl,.int .i64 _,h⟩
 ·rename_i hs;cases hs
 ·rename_i hs;cases hs
 ·exact h.elim
def zWY(x:AV)(K:AV→Prop):Prop:=
 match x with
 |.seq n _ true=>n<2^63∧K (.int .i64 n)
 |.ownc _ _ _ cap=>K (.int .i64 cap)
 |_=>False
theorem zOM{P:Program}{c:Ctx}{t e ty:TypeId}(hu:P.underlying t=some (.slice e)){x:AV}{v:Value}{K:AV→Prop}(h:zWY x K)(he:Enc c x v): ∃r v',(Builtin.cap_ #[t] ty #[v]).run P c.w=.ok v' c.w∧Enc c r v'∧K r:=by
 unfold zWY at h
 split at h
 ·cases he with
  |seq _ _ _ base cap cv hlen hcap hmax ht=>
   have e:=ht rfl
   subst e
   exact⟨_,_,by simp[Builtin.cap_,run_underlying hu];rfl,.int .i64 _,h.2⟩
 ·cases he
  exact⟨_,_,by simp[Builtin.cap_,run_underlying hu];rfl,.int .i64 _,h⟩
 ·exact h.elim
def zC9(x:Option AV)(d:Int):Option Int:=
 match x with
 |none=>some d
 |some (.int _ i)=>some i
 |_=>none
def zDU(es:Nat)(x:AV)(lo hi mx:Option AV)(K:AV→Prop):Prop:=
 match x with
 |.seq n cells ti=>match zC9 lo 0,zC9 hi n,mx with
  |some l,some h,none=>(0≤l∧l≤h∧h≤n)∧cells.length=n*es∧K (.seq (h-l).toNat ((cells.drop (l.toNat*es)).take ((h-l).toNat*es)) (ti&&decide (h=n)))
  |some l,some h,some (.int _ m)=>hi.isSome=true∧(0≤l∧l≤h∧h≤m∧m≤n)∧cells.length=n*es∧K (.seq (h-l).toNat ((cells.drop (l.toNat*es)).take ((h-l).toNat*es)) (decide (h=m)))
  |_,_,_=>False
 |.own b L off n ti=>match zC9 lo 0,zC9 hi n,mx with
  |some l,some h,none=>(0≤l∧l≤h∧h≤n)∧K (.own b L (off+l.toNat*es) (h-l).toNat (ti&&decide (h=n)))
  |some l,some h,some (.int _ m)=>hi.isSome=true∧(0≤l∧l≤h∧h≤m∧m≤n)∧K (.own b L (off+l.toNat*es) (h-l).toNat (decide (h=m)))
  |_,_,_=>False
 |.ext n cells=>match zC9 lo 0,zC9 hi n,mx with
  |some l,some h,none=>es=1∧(0≤l∧l≤h∧h≤cells.length)∧K (.ext (h-l).toNat (cells.drop l.toNat))
  |_,_,_=>False
 |.ownc b L n cap=>match zC9 lo 0,zC9 hi n,mx with
  |some l,some h,none=>l=0∧h=cap∧K (.own b L 0 cap true)
  |_,_,_=>False
 |.exte es' n cells=>match zC9 lo 0,zC9 hi n,mx with
  |some l,some h,none=>(es'=es∧0<es)∧(0≤l∧l≤h∧h.toNat*es≤cells.length)∧K (.exte es (h-l).toNat (cells.drop (l.toNat*es)))
  |_,_,_=>False
 |_=>False
def zDD(es:Nat)(H:AHeap)(x:AV):Prop:=
 match x with
 |.own b L _ _ _=>match H b with
  |some (.row _ es' cells)=>cells.length=L∧es'=es
  |_=>False
 |_=>True
def zRk(c:Ctx):Option AV→Option Value→Prop
 |none,none=>True
 |some x,some v=>Enc c x v
 |_,_=>False
theorem zAg{P:Program}{w:World}{k:IntKind}{i:Int}{y:Nat}{code:BoundsCode}(h0:0≤i)(h1:i≤y):(Instr.sliceBound (.int k i) y code).run P w=.ok i.toNat w:=by
 simp[Instr.sliceBound,asIntOf,h0,h1]
theorem zFr{P:Program}{c:Ctx}{n cap:Nat}{lo hi mx:Option AV}{vl vh vm:Option Value}(hl:zRk c lo vl)(hh:zRk c hi vh)(hm:zRk c mx vm){l h m:Int}(el:zC9 lo 0=some l)(eh:zC9 hi n=some h)
 (em:zC9 mx cap=some m) (hmh:mx.isSome=true→hi.isSome=true) (hb:0≤l∧l≤h∧h≤m∧m≤cap):(Instr.sliceBounds true n cap vl vh vm).run P c.w=.ok (l.toNat,h.toNat,m.toNat) c.w:=by
 have bd: ∀{x:Option AV}{v:Option Value}{d i:Int},zRk c x v→zC9 x d=some i→(x=none∧v=none∧i=d)∨∃k,x=some (.int k i)∧v=some (.int k i):=by
  intro x v d i he ho
  match x,v,he with
  |none,none,_=>injection ho with ho;exact .inl ⟨rfl,rfl,ho.symm⟩
  |some y,some v,he=>
   cases y with
   |int k j=>
    injection ho with ho
    subst ho
    cases he
    exact .inr ⟨k,rfl,rfl⟩
   |_=>cases ho
 obtain⟨h0,h1,h2,h3⟩:=hb
 unfold Instr.sliceBounds
 rcases bd hm em with⟨rfl,rfl,rfl⟩|⟨km,rfl,rfl⟩
 ·rcases bd hh eh with⟨rfl,rfl,rfl⟩|⟨kh,rfl,rfl⟩<;>rcases bd hl el with⟨rfl,rfl,rfl⟩|⟨kl,rfl,rfl⟩
  ·simp
  ·simp[zAg h0 h1]
  ·simp[zAg (by omega) h2]
  ·have:=zAg (P:=P) (w:=c.w) (k:=kl) (y:=h.toNat) (code:=.sliceB) h0 (by omega)
   simp[zAg (by omega) h2,this]
 ·rcases bd hh eh with⟨rfl,rfl,rfl⟩|⟨kh,rfl,rfl⟩
  ·exact absurd (hmh rfl) (by simp)
  ·have a1:=zAg (P:=P) (w:=c.w) (k:=km) (y:=cap) (code:=.slice3Acap) (by omega) h3
   have a2:=zAg (P:=P) (w:=c.w) (k:=kh) (y:=m.toNat) (code:=.slice3B) (by omega) (by omega:h≤(m.toNat:Int))
   rcases bd hl el with⟨rfl,rfl,rfl⟩|⟨kl,rfl,rfl⟩
   ·simp[a1,a2]
   ·have a3:=zAg (P:=P) (w:=c.w) (k:=kl) (y:=h.toNat) (code:=.slice3C) h0 (by omega)
    simp[a1,a2,a3]
theorem zQA{c:Ctx}{n:Nat}{cells:List AV}{ti ti':Bool}{base:Option Addr}{cap es:Nat}(he:Enc c (.seq n cells ti) (.slice base n cap))(hce:cells.length=n*es){l h m:Nat}(h1:l≤h)(h2:h≤n)(h3:h≤m)(h4:m≤cap)
 (ht:ti'=true→m=h):Enc c (.seq (h-l) ((cells.drop (l*es)).take ((h-l)*es)) ti') (.slice (if m=l then base else base.map (·.add (l*es))) (h-l) (m-l)):=by
 cases he with
 |seq _ _ _ _ _ cv hlen hcap hmax htt hb hn hc=>
  have hlen':((cells.drop (l*es)).take ((h-l)*es)).length≤(h-l)*es:=by simp;omega
  have hidx: ∀i,i<((cells.drop (l*es)).take ((h-l)*es)).length→l*es+i<cells.length:=by
   intro i hi;simp at hi;omega
  refine .seq _ _ _ _ _ (fun i=>cv (l*es+i)) (fun e=>by rw[e];simp) (by omega) (by omega) (fun e=>by have:=ht e;omega) ?_ ?_ ?_
  ·intro hpos
   have hlt:l<h:=by
    rcases Nat.lt_or_ge l h with h|hge
    ·exact h
    ·have:h-l=0:=by omega
     rw[this]at hpos;simp at hpos
   obtain⟨k,off,e1,hm,hk,hcell⟩:=hb (by have:=hidx 0 hpos;omega)
   subst e1
   refine⟨k,off+l*es,?_,hm,hk,fun i hi=>?_⟩
   ·rw[if_neg (by omega)];simp[zA8]
   ·have:=hcell (l*es+i) (hidx i hi)
    rw[show off+l*es+i=off+(l*es+i) by omega];exact this
  ·rcases Nat.eq_zero_or_pos (h-l)with e|e
   ·exact .inl e
   ·right
    rw[if_neg (by omega)]
    have:base≠none:=hn.resolve_left (by omega)
    cases base with
    |none=>exact absurd rfl this
    |some a=>simp
  ·intro i hi
   have:=hc (l*es+i) (hidx i hi)
   simpa using this
theorem zOJ{P:Program}{c:Ctx}{t:TypeId}{es:Nat}(ht:zD7 P t=some es){x:AV}{v:Value}{lo hi mx:Option AV}{vl vh vm:Option Value}{K:AV→Prop}(h:zDD es c.H x∧zDU es x lo hi mx K)(he:Enc c x v)
 (hl:zRk c lo vl) (hh:zRk c hi vh) (hm:zRk c mx vm): ∃r v',(Instr.sliceAt t v vl vh vm).run P c.w=.ok v' c.w∧Enc c r v'∧K r:=by
 obtain⟨hlv,h⟩:=h
 obtain⟨e,inf,hu,hinf,hes,hes0⟩:=zDf ht
 have hrun: ∀{base:Option Addr}{n cap:Nat}{l h m:Int},zC9 lo 0=some l→zC9 hi n=some h→zC9 mx cap=some m→(mx.isSome=true→hi.isSome=true)→(0≤l∧l≤h∧h≤m∧m≤cap)→
  (Instr.sliceAt t (.slice base n cap) vl vh vm).run P c.w=.ok (.slice (if m.toNat=l.toNat then base else base.map (·.add (l.toNat*es))) (h.toNat-l.toNat) (m.toNat-l.toNat)) c.w:=by
  intro base n cap l h m el eh em hmh hb
  simp only[Instr.sliceAt,Sem.run_bind,run_underlying hu,Result.andThen_ok,Instr.slice,zFr hl hh hm el eh em hmh hb,zAX hinf,hes,Sem.run_pure]
 have main: ∀{n:Nat}{l h m:Int}{ti':Bool}{cap:Nat}{base:Option Addr}{cells:List AV}{ti:Bool},Enc c (.seq n cells ti) (.slice base n cap)→zC9 lo 0=some l→zC9 hi n=some h→zC9 mx cap=some m→(mx.isSome=true→hi.isSome=true)→
  (0≤l∧l≤h∧h≤m∧m≤cap)→h≤n→cells.length=n*es→(ti'=true→m=h)→K (.seq (h-l).toNat ((cells.drop (l.toNat*es)).take ((h-l).toNat*es)) ti')→
  ∃r v',(Instr.sliceAt t (.slice base n cap) vl vh vm).run P c.w=.ok v' c.w∧Enc c r v'∧K r:=by
  intro n l h m ti' cap base cells ti he el eh em hmh hb hn hce ht' hK
  refine⟨_,_,hrun el eh em hmh hb,zQA (ti':=ti') he hce (by omega) (by omega) (by omega) (by omega) (fun e=>by have:=ht' e;omega),?_⟩
  rw[show h.toNat-l.toNat=(h-l).toNat by omega];exact hK
 have mainO: ∀{b L off n:Nat}{l h m:Int}{ti ti':Bool}{cap:Nat}{base:Option Addr},Enc c (.own b L off n ti) (.slice base n cap)→zDD es c.H (.own b L off n ti)→zC9 lo 0=some l→zC9 hi n=some h→zC9 mx cap=some m→(mx.isSome=true→hi.isSome=true)→
  (0≤l∧l≤h∧h≤m∧m≤cap)→h≤n→(ti'=true→m=h)→K (.own b L (off+l.toNat*es) (h-l).toNat ti')→
  ∃r v',(Instr.sliceAt t (.slice base n cap) vl vh vm).run P c.w=.ok v' c.w∧Enc c r v'∧K r:=by
  intro b L off n l h1 m ti ti' cap base he hlv el eh em hmh hb hn ht' hK
  refine⟨.own b L (off+l.toNat*es) (h1-l).toNat ti',_,hrun el eh em hmh hb,?_,hK⟩
  simp only[zDD]at hlv
  split at hlv
  ·rename_i ty es' cells hH
   obtain⟨hlv',rfl⟩:=hlv
   cases he with
   |own _ _ _ _ _ _ hs hbb hL hv=>
    obtain⟨base',cap',arr,e1,g0,g1,g2,g3,g4,g5⟩:=hv ty es' cells hH hlv'
    injection e1 with e1 _ e2
    subst e1;subst e2
    rw[show h1.toNat-l.toNat=(h1-l).toNat by omega]
    refine .own b L _ _ ti' _ ⟨_,_,rfl,by omega⟩ hbb hL fun ty2 es2 cells2 hH2 hl2=>?_
    rw[hH]at hH2
    injection hH2 with hH2;injection hH2 with k1 k2 k3
    subst k1;subst k2;subst k3
    refine⟨_,_,arr,rfl,?_,by omega,by omega,fun e=>by have:=ht' e;omega,g4,?_⟩
    ·by_cases hz:m.toNat-l.toNat=0
     ·exact .inl hz
     ·right
      rw[if_neg (by omega)]
      have:=g0.resolve_left (by omega)
      subst this
      simp[zA8]
    ·have:(m.toNat-l.toNat)*es'+l.toNat*es'=m.toNat*es':=by rw[← Nat.add_mul];congr 1;omega
     have h2:m.toNat*es'≤cap*es':=Nat.mul_le_mul_right _ (by omega)
     omega
  ·exact hlv.elim
 unfold zDU at h
 split at h
 ·rename_i n cells ti
  have he0:=he
  cases he with
  |seq _ _ _ base cap cv hlen hcap hmax htt hb hn hc=>
   split at h
   ·rename_i l h' el eh
    obtain⟨⟨b1,b2,b3⟩,hce,hK⟩:=h
    refine main (ti':=ti&&decide (h'=n)) he0 el eh (m:=cap) rfl (fun e=>by simp at e) ⟨b1,b2,by omega,by omega⟩ b3 hce (fun e=>?_) hK
    simp only[Bool.and_eq_true,decide_eq_true_eq]at e
    have:=htt e.1
    omega
   ·rename_i l h' km m el eh
    obtain⟨hhi,⟨b1,b2,b3,b4⟩,hce,hK⟩:=h
    exact main (ti':=decide (h'=m)) he0 el eh rfl (fun _=>hhi) ⟨b1,b2,b3,by omega⟩ (by omega) hce (fun e=>(of_decide_eq_true e).symm) hK
   ·exact h.elim
 ·rename_i b L off n ti
  have he0:=he
  have hlv0:=hlv
  simp only[zDD]at hlv
  split at hlv
  ·rename_i ty es' cells hH
   cases he with
   |own _ _ _ _ _ _ hs hbb hL hv=>
    obtain⟨base,cap,arr,rfl,g0,g1,g2,g3,g4,g5⟩:=hv ty es' cells hH hlv.1
    split at h
    ·rename_i l h' el eh
     obtain⟨⟨b1,b2,b3⟩,hK⟩:=h
     refine mainO (ti':=ti&&decide (h'=n)) he0 hlv0 el eh (m:=cap) rfl (fun e=>by simp at e) ⟨b1,b2,by omega,by omega⟩ b3 (fun e=>?_) hK
     simp only[Bool.and_eq_true,decide_eq_true_eq]at e
     have:=g3 e.1
     omega
    ·rename_i l h' km m el eh
     obtain⟨hhi,⟨b1,b2,b3,b4⟩,hK⟩:=h
     exact mainO (ti':=decide (h'=m)) he0 hlv0 el eh rfl (fun _=>hhi) ⟨b1,b2,b3,by omega⟩ (by omega) (fun e=>(of_decide_eq_true e).symm) hK
    ·exact h.elim
  ·exact hlv.elim
 ·rename_i n cells
  cases he with
  |ext _ _ k off cap cv g1 g2 g3 gm gk gcell gc=>
   split at h
   ·rename_i l h' el eh
    obtain⟨rfl,⟨b1,b2,b3⟩,hK⟩:=h
    refine⟨_,_,hrun el eh (m:=cap) rfl (fun e=>by simp at e) ⟨b1,b2,by omega,by omega⟩,?_,hK⟩
    rw[show h'.toNat-l.toNat=(h'-l).toNat by omega]
    have hcap:((cap:Int).toNat-l.toNat)=cap-l.toNat:=by omega
    rw[hcap]
    have hlen:(cells.drop l.toNat).length=cells.length-l.toNat:=List.length_drop ..
    by_cases hz:(cap:Int).toNat=l.toNat
    ·rw[if_pos hz]
     have hnil:(cells.drop l.toNat).length=0:=by omega
     exact .ext _ _ k off _ cv (by omega) (by omega) (by omega) gm gk (fun i hi=>by omega) (fun i hi=>by omega)
    ·rw[if_neg hz]
     have hb:(Option.map (fun x:Addr=>x.add (l.toNat*1)) (some ⟨k,off,none⟩))=some ⟨k,off+l.toNat,none⟩:=by simp[zA8]
     rw[hb]
     refine .ext _ _ k (off+l.toNat) _ (fun i=>cv (l.toNat+i)) (by omega) (by omega) (by omega) gm gk (fun i hi=>?_) (fun i hi=>?_)
     ·rw[Nat.add_assoc];exact gcell (l.toNat+i) (by omega)
     ·have:=gc (l.toNat+i) (by omega)
      simpa using this
   ·exact h.elim
 ·rename_i b L n cap
  cases he with
  |ownc _ _ _ _ p g1 g2 g3 g4 g5=>
   split at h
   ·rename_i l h' el eh
    obtain⟨rfl,rfl,hK⟩:=h
    refine⟨_,_,hrun el eh (m:=cap) rfl (fun e=>by simp at e) ⟨by omega,by omega,by omega,by omega⟩,?_,hK⟩
    simp only[Int.toNat_zero,Int.toNat_natCast,Nat.sub_zero,Nat.zero_mul]
    refine .own b L 0 cap true _ ⟨_,_,rfl,g2⟩ g3 g4 fun ty es2 cells2 hH2 hl2=>?_
    obtain⟨arr,k1,k2,k3⟩:=g5 ty es2 cells2 hH2 hl2
    refine⟨_,_,arr,rfl,?_,Nat.le_refl _,g2,fun _=>rfl,k2,by omega⟩
    rcases k1 with k1|k1
    ·exact .inl k1
    ·right
     subst k1
     split
     ·rfl
     ·simp[zA8]
   ·exact h.elim
 ·rename_i es' n cells
  cases he with
  |exte _ _ _ k off cap cv g1 g2 g0 g3 gm gk gcell gc=>
   split at h
   ·rename_i l h' el eh
    obtain⟨⟨rfl,hes0⟩,⟨b1,b2,b3⟩,hK⟩:=h
    have hcapH:h'.toNat≤cap:=Nat.le_of_mul_le_mul_right (Nat.le_trans b3 g2) hes0
    refine⟨_,_,hrun el eh (m:=cap) rfl (fun e=>by simp at e) ⟨b1,b2,by omega,by omega⟩,?_,hK⟩
    rw[show h'.toNat-l.toNat=(h'-l).toNat by omega]
    have hcap:((cap:Int).toNat-l.toNat)=cap-l.toNat:=by omega
    rw[hcap]
    have hll:l.toNat≤h'.toNat:=by omega
    have hmul:=Nat.mul_le_mul_right es' hll
    have hsub:(h'-l).toNat*es'=h'.toNat*es'-l.toNat*es':=by rw[← Nat.sub_mul];congr 1;omega
    have hsub2:(cap-l.toNat)*es'=cap*es'-l.toNat*es':=Nat.sub_mul ..
    have hlen:(cells.drop (l.toNat*es')).length=cells.length-l.toNat*es':=List.length_drop ..
    by_cases hz:(cap:Int).toNat=l.toNat
    ·rw[if_pos hz]
     have hz':cap=l.toNat:=by omega
     have hnil:(cells.drop (l.toNat*es')).length=0:=by rw[hlen,← hz'];omega
     exact .exte _ _ _ k off _ cv (by omega) (by omega) (by rw[hsub,hlen];omega) (by omega) gm gk (fun i hi=>by omega) (fun i hi=>by omega)
    ·rw[if_neg hz]
     have hb:(Option.map (fun x:Addr=>x.add (l.toNat*es')) (some ⟨k,off,none⟩))=some ⟨k,off+l.toNat*es',none⟩:=by simp[zA8]
     rw[hb]
     refine .exte _ _ _ k (off+l.toNat*es') _ (fun i=>cv (l.toNat*es'+i)) (by omega) (by omega) (by rw[hsub,hlen];omega) (by omega) gm gk (fun i hi=>?_) (fun i hi=>?_)
     ·rw[Nat.add_assoc];exact gcell (l.toNat*es'+i) (by omega)
     ·have:=gc (l.toNat*es'+i) (by omega)
      simpa using this
   ·exact h.elim
 ·exact h.elim
def zH3(x:AV)(lo hi:Option AV)(K:AV→Prop):Prop:=
 match x with
 |.str s=>match zC9 lo 0,zC9 hi s.size with
  |some l,some h=>(0≤l∧l≤h∧h≤s.size)∧K (.str (s.extract l.toNat h.toNat))
  |_,_=>False
 |_=>False
theorem zLB{P:Program}{c:Ctx}{t:TypeId}(ht:P.underlying t=some .string){x:AV}{v:Value}{lo hi:Option AV}{vl vh:Option Value}{K:AV→Prop}(h:zH3 x lo hi K)(he:Enc c x v)
 (hl:zRk c lo vl) (hh:zRk c hi vh): ∃r v',(Instr.sliceAt t v vl vh none).run P c.w=.ok v' c.w∧Enc c r v'∧K r:=by
 unfold zH3 at h
 split at h
 ·rename_i s
  cases he
  split at h
  ·rename_i l h' el eh
   obtain⟨⟨b1,b2,b3⟩,hK⟩:=h
   have bd: ∀{x:Option AV}{v:Option Value}{d i:Int},zRk c x v→zC9 x d=some i→(x=none∧v=none∧i=d)∨∃k,x=some (.int k i)∧v=some (.int k i):=by
    intro x v d i he ho
    match x,v,he with
    |none,none,_=>injection ho with ho;exact .inl ⟨rfl,rfl,ho.symm⟩
    |some y,some v,he=>
     cases y with
     |int k j=>
      injection ho with ho
      subst ho
      cases he
      exact .inr ⟨k,rfl,rfl⟩
     |_=>cases ho
   refine⟨_,.string (s.extract l.toNat h'.toNat),?_,.str _,hK⟩
   simp only[Instr.sliceAt,Sem.run_bind,run_underlying ht,Result.andThen_ok,Instr.slice,Instr.sliceBounds,Option.isSome_none]
   rcases bd hh eh with⟨rfl,rfl,rfl⟩|⟨kh,rfl,rfl⟩<;>rcases bd hl el with⟨rfl,rfl,rfl⟩|⟨kl,rfl,rfl⟩
   ·simp
   ·simp[zAg b1 b2]
   ·simp[zAg (by omega) b3]
   ·have:=zAg (P:=P) (w:=c.w) (k:=kl) (y:=h'.toNat) (code:=.sliceB) b1 (by omega)
    simp[zAg (by omega) b3,this]
  ·exact h.elim
 ·exact h.elim
def zB3(s:ByteArray)(i:Nat):Nat:=(s.data.toList.getD i 0).toNat
def zGT(x i:AV)(K:AV→Prop):Prop:=
 match x,i with
 |.str s,.int _ j=>(0≤j∧j<s.size)∧K (.int .u8 (zB3 s j.toNat))
 |_,_=>False
theorem zKv{P:Program}{c:Ctx}{t:TypeId}(ht:P.underlying t=some .string){x i:AV}{v u:Value}{K:AV→Prop}(h:zGT x i K)(he:Enc c x v)(hi:Enc c i u):
 ∃r v',(Instr.index t v u).run P c.w=.ok v' c.w∧Enc c r v'∧K r:=by
 unfold zGT at h
 split at h
 ·rename_i s k j
  obtain⟨⟨b1,b2⟩,hK⟩:=h
  cases he;cases hi
  refine⟨_,.int .u8 (zB3 s j.toNat),?_,.int _ _,hK⟩
  have hlt:j.toNat<s.size:=by omega
  simp only[Instr.index,asIntOf,Sem.run_bind,Sem.run_pure,Result.andThen_ok,run_underlying ht,if_pos b1]
  rw[getElem?_pos s j.toNat hlt]
  simp only[Sem.run_pure]
  congr 3
  have hlt':j.toNat<s.data.size:=hlt
  simp only[zB3,List.getD_eq_getElem?_getD]
  rw[List.getElem?_eq_getElem (by simpa using hlt')]
  simp
  rfl
 ·exact h.elim
def zK8(x:AV)(i:Nat)(K:AV→Prop):Prop:=
 match x with
 |.tup l=>match l[i]? with
  |some y=>K y
  |none=>False
 |_=>False
theorem zNI{P:Program}{c:Ctx}{x:AV}{i:Nat}{v:Value}{K:AV→Prop}(h:zK8 x i K)(he:Enc c x v): ∃r v',(Instr.extract v i).run P c.w=.ok v' c.w∧Enc c r v'∧K r:=by
 unfold zK8 at h
 split at h
 ·split at h
  ·rename_i l y hy
   cases he with
   |tup _ vs hlen hc=>
    obtain⟨hi,e⟩:=List.getElem?_eq_some_iff.1 hy
    have hi':i<vs.size:=by omega
    refine⟨y,vs[i],by simp[Instr.extract,hi'],?_,h⟩
    have:=hc i hi hi'
    rwa[e]at this
  ·exact h.elim
 ·exact h.elim
def zLG(P:Program)(s:TypeId)(f:Nat):Option (Nat×Option Nat):=
 match P.underlying s with
 |some (.struct fields)=>match fields[f]? with
  |some fd=>(zIP P fd.type).map fun n=>(fd.offset,n)
  |none=>none
 |_=>none
def zOV(off:Nat)(n:Option Nat)(x:AV)(K:AV→Prop):Prop:=
 match x with
 |.agg l=>match n with
  |some n=>off+n≤l.length∧K (.agg ((l.drop off).take n))
  |none=>match l[off]? with
   |some y=>K y
   |none=>False
 |_=>False
theorem zN2{P:Program}{c:Ctx}{s:TypeId}{f off:Nat}{n:Option Nat}(hf:zLG P s f=some (off,n)){x:AV}{v:Value}{K:AV→Prop}(h:zOV off n x K)(he:Enc c x v):
 ∃r v',(Instr.field s v f).run P c.w=.ok v' c.w∧Enc c r v'∧K r:=by
 unfold zLG at hf
 split at hf
 ·rename_i fields hu
  split at hf
  ·rename_i fd hfd
   cases ha:zIP P fd.type with
   |none=>rw[ha]at hf;cases hf
   |some n'=>
    rw[ha]at hf
    injection hf with hf
    injection hf with h1 h2
    subst h1;subst h2
    unfold zOV at h
    split at h
    ·rename_i l
     cases he with
     |agg _ vs hlen hc=>
      split at h
      ·rename_i n
       obtain⟨i,hi,hs,hag⟩:=zHP ha
       refine⟨_,.agg (vs.extract fd.offset (fd.offset+n)),?_,?_,h.2⟩
       ·simp only[Instr.field,Sem.run_bind,run_underlying hu,Result.andThen_ok,hfd,asAgg,Sem.run_pure,part,hag,if_true,zAX hi,hs]
       ·refine .agg _ _ (by simp;omega) fun i hi hi'=>?_
        have:=hc (fd.offset+i) (by simp at hi;omega) (by simp at hi';omega)
        simpa using this
      ·have hag:=zHT ha
       split at h
       ·rename_i y hy
        obtain⟨hi,e⟩:=List.getElem?_eq_some_iff.1 hy
        have hi':fd.offset<vs.size:=by omega
        refine⟨y,vs[fd.offset],?_,?_,h⟩
        ·simp only[Instr.field,Sem.run_bind,run_underlying hu,Result.andThen_ok,hfd,asAgg,Sem.run_pure,part,hag,Bool.false_eq_true,if_false]
         rw[Array.getElem?_eq_getElem hi'];rfl
        ·have:=hc fd.offset hi hi'
         rwa[e]at this
       ·exact h.elim
    ·exact h.elim
  ·cases hf
 ·cases hf
end Go.Proofs.YtmndejlpfmmaiaaGreatDoor.Fw
namespace Go.Proofs.YtmndejlpfmmaiaaGreatDoor.Fw
open Go
def zAh(cells:List AV)(off:Nat)(l:List AV):List AV:=cells.take off++l++cells.drop (off+l.length)
theorem zAj{cells:List AV}{off:Nat}{l:List AV}(h:off+l.length≤cells.length):(zAh cells off l).length=cells.length:=by
 simp[zAh];omega
theorem zC7{cells:List AV}{off:Nat}{l:List AV}(h:off+l.length≤cells.length)(i:Nat):
 (zAh cells off l)[i]? =if off≤i∧i<off+l.length then l[i-off]? else cells[i]? :=by
 have ht:(cells.take off).length=off:=by simp;omega
 have hl:(cells.take off++l).length=off+l.length:=by simp;omega
 unfold zAh
 by_cases h1:i<off
 ·rw[if_neg (by omega),List.getElem?_append_left (by omega),List.getElem?_append_left (by omega),List.getElem?_take,if_pos h1]
 ·by_cases h2:i<off+l.length
  ·rw[if_pos ⟨by omega,h2⟩,List.getElem?_append_left (by omega),List.getElem?_append_right (by omega),ht]
  ·rw[if_neg (by omega),List.getElem?_append_right (by omega),hl,List.getElem?_drop]
   congr 1
   omega
theorem zNh{cells:List AV}{off:Nat}{l:List AV}(h:off+l.length≤cells.length)(i:Nat)(hi:i<(zAh cells off l).length):
 (zAh cells off l)[i]=if h1:off≤i∧i<off+l.length then l[i-off]'(by omega)else cells[i]'(by rw[zAj h]at hi;exact hi):=by
 have hi':i<cells.length:=by rw[zAj h]at hi;exact hi
 have e:=zC7 h i
 rw[List.getElem?_eq_getElem hi]at e
 split
 ·rename_i h1
  rw[if_pos h1,List.getElem?_eq_getElem (by omega)]at e
  injection e
 ·rename_i h1
  rw[if_neg h1,List.getElem?_eq_getElem hi']at e
  injection e
def zDT(c:Ctx)(cells:List AV)(arr:Array Value):Prop:=arr.size=cells.length∧∀i(h:i<cells.length)(h':i<arr.size),Enc c (cells[i]) (arr[i])
theorem zJn(off:Nat): ∀(vs:List Value)(k:Nat)(arr:Array Value),
 ((vs.zipIdx k).foldl (fun cs (p:Value×Nat)=>cs.setIfInBounds (off+p.2) p.1) arr).size=arr.size∧
 ∀i,((vs.zipIdx k).foldl (fun cs (p:Value×Nat)=>cs.setIfInBounds (off+p.2) p.1) arr)[i]? =if off+k≤i∧i<off+k+vs.length∧i<arr.size then vs[i-(off+k)]? else arr[i]?
 |[],k,arr=>⟨rfl,fun i=>by
  rw[if_neg (fun h=>by simp at h;omega)]
  rfl⟩
 |v::r,k,arr=>by
  have hh:=zJn off r (k+1) (arr.setIfInBounds (off+k) v)
  have h1:=hh.1
  have h2:=hh.2
  simp only[List.zipIdx_cons,List.foldl_cons]
  refine⟨by rw[h1];simp,fun i=>?_⟩
  rw[h2 i]
  have hsz:(arr.setIfInBounds (off+k) v).size=arr.size:=by simp
  rw[hsz,List.length_cons]
  by_cases e:i=off+k
  ·have c1: ¬(off+(k+1)≤i∧i<off+(k+1)+r.length∧i<arr.size):=by omega
   rw[if_neg c1,Array.getElem?_setIfInBounds,if_pos e.symm]
   by_cases hs:off+k<arr.size
   ·have c2:off+k≤i∧i<off+k+(r.length+1)∧i<arr.size:=by omega
    rw[if_pos c2,if_pos hs,e];simp
   ·have c2: ¬(off+k≤i∧i<off+k+(r.length+1)∧i<arr.size):=by omega
    rw[if_neg c2,if_neg hs,e];simp[hs]
  ·rw[Array.getElem?_setIfInBounds,if_neg (fun hh:off+k=i=>e hh.symm)]
   by_cases h:off+(k+1)≤i∧i<off+(k+1)+r.length∧i<arr.size
   ·have c2:off+k≤i∧i<off+k+(r.length+1)∧i<arr.size:=by omega
    rw[if_pos h,if_pos c2]
    rw[show i-(off+k)=(i-(off+(k+1)))+1 by omega]
    rfl
   ·have c2: ¬(off+k≤i∧i<off+k+(r.length+1)∧i<arr.size):=by omega
    rw[if_neg h,if_neg c2]
def zDL(cells:List AV):List (Nat×Nat×AV)→Option (List AV)
 |[]=>some cells
 |(off,size,x)::r=>match x.cells with
  |some l=>if l.length=size∧off+l.length≤cells.length then zDL (zAh cells off l) r else none
  |none=>none
theorem zE5{c:Ctx}{place:Nat→Option (Nat×Nat)}: ∀{ps:List (Nat×Value)}{qs:List (Nat×Nat×AV)}{cells out:List AV}{arr:Array Value},zDT c cells arr→zDL cells qs=some out→ps.length=qs.length→
 (∀i(h:i<ps.length)(h':i<qs.length),place (ps[i]).1=some ((qs[i]).1,(qs[i]).2.1)∧Enc c (qs[i]).2.2 (ps[i]).2)→∃arr',Instr.fill place arr ps=some arr'∧zDT c out arr'
 |[],[],cells,out,arr,ha,h,_,_=>by
  injection h with h;subst h
  exact⟨arr,rfl,ha⟩
 |(i,v)::ps,(off,size,x)::qs,cells,out,arr,ha,h,hl,hp=>by
  simp only[zDL]at h
  split at h
  ·rename_i l hx
   split at h
   ·rename_i hc
    obtain⟨hp1,hp2⟩:=hp 0 (by simp) (by simp)
    obtain⟨e1,e2,_⟩:=Enc.cells hp2 hx
    have hstep:=zJn off v.cells.toList 0 arr
    have hfold:v.cells.zipIdx.foldl (fun cs (x:Value×Nat)=>match x with|(c,j)=>cs.setIfInBounds (off+j) c) arr=(v.cells.toList.zipIdx 0).foldl (fun cs (p:Value×Nat)=>cs.setIfInBounds (off+p.2) p.1) arr:=by
     rw[← Array.foldl_toList,Array.toList_zipIdx]
    have hcond: ¬(v.cells.size≠size||decide (off+v.cells.size>arr.size))=true:=by
     simp only[Bool.or_eq_true,decide_eq_true_eq,not_or]
     refine⟨fun e=>e (by simp at e1;omega),by rw[ha.1];simp at e1;omega⟩
    have hA:zDT c (zAh cells off l) ((v.cells.toList.zipIdx 0).foldl (fun cs (p:Value×Nat)=>cs.setIfInBounds (off+p.2) p.1) arr):=by
     refine⟨by rw[hstep.1,zAj hc.2];exact ha.1,fun j hj hj'=>?_⟩
     have hg:=hstep.2 j
     have hjc:j<cells.length:=by rw[zAj hc.2]at hj;exact hj
     have hja:j<arr.size:=by rw[ha.1];exact hjc
     rw[Array.getElem?_eq_getElem hj']at hg
     rw[zNh hc.2]
     have hvl:v.cells.size=l.length:=e1
     split
     ·rename_i hh
      rw[if_pos ⟨by omega,by simp;omega,hja⟩]at hg
      have hlt:j-off<v.cells.size:=by omega
      rw[show j-(off+0)=j-off by omega,List.getElem?_eq_getElem (by simpa using hlt)]at hg
      injection hg with hg
      rw[hg]
      have:=e2 (j-off) (by omega) hlt
      rwa[Array.getElem_toList]
     ·rename_i hh
      rw[if_neg (by simp;omega),Array.getElem?_eq_getElem hja]at hg
      injection hg with hg
      rw[hg]
      exact ha.2 j hjc hja
    obtain⟨arr',g1,g2⟩:=zE5 (place:=place) (ps:=ps) (qs:=qs) hA h (by simpa using hl) (fun i h h'=>hp (i+1) (by simpa using h) (by simpa using h'))
    refine⟨arr',?_,g2⟩
    simp only[List.getElem_cons_zero]at hp1
    simp only[Instr.fill,hp1]
    rw[if_neg hcond,hfold]
    exact g1
   ·cases h
  ·cases h
 |[],_::_,_,_,_,_,_,hl,_=>by simp at hl
 |_::_,[],_,_,_,_,_,hl,_=>by simp at hl
theorem zBW(c:Ctx){v:Value}{cells:List AV}(h:zKY v=some cells):zDT c cells v.cells:=by
 obtain⟨h1,h2,_⟩:=zE6 c h
 refine⟨by simpa using h1,fun i hi hi'=>?_⟩
 have:=h2 i hi (by simpa using hi')
 rwa[Array.getElem_toList]at this
def zHp(P:Program)(t:TypeId):Option (Nat→Option (Nat×Nat)):=
 match P.underlying t with
 |some (.struct fields)=>(fields.toList.mapM (fun f=>(P.info? f.type).map fun i=>(f.offset,i.size))).map fun places=>(places.toArray[·]?)
 |some (.array _ e)=>(P.info? e).map fun inf=>fun i=>some (i*inf.size,inf.size)
 |_=>none
def zCU(P:Program)(t:TypeId):Option (List AV):=
 match P.info? t with
 |some i=>match i.zero with
  |some v=>zKY v
  |none=>none
 |none=>none
def zEo(zero:List AV)(parts:List (Nat×Nat×AV))(K:AV→Prop):Prop:=
 match zDL zero parts with
 |some l=>K (.agg l)
 |none=>False
theorem zJZ{P:Program}{c:Ctx}{t:TypeId}{zero:List AV}(hz:zCU P t=some zero){place:Nat→Option (Nat×Nat)}(hpl:zHp P t=some place){ps:Array (Nat×Value)}{qs:List (Nat×Nat×AV)}{K:AV→Prop}
 (h:zEo zero qs K) (hl:ps.toList.length=qs.length) (hp: ∀i(h:i<ps.toList.length)(h':i<qs.length),place (ps.toList[i]).1=some ((qs[i]).1,(qs[i]).2.1)∧Enc c (qs[i]).2.2 (ps.toList[i]).2):
 ∃r v',(Instr.build t ps).run P c.w=.ok v' c.w∧Enc c r v'∧K r:=by
 unfold zEo at h
 split at h
 ·rename_i l hf
  unfold zCU at hz
  split at hz
  ·rename_i inf hinf
   split at hz
   ·rename_i v0 hv0
    obtain⟨arr,h1,h2⟩:=zE5 (c:=c) (place:=place) (zBW c hz) hf hl hp
    refine⟨.agg l,.agg arr,run_build c.w t ps arr ?_,.agg l arr h2.1 h2.2,h⟩
    unfold Program.built
    unfold zHp at hpl
    split at hpl
    ·rename_i fields hu
     cases hm:fields.toList.mapM (fun f=>(P.info? f.type).map fun i=>(f.offset,i.size))with
     |none=>rw[hm]at hpl;cases hpl
     |some places=>
      rw[hm]at hpl
      injection hpl with hpl
      subst hpl
      simp only[hinf,hu,hv0,hm]
      exact h1
    ·rename_i n e hu
     cases hi:P.info? e with
     |none=>rw[hi]at hpl;cases hpl
     |some ie=>
      rw[hi]at hpl
      injection hpl with hpl
      subst hpl
      simp only[hinf,hu,hv0,hi]
      exact h1
    ·cases hpl
   ·cases hz
  ·cases hz
 ·exact h.elim
end Go.Proofs.YtmndejlpfmmaiaaGreatDoor.Fw
namespace Go.Proofs.YtmndejlpfmmaiaaGreatDoor.Fw
open Go
def zB8(zero:List AV)(n:Nat):List AV:=(List.range n).map fun i=>zero.getD (i%zero.length) .bot
theorem zCR(zero:List AV)(n:Nat):(zB8 zero n).length=n:=by simp[zB8]
theorem zEP(z:AV)(n:Nat):zB8 [z] n=List.replicate n z:=by
 simp only[zB8,List.length_singleton,Nat.mod_one]
 rw[List.eq_replicate_iff]
 simp
theorem zEz{c:Ctx}{zero:List AV}{arr:Array Value}(h:zDT c zero arr)(hz:zero≠[])(n:Nat):zDT c (zB8 zero n) ((Array.range n).map (arr[· %arr.size]!)):=by
 have hpos:0<zero.length:=List.length_pos_iff.2 hz
 refine⟨by simp[zB8],fun i hi hi'=>?_⟩
 have h1:i%zero.length<zero.length:=Nat.mod_lt _ hpos
 have h2:i%arr.size<arr.size:=by rw[h.1];exact h1
 have:=h.2 (i%zero.length) h1 (by rw[h.1];exact h1)
 simp only[zB8,List.getElem_map,List.getElem_range,Array.getElem_map,Array.getElem_range,List.getD_eq_getElem?_getD,List.getElem?_eq_getElem h1,Option.getD_some]
 rw[getElem!_pos arr (i%arr.size) h2]
 simpa[h.1]using this
theorem zK0{c:Ctx}(hok:Ok c){n:Nat}{cells:List AV}{arr:Array Value}{ty:TypeId}(h:zDT c cells arr)(hn:n=0→cells=[])(hb:n<2^63):
 Enc (c.push (.cells arr ty)) (.seq n cells true) (.slice (some ⟨c.w.heap.size,0,none⟩) n n):=by
 refine .seq n cells true _ n (fun i=>arr.getD i undef) hn (Nat.le_refl _) hb (fun _=>rfl) (fun hpos=>⟨_,0,rfl,?_,by simp[Ctx.push],fun i hi=>?_⟩) (.inr (by simp)) (fun i hi=>?_)
 ·rintro⟨b,h1,h2⟩
  have h1':ABlk.mut (c.H b):=h1
  cases hx:c.H b with
  |none=>rw[hx]at h1';exact h1'
  |some x=>
   have:=(hok.blk b x hx).lt
   have h2':c.μ b=c.w.heap.size:=h2
   omega
 ·have hi':i<arr.size:=by rw[h.1];exact hi
  rw[Nat.zero_add]
  show World.cell? (c.w.alloc _) _=_
  rw[World.cell?_alloc_new]
  simp[Array.getD_eq_getD_getElem?,hi']
 ·have hi':i<arr.size:=by rw[h.1];exact hi
  have:=(h.2 i hi hi').later (c.push_later (.cells arr ty))
  simpa[Array.getD_eq_getD_getElem?,hi']using this
def zUP(zero:List AV)(len es:Nat)(parts:List (Nat×Nat×AV))(K:AV→Prop):Prop:=
 match zDL (zB8 zero (len*es)) parts with
 |some l=>K (.seq len l true)
 |none=>False
theorem zN6{P:Program}{c:Ctx}(hok:Ok c){t e:TypeId}{inf:TypeInfo}{len:Nat}{zero:List AV}(hu:P.underlying t=some (.slice e))(hi:P.info? e=some inf)(hz:zCU P e=some zero)(hzl:zero.length=inf.size)(hes:inf.size≠0)
 (hlen:len*inf.size≤2^24) {ps:Array (Nat×Value)} {qs:List (Nat×Nat×AV)} {K:AV→Prop} (h:zUP zero len inf.size qs K) (hl:ps.toList.length=qs.length)
 (hp: ∀i(h:i<ps.toList.length)(h':i<qs.length),(some ((ps.toList[i]).1*inf.size,inf.size):Option (Nat×Nat))=some ((qs[i]).1,(qs[i]).2.1)∧Enc c (qs[i]).2.2 (ps.toList[i]).2):
 ∃(c':Ctx)(r:AV)(v':Value),(Instr.buildSlice t len ps).run P c.w=.ok v' c'.w∧Later c c'∧Ok c'∧c'.H=c.H∧Enc c' r v'∧K r:=by
 unfold zUP at h
 split at h
 ·rename_i l hf
  have hz0:=hz
  unfold zCU at hz
  rw[hi]at hz
  simp only at hz
  split at hz
  ·rename_i v0 hv0
   have hzero:zDT c (zB8 zero (len*inf.size)) ((Array.range (len*inf.size)).map ((if len*inf.size=0 then #[]else v0.cells)[· %(if len*inf.size=0 then #[]else v0.cells).size]!)):=by
    by_cases h0:len*inf.size=0
    ·rw[h0];exact⟨by simp[zB8],fun i h=>absurd h (by simp[zB8])⟩
    ·simp only[if_neg h0]
     exact zEz (zBW c hz) (by intro e;rw[e]at hzl;simp at hzl;omega) _
   obtain⟨arr,h1,h2⟩:=zE5 (c:=c) (place:=fun i=>some (i*inf.size,inf.size)) hzero hf hl hp
   refine⟨c.push (.cells arr e),.seq len l true,.slice (some ⟨c.w.heap.size,0,none⟩) len len,?_,c.push_later _,Ctx.push_ok hok _,rfl,zK0 hok h2 (fun e0=>?_) ?_,h⟩
   ·have hle: ¬(len*inf.size>2^24):=by omega
    simp only[Instr.buildSlice,Sem.run_bind,run_underlying hu,Result.andThen_ok,zAX hi,if_neg hle]
    by_cases h0:len*inf.size=0
    ·simp only[h0,if_true]at h1
     simp only[h0,if_true,Sem.run_bind,Sem.run_pure,Result.andThen_ok,h1,newRow,run_newObj]
     rfl
    ·simp only[if_neg h0]at h1
     simp only[if_neg h0,Sem.run_bind,zBY hi hv0,Sem.run_pure,Result.andThen_ok,h1,newRow,run_newObj]
     rfl
   ·subst e0
    have:(zB8 zero (0*inf.size)).length=0:=by simp[zB8]
    have hlen2: ∀{cells out:List AV}{qs:List (Nat×Nat×AV)},zDL cells qs=some out→out.length=cells.length:=by
     intro cells out qs
     induction qs generalizing cells with
     |nil=>intro h;injection h with h;rw[h]
     |cons q r ih=>
      intro h
      obtain⟨off,size,x⟩:=q
      simp only[zDL]at h
      split at h
      ·split at h
       ·rename_i hc
        rw[ih h,zAj hc.2]
       ·cases h
      ·cases h
    exact List.eq_nil_of_length_eq_zero ((hlen2 hf).trans this)
   ·have:len≤len*inf.size:=Nat.le_mul_of_pos_right _ (by omega)
    omega
  ·cases hz
 ·exact h.elim
def zHK(H:AHeap)(ty es:Nat)(cells:List AV)(K:AV→AHeap→Prop):Prop:=
 ∀b,H b=none→K (.ptr b cells.length 0) (H.upd b (some (.row ty es cells)))
theorem zDC{c:Ctx}(hok:Ok c){b:Nat}(hb: ¬c.U b):c.H b=none:=by
 cases h:c.H b with
 |none=>rfl
 |some x=>exact absurd (hok.used b (by rw[h];simp)) hb
theorem Ok.fresh{c:Ctx}(hok:Ok c): ∃b,¬c.U b∧¬c.R b:=by
 obtain⟨M,hM⟩:=hok.fin
 exact⟨M,fun h=>by have:=hM M (.inl h);omega,fun h=>by have:=hM M (.inr h);omega⟩
theorem zEE(c:Ctx)(b:Nat)(o:Obj)(x:ABlk):Enc (c.new b o x) (.ptr b x.len 0) (.pointer (some ⟨c.w.heap.size,0,none⟩)):=by
 refine .ptr b _ 0 _ ⟨_,rfl⟩ (.inr rfl) (fun y hy=>?_) (fun y hy _=>?_)
 ·have:some x=some y:=by rw[← hy];simp[Ctx.new,AHeap.upd]
  injection this with this;rw[this];exact Nat.le_refl _
 ·simp[Ctx.new]
theorem zCX{P:Program}{c:Ctx}(hok:Ok c){ty es:Nat}{cells:List AV}{v:Value}(ha:zDT c cells v.cells){b:Nat}(hb: ¬c.U b∧¬c.R b){K:AV→AHeap→Prop}(h:K (.ptr b cells.length 0) (c.H.upd b (some (.row ty es cells)))):
 ∃(c':Ctx)(r:AV)(v':Value),(do pure (.pointer (some (← newVar ty v))):Sem Value).run P c.w=.ok v' c'.w∧Later c c'∧Ok c'∧Enc c' r v'∧K r c'.H:=
 ⟨c.new b (.cells v.cells ty) (.row ty es cells),_,_,by simp[newVar,newRow];rfl,Ctx.new_later hok hb _ _,Ctx.new_row hok hb ty es cells v.cells (by rw[ha.1];exact Nat.le_refl _) ha.2,zEE c b _ _,h⟩
def zGD(H:AHeap)(n:Nat)(x y:AV)(K:AV→AHeap→Prop):Prop:=
 match x with
 |.ptr b L off=>match H b with
  |some (.row ty es cells)=>match y.cells with
   |some l=>cells.length=L∧l.length=n∧off+n≤L∧K .bot (H.upd b (some (.row ty es (zAh cells off l))))
   |none=>False
  |_=>False
 |_=>False
theorem zEU{c:Ctx}(hok:Ok c){b ty es off:Nat}{cells l:List AV}{arr:Array Value}(hH:c.H b=some (.row ty es cells))(hw:c.w.heap[c.μ b]? =some (.cells arr ty))(hle:cells.length≤arr.size)
 (he: ∀i(h:i<cells.length)(h':i<arr.size),Enc c (cells[i]) (arr[i])) {vs:List Value} (hl:vs.length=l.length) (hv: ∀i(h:i<l.length)(h':i<vs.length),Enc c (l[i]) (vs[i])) {cells':List AV} (hc:cells.length≤cells'.length) (hc':cells'.length≤arr.size)
 (hoff:off+l.length≤cells'.length)
 (hcells: ∀i,i<cells'.length→cells'[i]? =if off≤i∧i<off+l.length then l[i-off]? else cells[i]?):
 Later c (c.put b (.row ty es cells') (arr.toList.take off++vs++arr.toList.drop (off+vs.length)).toArray)∧Ok (c.put b (.row ty es cells') (arr.toList.take off++vs++arr.toList.drop (off+vs.length)).toArray):=by
 have hsz:(arr.toList.take off++vs++arr.toList.drop (off+vs.length)).toArray.size=arr.size:=by simp;omega
 refine⟨Ctx.put_later hok hH hw hc hsz,Ctx.put_ok hok hH hw hc hsz (by rw[hsz];exact hc') fun i h h'=>?_⟩
 have h1:=hcells i h
 rw[List.getElem?_eq_getElem h]at h1
 have hia:i<arr.size:=by omega
 have h2:(arr.toList.take off++vs++arr.toList.drop (off+vs.length)).toArray[i]? =if off≤i∧i<off+vs.length then vs[i-off]? else arr[i]? :=by
  simp only[List.getElem?_toArray]
  have ht:(arr.toList.take off).length=off:=by simp;omega
  have htl:(arr.toList.take off++vs).length=off+vs.length:=by rw[List.length_append,ht]
  by_cases e1:i<off
  ·rw[if_neg (by omega),List.getElem?_append_left (by omega),List.getElem?_append_left (by omega),List.getElem?_take,if_pos e1,Array.getElem?_toList]
  ·by_cases e2:i<off+vs.length
   ·rw[if_pos ⟨by omega,e2⟩,List.getElem?_append_left (by omega),List.getElem?_append_right (by omega),ht]
   ·rw[if_neg (by omega),List.getElem?_append_right (by omega),htl,List.getElem?_drop,Array.getElem?_toList]
    congr 1
    omega
 rw[Array.getElem?_eq_getElem h']at h2
 by_cases e:off≤i∧i<off+l.length
 ·rw[if_pos e,List.getElem?_eq_getElem (by omega)]at h1
  rw[if_pos (by omega),List.getElem?_eq_getElem (by omega)]at h2
  injection h1 with h1;injection h2 with h2
  rw[h1,h2]
  exact hv _ _ _
 ·rw[if_neg e]at h1
  rw[if_neg (by omega),Array.getElem?_eq_getElem hia]at h2
  have hic:i<cells.length:=by
   rcases Nat.lt_or_ge i cells.length with h|hge
   ·exact h
   ·rw[List.getElem?_eq_none hge]at h1;cases h1
  rw[List.getElem?_eq_getElem hic]at h1
  injection h1 with h1;injection h2 with h2
  rw[h1,h2]
  exact he _ _ _
theorem zJd{P:Program}{c:Ctx}(hok:Ok c){t:TypeId}{inf:TypeInfo}(hi:P.info? t=some inf){x y:AV}{v u:Value}{K:AV→AHeap→Prop}(h:zGD c.H inf.size x y K)(he:Enc c x v)(hu:Enc c y u):
 ∃c':Ctx,(Instr.storeAt t v u).run P c.w=.ok () c'.w∧Later c c'∧Ok c'∧K .bot c'.H:=by
 unfold zGD at h
 split at h
 ·rename_i b L off
  split at h
  ·rename_i ty es cells hH
   split at h
   ·rename_i l hl
    obtain⟨h1,h2,h3,hK⟩:=h
    obtain⟨rfl,arr,g1,g2,g3⟩:=zMV hok he hH h1
    obtain⟨e1,e2,e3⟩:=hu.cells hl
    have hst:=run_storeCells_at (P:=P) (c.μ b) off ty u.cells.toList 0 arr c.w g1 (by simp;omega) e3
    obtain⟨k1,k2⟩:=zEU hok (l:=l) (off:=off) hH g1 g2 g3 (vs:=u.cells.toList) (by simpa using e1) (fun i h h'=>by rw[Array.getElem_toList];exact e2 i h (by simpa using h')) (cells':=zAh cells off l)
     (by rw[zAj (by omega)];exact Nat.le_refl _) (by rw[zAj (by omega)];exact g2) (by rw[zAj (by omega)];omega) (fun i _=>zC7 (by omega) i)
    refine⟨_,?_,k1,k2,hK⟩
    have hne: ¬(u.cells.size≠inf.size):=by omega
    simp only[Instr.storeAt,Instr.sureAddr,Sem.run_bind,Sem.run_pure,Result.andThen_ok,storeVar,zAX hi,if_neg hne]
    rw[hst]
    rfl
   ·exact h.elim
  ·exact h.elim
 ·exact h.elim
theorem zCD{x:Int}(h0: -9223372036854775808≤x)(h1:x≤9223372036854775807):IntKind.i64.wrap x=x:=by
 unfold IntKind.wrap
 simp only[IntKind.bits,IntKind.signed,Bool.true_and,decide_eq_true_eq,ge_iff_le]
 split<;>omega
theorem zGB{c:Ctx}(b:Nat){ty es n cap:Nat}{cells:List AV}{arr:Array Value}{t:Bool}(h1:n≤cap)(h2:cap<2^63)(h3:t=true→cap=n)(h4:cap*es≤arr.size):
 Enc (c.new b (.cells arr ty) (.row ty es cells)) (.own b cells.length 0 n t) (.slice (some ⟨c.w.heap.size,0,none⟩) n cap):=by
 refine .own b _ 0 n t _ ⟨_,_,rfl,by omega⟩ (.inr rfl) (fun y hy=>?_) (fun ty' es' cells' hy hl=>?_)
 ·have:some (ABlk.row ty es cells)=some y:=by rw[← hy];simp[Ctx.new,AHeap.upd]
  injection this with this;rw[← this]
  exact Nat.le_refl _
 ·have:some (ABlk.row ty es cells)=some (.row ty' es' cells'):=by rw[← hy];simp[Ctx.new,AHeap.upd]
  injection this with this
  injection this with k1 k2 k3
  subst k1;subst k2
  refine⟨_,_,arr,rfl,.inr ?_,h1,h2,h3,?_,by omega⟩
  ·simp[Ctx.new]
  ·show(c.w.alloc _).heap[(if b=b then c.w.heap.size else c.μ b)]? =_
   rw[if_pos rfl];exact zB1 _ _
def zOP(H:AHeap)(ty es bytes:Nat)(zero:List AV)(l c:AV)(K:AV→AHeap→Prop):Prop:=
 match l,c with
 |.int _ l,.int _ c=>(0≤l∧l≤c∧c<9223372036854775808∧bytes*c≤281474976710656)∧∀b,H b=none→K (.own b (c.toNat*es) 0 l.toNat (decide (l=c))) (H.upd b (some (.row ty es (zB8 zero (c.toNat*es)))))
 |_,_=>False
theorem zNv{P:Program}{c:Ctx}(hok:Ok c){t e:TypeId}{inf:TypeInfo}{zero:List AV}(hu:P.underlying t=some (.slice e))(hi:P.info? e=some inf)(hz:zCU P e=some zero)(hzl:zero.length=inf.size)(hes:inf.size≠0)
 {x y:AV} {v u:Value} {K:AV→AHeap→Prop} (h:zOP c.H e inf.size inf.bytes zero x y K) (hx:Enc c x v) (hy:Enc c y u):
 ∃(c':Ctx)(r:AV)(v':Value),(Instr.makeSlice t v u).run P c.w=.ok v' c'.w∧Later c c'∧Ok c'∧Enc c' r v'∧K r c'.H:=by
 unfold zOP at h
 split at h
 ·rename_i kl l kc n
  obtain⟨⟨h1,h2,h3,h4⟩,hK⟩:=h
  cases hx;cases hy
  obtain⟨nx,hnx⟩:=hok.fresh
  have hb:=hK nx (zDC hok hnx.1)
  unfold zCU at hz
  rw[hi]at hz
  simp only at hz
  split at hz
  ·rename_i v0 hv0
   have hzero:zDT c (zB8 zero (n.toNat*inf.size)) ((Array.range (n.toNat*inf.size)).map ((if n.toNat*inf.size=0 then #[]else v0.cells)[· %(if n.toNat*inf.size=0 then #[]else v0.cells).size]!)):=by
    by_cases h0:n.toNat*inf.size=0
    ·rw[h0];exact⟨by simp[zB8],fun i h=>absurd h (by simp[zB8])⟩
    ·simp only[if_neg h0]
     exact zEz (zBW c hz) (by intro e;rw[e]at hzl;simp at hzl;omega) _
   refine⟨c.new nx (.cells _ e) (.row e inf.size (zB8 zero (n.toNat*inf.size))),_,.slice (some ⟨c.w.heap.size,0,none⟩) l.toNat n.toNat,?_,Ctx.new_later hok hnx _ _,Ctx.new_row hok hnx e inf.size _ _ (by rw[hzero.1];exact Nat.le_refl _) hzero.2,?_,hb⟩
   ·have w1:=zCD (x:=l) (by omega) (by omega)
    have w2:=zCD (x:=n) (by omega) (by omega)
    have t1: ¬(decide (n<0)||decide ((inf.bytes:Int)*n>2^48)||decide (l<0)||decide (l>n))=true:=by
     simp only[Bool.or_eq_true,decide_eq_true_eq,not_or]
     refine⟨⟨⟨by omega,by omega⟩,by omega⟩,by omega⟩
    simp only[Instr.makeSlice,Sem.run_bind,run_underlying hu,Result.andThen_ok,asInt,asIntOf,Sem.run_pure,zBm hi,w1,w2]
    rw[if_neg t1]
    simp only[Sem.run_bind,Result.andThen_ok,run_askRoom,zAX hi]
    by_cases h0:n.toNat*inf.size=0
    ·simp only[h0,if_true,Sem.run_bind,Sem.run_pure,Result.andThen_ok,newRow,run_newObj]
     rfl
    ·simp only[if_neg h0,Sem.run_bind,zBY hi hv0,Sem.run_pure,Result.andThen_ok,newRow,run_newObj]
     rfl
   ·have:=zGB (c:=c) nx (es:=inf.size) (cells:=zB8 zero (n.toNat*inf.size)) (ty:=e) (arr:=(Array.range (n.toNat*inf.size)).map ((if n.toNat*inf.size=0 then #[]else v0.cells)[· %(if n.toNat*inf.size=0 then #[]else v0.cells).size]!))
     (n:=l.toNat) (cap:=n.toNat) (t:=decide (l=n)) (by omega) (by omega) (fun e=>by have:=of_decide_eq_true e;omega) (by rw[hzero.1,zCR];exact Nat.le_refl _)
    rw[zCR]at this
    exact this
  ·cases hz
 ·exact h.elim
def zZC(H:AHeap)(ty es bytes:Nat)(zero:List AV)(l c:AV)(K:AV→AHeap→Prop):Prop:=
 match l,c with
 |.int _ l,.int _ c=>(0≤l∧l≤c∧c<9223372036854775808∧bytes*c≤281474976710656)∧∀b,H b=none→K (.ownc b (c.toNat*es) l.toNat c.toNat) (H.upd b (some (.row ty es (zB8 zero (c.toNat*es)))))
 |_,_=>False
theorem zJM{c:Ctx}(b:Nat){ty es n cap:Nat}{cells:List AV}{arr:Array Value}(h1:n≤cap)(h2:cap<2^63)(h4:cap*es≤arr.size):
 Enc (c.new b (.cells arr ty) (.row ty es cells)) (.ownc b cells.length n cap) (.slice (some ⟨c.w.heap.size,0,none⟩) n cap):=by
 refine .ownc b _ n cap _ h1 h2 (.inr rfl) (fun y hy=>?_) (fun ty' es' cells' hy hl=>?_)
 ·have:some (ABlk.row ty es cells)=some y:=by rw[← hy];simp[Ctx.new,AHeap.upd]
  injection this with this;rw[← this]
  exact Nat.le_refl _
 ·have:some (ABlk.row ty es cells)=some (.row ty' es' cells'):=by rw[← hy];simp[Ctx.new,AHeap.upd]
  injection this with this
  injection this with k1 k2 k3
  subst k1;subst k2
  refine⟨arr,.inr ?_,?_,by omega⟩
  ·simp[Ctx.new]
  ·show(c.w.alloc _).heap[(if b=b then c.w.heap.size else c.μ b)]? =_
   rw[if_pos rfl];exact zB1 _ _
theorem zNG{P:Program}{c:Ctx}(hok:Ok c){t e:TypeId}{inf:TypeInfo}{zero:List AV}(hu:P.underlying t=some (.slice e))(hi:P.info? e=some inf)(hz:zCU P e=some zero)(hzl:zero.length=inf.size)(hes:inf.size≠0)
 {x y:AV} {v u:Value} {K:AV→AHeap→Prop} (h:zZC c.H e inf.size inf.bytes zero x y K) (hx:Enc c x v) (hy:Enc c y u):
 ∃(c':Ctx)(r:AV)(v':Value),(Instr.makeSlice t v u).run P c.w=.ok v' c'.w∧Later c c'∧Ok c'∧Enc c' r v'∧K r c'.H:=by
 unfold zZC at h
 split at h
 ·rename_i kl l kc n
  obtain⟨⟨h1,h2,h3,h4⟩,hK⟩:=h
  cases hx;cases hy
  obtain⟨nx,hnx⟩:=hok.fresh
  have hb:=hK nx (zDC hok hnx.1)
  unfold zCU at hz
  rw[hi]at hz
  simp only at hz
  split at hz
  ·rename_i v0 hv0
   have hzero:zDT c (zB8 zero (n.toNat*inf.size)) ((Array.range (n.toNat*inf.size)).map ((if n.toNat*inf.size=0 then #[]else v0.cells)[· %(if n.toNat*inf.size=0 then #[]else v0.cells).size]!)):=by
    by_cases h0:n.toNat*inf.size=0
    ·rw[h0];exact⟨by simp[zB8],fun i h=>absurd h (by simp[zB8])⟩
    ·simp only[if_neg h0]
     exact zEz (zBW c hz) (by intro e;rw[e]at hzl;simp at hzl;omega) _
   refine⟨c.new nx (.cells _ e) (.row e inf.size (zB8 zero (n.toNat*inf.size))),_,.slice (some ⟨c.w.heap.size,0,none⟩) l.toNat n.toNat,?_,Ctx.new_later hok hnx _ _,Ctx.new_row hok hnx e inf.size _ _ (by rw[hzero.1];exact Nat.le_refl _) hzero.2,?_,hb⟩
   ·have w1:=zCD (x:=l) (by omega) (by omega)
    have w2:=zCD (x:=n) (by omega) (by omega)
    have t1: ¬(decide (n<0)||decide ((inf.bytes:Int)*n>2^48)||decide (l<0)||decide (l>n))=true:=by
     simp only[Bool.or_eq_true,decide_eq_true_eq,not_or]
     refine⟨⟨⟨by omega,by omega⟩,by omega⟩,by omega⟩
    simp only[Instr.makeSlice,Sem.run_bind,run_underlying hu,Result.andThen_ok,asInt,asIntOf,Sem.run_pure,zBm hi,w1,w2]
    rw[if_neg t1]
    simp only[Sem.run_bind,Result.andThen_ok,run_askRoom,zAX hi]
    by_cases h0:n.toNat*inf.size=0
    ·simp only[h0,if_true,Sem.run_bind,Sem.run_pure,Result.andThen_ok,newRow,run_newObj]
     rfl
    ·simp only[if_neg h0,Sem.run_bind,zBY hi hv0,Sem.run_pure,Result.andThen_ok,newRow,run_newObj]
     rfl
   ·have:=zJM (c:=c) nx (es:=inf.size) (cells:=zB8 zero (n.toNat*inf.size)) (ty:=e) (arr:=(Array.range (n.toNat*inf.size)).map ((if n.toNat*inf.size=0 then #[]else v0.cells)[· %(if n.toNat*inf.size=0 then #[]else v0.cells).size]!))
     (n:=l.toNat) (cap:=n.toNat) (by omega) (by omega) (by rw[hzero.1,zCR];exact Nat.le_refl _)
    rw[zCR]at this
    exact this
  ·cases hz
 ·exact h.elim
end Go.Proofs.YtmndejlpfmmaiaaGreatDoor.Fw
namespace Go.Proofs.YtmndejlpfmmaiaaGreatDoor.Fw
open Go
def zFG(s:ByteArray):List AV:=s.data.toList.map fun b=>.int .u8 b.toNat
def zXQ(H:AHeap)(es:Nat)(y:AV)(K:Nat→List AV→Prop):Prop:=
 match y with
 |.seq m cells _=>cells.length=m*es∧K m cells
 |.own b L off m _=>match H b with
  |some (.row _ _ cells)=>cells.length=L∧off+m*es≤L∧K m ((cells.drop off).take (m*es))
  |_=>False
 |.str s=>es=1∧K s.size (zFG s)
 |_=>False
theorem zE9{P:Program}{c:Ctx}(hok:Ok c){es:Nat}(hes:es≠0){y:AV}{u:Value}{K:Nat→List AV→Prop}(h:zXQ c.H es y K)(he:Enc c y u):
 ∃(m:Nat)(l:List AV)(f:Nat→Value),(∀w,(Builtin.lenOf u).run P w=.ok m w)∧l.length=m*es∧K m l∧(∀i(h:i<l.length),Enc c (l[i]) (f i))∧
  ∀(w:World),(∀a,w.cell? a=c.w.cell? a)→∀k,k≤m→(Builtin.firstCells es k u).run P w=.ok ((List.range (k*es)).map f).toArray w:=by
 unfold zXQ at h
 split at h
 ·rename_i m cells ti
  obtain⟨h1,h2⟩:=h
  cases he with
  |seq _ _ _ base cap cv hlen hcap hmax ht hb hn hc=>
   refine⟨m,cells,cv,fun _=>rfl,h1,h2,hc,fun w hw k hk=>?_⟩
   have hke:k*es≤cells.length:=by rw[h1];exact Nat.mul_le_mul_right _ hk
   cases base with
   |none=>
    have hm0:m=0:=hn.resolve_right (by simp)
    have:k=0:=by omega
    subst this
    simp[Builtin.firstCells]
   |some a=>
    by_cases hk0:k=0
    ·subst hk0
     have:=run_loadCells (P:=P) w a 0 cv (fun j hj=>by omega)
     simpa[Builtin.firstCells]using this
    ·have hpos:0<cells.length:=by rw[h1];exact Nat.mul_pos (by omega) (by omega)
     obtain⟨kk,off,e1,_,_,hcell⟩:=hb hpos
     injection e1 with e1
     subst e1
     exact run_loadCells (P:=P) w _ (k*es) cv (fun j hj=>by rw[zA8,hw];exact hcell j (by omega))
 ·rename_i b L off m ti
  split at h
  ·rename_i ty es' cells hH
   obtain⟨h1,h2,h3⟩:=h
   cases he with
   |own _ _ _ _ _ _ hs hb hL hv=>
    obtain⟨base,cap,arr,rfl,g0,g1,g2,g3,g4,g5⟩:=hv ty es' cells hH h1
    obtain⟨arr',k1,k2,k3⟩:=hok.blk b _ hH
    obtain rfl:arr=arr':=by rw[g4]at k1;injection k1 with k1;injection k1
    refine⟨m,_,fun i=>arr.getD (off+i) undef,fun _=>rfl,by simp;omega,h3,fun i hi=>?_,fun w hw k hk=>?_⟩
    ·have hi':i<m*es:=by simp at hi;omega
     have h4:off+i<arr.size:=by omega
     have:=k3 (off+i) (by omega) h4
     simpa[Array.getD_eq_getD_getElem?,h4]using this
    ·have hke:k*es≤m*es:=Nat.mul_le_mul_right _ hk
     by_cases hk0:k=0
     ·subst hk0
      cases base with
      |none=>simp[Builtin.firstCells]
      |some a=>
       have:=run_loadCells (P:=P) w a 0 (fun i=>arr.getD (off+i) undef) (fun j hj=>by omega)
       simpa[Builtin.firstCells]using this
     ·have hbase:=g0.resolve_left (by omega)
      subst hbase
      refine run_loadCells (P:=P) w _ (k*es) _ (fun j hj=>?_)
      have h4:off+j<arr.size:=by omega
      rw[zA8,hw,zEO g4 h4]
      simp[Array.getD_eq_getD_getElem?,h4]
  ·exact h.elim
 ·rename_i s
  obtain⟨rfl,h2⟩:=h
  cases he
  have hsz:s.data.toList.length=s.size:=by rw[Array.length_toList];rfl
  refine⟨s.size,zFG s,fun i=>.int .u8 (s.data.toList.getD i 0).toNat,fun _=>rfl,by simp only[zFG,List.length_map];omega,h2,fun i hi=>?_,fun w _ k hk=>?_⟩
  ·have hi':i<s.data.toList.length:=by simpa[zFG]using hi
   simp only[zFG,List.getElem_map,List.getD_eq_getElem?_getD,List.getElem?_eq_getElem hi',Option.getD_some]
   exact .int _ _
  ·simp only[Builtin.firstCells,Sem.run_pure]
   congr 1
   apply Array.ext'
   apply List.ext_getElem
   ·simp only[Array.toList_map,List.length_map,Array.length_toList,List.length_range,Nat.mul_one]
    have:(s.extract 0 k).data.size=(s.extract 0 k).size:=rfl
    rw[this,ByteArray.size_extract];omega
   ·intro i h1 h2
    have hik:i<k:=by simpa using h2
    have hi':i<s.data.toList.length:=by omega
    simp only[Array.toList_map,List.getElem_map,List.getElem_range,List.getD_eq_getElem?_getD,List.getElem?_eq_getElem hi',Option.getD_some,Array.getElem_toList]
    congr 3
    have:(s.extract 0 k).data=s.data.extract 0 k:=by simp[ByteArray.data_extract]
    simp[this]
 ·exact h.elim
theorem zCz(f:Nat→Value)(n i:Nat)(h:i<((List.range n).map f).length):((List.range n).map f)[i]=f i:=by simp
theorem zJo(n:Nat): ∀(r c:Nat),c≤2*n+192→Builtin.growBy n r c≤2*n+192
 |0,c,h=>h
 |r+1,c,h=>by
  simp only[Builtin.growBy]
  split
  ·exact h
  ·exact zJo n r _ (by omega)
theorem zGA{n c:Nat}(h:c<n):Builtin.nextslicecap n c≤2*n+192:=by
 unfold Builtin.nextslicecap
 split
 ·omega
 ·split
  ·omega
  ·exact zJo n 4 c (by omega)
def zYJ(H:AHeap)(ty es bytes:Nat)(x y:AV)(K:AV→AHeap→Prop):Prop:=
 zXQ H es y fun m ys=>ys.all AV.cell=true∧
  match x with
  |.seq n cells ti=>ti=true∧cells.length=n*es∧(n+m)*bytes≤70368744177664∧n+m≤70368744177664∧(m=0→K (.seq n cells true) H)∧
   (0<m→∀b,H b=none→K (.own b ((n+m)*es) 0 (n+m) false) (H.upd b (some (.row ty es (cells++ys)))))
  |.own b L off n _=>match H b with
   |some (.row ty' es' cells)=>cells.length=L∧off=0∧L=n*es∧ty'=ty∧es'=es∧(n+m)*bytes≤70368744177664∧n+m≤70368744177664∧K (.own b ((n+m)*es) 0 (n+m) false) (H.upd b (some (.row ty es (cells++ys))))
   |_=>False
  |_=>False
theorem zQc(z:Array Value)(n:Nat):(Builtin.zeroCells z n).size=n*z.size:=by simp[Builtin.zeroCells]
def zCc(w:World)(need cap:Nat)(e:TypeId):Nat:=(Question.appendCap need cap e).cut (w.tape w.drawn (Question.appendCap need cap e))
theorem zGE(w:World)(need cap:Nat)(e:TypeId):need≤zCc w need cap e:=by simp only[zCc,Question.cut];omega
theorem zJp(w:World)(need cap:Nat)(e:TypeId)(h:need<2^63):zCc w need cap e<2^63:=by
 simp only[zCc,Question.cut]
 have:=Nat.mod_lt (w.tape w.drawn (Question.appendCap need cap e)) (show 0<2^63-need by omega)
 omega
theorem zJW{n m cap bytes:Nat}(hgt:cap<n+m)(hby:bytes≤4096)(hb1:(n+m)*bytes≤70368744177664):Builtin.nextslicecap (n+m) cap*bytes≤281474976710656:=by
 have h1:=zGA hgt
 have h2:Builtin.nextslicecap (n+m) cap*bytes≤(2*(n+m)+192)*bytes:=Nat.mul_le_mul_right _ h1
 have h3:(2*(n+m)+192)*bytes=2*((n+m)*bytes)+192*bytes:=by rw[Nat.add_mul,Nat.mul_assoc]
 omega
theorem zQC(m:Nat):Builtin.nextslicecap (0+m) 0≤m:=by
 unfold Builtin.nextslicecap
 split
 ·omega
 ·simp
theorem zTT(n:Nat):Builtin.nextslicecap (n+1) n≤2*n+1:=by
 unfold Builtin.nextslicecap
 split
 ·omega
 ·split
  ·omega
  ·simp only[Builtin.growBy]
   rw[if_neg (by omega),if_pos (by omega)]
   omega
theorem zDH{P:Program}{w:World}{t t2 e ty:TypeId}{inf:TypeInfo}(hu:P.underlying t=some (.slice e))(hu2:(∃e2,P.underlying t2=some (.slice e2))∨P.underlying t2=some .string)(hi:P.info? e=some inf){v0:Value}(hv0:inf.zero=some v0)
 {base:Option Addr} {n cap m:Nat} {u:Value} (hlen: ∀w,(Builtin.lenOf u).run P w=.ok m w) (hgt:cap<n+m) (hcapb:Builtin.nextslicecap (n+m) cap*inf.bytes≤281474976710656) (hb2:n+m≤70368744177664) {old new:Array Value}
 (zIQ:(Builtin.firstCells inf.size n (.slice base n cap)).run P w.drew=.ok old w.drew) (hnew:(Builtin.firstCells inf.size m u).run P w.drew=.ok new w.drew):
 (Builtin.append_ #[t,t2] ty #[.slice base n cap,u]).run P w=.ok (.slice (some ⟨w.heap.size,0,none⟩) (n+m) (zCc w (n+m) cap e)) (w.drew.alloc (.cells (old++new++Builtin.zeroCells v0.cells (zCc w (n+m) cap e-(n+m))) e)):=by
 have hneed: ¬(n+m≤cap):=by omega
 have hmax: ¬((9223372036854775807:Int)<(n:Int)+(m:Int)):=by omega
 have hcapb: ¬(281474976710656<Builtin.nextslicecap (n+m) cap*inf.bytes):=by omega
 have hcapq:(Question.appendCap (n+m) cap e).forced=false:=rfl
 have hd:({ w with drawn:=w.drawn+1 }:World)=w.drew:=rfl
 have hzv: ∀w,(zeroValue e).run P w=.ok v0 w:=fun w=>zBY hi hv0 w
 rcases hu2 with⟨e2,h⟩|h
 ·simp[Builtin.append_,run_underlying hu,run_underlying h,zAX hi,zBm hi,hlen,hneed,hmax,hcapb,hcapq,hd,zIQ,hnew,hzv,newRow,zCc]
 ·simp[Builtin.append_,run_underlying hu,run_underlying h,zAX hi,zBm hi,hlen,hneed,hmax,hcapb,hcapq,hd,zIQ,hnew,hzv,newRow,zCc]
theorem zC4{P:Program}{w:World}{t t2 e ty:TypeId}{inf:TypeInfo}(hu:P.underlying t=some (.slice e))(hu2:(∃e2,P.underlying t2=some (.slice e2))∨P.underlying t2=some .string)(hi:P.info? e=some inf)
 {base:Option Addr} {n cap m:Nat} {u:Value} (hlen: ∀w,(Builtin.lenOf u).run P w=.ok m w) (hle:n+m≤cap) {new:Array Value} (hnew:(Builtin.firstCells inf.size m u).run P w=.ok new w) {w':World}
 (hst: ∀a,base=some a→(storeCells (a.add (n*inf.size)) new.toList).run P w=.ok () w') (hnone:base=none→w'=w):
 (Builtin.append_ #[t,t2] ty #[.slice base n cap,u]).run P w=.ok (.slice base (n+m) cap) w':=by
 cases base with
 |none=>
  rw[hnone rfl]
  rcases hu2 with⟨e2,h⟩|h<;>simp[Builtin.append_,run_underlying hu,run_underlying h,zAX hi,hlen,hle,hnew]
 |some a=>
  have:=hst a rfl
  rcases hu2 with⟨e2,h⟩|h<;>simp[Builtin.append_,run_underlying hu,run_underlying h,zAX hi,hlen,hle,hnew,this]
theorem zHZ{c:Ctx}{cells ys:List AV}{f g:Nat→Value}{rest:Array Value}(h1: ∀i(h:i<cells.length),Enc c (cells[i]) (f i))(h2: ∀i(h:i<ys.length),Enc c (ys[i]) (g i)):
 ∀i(h:i<(cells++ys).length)(h':i<(((List.range cells.length).map f).toArray++((List.range ys.length).map g).toArray++rest).size),Enc c ((cells++ys)[i]) ((((List.range cells.length).map f).toArray++((List.range ys.length).map g).toArray++rest)[i]):=by
 intro i h h'
 have e1:(cells++ys)[i]? =some ((cells++ys)[i]):=List.getElem?_eq_getElem h
 have e2:(((List.range cells.length).map f).toArray++((List.range ys.length).map g).toArray++rest)[i]? =some ((((List.range cells.length).map f).toArray++((List.range ys.length).map g).toArray++rest)[i]):=Array.getElem?_eq_getElem h'
 rw[List.length_append]at h
 rw[Array.getElem?_append_left (by simp;omega)]at e2
 by_cases hi:i<cells.length
 ·rw[List.getElem?_append_left hi,List.getElem?_eq_getElem hi]at e1
  rw[Array.getElem?_append_left (by simp;omega)]at e2
  simp only[List.getElem?_toArray,List.getElem?_map,List.getElem?_range hi,Option.map_some]at e2
  injection e1 with e1;injection e2 with e2
  rw[← e1,← e2];exact h1 i hi
 ·have hi2:i-cells.length<ys.length:=by omega
  rw[List.getElem?_append_right (by omega),List.getElem?_eq_getElem hi2]at e1
  rw[Array.getElem?_append_right (by simp;omega)]at e2
  simp only[List.size_toArray,List.length_map,List.length_range,List.getElem?_toArray,List.getElem?_map,List.getElem?_range hi2,Option.map_some]at e2
  injection e1 with e1;injection e2 with e2
  rw[← e1,← e2];exact h2 _ hi2
theorem zJk{c:Ctx}{ys:List AV}{f:Nat→Value}(hall:ys.all AV.cell=true)(h: ∀i(h:i<ys.length),Enc c (ys[i]) (f i)): ∀u∈(List.range ys.length).map f,u.oneCell'=true:=by
 intro u hu
 obtain⟨i,hi,rfl⟩:=List.mem_map.1 hu
 have hi':i<ys.length:=by simpa using hi
 exact((h i hi').oneCell ((List.all_eq_true.1 hall) _ (List.getElem_mem hi'))).1
def zdH(C1 C2:Nat→Nat→Prop)(H:AHeap)(ty es:Nat)(x y:AV)(K:AV→AHeap→Prop):Prop:=
 zXQ H es y fun m ys=>ys.all AV.cell=true∧
  match x with
  |.seq n cells ti=>ti=true∧cells.length=n*es∧C1 n m∧n+m≤70368744177664∧(m=0→K (.seq n cells true) H)∧
   (0<m→∀b,H b=none→K (.own b ((n+m)*es) 0 (n+m) false) (H.upd b (some (.row ty es (cells++ys)))))
  |.own b L off n _=>match H b with
   |some (.row ty' es' cells)=>cells.length=L∧off=0∧L=n*es∧ty'=ty∧es'=es∧C2 n m∧n+m≤70368744177664∧K (.own b ((n+m)*es) 0 (n+m) false) (H.upd b (some (.row ty es (cells++ys))))
   |_=>False
  |_=>False
theorem zZV{H:AHeap}{ty es bytes:Nat}{x y:AV}{K:AV→AHeap→Prop}:zYJ H ty es bytes x y K=zdH (fun n m=>(n+m)*bytes≤70368744177664) (fun n m=>(n+m)*bytes≤70368744177664) H ty es x y K:=by
 unfold zYJ zdH
 cases x<;>rfl
def zf2(H:AHeap)(ty es bytes:Nat)(x y:AV)(K:AV→AHeap→Prop):Prop:=
 zdH (fun n m=>(n=0∧m*bytes≤281474976710656)∨(m=1∧(2*n+1)*bytes≤281474976710656)) (fun n m=>m=1∧(2*n+1)*bytes≤281474976710656) H ty es x y K
theorem zHj{P:Program}{c:Ctx}(hok:Ok c){t t2 e tr:TypeId}{inf:TypeInfo}(hu:P.underlying t=some (.slice e))(hu2:(∃e2,P.underlying t2=some (.slice e2))∨P.underlying t2=some .string)(hi:P.info? e=some inf){v0:Value}(hv0:inf.zero=some v0)
 (hz:v0.cells.size=inf.size) (hes:inf.size≠0) {C1 C2:Nat→Nat→Prop} (hC1: ∀n m,C1 n m→0<m→Builtin.nextslicecap (n+m) n*inf.bytes≤281474976710656) (hC2: ∀n m cap,C2 n m→n≤cap→cap<n+m→Builtin.nextslicecap (n+m) cap*inf.bytes≤281474976710656) {x y:AV} {v u:Value} {K:AV→AHeap→Prop} (h:zdH C1 C2 c.H e inf.size x y K) (hx:Enc c x v) (hy:Enc c y u):
 ∃(c':Ctx)(r:AV)(v':Value),(Builtin.append_ #[t,t2] tr #[v,u]).run P c.w=.ok v' c'.w∧Later c c'∧Ok c'∧Enc c' r v'∧K r c'.H:=by
 obtain⟨m,ys,f,hlen,hyl,hKK,hye,hfirst⟩:=zE9 (P:=P) hok hes h hy
 clear h
 obtain⟨hall,h⟩:=hKK
 have hes':0<inf.size:=Nat.pos_of_ne_zero hes
 have hd:=hfirst c.w.drew (fun _=>rfl) m (Nat.le_refl _)
 have hc:=hfirst c.w (fun _=>rfl) m (Nat.le_refl _)
 rw[← hyl]at hd hc
 split at h
 ·rename_i n cells ti
  obtain⟨hti,hcl,hb1,hb2,hm0,hmp⟩:=h
  subst hti
  have hx0:=hx
  cases hx with
  |seq _ _ _ base cap cv hlen0 hcap hmax ht hb hn hce=>
   have hcapn:cap=n:=ht rfl
   subst hcapn
   rcases Nat.eq_zero_or_pos m with hm|hm
   ·subst hm
    have hnil:(List.range ys.length).map f=[]:=by rw[hyl];simp
    refine⟨c,.seq cap cells true,.slice base (cap+0) cap,?_,Later.refl c,hok,hx0,hm0 rfl⟩
    refine zC4 hu hu2 hi hlen (by omega) hc (fun a _=>?_) (fun _=>rfl)
    rw[hnil];rfl
   ·obtain⟨nx,hnx⟩:=hok.fresh
    have hfree:=hmp hm nx (zDC hok hnx.1)
    have zIQ:(Builtin.firstCells inf.size cap (.slice base cap cap)).run P c.w.drew=.ok ((List.range cells.length).map cv).toArray c.w.drew:=by
     by_cases hp:0<cells.length
     ·obtain⟨k,off,e1,_,_,hcell⟩:=hb hp
      subst e1
      have:=run_loadCells (P:=P) c.w.drew ⟨k,off,none⟩ (cap*inf.size) cv (fun j hj=>by rw[zA8];exact hcell j (by omega))
      rw[hcl];exact this
     ·have hc0:cells.length=0:=by omega
      have hn0:cap=0:=by
       rcases Nat.eq_zero_or_pos cap with h|h
       ·exact h
       ·have:=Nat.mul_pos h hes';omega
      subst hn0
      rw[hc0]
      cases base with
      |none=>simp[Builtin.firstCells]
      |some a=>
       have:=run_loadCells (P:=P) c.w.drew a 0 cv (fun j hj=>by omega)
       simpa[Builtin.firstCells]using this
    have hrun:=zDH (ty:=tr) hu hu2 hi hv0 hlen (cap:=cap) (base:=base) (n:=cap) (by omega) (hC1 _ _ hb1 hm) hb2 zIQ hd
    have hsz:(((List.range cells.length).map cv).toArray++((List.range ys.length).map f).toArray++Builtin.zeroCells v0.cells (zCc c.w (cap+m) cap e-(cap+m))).size=zCc c.w (cap+m) cap e*inf.size:=by
     have hge:=zGE c.w (cap+m) cap e
     simp only[Array.size_append,List.size_toArray,List.length_map,List.length_range,zQc,hz,hcl,hyl,← Nat.add_mul]
     congr 1;omega
    have hlt:=zJp c.w (cap+m) cap e (by omega)
    have hge:=zGE c.w (cap+m) cap e
    have hcat:(cells++ys).length=(cap+m)*inf.size:=by rw[List.length_append,hcl,hyl,Nat.add_mul]
    have hok':=Ctx.drew_ok hok
    refine⟨c.drew.new nx _ (.row e inf.size (cells++ys)),.own nx ((cap+m)*inf.size) 0 (cap+m) false,_,hrun,c.drew_later.trans (Ctx.new_later hok' hnx _ _),Ctx.new_row hok' hnx e inf.size (cells++ys) _ ?_ ?_,?_,hfree⟩
    ·rw[hcat,hsz];exact Nat.mul_le_mul_right _ hge
    ·intro i h1 h2;exact(zHZ hce hye i h1 h2).later c.drew_later
    ·have:=zGB (c:=c.drew) nx (ty:=e) (es:=inf.size) (n:=cap+m) (cap:=zCc c.w (cap+m) cap e) (cells:=cells++ys) (t:=false) hge hlt (fun h=>by cases h) (by rw[hsz];exact Nat.le_refl _)
     rw[hcat]at this
     exact this
 ·rename_i b L off n ti
  split at h
  ·rename_i ty' es' cells hH
   obtain⟨h1,h2,h3,h4,h5,hb1,hb2,hK⟩:=h
   subst h2
   have h4':=h4.symm
   clear h4
   subst h4'
   subst h5
   have hx0:=hx
   cases hx with
   |own _ _ _ _ _ _ hs hbb hL hv=>
    obtain⟨base,cap,arr,rfl,g0,g1,g2,g3,g4,g5⟩:=hv _ _ cells hH h1
    obtain⟨arr',k1,k2,k3⟩:=hok.blk b _ hH
    obtain rfl:arr=arr':=by rw[g4]at k1;injection k1 with k1;injection k1
    have hcl:cells.length=n*inf.size:=h1.trans h3
    have hcat:(cells++ys).length=(n+m)*inf.size:=by rw[List.length_append,hcl,hyl,Nat.add_mul]
    rcases Nat.lt_or_ge cap (n+m)with hgt|hle
    ·
     have zIQ:(Builtin.firstCells inf.size n (.slice base n cap)).run P c.w.drew=.ok ((List.range cells.length).map fun i=>arr.getD i undef).toArray c.w.drew:=by
      by_cases hp:n=0
      ·subst hp
       rw[hcl]
       cases base with
       |none=>simp[Builtin.firstCells]
       |some a=>
        have:=run_loadCells (P:=P) c.w.drew a 0 (fun i=>arr.getD i undef) (fun j hj=>by omega)
        simpa[Builtin.firstCells]using this
      ·have hbase:=g0.resolve_left (by omega)
       subst hbase
       rw[hcl]
       refine run_loadCells (P:=P) c.w.drew _ (n*inf.size) _ (fun j hj=>?_)
       have h4:j<arr.size:=by omega
       rw[zA8,Nat.zero_add]
       show c.w.cell? _=_
       rw[zEO g4 h4]
       simp[Array.getD_eq_getD_getElem?,h4]
     have hrun:=zDH (ty:=tr) hu hu2 hi hv0 hlen (cap:=cap) (base:=base) (n:=n) hgt (hC2 _ _ _ hb1 g1 hgt) hb2 zIQ hd
     have hlt:=zJp c.w (n+m) cap e (by omega)
     have hge:=zGE c.w (n+m) cap e
     have hsz:(((List.range cells.length).map fun i=>arr.getD i undef).toArray++((List.range ys.length).map f).toArray++Builtin.zeroCells v0.cells (zCc c.w (n+m) cap e-(n+m))).size=zCc c.w (n+m) cap e*inf.size:=by
      simp only[Array.size_append,List.size_toArray,List.length_map,List.length_range,zQc,hz,hcl,hyl,← Nat.add_mul]
      congr 1;omega
     have hmpos:0<m:=by omega
     have hlen3:cells.length<(cells++ys).length:=by
      rw[List.length_append,hyl]
      have:=Nat.mul_pos hmpos hes'
      omega
     have hH':c.drew.H b=some (.row e inf.size cells):=hH
     have hmk:=Ctx.move_ok (c:=c.drew) (ty:=e) (es:=inf.size) (cells':=cells++ys) (Ctx.drew_ok hok) hH' hlen3 (by rw[hcat,hsz];exact Nat.mul_le_mul_right _ hge) (fun i q1 q2=>(zHZ (fun i hi=>by
      have h4:i<arr.size:=by omega
      have:=k3 i hi h4
      simpa[Array.getD_eq_getD_getElem?,h4]using this) hye i q1 q2).later c.drew_later)
     refine⟨_,.own b ((n+m)*inf.size) 0 (n+m) false,_,hrun,c.drew_later.trans (Ctx.move_later (y:=.row e inf.size (cells++ys)) hH' hlen3 _),hmk,?_,hK⟩
     refine .own b _ 0 _ false _ ⟨_,_,rfl,by omega⟩ hbb (fun y hy=>?_) (fun ty2 es2 cells2 hy hl=>?_)
     ·have:some (ABlk.row e inf.size (cells++ys))=some y:=by rw[← hy];simp[Ctx.move,AHeap.upd]
      injection this with this;rw[← this]
      exact Nat.le_of_eq hcat.symm
     ·have:some (ABlk.row e inf.size (cells++ys))=some (.row ty2 es2 cells2):=by rw[← hy];simp[Ctx.move,AHeap.upd]
      injection this with this
      injection this with q1 q2 q3
      subst q1;subst q2
      refine⟨_,_,((List.range cells.length).map fun i=>arr.getD i undef).toArray++((List.range ys.length).map f).toArray++Builtin.zeroCells v0.cells (zCc c.w (n+m) cap e-(n+m)),rfl,.inr ?_,hge,hlt,(fun h=>by cases h),?_,?_⟩
      ·simp[Ctx.move];rfl
      ·show(c.w.drew.alloc _).heap[(if b=b then c.w.drew.heap.size else c.μ b)]? =_
       rw[if_pos rfl];exact zB1 _ _
      ·rw[hsz];omega
    ·
     have hye2: ∀i(h:i<ys.length)(h':i<((List.range ys.length).map f).length),Enc c (ys[i]) (((List.range ys.length).map f)[i]):=fun i h h'=>by rw[zCz];exact hye i h
     have hfit:cells.length+ys.length≤arr.size:=by
      have:(n+m)*inf.size≤cap*inf.size:=Nat.mul_le_mul_right _ hle
      rw[hcl,hyl,← Nat.add_mul];omega
     obtain⟨p1,p2⟩:=zEU hok (l:=ys) (off:=n*inf.size) (cells':=cells++ys) hH g4 k2 k3 (vs:=(List.range ys.length).map f) (by simp) hye2 (by simp) (by rw[List.length_append];exact hfit) (by rw[List.length_append,hcl];exact Nat.le_refl _) (fun i hi=>by
      rw[List.length_append]at hi
      by_cases q:i<cells.length
      ·rw[if_neg (by omega),List.getElem?_append_left q]
      ·rw[if_pos (by omega),List.getElem?_append_right (by omega),hcl])
     refine⟨_,.own b ((n+m)*inf.size) 0 (n+m) false,.slice base (n+m) cap,?_,p1,p2,?_,hK⟩
     ·refine zC4 hu hu2 hi hlen hle hc (fun a ha=>?_) (fun hnone=>?_)
      ·subst ha
       by_cases hz0:n+m=0
       ·have e1:n=0:=by omega
        have e2:m=0:=by omega
        subst e1;subst e2
        have e3:(List.range ys.length).map f=[]:=by rw[hyl];simp
        rw[e3]
        simp only[Ctx.put,List.length_nil,Nat.add_zero,List.append_nil,List.take_append_drop,Array.toArray_toList]
        rw[setRow_self c.w (c.μ b) arr e (0,0) g4]
        rfl
       ·have hbase:=g0.resolve_left (by omega)
        injection hbase with hbase
        subst hbase
        rw[zA8,Nat.zero_add]
        have:=run_storeCells_at (P:=P) (c.μ b) (n*inf.size) e ((List.range ys.length).map f) 0 arr c.w g4 (by simp;omega) (zJk hall hye)
        simpa[Ctx.put]using this
      ·subst hnone
       have e0:cap=0:=g0.resolve_right (by simp)
       have e1:n=0:=by omega
       have e2:m=0:=by omega
       subst e1;subst e2
       have e3:(List.range ys.length).map f=[]:=by rw[hyl];simp
       rw[e3]
       simp only[Ctx.put,List.length_nil,Nat.add_zero,List.append_nil,List.take_append_drop,Array.toArray_toList]
       exact setRow_self c.w (c.μ b) arr e (0,0) g4
     ·refine .own b _ 0 _ false _ ⟨_,_,rfl,by omega⟩ hbb (fun y hy=>?_) (fun ty2 es2 cells2 hy hl=>?_)
      ·have:some (ABlk.row e inf.size (cells++ys))=some y:=by rw[← hy];simp[Ctx.put,AHeap.upd]
       injection this with this;rw[← this]
       exact Nat.le_of_eq hcat.symm
      ·have:some (ABlk.row e inf.size (cells++ys))=some (.row ty2 es2 cells2):=by rw[← hy];simp[Ctx.put,AHeap.upd]
       injection this with this
       injection this with q1 q2 q3
       subst q1;subst q2
       refine⟨_,_,_,rfl,g0,hle,g2,(fun h=>by cases h),setRow_heap _ _ arr _ _ _ g4,?_⟩
       simp only[List.size_toArray,List.length_append,List.length_take,List.length_drop,Array.length_toList,List.length_map,List.length_range]
       omega
  ·exact h.elim
 ·exact h.elim
theorem zE8{P:Program}{c:Ctx}(hok:Ok c){t t2 e tr:TypeId}{inf:TypeInfo}(hu:P.underlying t=some (.slice e))(hu2:(∃e2,P.underlying t2=some (.slice e2))∨P.underlying t2=some .string)(hi:P.info? e=some inf){v0:Value}(hv0:inf.zero=some v0)
 (hz:v0.cells.size=inf.size) (hby:inf.bytes≤4096) (hes:inf.size≠0) {x y:AV} {v u:Value} {K:AV→AHeap→Prop} (h:zYJ c.H e inf.size inf.bytes x y K) (hx:Enc c x v) (hy:Enc c y u):
 ∃(c':Ctx)(r:AV)(v':Value),(Builtin.append_ #[t,t2] tr #[v,u]).run P c.w=.ok v' c'.w∧Later c c'∧Ok c'∧Enc c' r v'∧K r c'.H:=by
 rw[zZV]at h
 exact zHj hok hu hu2 hi hv0 hz hes (fun n m hc hm=>zJW (by omega) hby hc) (fun n m cap hc _ hlt=>zJW hlt hby hc) h hx hy
theorem zN7{P:Program}{c:Ctx}(hok:Ok c){t t2 e tr:TypeId}{inf:TypeInfo}(hu:P.underlying t=some (.slice e))(hu2:(∃e2,P.underlying t2=some (.slice e2))∨P.underlying t2=some .string)(hi:P.info? e=some inf){v0:Value}(hv0:inf.zero=some v0)
 (hz:v0.cells.size=inf.size) (hes:inf.size≠0) {x y:AV} {v u:Value} {K:AV→AHeap→Prop} (h:zf2 c.H e inf.size inf.bytes x y K) (hx:Enc c x v) (hy:Enc c y u):
 ∃(c':Ctx)(r:AV)(v':Value),(Builtin.append_ #[t,t2] tr #[v,u]).run P c.w=.ok v' c'.w∧Later c c'∧Ok c'∧Enc c' r v'∧K r c'.H:=by
 have more: ∀n,(2*n+1)*inf.bytes≤281474976710656→Builtin.nextslicecap (n+1) n*inf.bytes≤281474976710656:=fun n h=>Nat.le_trans (Nat.mul_le_mul_right _ (zTT n)) h
 refine zHj hok hu hu2 hi hv0 hz hes (fun n m hc hm=>?_) (fun n m cap hc h1 h2=>?_) h hx hy
 ·rcases hc with⟨rfl,hc⟩|⟨rfl,hc⟩
  ·exact Nat.le_trans (Nat.mul_le_mul_right _ (zQC m)) hc
  ·exact more n hc
 ·obtain⟨rfl,hc⟩:=hc
  obtain rfl:cap=n:=by omega
  exact more cap hc
def appC(H:AHeap)(ty es:Nat)(x y:AV)(K:AV→AHeap→Prop):Prop:=
 zXQ H es y fun m ys=>ys.all AV.cell=true∧
  match x with
  |.ownc b L n cap=>match H b with
   |some (.row ty' es' cells)=>cells.length=L∧L=cap*es∧ty'=ty∧es'=es∧n+m≤cap∧K (.ownc b L (n+m) cap) (H.upd b (some (.row ty es (zAh cells (n*es) ys))))
   |_=>False
  |_=>False
theorem zNR{P:Program}{c:Ctx}(hok:Ok c){t t2 e tr:TypeId}{inf:TypeInfo}(hu:P.underlying t=some (.slice e))(hu2:(∃e2,P.underlying t2=some (.slice e2))∨P.underlying t2=some .string)(hi:P.info? e=some inf)
 (hes:inf.size≠0) {x y:AV} {v u:Value} {K:AV→AHeap→Prop} (h:appC c.H e inf.size x y K) (hx:Enc c x v) (hy:Enc c y u):
 ∃(c':Ctx)(r:AV)(v':Value),(Builtin.append_ #[t,t2] tr #[v,u]).run P c.w=.ok v' c'.w∧Later c c'∧Ok c'∧Enc c' r v'∧K r c'.H:=by
 obtain⟨m,ys,f,hlen,hyl,hKK,hye,hfirst⟩:=zE9 (P:=P) hok hes h hy
 clear h
 obtain⟨hall,h⟩:=hKK
 have hes':0<inf.size:=Nat.pos_of_ne_zero hes
 have hc:=hfirst c.w (fun _=>rfl) m (Nat.le_refl _)
 rw[← hyl]at hc
 split at h
 ·rename_i b L n cap
  split at h
  ·rename_i ty' es' cells hH
   obtain⟨h1,h3,h4,h5,hle,hK⟩:=h
   have h4':=h4.symm
   clear h4
   subst h4'
   subst h5
   cases hx with
   |ownc _ _ _ _ base hnc g2 hbb hL hv=>
    obtain⟨arr,g0,g4,g5⟩:=hv _ _ cells hH h1
    obtain⟨arr',k1,k2,k3⟩:=hok.blk b _ hH
    obtain rfl:arr=arr':=by rw[g4]at k1;injection k1 with k1;injection k1
    have hcl:cells.length=cap*inf.size:=h1.trans h3
    have hnm:n*inf.size+ys.length≤cells.length:=by
     have:(n+m)*inf.size≤cap*inf.size:=Nat.mul_le_mul_right _ hle
     rw[hcl,hyl,← Nat.add_mul];exact this
    have hspl:(zAh cells (n*inf.size) ys).length=cells.length:=zAj hnm
    have hye2: ∀i(h:i<ys.length)(h':i<((List.range ys.length).map f).length),Enc c (ys[i]) (((List.range ys.length).map f)[i]):=fun i h h'=>by rw[zCz];exact hye i h
    obtain⟨p1,p2⟩:=zEU hok (l:=ys) (off:=n*inf.size) (cells':=zAh cells (n*inf.size) ys) hH g4 k2 k3 (vs:=(List.range ys.length).map f) (by simp) hye2 (by rw[hspl];exact Nat.le_refl _) (by rw[hspl];exact k2) (by rw[hspl];exact hnm) (fun i hi=>zC7 hnm i)
    refine⟨_,.ownc b L (n+m) cap,.slice base (n+m) cap,?_,p1,p2,?_,hK⟩
    ·refine zC4 hu hu2 hi hlen hle hc (fun a ha=>?_) (fun hnone=>?_)
     ·subst ha
      by_cases hz0:cap=0
      ·have e1:n=0:=by omega
       have e2:m=0:=by omega
       subst e1;subst e2
       have e3:(List.range ys.length).map f=[]:=by rw[hyl];simp
       rw[e3]
       simp only[Ctx.put,List.length_nil,Nat.add_zero,List.append_nil,List.take_append_drop,Array.toArray_toList]
       rw[setRow_self c.w (c.μ b) arr e (0,0) g4]
       rfl
      ·have hbase:=g0.resolve_left (by omega)
       injection hbase with hbase
       subst hbase
       rw[zA8,Nat.zero_add]
       have:=run_storeCells_at (P:=P) (c.μ b) (n*inf.size) e ((List.range ys.length).map f) 0 arr c.w g4 (by simp;omega) (zJk hall hye)
       simpa[Ctx.put]using this
     ·subst hnone
      have e0:cap=0:=g0.resolve_right (by simp)
      have e1:n=0:=by omega
      have e2:m=0:=by omega
      subst e1;subst e2
      have e3:(List.range ys.length).map f=[]:=by rw[hyl];simp
      rw[e3]
      simp only[Ctx.put,List.length_nil,Nat.add_zero,List.append_nil,List.take_append_drop,Array.toArray_toList]
      exact setRow_self c.w (c.μ b) arr e (0,0) g4
    ·refine .ownc b _ _ _ _ hle g2 hbb (fun y hy=>?_) (fun ty2 es2 cells2 hy hl=>?_)
     ·have:some (ABlk.row e inf.size (zAh cells (n*inf.size) ys))=some y:=by rw[← hy];simp[Ctx.put,AHeap.upd]
      injection this with this;rw[← this]
      show L≤(zAh cells (n*inf.size) ys).length
      rw[hspl,h1];exact Nat.le_refl _
     ·have:some (ABlk.row e inf.size (zAh cells (n*inf.size) ys))=some (.row ty2 es2 cells2):=by rw[← hy];simp[Ctx.put,AHeap.upd]
      injection this with this
      injection this with q1 q2 q3
      subst q1;subst q2
      refine⟨_,g0,setRow_heap _ _ arr _ _ _ g4,?_⟩
      simp only[List.size_toArray,List.length_append,List.length_take,List.length_drop,Array.length_toList,List.length_map,List.length_range]
      omega
  ·exact h.elim
 ·exact h.elim
def zfc(K:AV→AHeap→Prop)(v:AV)(H:AHeap):Prop:=
 match v with
 |.own b L off n _=>match H b with
  |some (.row _ es cells)=>off=0∧0<n∧cells.length=L∧L=n*es∧K (.exte es n cells) (H.upd b none)
  |_=>False
 |_=>False
def zfn(K:AV→AHeap→Prop)(v:AV)(H:AHeap):Prop:=
 match v with
 |.own b L off n _=>match H b with
  |some (.row _ es cells)=>es=1∧off=0∧0<n∧cells.length=L∧n=L∧K (.ext n cells) (H.upd b none)
  |_=>False
 |_=>False
def zKG(H:AHeap)(ty es bytes:Nat)(x y:AV)(K:AV→AHeap→Prop):Prop:=zYJ H ty es bytes x y K∨zYJ H ty es bytes x y (zfn K)∨zYJ H ty es bytes x y (zfc K)∨appC H ty es x y K∨zf2 H ty es bytes x y K
theorem zNb{P:Program}{c:Ctx}(hok:Ok c){t t2 e tr:TypeId}{inf:TypeInfo}(hu:P.underlying t=some (.slice e))(hu2:(∃e2,P.underlying t2=some (.slice e2))∨P.underlying t2=some .string)(hi:P.info? e=some inf){v0:Value}(hv0:inf.zero=some v0)
 (hz:v0.cells.size=inf.size) (hby:inf.bytes≤4096) (hes:inf.size≠0) {x y:AV} {v u:Value} {K:AV→AHeap→Prop} (h:zKG c.H e inf.size inf.bytes x y K) (hx:Enc c x v) (hy:Enc c y u):
 ∃(c':Ctx)(r:AV)(v':Value),(Builtin.append_ #[t,t2] tr #[v,u]).run P c.w=.ok v' c'.w∧Later c c'∧Ok c'∧Enc c' r v'∧K r c'.H:=by
 rcases h with h|h|h|h|h
 rotate_right 2
 ·exact zNR hok hu hu2 hi hes h hx hy
 ·exact zN7 hok hu hu2 hi hv0 hz hes h hx hy
 ·exact zE8 hok hu hu2 hi hv0 hz hby hes h hx hy
 ·obtain⟨c',r,v',h1,h2,h3,h4,h5⟩:=zE8 hok hu hu2 hi hv0 hz hby hes h hx hy
  unfold zfn at h5
  split at h5
  ·rename_i b L off n ti
   split at h5
   ·rename_i ty es cells hH
    obtain⟨rfl,rfl,q0,q1,q2,q3⟩:=h5
    exact⟨c'.drop b,_,v',h1,h2.trans (c'.drop_later b),Ctx.drop_ok h3 b,Enc.freezeX h3 h4 hH q1 q2 q0,q3⟩
   ·exact h5.elim
  ·exact h5.elim
 ·obtain⟨c',r,v',h1,h2,h3,h4,h5⟩:=zE8 hok hu hu2 hi hv0 hz hby hes h hx hy
  unfold zfc at h5
  split at h5
  ·rename_i b L off n ti
   split at h5
   ·rename_i ty es cells hH
    obtain⟨rfl,q0,q1,q2,q3⟩:=h5
    exact⟨c'.drop b,_,v',h1,h2.trans (c'.drop_later b),Ctx.drop_ok h3 b,Enc.freezeE h3 h4 hH q1 q2 q0,q3⟩
   ·exact h5.elim
  ·exact h5.elim
def zZB(H:AHeap)(es:Nat)(x y:AV)(K:AV→AHeap→Prop):Prop:=
 zXQ H es y fun m ys=>ys.all AV.cell=true∧
  match x with
  |.own b L off n _=>match H b with
   |some (.row ty es' cells)=>cells.length=L∧off+n*es≤L∧K (.int .i64 (Nat.min m n)) (H.upd b (some (.row ty es' (zAh cells off (ys.take (Nat.min m n*es))))))
   |_=>False
  |.seq 0 _ _=>K (.int .i64 0) H
  |_=>False
theorem zN8{P:Program}{c:Ctx}(hok:Ok c){t e t2 tr:TypeId}{inf:TypeInfo}(hu:P.underlying t=some (.slice e))(hi:P.info? e=some inf)(hes:inf.size≠0){x y:AV}{v u:Value}{K:AV→AHeap→Prop}(h:zZB c.H inf.size x y K)(hx:Enc c x v)(hy:Enc c y u):
 ∃(c':Ctx)(r:AV)(v':Value),(Builtin.copy_ #[t,t2] tr #[v,u]).run P c.w=.ok v' c'.w∧Later c c'∧Ok c'∧Enc c' r v'∧K r c'.H:=by
 obtain⟨m,ys,f,hlen,hyl,hKK,hye,hfirst⟩:=zE9 (P:=P) hok hes h hy
 clear h
 obtain⟨hall,h⟩:=hKK
 split at h
 ·rename_i b L off n ti
  split at h
  ·rename_i ty es' cells hH
   obtain⟨h1,h2,hK⟩:=h
   cases hx with
   |own _ _ _ _ _ _ hs hbb hL hv=>
    obtain⟨base,cap,arr,rfl,g0,g1,g2,g3,g4,g5⟩:=hv _ _ cells hH h1
    obtain⟨arr',k1,k2,k3⟩:=hok.blk b _ hH
    obtain rfl:arr=arr':=by rw[g4]at k1;injection k1 with k1;injection k1
    have hk:Nat.min m n≤m:=Nat.min_le_left _ _
    have hk2:Nat.min m n≤n:=Nat.min_le_right _ _
    generalize hkk:Nat.min m n=k at*
    have hkk':min m n=k:=hkk
    have hks:k*inf.size≤ys.length:=by rw[hyl];exact Nat.mul_le_mul_right _ hk
    have hkn:k*inf.size≤n*inf.size:=Nat.mul_le_mul_right _ hk2
    have hf:=hfirst c.w (fun _=>rfl) k hk
    have htk:(ys.take (k*inf.size)).length=k*inf.size:=by simp;omega
    have hye2: ∀i(h:i<(ys.take (k*inf.size)).length)(h':i<((List.range (k*inf.size)).map f).length),Enc c ((ys.take (k*inf.size))[i]) (((List.range (k*inf.size)).map f)[i]):=fun i h h'=>by
     rw[zCz,List.getElem_take];exact hye i (by omega)
    obtain⟨p1,p2⟩:=zEU hok (l:=ys.take (k*inf.size)) (off:=off) (cells':=zAh cells off (ys.take (k*inf.size))) hH g4 k2 k3 (vs:=(List.range (k*inf.size)).map f) (by simp;omega) hye2
     (by rw[zAj (by omega)];exact Nat.le_refl _) (by rw[zAj (by omega)];exact k2) (by rw[zAj (by omega)];omega) (fun i _=>zC7 (by omega) i)
    refine⟨_,.int .i64 k,.int .i64 k,?_,p1,p2,.int _ _,hK⟩
    have hone: ∀u∈(List.range (k*inf.size)).map f,u.oneCell'=true:=by
     intro u hu
     obtain⟨i,hi,rfl⟩:=List.mem_map.1 hu
     have hi':i<k*inf.size:=by simpa using hi
     exact((hye i (by omega)).oneCell ((List.all_eq_true.1 hall) _ (List.getElem_mem (by omega)))).1
    cases base with
    |none=>
     have e0:cap=0:=g0.resolve_right (by simp)
     have e1:k=0:=by omega
     subst e1
     have hset:=setRow_self c.w (c.μ b) arr ty (0,0) g4
     have e2:(c.put b (.row ty es' (zAh cells off (ys.take (0*inf.size)))) (arr.toList.take off++(List.range (0*inf.size)).map f++arr.toList.drop (off+((List.range (0*inf.size)).map f).length)).toArray).w=c.w:=by
      simp only[Ctx.put,Nat.zero_mul,List.range_zero,List.map_nil,List.append_nil,List.length_nil,Nat.add_zero,List.take_append_drop,Array.toArray_toList]
      exact hset
     rw[e2]
     simp[Builtin.copy_,run_underlying hu,zAX hi,hlen,hkk,hkk',hf,goInt]
    |some a=>
     by_cases hz0:k=0
     ·subst hz0
      have hset:=setRow_self c.w (c.μ b) arr ty (0,0) g4
      have e2:(c.put b (.row ty es' (zAh cells off (ys.take (0*inf.size)))) (arr.toList.take off++(List.range (0*inf.size)).map f++arr.toList.drop (off+((List.range (0*inf.size)).map f).length)).toArray).w=c.w:=by
       simp only[Ctx.put,Nat.zero_mul,List.range_zero,List.map_nil,List.append_nil,List.length_nil,Nat.add_zero,List.take_append_drop,Array.toArray_toList]
       exact hset
      rw[e2]
      simp[Builtin.copy_,run_underlying hu,zAX hi,hlen,hkk,hkk',hf,goInt,storeCells]
     ·have hbase:=g0.resolve_left (by omega)
      injection hbase with hbase
      subst hbase
      have hst:=run_storeCells_at (P:=P) (c.μ b) off ty ((List.range (k*inf.size)).map f) 0 arr c.w g4 (by simp;omega) hone
      simp only[Nat.add_zero]at hst
      simp[Builtin.copy_,run_underlying hu,zAX hi,hlen,hkk,hkk',hf,goInt,hst,Ctx.put]
  ·exact h.elim
 ·rename_i cells ti
  cases hx with
  |seq _ _ _ base cap cv hlen0 hcap hmax ht hb hn hce=>
   have hf:=hfirst c.w (fun _=>rfl) 0 (Nat.zero_le _)
   have hk0:Nat.min m 0=0:=Nat.min_zero m
   refine⟨c,.int .i64 0,.int .i64 0,?_,Later.refl c,hok,.int _ _,h⟩
   cases base with
   |none=>simp[Builtin.copy_,run_underlying hu,zAX hi,hlen,hk0,hf,goInt]
   |some a=>simp[Builtin.copy_,run_underlying hu,zAX hi,hlen,hk0,hf,goInt,storeCells]
 ·exact h.elim
def zEr(k:IntKind)(x:AV)(K:AV→Prop):Prop:=
 match x with
 |.int _ n=>K (.int k (k.wrap n))
 |_=>False
theorem zKw{P:Program}{c:Ctx}{src dst:TypeId}{k:IntKind}(hs:(P.underlying src).isSome=true)(hd:P.underlying dst=some (.int k)){x:AV}{v:Value}{K:AV→Prop}(h:zEr k x K)(he:Enc c x v):
 ∃r v',(convert src dst v).run P c.w=.ok v' c.w∧Enc c r v'∧K r:=by
 unfold zEr at h
 split at h
 ·cases he
  obtain⟨d,hd'⟩:=Option.isSome_iff_exists.1 hs
  exact⟨_,_,by simp[convert,run_underlying hd',run_underlying hd,Conv.intToInt],.int _ _,h⟩
 ·exact h.elim
def zT0(mx:Bool)(x y:AV)(K:AV→Prop):Prop:=
 match x,y with
 |.int k a,.int k' b=>k=k'∧K (.int k (if mx then(if b>a then b else a)else(if b<a then b else a)))
 |_,_=>False
theorem zG4{P:Program}{c:Ctx}{mx:Bool}{ts:Array TypeId}{ty:TypeId}{x y:AV}{u v:Value}{K:AV→Prop}(h:zT0 mx x y K)(hx:Enc c x u)(hy:Enc c y v):
 ∃r v',(if mx then Builtin.max_ ts ty #[u,v]else Builtin.min_ ts ty #[u,v]).run P c.w=.ok v' c.w∧Enc c r v'∧K r:=by
 unfold zT0 at h
 split at h
 ·obtain⟨rfl,hK⟩:=h
  cases hx;cases hy
  cases mx with
  |true=>exact⟨_,_,by simp[Builtin.max_,Builtin.max2],.int _ _,hK⟩
  |false=>exact⟨_,_,by simp[Builtin.min_,Builtin.min2],.int _ _,hK⟩
 ·exact h.elim
end Go.Proofs.YtmndejlpfmmaiaaGreatDoor.Fw
