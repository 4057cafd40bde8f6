/- The texts Fb, joined. -/
import Derived.Test.YtmndejlpfmmaiaaGreatDoorZ2
set_option linter.unusedSimpArgs false
set_option linter.unusedVariables false
namespace Go.Proofs.YtmndejlpfmmaiaaGreatDoor.Fw
open Go
inductive AOp where
 |mov (x:Opd)
 |pick (c a b:Opd)
 |bin (op:BinOp) (x y:Opd)
 |binB (op:BinOp) (x y:Opd)
 |un (op:UnOp) (x:Opd)
 |nilS (ng:Bool) (x:Opd)
 |conv (k:IntKind) (x:Opd)
 |ext (x:Opd) (i:Nat)
 |fld (off:Nat) (n:Option Nat) (x:Opd)
 |build (zero:List AV) (parts:List (Nat×Nat×Opd))
 |load (n:Option Nat) (x:Opd)
 |fldA (off:Nat) (x:Opd)
 |idxA (es:Nat) (x i:Opd)
 |idxS (x i:Opd)
 |len (s:Bool) (x:Opd)
 |slc (es:Nat) (x:Opd) (lo hi mx:Option Opd)
 |slcS (x:Opd) (lo hi:Option Opd)
 |mkF (f:Fn) (first caps:List Opd)
 |gr (isMax:Bool) (x y:Opd)
 |bsl (zero:List AV) (len es:Nat) (parts:List (Nat×Nat×Opd))
 |call (f:Opd) (args:List Opd)
 |alloc (ty es:Nat) (cells:List AV)
 |box (ty es:Nat) (x:Opd)
 |store (n:Nat) (x v:Opd)
 |mks (ty es bytes:Nat) (zero:List AV) (l c:Opd)
 |app (ty es bytes:Nat) (x y:Opd)
 |cpy (es:Nat) (x y:Opd)
 |prim (p:Prim) (xs:List Opd)
 |ust (e:TypeId) (x n:Opd)
 |rng (x:Opd)
 |nxt (x:Opd)
def zDn:Option Opd→List Nat
 |none=>[]
 |some x=>x.reads
def zEc(l:List (Nat×Nat×Opd)):List Nat:=l.flatMap fun p=>p.2.2.reads
def zIC:Opd→Opd→Bool
 |.t i,.t j=>i==j
 |.k (.int _ n),.k (.int _ m)=>n==m
 |_,_=>false
def AOp.reads:AOp→List Nat
 |.mov x|.un _ x|.nilS _ x|.conv _ x|.ext x _|.fld _ _ x|.load _ x|.fldA _ x|.len _ x|.box _ _ x=>x.reads
 |.pick c a b=>c.reads++a.reads++b.reads
 |.bin _ x y|.binB _ x y|.idxA _ x y|.idxS x y|.gr _ x y|.store _ x y|.mks _ _ _ _ x y|.app _ _ _ x y|.cpy _ x y=>x.reads++y.reads
 |.build _ ps|.bsl _ _ _ ps=>zEc ps
 |.slc _ x lo hi mx=>x.reads++(zDn lo++(zDn hi++zDn mx))
 |.slcS x lo hi=>x.reads++(zDn lo++zDn hi)
 |.mkF _ f c=>f.flatMap Opd.reads++c.flatMap Opd.reads
 |.call f as=>f.reads++as.flatMap Opd.reads
 |.alloc _ _ _=>[]
 |.prim _ xs=>xs.flatMap Opd.reads
 |.ust _ x n=>x.reads++n.reads
 |.rng x|.nxt x=>x.reads
def evO(E:Nat→AV):Option Opd→Option AV
 |none=>none
 |some x=>some (x.ev E)
def evP(E:Nat→AV)(l:List (Nat×Nat×Opd)):List (Nat×Nat×AV):=l.map fun p=>(p.1,p.2.1,p.2.2.ev E)
def zCp(o:AOp)(E:Nat→AV)(H:AHeap)(K:AV→Prop):Prop:=
 match o with
 |.mov x=>K (x.ev E)
 |.pick c a b=>match c.ev E with
  |.bool t=>(t=true→K (a.ev E))∧(t=false→K (b.ev E))
  |_=>False
 |.bin op x y=>zAv op (x.ev E) (y.ev E) K
 |.binB op x y=>zJL op (x.ev E) (y.ev E) K
 |.un op x=>unW op (x.ev E) K
 |.nilS ng x=>zOR ng (x.ev E) K
 |.conv k x=>zEr k (x.ev E) K
 |.ext x i=>zK8 (x.ev E) i K
 |.fld off n x=>zOV off n (x.ev E) K
 |.build zero parts=>zEo zero (evP E parts) K
 |.load n x=>zA9 H n (x.ev E) K
 |.fldA off x=>zEA H (x.ev E)∧zGK off (x.ev E) K
 |.idxA es x i=>zCB H (x.ev E)∧zBg es (x.ev E) (i.ev E) K
 |.idxS x i=>zGT (x.ev E) (i.ev E) K
 |.len s x=>zDr s (x.ev E) K
 |.slc es x lo hi mx=>zDD es H (x.ev E)∧zDU es (x.ev E) (evO E lo) (evO E hi) (evO E mx) K
 |.slcS x lo hi=>zH3 (x.ev E) (evO E lo) (evO E hi) K
 |.mkF f first caps=>K (.fn f (evs E first) (evs E caps))
 |.gr m x y=>zT0 m (x.ev E) (y.ev E) K
 |.bsl zero len es parts=>zUP zero len es (evP E parts) K
 |.prim p xs=>zCV p (evs E xs) H K
 |_=>False
def YieldW(P:Program)(b:Nat)(args:List AV)(H:AHeap)(K:AV→AHeap→Prop):Prop:=
 ∀(c:Ctx)(vs:Array Value)(v:Value),c.H=H→Ok c→Enc c (.yld b) v→vs.size=args.length→(∀i(h:i<args.length)(h':i<vs.size),Enc c (args[i]) (vs[i]))→
  ∃(l:Nat)(fn:FuncId)(tmps:Array Value)(assign body:Code),v=.func (.yield l) #[] #[]∧(Instr.yield l vs).run P c.w=.ok (.round l fn tmps assign body) c.w∧
   RoundIn Fence.wide 0 P l fn tmps assign body c.w fun e w'=> ∃(c':Ctx)(v:Value)(r:AV),e=.returned v∧c'.w=w'∧Ok c'∧Later c c'∧Enc c' r v∧K r c'.H
theorem YieldW.mono{P:Program}{b:Nat}{args:List AV}{H:AHeap}{K K':AV→AHeap→Prop}(h:YieldW P b args H K)(hk: ∀r H',K r H'→K' r H'):YieldW P b args H K':=fun c vs v hH hok hv hs he=>
 let⟨l,fn,tmps,assign,body,h1,h2,h3⟩:=h c vs v hH hok hv hs he
 ⟨l,fn,tmps,assign,body,h1,h2,h3.mono fun _ _ ⟨c',v,r,a1,a2,a3,a4,a5,a6⟩=>⟨c',v,r,a1,a2,a3,a4,a5,hk _ _ a6⟩⟩
def zBn(P:Program)(f:AV)(args:List AV)(H:AHeap)(K:AV→AHeap→Prop):Prop:=
 match f with
 |.fn (.func f) first caps=>Run P f (first++args++caps) H K
 |.yld b=>YieldW P b args H K
 |_=>False
def zB0(P:Program)(o:AOp)(E:Nat→AV)(H:AHeap)(K:AV→AHeap→Prop):Prop:=
 match o with
 |.call f args=>zBn P (f.ev E) (evs E args) H K
 |.alloc ty es cells=>zHK H ty es cells K
 |.box ty es x=>match(x.ev E).cells with
  |some l=>zHK H ty es l K
  |none=>False
 |.store n x v=>zGD H n (x.ev E) (v.ev E) K
 |.mks ty es bytes zero l c=>bif zIC l c then zOP H ty es bytes zero (l.ev E) (c.ev E) K else zZC H ty es bytes zero (l.ev E) (c.ev E) K
 |.app ty es bytes x y=>zKG H ty es bytes (x.ev E) (y.ev E) K
 |.cpy es x y=>zZB H es (x.ev E) (y.ev E) K
 |.ust e x n=>zcK e H (x.ev E) (n.ev E) K
 |.rng x=>zY7 H (x.ev E) K
 |.nxt x=>zY8 H (x.ev E) K
 |o=>zCp o E H (fun r=>K r H)
def zDW(place:Nat→Option (Nat×Nat)):List (Nat×Operand)→Option (List (Nat×Nat×Opd))
 |[]=>some []
 |(i,x)::r=>match place i,zBB x,zDW place r with
  |some (off,size),some y,some l=>some ((off,size,y)::l)
  |_,_,_=>none
def o1(f:Opd→AOp)(x:Operand):Option AOp:=(zBB x).map f
def o2(f:Opd→Opd→AOp)(x y:Operand):Option AOp:=
 match zBB x,zBB y with
 |some a,some b=>some (f a b)
 |_,_=>none
def zUX(P:Program)(t:TypeId):Nat:=
 match P.underlying t with
 |some (.array _ e)=>((P.info? e).map (·.size)).getD 0
 |_=>0
def zIN(P:Program)(t:TypeId):Option Bool:=
 match P.underlying t with
 |some .string=>some true
 |some (.slice _)=>some false
 |_=>none
def zDo(P:Program)(t:TypeId):Option (TypeId×Nat×Nat×List AV):=
 match P.underlying t with
 |some (.slice e)=>match P.info? e,zCU P e with
  |some i,some z=>if z.length=i.size∧i.size≠0∧i.bytes≤4096 then some (e,i.size,i.bytes,z)else none
  |_,_=>none
 |_=>none
theorem zCF{P:Program}{t e:TypeId}{es bytes:Nat}{z:List AV}(h:zDo P t=some (e,es,bytes,z)):
 ∃i v0,P.underlying t=some (.slice e)∧P.info? e=some i∧i.size=es∧i.bytes=bytes∧zCU P e=some z∧z.length=i.size∧i.size≠0∧i.bytes≤4096∧i.zero=some v0∧v0.cells.size=i.size:=by
 unfold zDo at h
 split at h
 ·rename_i e' hu
  split at h
  ·rename_i i z' hi hz
   split at h
   ·rename_i hc
    injection h with h
    injection h with h1 h;injection h with h2 h;injection h with h3 h4
    subst h1;subst h2;subst h3;subst h4
    have hz':=hz
    unfold zCU at hz'
    rw[hi]at hz'
    simp only at hz'
    split at hz'
    ·rename_i v0 hv0
     refine⟨i,v0,hu,hi,rfl,rfl,hz,hc.1,hc.2.1,hc.2.2,hv0,?_⟩
     have:=(zBW (⟨fun _=>0,fun _=>False,fun _=>False,fun _=>none,default⟩:Ctx) hz').1
     omega
    ·cases hz'
   ·cases h
  ·cases h
 ·cases h
def zYL(P:Program):Operand→Bool
 |.func g=>match P.funcs[g]? with
  |some fn=>fn.name=="internal/abi.NoEscape"&& fn.body.isNone&& (Extern.findNext fn).isNone
  |none=>false
 |_=>false
def zLu(P:Program)(t:TypeId):Option (Nat×Nat):=
 match P.underlying t with
 |some (.array n e)=>(P.info? e).map fun i=>(n,i.size)
 |_=>none
def zdd(P:Program)(e:TypeId):Bool:=
 match P.underlying e with
 |some (.int .u8)=>true
 |_=>false
def zIH(P:Program)(op:BinOp)(te:TypeId)(x y:Operand):Option AOp:=
 if(P.info? te).isSome then
  match op with
  |.eql=>o2 (fun a b=>.prim (.peq false) [a,b]) x y
  |.neq=>o2 (fun a b=>.prim (.peq true) [a,b]) x y
  |_=>none
 else none
def zFg(P:Program)(op:BinOp)(t:TypeId)(x y:Operand):Option AOp:=
 if zXA P t=true then
  match op with
  |.eql=>o2 (fun a b=>.prim (.aeq false) [a,b]) x y
  |.neq=>o2 (fun a b=>.prim (.aeq true) [a,b]) x y
  |_=>none
 else if zQQ P t=true then
  match op with
  |.eql=>o2 (fun a b=>.prim (.aeq5 false) [a,b]) x y
  |.neq=>o2 (fun a b=>.prim (.aeq5 true) [a,b]) x y
  |_=>none
 else none
def zFT(P:Program)(s d:TypeId)(x:Operand):Option AOp:=
 match P.underlying s,P.underlying d with
 |some _,some (.int k)=>o1 (.conv k) x
 |some (.slice e),some .string=>if zdd P e then o1 (fun a=>.prim .b2s [a]) x else none
 |some (.pointer t),some .unsafePointer=>match P.info? t with
  |some i=>if i.size≠0 then o1 (fun a=>.prim .toU [a]) x else none
  |none=>none
 |some .unsafePointer,some (.pointer u)=>if(P.info? u).isSome∧P.cellsOf u≠0 then o1 (fun a=>.prim (.fromU u (P.cellsOf u)) [a]) x else none
 |_,_=>none
def zIT(P:Program)(t:TypeId)(x i:Operand):Option AOp:=
 match zLu P t with
 |some q=>match x with
  |.global g=>o1 (fun b=>.prim (.gix g q.1 q.2) [b]) i
  |x=>o2 (fun a b=>.prim (.idxP q.1 q.2) [a,b]) x i
 |none=>none
def zFZ(P:Program)(c:Call):Option AOp:=
 match c.callee,c.args.toList,c.argTypes.toList with
 |.value f,as,_=>if zYL P f then(match as with
  |[x]=>o1 .mov x
  |_=>none)
  else match zBB f,zDA as with
  |some g,some l=>some (.call g l)
  |_,_=>none
 |.builtin .len,[x],[t]=>(zIN P t).bind fun s=>o1 (.len s) x
 |.builtin .append,[x,y],[t,t2]=>match zDo P t,zIN P t2 with
  |some (e,es,bytes,_),some _=>o2 (.app e es bytes) x y
  |_,_=>none
 |.builtin .copy,[x,y],[t,_]=>(zDo P t).bind fun q=>o2 (.cpy q.2.1) x y
 |.builtin .max,[x,y],_=>o2 (.gr true) x y
 |.builtin .min,[x,y],_=>o2 (.gr false) x y
 |.builtin .cap,[x],[t]=>(zD7 P t).bind fun _=>o1 (fun a=>.prim .cap [a]) x
 |.builtin .unsafeSliceData,[x],_=>o1 (fun a=>.prim .usd [a]) x
 |.builtin .unsafeString,[x,n],[pt,_]=>match P.underlying pt with
  |some (.pointer e)=>if P.cellsOf e=1 then o2 (.ust e) x n else none
  |_=>none
 |_,_,_=>none
def zL9(P:Program)(t:TypeId)(x:Operand):Option AOp:=
 match x with
 |.global _=>some (.ext (.k .nilP) 0)
 |x=>(zIP P t).bind fun n=>o1 (.load n) x
def zAo(P:Program)(op:Op):Option AOp:=
 match op with
 |.move x|.assign x=>o1 .mov x
 |.pick c a b=>match zBB c,zBB a,zBB b with
  |some c,some a,some b=>some (.pick c a b)
  |_,_,_=>none
 |.binOp op t x y _=>match P.underlying t with
  |some .bool=>o2 (.binB op) x y
  |some (.slice _)=>match op,y with
   |.eql,.const (.slice none 0 0)=>o1 (.nilS false) x
   |.neq,.const (.slice none 0 0)=>o1 (.nilS true) x
   |_,_=>none
  |some (.pointer te)=>zIH P op te x y
  |some (.struct _)=>zFg P op t x y
  |some (.func _ _ _)=>match op,y with
   |.eql,.const .nilFunc=>o1 (fun a=>.prim (.feq false) [a]) x
   |.neq,.const .nilFunc=>o1 (fun a=>.prim (.feq true) [a]) x
   |_,_=>none
  |some _=>o2 (.bin op) x y
  |none=>none
 |.unOp op _ x=>o1 (.un op) x
 |.convert s d x=>zFT P s d x
 |.nilCheck x=>o1 (fun a=>.prim .nck [a]) x
 |.range t x=>if zIN P t=some true then o1 .rng x else none
 |.next it s=>if s then o1 .nxt it else none
 |.extract x i=>o1 (.ext · i) x
 |.field t x f=>(zLG P t f).bind fun p=>o1 (.fld p.1 p.2) x
 |.build t ps=>match zCU P t,zHp P t with
  |some z,some pl=>(zDW pl ps.toList).map (.build z)
  |_,_=>none
 |.load t x=>zL9 P t x
 |.fieldAddr t x f=>(zHq P t f).bind fun off=>o1 (.fldA off) x
 |.indexAddr t x i=>match zD7 P t with
  |some es=>o2 (.idxA es) x i
  |none=>zIT P t x i
 |.index t x i=>(zIN P t).bind fun s=>if s then o2 .idxS x i else none
 |.slice t x lo hi mx=>match zIN P t,zBB x,zGh lo,zGh hi,zGh mx with
  |some true,some x,some lo,some hi,some none=>some (.slcS x lo hi)
  |some false,some x,some lo,some hi,some mx=>(zD7 P t).map fun es=>.slc es x lo hi mx
  |none,some x,some none,some none,some none=>(zLu P t).map fun q=>.prim (.slcP q.1 q.2) [x]
  |_,_,_,_,_=>none
 |.makeFunc f first caps=>match zDA first.toList,zDA caps.toList with
  |some a,some b=>some (.mkF f a b)
  |_,_=>none
 |.buildSlice t len ps=>(zDo P t).bind fun q=>if len*q.2.1≤16777216 then(zDW (fun i=>some (i*q.2.1,q.2.1)) ps.toList).map (.bsl q.2.2.2 len q.2.1)else none
 |.call c=>zFZ P c
 |.alloc t=>(zCU P t).map (.alloc t (zUX P t))
 |.box t x=>o1 (.box t (zUX P t)) x
 |.store t x v=>(P.info? t).bind fun i=>o2 (.store i.size) x v
 |.makeSlice t l c=>(zDo P t).bind fun q=>o2 (.mks q.1 q.2.1 q.2.2.1 q.2.2.2) l c
 |_=>none
theorem zAI{f:Opd→AOp}{x:Operand}{o:AOp}(h:o1 f x=some o): ∃y,zBB x=some y∧o=f y:=by
 unfold o1 at h
 cases hx:zBB x with
 |none=>rw[hx]at h;cases h
 |some y=>rw[hx]at h;injection h with h;exact⟨y,rfl,h.symm⟩
theorem zAP{f:Opd→Opd→AOp}{x y:Operand}{o:AOp}(h:o2 f x y=some o): ∃a b,zBB x=some a∧zBB y=some b∧o=f a b:=by
 unfold o2 at h
 split at h
 ·rename_i a b ha hb;injection h with h;exact⟨a,b,ha,hb,h.symm⟩
 ·cases h
theorem zAT{α β:Type}{x:Option α}{f:α→Option β}{y:β}(h:x.bind f=some y): ∃a,x=some a∧f a=some y:=by
 cases x with
 |none=>cases h
 |some a=>exact⟨a,rfl,h⟩
theorem zAY{α β:Type}{x:Option α}{f:α→β}{y:β}(h:x.map f=some y): ∃a,x=some a∧y=f a:=by
 cases x with
 |none=>cases h
 |some a=>injection h with h;exact⟨a,rfl,h.symm⟩
theorem zGe{c:Ctx}{E:Nat→AV}{a:Act}{x:Option Operand}{o:Option Opd}(h:zGh x=some o)(hr:Reads c E a (zDn o)):zRk c (evO E o) (x.map a.eval):=by
 cases x with
 |none=>injection h with h;subst h;trivial
 |some x=>
  obtain⟨y,hy,rfl⟩:=zAY h
  exact zAH hy hr
theorem zCg{c:Ctx}{E:Nat→AV}{a:Act}{place:Nat→Option (Nat×Nat)}: ∀{ps:List (Nat×Operand)}{qs:List (Nat×Nat×Opd)},zDW place ps=some qs→Reads c E a (zEc qs)→
 ps.length=qs.length∧∀i(h:i<(ps.map fun p=>(p.1,a.eval p.2)).length)(h':i<(evP E qs).length),place ((ps.map fun p=>(p.1,a.eval p.2))[i]).1=some (((evP E qs)[i]).1,((evP E qs)[i]).2.1)∧Enc c ((evP E qs)[i]).2.2 ((ps.map fun p=>(p.1,a.eval p.2))[i]).2
 |[],qs,h,_=>by
  injection h with h;subst h
  exact⟨rfl,fun i h=>absurd h (by simp)⟩
 |(i,x)::r,qs,h,hr=>by
  simp only[zDW]at h
  split at h
  ·rename_i off size y l hp hy hl
   injection h with h;subst h
   obtain⟨h1,h2⟩:=zCg (c:=c) (E:=E) (a:=a) hl (hr.mono fun t ht=>by simp only[zEc,List.flatMap_cons,List.mem_append];exact .inr ht)
   refine⟨by simp[h1],fun j hj hj'=>?_⟩
   cases j with
   |zero=>exact⟨hp,zAH hy (hr.mono fun t ht=>by simp only[zEc,List.flatMap_cons,List.mem_append];exact .inl ht)⟩
   |succ j=>exact h2 j (by simpa using hj) (by simpa[evP]using hj')
  ·cases h
end Go.Proofs.YtmndejlpfmmaiaaGreatDoor.Fw
namespace Go.Proofs.YtmndejlpfmmaiaaGreatDoor.Fw
open Go
def Le(H H':AHeap):Prop:= ∀b x,H b=some x→H' b=some x
theorem Le.refl(H:AHeap):Le H H:=fun _ _ h=>h
theorem zJc{H H':AHeap}(hl:Le H H'){x:AV}{n:Nat}{K:List AV→Prop}(h:zA4 H x n K):zA4 H' x n K:=by
 unfold zA4 at*
 split at h
 ·split at h
  ·rename_i hH;simp only[hl _ _ hH];exact h
  ·rename_i hH;simp only[hl _ _ hH];exact h
  ·exact h.elim
 ·exact h
 ·exact h.elim
theorem zN1{H H':AHeap}(hl:Le H H'){n:Option Nat}{x:AV}{K:AV→Prop}(h:zA9 H n x K):zA9 H' n x K:=by
 unfold zA9 at*
 split at h<;>exact zJc hl h
theorem zRb{H H':AHeap}(hl:Le H H'){x:AV}(h:zEA H x):zEA H' x:=by
 unfold zEA at*
 split at h
 ·split at h
  ·rename_i hH;simp only[hl _ _ hH];exact h
  ·exact h.elim
 ·trivial
 ·exact h.elim
theorem zN4{H H':AHeap}(hl:Le H H'){x:AV}(h:zCB H x):zCB H' x:=by
 unfold zCB at*
 split at h
 ·split at h
  ·rename_i hH;simp only[hl _ _ hH];exact h
  ·exact h.elim
 ·trivial
theorem zOH{es:Nat}{H H':AHeap}(hl:Le H H'){x:AV}(h:zDD es H x):zDD es H' x:=by
 unfold zDD at*
 split at h
 ·split at h
  ·rename_i hH;simp only[hl _ _ hH];exact h
  ·exact h.elim
 ·trivial
theorem zAn{c:Ctx}{E:Nat→AV}{a:Act}{l l':List Nat}(h:Reads c E a (l++l')):Reads c E a l:=h.mono fun _ ht=>List.mem_append_left _ ht
theorem zAd{c:Ctx}{E:Nat→AV}{a:Act}{l l':List Nat}(h:Reads c E a (l++l')):Reads c E a l':=h.mono fun _ ht=>List.mem_append_right _ ht
theorem ExecK.of{P:Program}{o:Oper}{a:Act}{c:Ctx}{K:AV→Prop}(hok:Ok c){s:Sem Value}(hs:execOp a.eval o=(do pure (Next.value (← s))))(h: ∃r v',s.run P c.w=.ok v' c.w∧Enc c r v'∧K r):ExecK P o a c (fun r H'=>K r∧H'=c.H):=by
 obtain⟨r,v',h1,h2,h3⟩:=h
 exact .inl ⟨c,v',r,by rw[hs];exact zYM h1,Later.refl c,hok,h2,h3,rfl⟩
theorem zPS{α:Type}{xs:Array α}{x y:α}(h:xs.toList=[x,y]):xs= #[x,y]:=by cases xs;simp_all
theorem zZA{α:Type}{xs:Array α}{x:α}(h:xs.toList=[x]):xs= #[x]:=by cases xs;simp_all
theorem zEx{P:Program}{t:TypeId}(h:zIN P t=some true):P.underlying t=some .string:=by
 unfold zIN at h
 split at h
 ·assumption
 ·cases h
 ·cases h
theorem zGz{P:Program}{t:TypeId}{s:Bool}(h:zIN P t=some s):(s=true∧P.underlying t=some .string)∨(s=false∧∃e,P.underlying t=some (.slice e)):=by
 unfold zIN at h
 split at h
 ·injection h with h;exact .inl ⟨h.symm,by assumption⟩
 ·rename_i e hu;injection h with h;exact .inr ⟨h.symm,e,hu⟩
 ·cases h
theorem zAy{p:Prim}{xs:List Opd}{E:Nat→AV}{H H':AHeap}{K:AV→Prop}(hl:Le H H')(hw:zCp (.prim p xs) E H K):zCV p (evs E xs) H' K:=zOI (H:=H) hl hw
theorem zRS{P:Program}{e:TypeId}(h:zdd P e=true):P.underlying e=some (.int .u8):=by
 unfold zdd at h
 split at h
 ·assumption
 ·cases h
theorem zGi{P:Program}{t:TypeId}{q:Nat×Nat}(h:zLu P t=some q): ∃e inf,P.underlying t=some (.array q.1 e)∧P.info? e=some inf∧q.2=inf.size:=by
 unfold zLu at h
 split at h
 ·rename_i n e hu
  obtain⟨i,hi,rfl⟩:=zAY h
  exact⟨e,i,hu,hi,rfl⟩
 ·cases h
theorem zQR{fn:Func}(h:fn.name="internal/abi.NoEscape"):Extern.find fn=some Extern.AbiNoEscape.same:=by
 have e1:Extern.allGenericRows.lookup "internal/abi.NoEscape"=none:=by kernel_rfl
 have e2:Extern.allTypedRows.lookup "internal/abi.NoEscape"=none:=by kernel_rfl
 have e3:Extern.allRows.lookup "internal/abi.NoEscape"=some Extern.AbiNoEscape.same:=by kernel_rfl
 simp only[Extern.find,h,e1,e2,e3]
 rfl
theorem ExecK.of_noEsc{P:Program}{o:Oper}{a:Act}{c:Ctx}{f x:Operand}{ts:Array TypeId}{K:AV→Prop}{r:AV}(ho:o.op=.call ⟨.value f,#[x],ts⟩)(hf:zYL P f=true)(hok:Ok c)(he:Enc c r (a.eval x))(hk:K r):ExecK P o a c (fun r H'=>K r∧H'=c.H):=by
 unfold zYL at hf
 split at hf
 ·rename_i g
  split at hf
  ·rename_i fn hfn
   simp only[Bool.and_eq_true,beq_iff_eq]at hf
   obtain⟨⟨h1,h2⟩,h3⟩:=hf
   have h4:(fn.name=="runtime.NumGoroutine")=false:=by rw [h1];decide
   have h5:Extern.findNext fn=none:=by simpa using h3
   have hcall:=run_callFunc_extern (P:=P) hfn h4 h2 h5 (zQR h1) #[a.eval x] c.w
   rw[Lib.run_noEscape]at hcall
   refine .inl ⟨c,a.eval x,r,?_,Later.refl c,hok,he,hk,rfl⟩
   obtain⟨dst,op,type,pos,after,guard⟩:=o
   simp only at ho
   subst ho
   simp only[Result.andThen_ok]at hcall
   have hf':a.eval (.func g)=.func (.func g) #[] #[]:=rfl
   simpa[execOp,resolve,Deferred.ofValue,invoke,hf']using hcall
  ·cases hf
 ·cases hf
theorem zDk{P:Program}{o:Oper}{ao:AOp}(hc:zAo P o.op=some ao){E:Nat→AV}{H:AHeap}{K:AV→Prop}(hw:zCp ao E H K){c:Ctx}{a:Act}(hl:Le H c.H)(hok:Ok c)(hr:Reads c E a ao.reads):ExecK P o a c (fun r H'=>K r∧H'=c.H):=by
 obtain⟨dst,op,type,pos,after,guard⟩:=o
 simp only at hc
 cases op with
 |move x=>obtain⟨y,hy,rfl⟩:=zAI hc;exact .inl ⟨c,a.eval x,y.ev E,rfl,Later.refl c,hok,zAH hy hr,hw,rfl⟩
 |assign x=>obtain⟨y,hy,rfl⟩:=zAI hc;exact .inl ⟨c,a.eval x,y.ev E,rfl,Later.refl c,hok,zAH hy hr,hw,rfl⟩
 |pick x y z=>
  simp only[zAo]at hc
  split at hc
  ·rename_i x' y' z' hx hy hz
   injection hc with hc;subst hc
   have ex:=zAH hx (zAn (zAn hr))
   have ey:=zAH hy (zAd (zAn hr))
   have ez:=zAH hz (zAd hr)
   simp only[zCp]at hw
   split at hw
   ·rename_i t ht
    rw[ht]at ex
    generalize hv:a.eval x=v at ex
    cases ex
    cases t with
    |true=>exact .inl ⟨c,a.eval y,y'.ev E,by simp[execOp,hv,asBool],Later.refl c,hok,ey,hw.1 rfl,rfl⟩
    |false=>exact .inl ⟨c,a.eval z,z'.ev E,by simp[execOp,hv,asBool],Later.refl c,hok,ez,hw.2 rfl,rfl⟩
   ·exact hw.elim
  ·cases hc
 |binOp op t x y yt=>
  simp only[zAo]at hc
  split at hc
  ·rename_i ht
   obtain⟨x',y',hx,hy,rfl⟩:=zAP hc
   exact ExecK.of hok rfl (zK1 ht hw (zAH hx (zAn hr)) (zAH hy (zAd hr)) x y c.w)
  ·rename_i e ht
   split at hc
   ·obtain⟨x',hx,rfl⟩:=zAI hc
    exact ExecK.of hok rfl (zHe (ng:=false) ht hw (zAH hx hr) x (.const (.slice none 0 0)) c.w)
   ·obtain⟨x',hx,rfl⟩:=zAI hc
    exact ExecK.of hok rfl (zHe (ng:=true) ht hw (zAH hx hr) x (.const (.slice none 0 0)) c.w)
   ·cases hc
  ·rename_i te ht
   unfold zIH at hc
   split at hc
   ·rename_i hi
    obtain⟨j,hj⟩:=Option.isSome_iff_exists.1 hi
    split at hc
    ·obtain⟨x',y',hx,hy,rfl⟩:=zAP hc
     have hr':Reads c E a (x'.reads++y'.reads):=hr.mono fun t ht=>by simpa[AOp.reads]using ht
     exact ExecK.of hok rfl (zHG (ng:=false) ht hj (zAy (p:=.peq false) (xs:=[x',y']) hl hw:zOD false c.H (x'.ev E) (y'.ev E) K) (zAH hx (zAn hr')) (zAH hy (zAd hr')) x y)
    ·obtain⟨x',y',hx,hy,rfl⟩:=zAP hc
     have hr':Reads c E a (x'.reads++y'.reads):=hr.mono fun t ht=>by simpa[AOp.reads]using ht
     exact ExecK.of hok rfl (zHG (ng:=true) ht hj (zAy (p:=.peq true) (xs:=[x',y']) hl hw:zOD true c.H (x'.ev E) (y'.ev E) K) (zAH hx (zAn hr')) (zAH hy (zAd hr')) x y)
    ·cases hc
   ·cases hc
  ·rename_i fs ht
   unfold zFg at hc
   split at hc
   ·rename_i hi
    split at hc
    ·obtain⟨x',y',hx,hy,rfl⟩:=zAP hc
     have hr':Reads c E a (x'.reads++y'.reads):=hr.mono fun t ht=>by simpa[AOp.reads]using ht
     exact ExecK.of hok rfl (zHL (ng:=false) hi (zAy (p:=.aeq false) (xs:=[x',y']) hl hw:zNw false (x'.ev E) (y'.ev E) K) (zAH hx (zAn hr')) (zAH hy (zAd hr')) x y)
    ·obtain⟨x',y',hx,hy,rfl⟩:=zAP hc
     have hr':Reads c E a (x'.reads++y'.reads):=hr.mono fun t ht=>by simpa[AOp.reads]using ht
     exact ExecK.of hok rfl (zHL (ng:=true) hi (zAy (p:=.aeq true) (xs:=[x',y']) hl hw:zNw true (x'.ev E) (y'.ev E) K) (zAH hx (zAn hr')) (zAH hy (zAd hr')) x y)
    ·cases hc
   ·split at hc
    ·rename_i hi
     split at hc
     ·obtain⟨x',y',hx,hy,rfl⟩:=zAP hc
      have hr':Reads c E a (x'.reads++y'.reads):=hr.mono fun t ht=>by simpa[AOp.reads]using ht
      exact ExecK.of hok rfl (zGM (ng:=false) hi (zAy (p:=.aeq5 false) (xs:=[x',y']) hl hw:zK3 false (x'.ev E) (y'.ev E) K) (zAH hx (zAn hr')) (zAH hy (zAd hr')) x y)
     ·obtain⟨x',y',hx,hy,rfl⟩:=zAP hc
      have hr':Reads c E a (x'.reads++y'.reads):=hr.mono fun t ht=>by simpa[AOp.reads]using ht
      exact ExecK.of hok rfl (zGM (ng:=true) hi (zAy (p:=.aeq5 true) (xs:=[x',y']) hl hw:zK3 true (x'.ev E) (y'.ev E) K) (zAH hx (zAn hr')) (zAH hy (zAd hr')) x y)
     ·cases hc
    ·cases hc
  ·rename_i ps rs va ht
   split at hc
   ·obtain⟨x',hx,rfl⟩:=zAI hc
    exact ExecK.of hok rfl (zHb (ng:=false) ht (zAy (p:=.feq false) (xs:=[x']) hl hw:zY2 false (x'.ev E) K) (zAH hx (hr.mono fun t ht=>by simpa[AOp.reads]using ht)) x (.const .nilFunc))
   ·obtain⟨x',hx,rfl⟩:=zAI hc
    exact ExecK.of hok rfl (zHb (ng:=true) ht (zAy (p:=.feq true) (xs:=[x']) hl hw:zY2 true (x'.ev E) K) (zAH hx (hr.mono fun t ht=>by simpa[AOp.reads]using ht)) x (.const .nilFunc))
   ·cases hc
  ·obtain⟨x',y',hx,hy,rfl⟩:=zAP hc
   exact ExecK.of hok rfl (zNa hw (zAH hx (zAn hr)) (zAH hy (zAd hr)) t x y c.w)
  ·cases hc
 |unOp op t x=>obtain⟨y,hy,rfl⟩:=zAI hc;exact ExecK.of hok rfl (zQX hw (zAH hy hr) c.w)
 |nilCheck x=>
  obtain⟨y,hy,rfl⟩:=zAI hc
  have hl':zEA c.H (y.ev E)∧K (y.ev E):=zAy (p:=.nck) (xs:=[y]) hl hw
  have he:=zAH hy (hr.mono fun t ht=>by simpa[AOp.reads]using ht)
  obtain⟨k,off,hv⟩:=zFs hl'.1 he
  refine .inl ⟨c,a.eval x,y.ev E,?_,Later.refl c,hok,he,hl'.2,rfl⟩
  simp[execOp,hv]
 |range t x=>
  simp only[zAo]at hc
  split at hc
  ·obtain⟨y,hy,rfl⟩:=zAI hc;exact hw.elim
  ·cases hc
 |next it s=>
  simp only[zAo]at hc
  split at hc
  ·obtain⟨y,hy,rfl⟩:=zAI hc;exact hw.elim
  ·cases hc
 |convert s d x=>
  simp only[zAo,zFT]at hc
  split at hc
  ·rename_i k hs hd
   obtain⟨y,hy,rfl⟩:=zAI hc
   exact ExecK.of hok rfl (zKw (by rw[hs];rfl) hd hw (zAH hy hr))
  ·rename_i e hs hd
   split at hc
   ·rename_i hu
    obtain⟨y,hy,rfl⟩:=zAI hc
    exact ExecK.of hok rfl (zNp hok hs (zRS hu) hd (zAy (p:=.b2s) (xs:=[y]) hl hw:zOO c.H (y.ev E) K) (zAH hy (hr.mono fun t ht=>by simpa[AOp.reads]using ht)))
   ·cases hc
  ·rename_i t hs hd
   split at hc
   ·rename_i i hi
    split at hc
    ·rename_i hz
     obtain⟨y,hy,rfl⟩:=zAI hc
     exact ExecK.of hok rfl (zN5 hok hs hd hi hz (zAy (p:=.toU) (xs:=[y]) hl hw:zR2 c.H (y.ev E) K) (zAH hy (hr.mono fun t ht=>by simpa[AOp.reads]using ht)))
    ·cases hc
   ·cases hc
  ·rename_i u hs hd
   split at hc
   ·rename_i hz
    obtain⟨y,hy,rfl⟩:=zAI hc
    obtain⟨j,hj⟩:=Option.isSome_iff_exists.1 hz.1
    exact ExecK.of hok rfl (zJ1 hok hs hd hj hz.2 (zAy (p:=.fromU _ _) (xs:=[y]) hl hw:zD2 _ _ c.H (y.ev E) K) (zAH hy (hr.mono fun t ht=>by simpa[AOp.reads]using ht)))
   ·cases hc
  ·cases hc
 |extract x i=>obtain⟨y,hy,rfl⟩:=zAI hc;exact ExecK.of hok rfl (zNI hw (zAH hy hr))
 |field t x f=>
  obtain⟨p,hp,hc⟩:=zAT hc
  obtain⟨y,hy,rfl⟩:=zAI hc
  exact ExecK.of hok rfl (zN2 hp hw (zAH hy hr))
 |build t ps=>
  simp only[zAo]at hc
  split at hc
  ·rename_i z pl hz hpl
   obtain⟨qs,hqs,rfl⟩:=zAY hc
   obtain⟨h1,h2⟩:=zCg (c:=c) (E:=E) (a:=a) hqs hr
   refine ExecK.of hok rfl (zJZ hz hpl (ps:=ps.map fun(i,x)=>(i,a.eval x)) hw (by simp[evP,h1]) ?_)
   have e:(ps.map fun(i,x)=>(i,a.eval x)).toList=ps.toList.map fun p=>(p.1,a.eval p.2):=by simp
   intro i hi hi'
   have:=h2 i (by simpa using hi) hi'
   simpa[e]using this
  ·cases hc
 |load t x=>
  simp only[zAo,zL9]at hc
  split at hc
  ·injection hc with hc;subst hc;exact(show False from hw).elim
  obtain⟨n,hn,hc⟩:=zAT hc
  obtain⟨y,hy,rfl⟩:=zAI hc
  exact ExecK.of hok rfl (zF1 hok hn (zN1 hl hw) (zAH hy hr))
 |fieldAddr t x f=>
  obtain⟨n,hn,hc⟩:=zAT hc
  obtain⟨y,hy,rfl⟩:=zAI hc
  exact ExecK.of hok rfl (zKW hn ⟨zRb hl hw.1,hw.2⟩ (zAH hy hr))
 |indexAddr t x i=>
  simp only[zAo]at hc
  split at hc
  ·rename_i n hn
   obtain⟨x',y',hx,hy,rfl⟩:=zAP hc
   exact ExecK.of hok rfl (zKP hn ⟨zN4 hl hw.1,hw.2⟩ (zAH hx (zAn hr)) (zAH hy (zAd hr)))
  ·unfold zIT at hc
   split at hc
   ·rename_i q hq
    obtain⟨e,inf,hu,hi,hq1⟩:=zGi hq
    split at hc
    ·rename_i g
     obtain⟨y,hy,rfl⟩:=zAI hc
     rw[hq1]at hw
     exact ExecK.of hok rfl (zNq hok hu hi (zAy (p:=.gix _ _ _) (xs:=[y]) hl hw:zOa _ _ _ c.H (y.ev E) K) (zAH hy (hr.mono fun t ht=>by simpa[AOp.reads]using ht)))
    ·obtain⟨x',y',hx,hy,rfl⟩:=zAP hc
     have hr':Reads c E a (x'.reads++y'.reads):=hr.mono fun t ht=>by simpa[AOp.reads]using ht
     rw[hq1]at hw
     exact ExecK.of hok rfl (zKy hu hi (zAy (p:=.idxP _ _) (xs:=[x',y']) hl hw:zGm _ _ c.H (x'.ev E) (y'.ev E) K) (zAH hx (zAn hr')) (zAH hy (zAd hr')))
   ·cases hc
 |index t x i=>
  obtain⟨n,hn,hc⟩:=zAT hc
  cases n with
  |true=>
   simp only[if_true]at hc
   obtain⟨x',y',hx,hy,rfl⟩:=zAP hc
   exact ExecK.of hok rfl (zKv (zEx hn) hw (zAH hx (zAn hr)) (zAH hy (zAd hr)))
  |false=>simp at hc
 |slice t x lo hi mx=>
  simp only[zAo]at hc
  split at hc
  ·rename_i x' lo' hi' ht hx hlo hhi hmx
   injection hc with hc;subst hc
   have hm:mx=none:=by
    cases mx with
    |none=>rfl
    |some q=>obtain⟨z,_,hz⟩:=zAY hmx;cases hz
   subst hm
   exact ExecK.of hok rfl (zLB (zEx ht) hw (zAH hx (zAn hr)) (zGe hlo (zAn (zAd hr))) (zGe hhi (zAd (zAd hr))))
  ·rename_i x' lo' hi' mx' ht hx hlo hhi hmx
   obtain⟨es,hes,rfl⟩:=zAY hc
   exact ExecK.of hok rfl (zOJ hes ⟨zOH hl hw.1,hw.2⟩ (zAH hx (zAn hr)) (zGe hlo (zAn (zAd hr))) (zGe hhi (zAn (zAd (zAd hr)))) (zGe hmx (zAd (zAd (zAd hr)))))
  ·rename_i x' ht hx hlo hhi hmx
   obtain⟨q,hq,rfl⟩:=zAY hc
   obtain⟨e,inf,hu,hi,hq1⟩:=zGi hq
   have no: ∀{z:Option Operand},zGh z=some none→z=none:=fun{z} h=>by
    cases z with
    |none=>rfl
    |some q=>obtain⟨z,_,hz⟩:=zAY h;cases hz
   have e1:=no hlo
   have e2:=no hhi
   have e3:=no hmx
   subst e1;subst e2;subst e3
   rw[hq1]at hw
   exact ExecK.of hok rfl (zKf hok hu hi (zAy (p:=.slcP _ _) (xs:=[x']) hl hw:zHu _ _ c.H (x'.ev E) K) (zAH hx (hr.mono fun t ht=>by simpa[AOp.reads]using ht)))
  ·cases hc
 |makeFunc f first caps=>
  simp only[zAo]at hc
  split at hc
  ·rename_i xs ys hx hy
   injection hc with hc;subst hc
   obtain⟨l1,e1⟩:=zEj (c:=c) (E:=E) (a:=a) hx (zAn hr)
   obtain⟨l2,e2⟩:=zEj (c:=c) (E:=E) (a:=a) hy (zAd hr)
   refine .inl ⟨c,.func f (first.map a.eval) (caps.map a.eval),_,rfl,Later.refl c,hok,?_,hw,rfl⟩
   refine .fn f _ _ _ _ (by simp[evs,← l1]) (by simp[evs,← l2]) (fun i h h'=>?_) (fun i h h'=>?_)
   ·have:=e1 i h (by simpa using h');simpa using this
   ·have:=e2 i h (by simpa using h');simpa using this
  ·cases hc
 |buildSlice t len ps=>
  obtain⟨⟨e,es,bytes,z⟩,hq,hc⟩:=zAT hc
  simp only at hc
  split at hc
  ·rename_i hle
   obtain⟨qs,hqs,rfl⟩:=zAY hc
   obtain⟨i,v0,hu,hi,rfl,rfl,hz,hzl,hz0,_,_,_⟩:=zCF hq
   obtain⟨h1,h2⟩:=zCg (c:=c) (E:=E) (a:=a) hqs hr
   have e:(ps.map fun(i,x)=>(i,a.eval x)).toList=ps.toList.map fun p=>(p.1,a.eval p.2):=by simp
   obtain⟨c',r,v',g1,g2,g3,g4,g5,g6⟩:=zN6 hok hu hi hz hzl hz0 (by simpa using hle) (ps:=ps.map fun(i,x)=>(i,a.eval x)) hw (by simp[evP,h1]) (fun j hj hj'=>by
    have:=h2 j (by simpa using hj) hj'
    simpa[e]using this)
   exact .inl ⟨c',v',r,zYM g1,g2,g3,g5,g6,g4⟩
  ·cases hc
 |call cl=>
  obtain⟨callee,args,ats⟩:=cl
  simp only[zAo,zFZ]at hc
  split at hc
  ·split at hc
   ·rename_i hne
    split at hc
    ·rename_i x hargs
     obtain⟨y,hy,rfl⟩:=zAI hc
     have ha:=zZA hargs
     subst ha
     exact ExecK.of_noEsc rfl hne hok (zAH hy hr) hw
    ·cases hc
   ·split at hc
    ·injection hc with hc;subst hc;exact hw.elim
    ·cases hc
  ·rename_i x t hargs hats
   obtain⟨s,hs,hc⟩:=zAT hc
   obtain⟨y,hy,rfl⟩:=zAI hc
   have ha:=zZA hargs
   have ht:=zZA hats
   subst ha;subst ht
   have he:=zAH hy hr
   rcases zGz hs with⟨rfl,hu⟩|⟨rfl,e,hu⟩
   ·exact ExecK.of hok (s:=Builtin.len_ #[t] type #[a.eval x]) (by simp[execOp,resolve,invoke,builtin]) (zUj hu hw he)
   ·exact ExecK.of hok (s:=Builtin.len_ #[t] type #[a.eval x]) (by simp[execOp,resolve,invoke,builtin]) (zNm hu hw he)
  ·rename_i x y t t2 hargs hats
   split at hc
   ·obtain⟨_,_,_,_,rfl⟩:=zAP hc;exact hw.elim
   ·cases hc
  ·rename_i x y t t2 hargs hats
   obtain⟨q,_,hc⟩:=zAT hc
   obtain⟨_,_,_,_,rfl⟩:=zAP hc;exact hw.elim
  ·rename_i x y hargs
   obtain⟨x',y',hx,hy,rfl⟩:=zAP hc
   have ha:=zPS hargs
   subst ha
   exact ExecK.of hok (s:=Builtin.max_ ats type #[a.eval x,a.eval y]) (by simp[execOp,resolve,invoke,builtin]) (zG4 (mx:=true) (ts:=ats) (ty:=type) hw (zAH hx (zAn hr)) (zAH hy (zAd hr)))
  ·rename_i x y hargs
   obtain⟨x',y',hx,hy,rfl⟩:=zAP hc
   have ha:=zPS hargs
   subst ha
   exact ExecK.of hok (s:=Builtin.min_ ats type #[a.eval x,a.eval y]) (by simp[execOp,resolve,invoke,builtin]) (zG4 (mx:=false) (ts:=ats) (ty:=type) hw (zAH hx (zAn hr)) (zAH hy (zAd hr)))
  ·rename_i x t hargs hats
   obtain⟨es,hes,hc⟩:=zAT hc
   obtain⟨x',hx,rfl⟩:=zAI hc
   obtain⟨e,inf,hu,_⟩:=zDf hes
   have ha:=zZA hargs
   have ht:=zZA hats
   subst ha;subst ht
   exact ExecK.of hok (s:=Builtin.cap_ #[t] type #[a.eval x]) (by simp[execOp,resolve,invoke,builtin]) (zOM hu (zAy (p:=.cap) (xs:=[x']) hl hw:zWY (x'.ev E) K) (zAH hx (hr.mono fun t ht=>by simpa[AOp.reads]using ht)))
  ·rename_i x hargs
   obtain⟨x',hx,rfl⟩:=zAI hc
   have ha:=zZA hargs
   subst ha
   exact ExecK.of hok (s:=Builtin.unsafeSliceData_ ats type #[a.eval x]) (by simp[execOp,resolve,invoke,builtin]) (zOE hok (zAy (p:=.usd) (xs:=[x']) hl hw:zSL c.H (x'.ev E) K) (zAH hx (hr.mono fun t ht=>by simpa[AOp.reads]using ht)))
  ·split at hc
   ·split at hc
    ·obtain⟨_,_,_,_,rfl⟩:=zAP hc;exact hw.elim
    ·cases hc
   ·cases hc
  ·cases hc
 |alloc t=>obtain⟨_,_,rfl⟩:=zAY hc;exact hw.elim
 |box t x=>obtain⟨_,_,rfl⟩:=zAI hc;exact hw.elim
 |store t x v=>obtain⟨_,_,hc⟩:=zAT hc;obtain⟨_,_,_,_,rfl⟩:=zAP hc;exact hw.elim
 |makeSlice t l q=>obtain⟨_,_,hc⟩:=zAT hc;obtain⟨_,_,_,_,rfl⟩:=zAP hc;exact hw.elim
 |_=>cases hc
theorem ExecK.of_eff{P:Program}{o:Oper}{a:Act}{c:Ctx}{K:AV→AHeap→Prop}{s:Sem Value}(hs:execOp a.eval o=(do pure (Next.value (← s))))
 (h: ∃(c':Ctx)(r:AV)(v':Value),s.run P c.w=.ok v' c'.w∧Later c c'∧Ok c'∧Enc c' r v'∧K r c'.H):ExecK P o a c K:=by
 obtain⟨c',r,v',h1,h2,h3,h4,h5⟩:=h
 exact .inl ⟨c',v',r,by rw[hs];exact zYM h1,h2,h3,h4,h5⟩
theorem zGY{P:Program}{t:TypeId}{z:List AV}(h:zCU P t=some z): ∃i v0,P.info? t=some i∧i.zero=some v0∧zKY v0=some z:=by
 unfold zCU at h
 split at h
 ·rename_i i hi
  split at h
  ·rename_i v0 hv;exact⟨i,v0,hi,hv,h⟩
  ·cases h
 ·cases h
theorem zPf{c:Ctx}{f:FuncId}{first caps args:List AV}{v:Value}{as:Array Value}(he:Enc c (.fn (.func f) first caps) v)(hs:as.size=args.length)(ha: ∀i(h:i<args.length)(h':i<as.size),Enc c (args[i]) (as[i])):
 ∃(fv cv:Array Value),v=.func (.func f) fv cv∧(fv++as++cv).size=(first++args++caps).length∧∀i(h:i<(first++args++caps).length)(h':i<(fv++as++cv).size),Enc c ((first++args++caps)[i]) ((fv++as++cv)[i]):=by
 cases he with
 |fn _ _ _ fv cv hf hcs h1 h2=>
  refine⟨fv,cv,rfl,by simp[hf,hs,hcs],fun i h h'=>?_⟩
  have e1:(first++args++caps)[i]? =some _:=List.getElem?_eq_getElem h
  have e2:(fv++as++cv)[i]? =some _:=Array.getElem?_eq_getElem h'
  rw[List.length_append,List.length_append]at h
  by_cases hi:i<first.length
  ·rw[List.getElem?_append_left (by rw[List.length_append];omega),List.getElem?_append_left hi,List.getElem?_eq_getElem hi]at e1
   rw[Array.getElem?_append_left (by rw[Array.size_append];omega),Array.getElem?_append_left (by omega),Array.getElem?_eq_getElem (by omega)]at e2
   injection e1 with e1;injection e2 with e2
   rw[← e1,← e2];exact h1 i hi (by omega)
  ·by_cases hi2:i<first.length+args.length
   ·rw[List.getElem?_append_left (by rw[List.length_append];omega),List.getElem?_append_right (by omega),List.getElem?_eq_getElem (by omega)]at e1
    rw[Array.getElem?_append_left (by rw[Array.size_append];omega),Array.getElem?_append_right (by omega),Array.getElem?_eq_getElem (by omega)]at e2
    injection e1 with e1;injection e2 with e2
    rw[← e1,← e2]
    have:=ha (i-first.length) (by omega) (by omega)
    simpa[hf]using this
   ·rw[List.getElem?_append_right (by rw[List.length_append];omega),List.getElem?_eq_getElem (by rw[List.length_append];omega)]at e1
    rw[Array.getElem?_append_right (by rw[Array.size_append];omega),Array.getElem?_eq_getElem (by rw[Array.size_append];omega)]at e2
    injection e1 with e1;injection e2 with e2
    rw[← e1,← e2]
    have:=h2 (i-(first.length+args.length)) (by omega) (by omega)
    simpa[hf,hs]using this
theorem zNT{P:Program}{o:Oper}{f:Operand}{args:Array Operand}{ts:Array TypeId}(ho:o.op=.call ⟨.value f,args,ts⟩){g:Opd}{as:List Opd}(hg:zBB f=some g)(has:zDA args.toList=some as){E:Nat→AV}{K:AV→AHeap→Prop}{c:Ctx}{a:Act}
 (hw:zBn P (g.ev E) (evs E as) c.H K) (hok:Ok c) (hr:Reads c E a (AOp.call g as).reads):ExecK P o a c K:=by
 unfold zBn at hw
 split at hw
 ·rename_i fid first caps hfn
  have hf:=zAH hg (zAn hr)
  rw[hfn]at hf
  obtain⟨l1,e1⟩:=zEj (c:=c) (E:=E) (a:=a) has (zAd hr)
  obtain⟨fv,cv,hv,hsz,hall⟩:=zPf (args:=evs E as) (as:=args.map a.eval) hf (by simp[evs,← l1]) (fun i h h'=>by
   have:=e1 i h (by simpa using h')
   simpa using this)
  obtain⟨⟨fn,hfun,hname,hbody⟩,hrun⟩:=hw
  refine .inr (.inr (.inl ⟨fid,fv++args.map a.eval++cv,?_,hrun c _ rfl hok hsz hall⟩))
  obtain⟨dst,op,type,pos,after,guard⟩:=o
  simp only at ho
  subst ho
  have hname':fn.name≠"runtime.NumGoroutine":=by simpa using hname
  have hbody': ¬fn.body=none:=by intro h;rw[h]at hbody;cases hbody
  simp[execOp,resolve,Deferred.ofValue,hv,invoke,callFunc,hfun,hname',hbody']
 ·rename_i b hfn
  have hf:=zAH hg (zAn hr)
  rw[hfn]at hf
  obtain⟨l1,e1⟩:=zEj (c:=c) (E:=E) (a:=a) has (zAd hr)
  obtain⟨l,fn,tmps,assign,body,hv,h1,h2⟩:=hw c (args.map a.eval) _ rfl hok hf (by simp[evs,← l1]) (fun i h h'=>by
   have:=e1 i h (by simpa using h')
   simpa using this)
  refine .inr (.inr (.inr ⟨l,fn,tmps,assign,body,?_,h2⟩))
  obtain⟨dst,op,type,pos,after,guard⟩:=o
  simp only at ho
  subst ho
  simp[execOp,resolve,Deferred.ofValue,hv,invoke,h1]
 ·exact hw.elim
theorem zCs{P:Program}{o:Oper}{ao:AOp}(hc:zAo P o.op=some ao){E:Nat→AV}{K:AV→AHeap→Prop}{c:Ctx}(hw:zB0 P ao E c.H K){a:Act}(hok:Ok c)(hr:Reads c E a ao.reads):ExecK P o a c K:=by
 have pure:zCp ao E c.H (fun r=>K r c.H)→ExecK P o a c K:=fun h=>by
  rcases zDk hc h (Le.refl _) hok hr with⟨c',v,r,h1,h2,h3,h4,h5,h6⟩|⟨c',h1,h2,h3,h5,h6⟩|⟨f,args,h1,h2⟩|⟨l,fn,tmps,assign,body,h1,h2⟩
  ·exact .inl ⟨c',v,r,h1,h2,h3,h4,by rw[h6];exact h5⟩
  ·exact .inr (.inl ⟨c',h1,h2,h3,by rw[h6];exact h5⟩)
  ·exact .inr (.inr (.inl ⟨f,args,h1,h2.mono fun _ _ ⟨c',v,r,a1,a2,a3,a4,a5,a6,a7⟩=>⟨c',v,r,a1,a2,a3,a4,a5,by rw[a7];exact a6⟩⟩))
  ·exact .inr (.inr (.inr ⟨l,fn,tmps,assign,body,h1,h2.mono fun _ _ ⟨c',v,r,a1,a2,a3,a4,a5,a6,a7⟩=>⟨c',v,r,a1,a2,a3,a4,a5,by rw[a7];exact a6⟩⟩))
 obtain⟨dst,op,type,pos,after,guard⟩:=o
 simp only at hc
 cases op with
 |move x=>obtain⟨y,hy,rfl⟩:=zAI hc;exact pure hw
 |assign x=>obtain⟨y,hy,rfl⟩:=zAI hc;exact pure hw
 |pick x y z=>
  simp only[zAo]at hc
  split at hc
  ·injection hc with hc;subst hc;exact pure hw
  ·cases hc
 |binOp op t x y yt=>
  simp only[zAo]at hc
  split at hc
  ·obtain⟨x',y',hx,hy,rfl⟩:=zAP hc;exact pure hw
  ·split at hc
   ·obtain⟨y,hy,rfl⟩:=zAI hc;exact pure hw
   ·obtain⟨y,hy,rfl⟩:=zAI hc;exact pure hw
   ·cases hc
  ·unfold zIH at hc
   split at hc
   ·split at hc
    ·obtain⟨x',y',hx,hy,rfl⟩:=zAP hc;exact pure hw
    ·obtain⟨x',y',hx,hy,rfl⟩:=zAP hc;exact pure hw
    ·cases hc
   ·cases hc
  ·unfold zFg at hc
   split at hc
   ·split at hc
    ·obtain⟨x',y',hx,hy,rfl⟩:=zAP hc;exact pure hw
    ·obtain⟨x',y',hx,hy,rfl⟩:=zAP hc;exact pure hw
    ·cases hc
   ·split at hc
    ·split at hc
     ·obtain⟨x',y',hx,hy,rfl⟩:=zAP hc;exact pure hw
     ·obtain⟨x',y',hx,hy,rfl⟩:=zAP hc;exact pure hw
     ·cases hc
    ·cases hc
  ·split at hc
   ·obtain⟨y,hy,rfl⟩:=zAI hc;exact pure hw
   ·obtain⟨y,hy,rfl⟩:=zAI hc;exact pure hw
   ·cases hc
  ·obtain⟨x',y',hx,hy,rfl⟩:=zAP hc;exact pure hw
  ·cases hc
 |unOp op t x=>obtain⟨y,hy,rfl⟩:=zAI hc;exact pure hw
 |nilCheck x=>obtain⟨y,hy,rfl⟩:=zAI hc;exact pure hw
 |range t x=>
  simp only[zAo]at hc
  split at hc
  ·rename_i ht
   obtain⟨y,hy,rfl⟩:=zAI hc
   exact ExecK.of_eff (s:=Instr.range t (a.eval x)) rfl (zNZ hok (zEx ht) hw (zAH hy hr))
  ·cases hc
 |next it s=>
  simp only[zAo]at hc
  split at hc
  ·rename_i hs
   obtain⟨y,hy,rfl⟩:=zAI hc
   subst hs
   exact ExecK.of_eff (s:=Instr.next (a.eval it) true type) rfl (zNW hok hw (zAH hy hr))
  ·cases hc
 |convert s d x=>
  simp only[zAo,zFT]at hc
  split at hc
  ·obtain⟨y,hy,rfl⟩:=zAI hc;exact pure hw
  ·split at hc
   ·obtain⟨y,hy,rfl⟩:=zAI hc;exact pure hw
   ·cases hc
  ·split at hc
   ·split at hc
    ·obtain⟨y,hy,rfl⟩:=zAI hc;exact pure hw
    ·cases hc
   ·cases hc
  ·split at hc
   ·obtain⟨y,hy,rfl⟩:=zAI hc;exact pure hw
   ·cases hc
  ·cases hc
 |extract x i=>obtain⟨y,hy,rfl⟩:=zAI hc;exact pure hw
 |field t x f=>obtain⟨p,hp,hc⟩:=zAT hc;obtain⟨y,hy,rfl⟩:=zAI hc;exact pure hw
 |build t ps=>
  simp only[zAo]at hc
  split at hc
  ·obtain⟨qs,hqs,rfl⟩:=zAY hc;exact pure hw
  ·cases hc
 |load t x=>
  simp only[zAo,zL9]at hc
  split at hc
  ·injection hc with hc;subst hc;exact(show False from hw).elim
  obtain⟨p,hp,hc⟩:=zAT hc;obtain⟨y,hy,rfl⟩:=zAI hc;exact pure hw
 |fieldAddr t x f=>obtain⟨p,hp,hc⟩:=zAT hc;obtain⟨y,hy,rfl⟩:=zAI hc;exact pure hw
 |indexAddr t x i=>
  simp only[zAo]at hc
  split at hc
  ·obtain⟨x',y',hx,hy,rfl⟩:=zAP hc;exact pure hw
  ·unfold zIT at hc
   split at hc
   ·split at hc
    ·obtain⟨y,hy,rfl⟩:=zAI hc;exact pure hw
    ·obtain⟨x',y',hx,hy,rfl⟩:=zAP hc;exact pure hw
   ·cases hc
 |index t x i=>
  obtain⟨n,hn,hc⟩:=zAT hc
  cases n with
  |true=>simp only[if_true]at hc;obtain⟨x',y',hx,hy,rfl⟩:=zAP hc;exact pure hw
  |false=>simp at hc
 |slice t x lo hi mx=>
  simp only[zAo]at hc
  split at hc
  ·injection hc with hc;subst hc;exact pure hw
  ·obtain⟨es,hes,rfl⟩:=zAY hc;exact pure hw
  ·obtain⟨es,hes,rfl⟩:=zAY hc;exact pure hw
  ·cases hc
 |makeFunc f first caps=>
  simp only[zAo]at hc
  split at hc
  ·injection hc with hc;subst hc;exact pure hw
  ·cases hc
 |buildSlice t len ps=>
  obtain⟨q,hq,hc⟩:=zAT hc
  split at hc
  ·obtain⟨qs,hqs,rfl⟩:=zAY hc;exact pure hw
  ·cases hc
 |call cl=>
  obtain⟨callee,args,ats⟩:=cl
  simp only[zAo,zFZ]at hc
  split at hc
  ·split at hc
   ·split at hc
    ·obtain⟨_,_,rfl⟩:=zAI hc;exact pure hw
    ·cases hc
   ·split at hc
    ·rename_i g' l hg hl
     injection hc with hc;subst hc
     exact zNT rfl hg hl hw hok hr
    ·cases hc
  ·obtain⟨_,_,hc⟩:=zAT hc;obtain⟨_,_,rfl⟩:=zAI hc;exact pure hw
  ·rename_i x y t t2 hargs hats
   split at hc
   ·rename_i e es bytes z s2 hsi hs2
    obtain⟨x',y',hx,hy,rfl⟩:=zAP hc
    obtain⟨i,v0,hu,hi,rfl,rfl,hz,hzl,hz0,hby,hv0,hvc⟩:=zCF hsi
    have ha:=zPS hargs
    have ht:=zPS hats
    subst ha;subst ht
    have hu2:(∃e2,P.underlying t2=some (.slice e2))∨P.underlying t2=some .string:=by
     rcases zGz hs2 with⟨_,h⟩|⟨_,h⟩
     ·exact .inr h
     ·exact .inl h
    exact ExecK.of_eff (s:=Builtin.append_ #[t,t2] type #[a.eval x,a.eval y]) (by simp[execOp,resolve,invoke,builtin]) (zNb hok hu hu2 hi hv0 hvc hby hz0 hw (zAH hx (zAn hr)) (zAH hy (zAd hr)))
   ·cases hc
  ·rename_i x y t t2 hargs hats
   obtain⟨⟨e,es,bytes,z⟩,hsi,hc⟩:=zAT hc
   obtain⟨x',y',hx,hy,rfl⟩:=zAP hc
   obtain⟨i,v0,hu,hi,rfl,rfl,hz,hzl,hz0,hby,hv0,hvc⟩:=zCF hsi
   have ha:=zPS hargs
   have ht:=zPS hats
   subst ha;subst ht
   exact ExecK.of_eff (s:=Builtin.copy_ #[t,t2] type #[a.eval x,a.eval y]) (by simp[execOp,resolve,invoke,builtin]) (zN8 hok hu hi hz0 hw (zAH hx (zAn hr)) (zAH hy (zAd hr)))
  ·obtain⟨_,_,_,_,rfl⟩:=zAP hc;exact pure hw
  ·obtain⟨_,_,_,_,rfl⟩:=zAP hc;exact pure hw
  ·obtain⟨_,_,hc⟩:=zAT hc;obtain⟨_,_,rfl⟩:=zAI hc;exact pure hw
  ·obtain⟨_,_,rfl⟩:=zAI hc;exact pure hw
  ·rename_i x n pt it hargs hats
   split at hc
   ·rename_i e hp
    split at hc
    ·rename_i he1
     obtain⟨x',y',hx,hy,rfl⟩:=zAP hc
     have ha:=zPS hargs
     have ht:=zPS hats
     subst ha;subst ht
     exact ExecK.of_eff (s:=Builtin.unsafeString_ #[pt,it] type #[a.eval x,a.eval n]) (by simp[execOp,resolve,invoke,builtin]) (zNH hok hp he1 hw (zAH hx (zAn hr)) (zAH hy (zAd hr)))
    ·cases hc
   ·cases hc
  ·cases hc
 |alloc t=>
  obtain⟨z,hz,rfl⟩:=zAY hc
  obtain⟨i,v0,hi,hv0,hzc⟩:=zGY hz
  refine ExecK.of_eff (s:=Instr.alloc t true (.tuple #[])) rfl ?_
  obtain⟨nx,hnx⟩:=hok.fresh
  obtain⟨c',r,v',h1,h2⟩:=zCX (P:=P) hok (zBW c hzc) hnx (hw nx (zDC hok hnx.1))
  exact⟨c',r,v',by simpa[Instr.alloc,zBY hi hv0]using h1,h2⟩
 |box t x=>
  obtain⟨y,hy,rfl⟩:=zAI hc
  simp only[zB0]at hw
  split at hw
  ·rename_i l hl
   obtain⟨e1,e2,_⟩:=(zAH hy hr).cells hl
   obtain⟨nx,hnx⟩:=hok.fresh
   exact ExecK.of_eff (s:=Instr.box t (a.eval x)) rfl (zCX hok ⟨e1,e2⟩ hnx (hw nx (zDC hok hnx.1)))
  ·exact hw.elim
 |store t x v=>
  obtain⟨i,hi,hc⟩:=zAT hc
  obtain⟨x',y',hx,hy,rfl⟩:=zAP hc
  obtain⟨c',h1,h2,h3,h4⟩:=zJd (P:=P) hok hi hw (zAH hx (zAn hr)) (zAH hy (zAd hr))
  exact .inr (.inl ⟨c',by simp[execOp,h1],h2,h3,h4⟩)
 |makeSlice t l q=>
  obtain⟨⟨e,es,bytes,z⟩,hsi,hc⟩:=zAT hc
  obtain⟨x',y',hx,hy,rfl⟩:=zAP hc
  obtain⟨i,v0,hu,hi,rfl,rfl,hz,hzl,hz0,hby,hv0,hvc⟩:=zCF hsi
  cases e0:zIC x' y' with
  |true=>
   simp only[zB0,e0,cond_true]at hw
   exact ExecK.of_eff (s:=Instr.makeSlice t (a.eval l) (a.eval q)) rfl (zNv hok hu hi hz hzl hz0 hw (zAH hx (zAn hr)) (zAH hy (zAd hr)))
  |false=>
   simp only[zB0,e0,cond_false]at hw
   exact ExecK.of_eff (s:=Instr.makeSlice t (a.eval l) (a.eval q)) rfl (zNG hok hu hi hz hzl hz0 hw (zAH hx (zAn hr)) (zAH hy (zAd hr)))
 |_=>cases hc
end Go.Proofs.YtmndejlpfmmaiaaGreatDoor.Fw
namespace Go.Proofs.YtmndejlpfmmaiaaGreatDoor.Fw
open Go
structure AOper where
 dst:Option Nat
 g:Option (Nat×Bool)
 op:AOp
def zB9(E:Env)(d:Option Nat)(v:AV):Env:=
 match d with
 |some t=>E.set t v
 |none=>E
def und:AV:=.tup []
theorem zFu(c:Ctx):Enc c und undef:=.tup [] #[] rfl (fun i h=>absurd h (by simp))
theorem zKZ{c:Ctx}{v:Value}(h:Enc c (.tup []) v):v=.tuple #[]:=by
 cases h with
 |tup l vs hl hc=>
  have e:vs= #[]:=Array.eq_empty_of_size_eq_zero hl
  rw[e]
def zA2(P:Program):List AOper→St→(St→Prop)→Prop
 |[],s,K=>K s
 |⟨d,none,o⟩::r,s,K=>zB0 P o s.E.get s.H fun v H'=>zA2 P r ⟨s.D,zB9 s.E d v,H'⟩ K
 |⟨d,some (t,b),o⟩::r,s,K=>match s.E.get t with
  |.bool b'=>(b'=b→zB0 P o s.E.get s.H fun v H'=>zA2 P r ⟨s.D,zB9 s.E d v,H'⟩ K)∧(b'≠b→zA2 P r ⟨s.D,zB9 s.E d und,s.H⟩ K)
  |.tup []=>zA2 P r ⟨s.D,zB9 s.E d und,s.H⟩ K
  |_=>False
def zDp(ops:Array Oper):Option (Nat×Bool)→Option (Option (Nat×Bool))
 |none=>some none
 |some (j,b)=>match ops[j]? with
  |some o=>o.dst.map fun t=>some (t,b)
  |none=>none
def zC6(P:Program)(N:Nat)(ops:Array Oper)(o:Oper):Option AOper:=
 match zAo P o.op,zDp ops o.guard with
 |some ao,some g=>if(o.dst.all fun d=>decide (d<N))then some ⟨o.dst,g,ao⟩else none
 |_,_=>none
def zBo(P:Program)(N:Nat)(ops:Array Oper):List Oper→Option (List AOper)
 |[]=>some []
 |o::r=>match zC6 P N ops o,zBo P N ops r with
  |some a,some l=>some (a::l)
  |_,_=>none
theorem zCE{P:Program}{N:Nat}{ops:Array Oper}{o:Oper}{x:AOper}(h:zC6 P N ops o=some x):
 zAo P o.op=some x.op∧zDp ops o.guard=some x.g∧o.dst=x.dst∧∀d,x.dst=some d→d<N:=by
 unfold zC6 at h
 split at h
 ·rename_i ao g h1 h2
  split at h
  ·rename_i hd
   injection h with h;subst h
   refine⟨h1,h2,rfl,fun d e=>?_⟩
   simp only at e
   rw[e]at hd
   simpa using hd
  ·cases h
 ·cases h
theorem zEk{P:Program}{o:Op}{ao:AOp}(h:zAo P o=some ao): ∀d,o≠.defer d:=by
 rintro d rfl
 cases h
theorem RelA.put{N:Nat}{c:Ctx}{D:List Nat}{E:Env}{a:Act}(h:RelA N c D E a){dst:Option Nat}{r:AV}{v:Value}(he:Enc c r v)(hd: ∀d,dst=some d→d<N):RelA N c D (zB9 E dst r) (a.put dst v):=by
 cases dst with
 |none=>exact h
 |some d=>
  have hlt:=hd d rfl
  refine⟨by simp[Act.put,h.size],fun t=>?_,h.dlen,h.dmark⟩
  simp only[zB9,Env.get_set,Act.put]
  by_cases e:t=d
  ·subst e
   rw[if_pos rfl]
   have:t<a.tmps.size:=by rw[h.size];exact hlt
   simpa[Array.getD_eq_getD_getElem?,this]using he
  ·rw[if_neg e]
   have:=h.tmp t
   rw[Array.getD_eq_getD_getElem?,Array.getElem?_setIfInBounds_ne (fun hh=>e hh.symm),← Array.getD_eq_getD_getElem?]
   exact this
theorem zFh{c:Ctx}{a:Act}{t:Nat}{b:Bool}(h:Enc c (.bool b) (a.tmps.getD t undef)):a.tmps[t]? =some (.bool b):=by
 rw[Array.getD_eq_getD_getElem?]at h
 cases hx:a.tmps[t]? with
 |none=>
  rw[hx]at h
  simp only[Option.getD_none]at h
  cases h
 |some v=>
  rw[hx]at h
  simp only[Option.getD_some]at h
  cases h;rfl
theorem zLL{o:Oper}{y:Nat→Option Bool}(h:o.guard=none):Region.wanted o y=true:=by simp[Region.wanted,h]
theorem zDi{ops:Array Oper}{o:Oper}{g:Option (Nat×Bool)}(h:zDp ops o.guard=some g)(tmps:Array Value):
 (g=none→Region.wanted o (yielded ops tmps)=true)∧(∀t b,g=some (t,b)→∀b',tmps[t]? =some (.bool b')→Region.wanted o (yielded ops tmps)=(b'==b)):=by
 cases hg:o.guard with
 |none=>
  rw[hg]at h
  injection h with h;subst h
  exact⟨fun _=>zLL hg,(fun t b h=>by cases h)⟩
 |some p=>
  obtain⟨j,b⟩:=p
  rw[hg]at h
  simp only[zDp]at h
  split at h
  ·rename_i oj hoj
   obtain⟨t,ht,rfl⟩:=zAY h
   refine⟨(fun h=>by cases h),fun t' b' h b'' hb=>?_⟩
   injection h with h;injection h with h1 h2
   subst h1;subst h2
   simp only[Region.wanted,hg,yielded,hoj,Option.bind_some,ht,hb]
   cases b<;>cases b''<;>rfl
  ·cases h
theorem zFy{ops:Array Oper}{o:Oper}{t:Nat}{b:Bool}(h:zDp ops o.guard=some (some (t,b))){tmps:Array Value}(he:tmps.getD t undef=.tuple #[]):Region.wanted o (yielded ops tmps)=false:=by
 cases hg:o.guard with
 |none=>rw[hg]at h;cases h
 |some p=>
  obtain⟨j,b0⟩:=p
  rw[hg]at h
  simp only[zDp]at h
  split at h
  ·rename_i oj hoj
   obtain⟨t',ht,e⟩:=zAY h
   injection e with e;injection e with e1 e2
   subst e1;subst e2
   simp only[Region.wanted,hg,yielded,hoj,Option.bind_some,ht]
   cases hx:tmps[t]? with
   |none=>rfl
   |some v=>
    rw[Array.getD_eq_getD_getElem?,hx,Option.getD_some]at he
    subst he;rfl
  ·cases h
theorem zUE{P:Program}{N:Nat}{ro:Option Nat}{ops:Array Oper}{i:Nat}{rest:List Nat}{o:Oper}{x:AOper}(ho:ops[i]? =some o)(hx:zC6 P N ops o=some x){s:St}{K:St→Prop}{r:List AOper}(h:zA2 P (x::r) s K)
 {c0 c:Ctx} {a:Act} (hl:Later c0 c) (hH:c.H=s.H) (hok:Ok c) (hr:RelA N c s.D s.E a) {Q:Exit→St→Prop}
 (next: ∀(c':Ctx)(a':Act)(s':St),Later c0 c'→c'.H=s'.H→Ok c'→RelA N c' s'.D s'.E a'→zA2 P r s' K→wpOpsIn (FW ro) 0 P ops (Post N c0 Q) rest a' c'.w):wpOpsIn (FW ro) 0 P ops (Post N c0 Q) (i::rest) a c.w:=by
 obtain⟨h1,h2,h3,h4⟩:=zCE hx
 obtain⟨d,g,ao⟩:=x
 simp only at h1 h2 h3 h4
 have hg:=zDi h2 a.tmps
 have exec:zB0 P ao s.E.get s.H (fun v H'=>zA2 P r ⟨s.D,zB9 s.E d v,H'⟩ K)→o.wpIn (FW ro) 0 P a c.w (wpOpsIn (FW ro) 0 P ops (Post N c0 Q) rest) (Post N c0 Q):=by
  intro hw
  rw[← hH]at hw
  refine(zCs h1 hw hok (a:=a) (fun t _=>hr.tmp t)).wpIn (zEk h1) fun c' v rv g1 g2 g3 g4=>?_
  have hrel:=(hr.later g1).put g3 (dst:=d) h4
  rw[h3]
  exact next c' _ ⟨s.D,zB9 s.E d rv,c'.H⟩ (hl.trans g1) rfl g2 hrel g4
 simp only[wpOpsIn,ho]
 cases g with
 |none=>
  rw[if_pos (hg.1 rfl)]
  exact exec h
 |some p=>
  obtain⟨t,b⟩:=p
  simp only[zA2]at h
  split at h
  ·rename_i b' hb'
   have hb:=zFh (hb'▸hr.tmp t)
   have hwant:=hg.2 t b rfl b' hb
   by_cases e:b'=b
   ·rw[hwant,if_pos (by simp[e])]
    exact exec (h.1 e)
   ·rw[hwant,if_neg (by simp[e])]
    refine⟨fun _ _=>trivial,?_⟩
    have hrel:=hr.put (dst:=d) (zFu c) h4
    rw[h3]
    exact next c _ ⟨s.D,zB9 s.E d und,s.H⟩ hl hH hok hrel (h.2 e)
  ·rename_i hb'
   rw[zFy h2 (zKZ (hb'▸hr.tmp t)),if_neg (by simp)]
   refine⟨fun _ _=>trivial,?_⟩
   have hrel:=hr.put (dst:=d) (zFu c) h4
   rw[h3]
   exact next c _ ⟨s.D,zB9 s.E d und,s.H⟩ hl hH hok hrel h
  ·exact h.elim
theorem zJC{P:Program}{N:Nat}{ro:Option Nat}{ops:Array Oper}{Q:Exit→St→Prop}{K:St→Prop}(hK: ∀s,K s→Q .normal s){c0:Ctx}: ∀(n k:Nat)(l:List AOper),k+n=ops.size→zBo P N ops (ops.toList.drop k)=some l→
 ∀(s:St)(c:Ctx)(a:Act),zA2 P l s K→Later c0 c→c.H=s.H→Ok c→RelA N c s.D s.E a→wpOpsIn (FW ro) 0 P ops (Post N c0 Q) (List.range' k n) a c.w
 |0,k,l,hk,hl,s,c,a,h,hlat,hH,hok,hr=>by
  have:ops.toList.drop k=[]:=List.drop_eq_nil_of_le (by simp;omega)
  rw[this]at hl
  injection hl with hl;subst hl
  exact⟨c,s,hH,rfl,hok,hr,hlat,hK s h⟩
 |n+1,k,l,hk,hl,s,c,a,h,hlat,hH,hok,hr=>by
  have hlt:k<ops.size:=by omega
  have hd:ops.toList.drop k=ops[k]::ops.toList.drop (k+1):=by
   rw[List.drop_eq_getElem_cons (by simpa using hlt)];simp
  rw[hd]at hl
  simp only[zBo]at hl
  split at hl
  ·rename_i x l' hx hl'
   injection hl with hl;subst hl
   rw[List.range'_succ]
   refine zUE (Array.getElem?_eq_getElem hlt) hx h hlat hH hok hr fun c' a' s' g1 g2 g3 g4 g5=>?_
   exact zJC hK n (k+1) l' (by omega) hl' s' c' a' g5 g1 g2 g3 g4
  ·cases hl
theorem zQo{P:Program}{rr:Bool}{N id:Nat}{ops:Array Oper}{l:List AOper}(hl:zBo P N ops ops.toList=some l){Q:Exit→St→Prop}{s:St}(h:zA2 P l s (Q .normal)):AW P rr N (.region id ops false) Q s:=by
 intro ro c a _ hH hok hr
 refine wpIn_region ?_
 rw[List.range_eq_range']
 exact zJC (fun _ h=>h) ops.size 0 l (by omega) (by simpa using hl) s c a h (Later.refl c) hH hok hr
end Go.Proofs.YtmndejlpfmmaiaaGreatDoor.Fw
namespace Go.Proofs.YtmndejlpfmmaiaaGreatDoor.Fw
open Go
def zBs(E:Nat→AV):AOp→List Nat
 |.load _ x|.fldA _ x|.idxA _ x _|.slc _ x _ _ _=>zBJ (x.ev E)
 |.prim p xs=>zLO p++(evs E xs).flatMap zBJ
 |_=>[]
theorem zKm{o:AOp}{E:Nat→AV}{H H':AHeap}{K:AV→Prop}(hl: ∀q,q∈zBs E o→H' q=H q)(h:zCp o E H K):zCp o E H' K:=by
 cases o with
 |load n x=>
  simp only[zCp,zA9]at*
  have: ∀{n:Nat}{K:List AV→Prop},zA4 H (x.ev E) n K→zA4 H' (x.ev E) n K:=by
   intro n K h
   unfold zA4 at*
   split at h
   ·rename_i b L off hx
    have e:=hl b (by simp[zBs,hx,zBJ])
    simp only[hx,e];exact h
   ·first|exact h|(rename_i cells hx;simp only[hx];exact h)
   ·exact h.elim
  split at h<;>exact this h
 |fldA off x=>
  refine⟨?_,h.2⟩
  have h1:=h.1
  unfold zEA at*
  split at h1
  ·rename_i b L off' hx
   have e:=hl b (by simp[zBs,hx,zBJ])
   simp only[hx,e];exact h1
  ·rename_i cells hx;simp only[hx]
  ·exact h1.elim
 |idxA es x i=>
  refine⟨?_,h.2⟩
  have h1:=h.1
  unfold zCB at*
  split at h1
  ·rename_i b L off' n ti hx
   have e:=hl b (by simp[zBs,hx,zBJ])
   simp only[hx,e];exact h1
  ·rename_i hx
   trivial
 |slc es x lo hi mx=>
  refine⟨?_,h.2⟩
  have h1:=h.1
  unfold zDD at*
  split at h1
  ·rename_i b L off' n ti hx
   have e:=hl b (by simp[zBs,hx,zBJ])
   simp only[hx,e];exact h1
  ·rename_i hx
   trivial
 |prim p xs=>exact zKk hl h
 |_=>exact h
def zA3(H:AHeap):Option (Nat×ABlk)→AHeap
 |none=>H
 |some (b,x)=>H.upd b (some x)
def zgj:List Nat:=[180,192]
def zKM:Opd→Bool
 |.k (.fn (.func g) _ _)=>zgj.contains g
 |_=>false
def zed(H:AHeap)(ty es bytes:Nat)(x y:AV)(K:AV→List Nat→Option (Nat×ABlk)→Prop):Prop:=
 match y with
 |.seq m ys _=>ys.length=m*es∧ys.all AV.cell=true∧0<m∧match x with
  |.seq n cells ti=>ti=true∧n=0∧cells=[]∧m*bytes≤70368744177664∧m≤70368744177664∧∀b,H b=none→K (.own b (m*es) 0 m false) [] (some (b,.row ty es ys))
  |.own b L off n _=>match H b with
   |some (.row ty' es' cells)=>cells.length=L∧off=0∧L=n*es∧ty'=ty∧es'=es∧(n+m)*bytes≤70368744177664∧n+m≤70368744177664∧K (.own b ((n+m)*es) 0 (n+m) false) [b] (some (b,.row ty es (cells++ys)))
   |_=>False
  |_=>False
 |_=>False
def zYI(H:AHeap)(ty es bytes:Nat)(zero:List AV)(l c:AV)(K:AV→List Nat→Option (Nat×ABlk)→Prop):Prop:=
 match l,c with
 |.int _ l,.int _ c=>l=c∧(0≤c∧c<9223372036854775808∧bytes*c≤281474976710656)∧∀b,H b=none→K (.own b (c.toNat*es) 0 c.toNat true) [] (some (b,.row ty es (zB8 zero (c.toNat*es))))
 |_,_=>False
def exD(P:Program)(o:AOp)(E:Nat→AV)(H:AHeap)(K:AV→List Nat→Option (Nat×ABlk)→Prop):Prop:=
 match o with
 |.call f args=>(∃rv rd,(∀H',(∀q,q∈rd→H' q=H q)→zBn P (f.ev E) (evs E args) H' fun v H''=>v=rv∧H''=H')∧K rv rd none)∨
  zKM f=true∧∃ty es n cells,cells.length=n*es∧(∀H',zBn P (f.ev E) (evs E args) H' fun v H''=> ∃b,H' b=none∧v=.own b (n*es) 0 n false∧H''=H'.upd b (some (.row ty es cells)))∧∀b,H b=none→K (.own b (n*es) 0 n false) [] (some (b,.row ty es cells))
 |.alloc ty es cells=> ∀b,H b=none→K (.ptr b cells.length 0) [] (some (b,.row ty es cells))
 |.box ty es x=>match(x.ev E).cells with
  |some l=> ∀b,H b=none→K (.ptr b l.length 0) [] (some (b,.row ty es l))
  |none=>False
 |.store n x v=>match x.ev E with
  |.ptr b L off=>match H b with
   |some (.row ty es cells)=>match(v.ev E).cells with
    |some l=>cells.length=L∧l.length=n∧off+n≤L∧K .bot [b] (some (b,.row ty es (zAh cells off l)))
    |none=>False
   |_=>False
  |_=>False
 |.len s x=>match s,x.ev E with
  |false,.seq n _ _=>K (.int .i64 n) [] none
  |false,.own _ _ _ n _=>K (.int .i64 n) [] none
  |true,.str s=>K (.int .i64 s.size) [] none
  |_,_=>False
 |.app ty es bytes x y=>zed H ty es bytes (x.ev E) (y.ev E) K
 |.mks ty es bytes zero l c=>zIC l c=true∧zYI H ty es bytes zero (l.ev E) (c.ev E) K
 |o=> ∃rv,zCp o E H (fun r=>r=rv)∧K rv (zBs E o) none
def Ctx.reserve(c:Ctx)(b:Nat):Ctx:={ c with R:=fun i=>c.R i∨i=b }
theorem Ctx.reserve_later0(c:Ctx)(b:Nat):Later0 c (c.reserve b):=
 ⟨Nat.le_refl _,rfl,rfl,rfl,fun _ h=>h,fun _ x' _ hx=>⟨x',hx,Nat.le_refl _,fun _=>⟨rfl,fun _ _ cells e=>⟨cells,e,fun arr h=>⟨arr,h,rfl⟩⟩⟩⟩,fun _ _ h=>⟨rfl,h⟩⟩
theorem Ok.reserve{c:Ctx}(h:Ok c)(b:Nat):Ok (c.reserve b):=by
 refine⟨h.used,?_,h.inj,fun i x hx=>(h.blk i x hx).later0 (c.reserve_later0 b) rfl rfl⟩
 obtain⟨M,hM⟩:=h.fin
 refine⟨M+b+1,fun i hi=>?_⟩
 rcases hi with hi|hi|hi
 ·have:=hM i (.inl hi);omega
 ·have:=hM i (.inr hi);omega
 ·omega
theorem zPY{c c':Ctx}{b b' ty es n:Nat}{ti:Bool}{cells:List AV}{v:Value}(hok:Ok c)(hfree: ¬c.U b∧¬c.R b)(hl:Later (c.reserve b) c')(hok':Ok c')(he:Enc c' (.own b' (n*es) 0 n ti) v)(hb':c.H b'=none)(hH:c'.H=c.H.upd b' (some (.row ty es cells)))(hlen:cells.length=n*es):
 ∃(c2:Ctx)(r2:AV),c2.w=c'.w∧Later c c2∧Ok c2∧Enc c2 r2 v∧r2=.own b (n*es) 0 n ti∧c2.H=zA3 c.H (some (b,.row ty es cells)):=by
 have hHb':c'.H b'=some (.row ty es cells):=by rw[hH,zAC]
 have hUb: ¬c'.U b:=fun h=>hfree.1 ((hl.res b (.inr rfl)).2 h)
 have hne:b'≠b:=by rintro rfl;exact hUb (hok'.used _ (by rw[hHb'];simp))
 have hcb:c.H b=none:=by
  cases e:c.H b with
  |none=>rfl
  |some x=>exact absurd (hok.used b (by rw[e];simp)) hfree.1
 have old: ∀i x,c.H i=some x→i≠b∧i≠b'∧c'.H i=some x:=fun i x hx=>by
  have h1:i≠b:=by rintro rfl;rw[hcb]at hx;cases hx
  have h2:i≠b':=by rintro rfl;rw[hb']at hx;cases hx
  exact⟨h1,h2,by rw[hH,zAA _ _ h2];exact hx⟩
 let c2:Ctx:={ c' with H:=c.H.upd b (some (.row ty es cells)),μ:=fun i=>if i=b then c'.μ b' else c'.μ i,U:=fun i=>c'.U i∨i=b }
 have mub:c2.μ b=c'.μ b':=if_pos rfl
 have muo: ∀i,i≠b→c2.μ i=c'.μ i:=fun i h=>if_neg h
 have get: ∀i x,c2.H i=some x→(i=b∧x=.row ty es cells)∨(i≠b∧c.H i=some x):=fun i x hx=>by
  rcases zBS hx with⟨e,e2⟩|⟨e,e2⟩
  ·injection e2 with e2;exact .inl ⟨e,e2.symm⟩
  ·exact .inr ⟨e,e2⟩
 have nomut: ∀k,¬Mut c' k→¬Mut c2 k:=by
  rintro k hm ⟨i,hi,e⟩
  cases hx:c2.H i with
  |none=>rw[hx]at hi;exact hi
  |some x=>
   rw[hx]at hi
   rcases get i x hx with⟨rfl,rfl⟩|⟨e1,e2⟩
   ·exact hm ⟨b',by rw[hHb'];exact hi,by rw[← mub];exact e⟩
   ·exact hm ⟨i,by rw[(old i x e2).2.2];exact hi,by rw[← muo i e1];exact e⟩
 have l0:Later0 c' c2:=by
  refine⟨Nat.le_refl _,rfl,rfl,rfl,fun _ h=>.inl h,?_,fun k _ hm=>⟨rfl,nomut k hm⟩⟩
  intro i x' hi hx
  rcases get i x' hx with⟨rfl,_⟩|⟨e1,e2⟩
  ·exact absurd hi hUb
  ·exact⟨x',(old i x' e2).2.2,Nat.le_refl _,fun _=>⟨muo i e1,fun _ _ cells e=>⟨cells,e,fun arr h=>⟨arr,by rw[muo i e1];exact h,rfl⟩⟩⟩⟩
 have later:Later c c2:=by
  refine⟨((c.reserve_later0 b).trans hl.toLater0).trans ⟨Nat.le_refl _,rfl,rfl,rfl,fun _ h=>.inl h,l0.old,l0.keep⟩,fun i hi=>⟨(hl.res i (.inl hi)).1,fun hu=>?_⟩⟩
  rcases hu with hu|rfl
  ·exact(hl.res i (.inl hi)).2 hu
  ·exact absurd hi hfree.2
 have ok:Ok c2:=by
  refine⟨fun i hi=>?_,?_,fun i j hi hj e=>?_,fun i x hx=>?_⟩
  ·obtain⟨x,hx⟩:=Option.ne_none_iff_exists'.1 hi
   rcases get i x hx with⟨e,_⟩|⟨_,e2⟩
   ·exact .inr e
   ·exact .inl (hok'.used i (by rw[(old i x e2).2.2];simp))
  ·obtain⟨M,hM⟩:=hok'.fin
   refine⟨M+b+1,fun i hi=>?_⟩
   rcases hi with(hi|hi)|hi
   ·have:=hM i (.inl hi);omega
   ·omega
   ·have:=hM i (.inr hi);omega
  ·obtain⟨x,hx⟩:=Option.ne_none_iff_exists'.1 hi
   obtain⟨y,hy⟩:=Option.ne_none_iff_exists'.1 hj
   rcases get i x hx with⟨e1,_⟩|⟨e1,e2⟩<;>rcases get j y hy with⟨f1,_⟩|⟨f1,f2⟩
   ·rw[e1,f1]
   ·subst e1
    rw[mub,muo j f1]at e
    exact absurd (hok'.inj b' j (by rw[hHb'];simp) (by rw[(old j y f2).2.2];simp) e) (Ne.symm (old j y f2).2.1)
   ·subst f1
    rw[mub,muo i e1]at e
    exact absurd (hok'.inj i b' (by rw[(old i x e2).2.2];simp) (by rw[hHb'];simp) e) (old i x e2).2.1
   ·rw[muo i e1,muo j f1]at e
    exact hok'.inj i j (by rw[(old i x e2).2.2];simp) (by rw[(old j y f2).2.2];simp) e
  ·rcases get i x hx with⟨rfl,rfl⟩|⟨e1,e2⟩
   ·obtain⟨arr,g1,g2,g3⟩:=hok'.blk b' _ hHb'
    exact⟨arr,by rw[mub];exact g1,g2,fun k hk hk'=>(g3 k hk hk').later0 l0⟩
   ·exact(hok'.blk i x (old i x e2).2.2).later0 l0 (muo i e1) rfl
 refine⟨c2,_,rfl,later,ok,?_,rfl,rfl⟩
 cases he with
 |own _ _ _ _ _ _ hs hb hL hv=>
  refine .own b _ 0 n ti v hs (.inr rfl) (fun x hx=>?_) fun ty' es' cells' hx hl'=>?_
  ·have e:c2.H b=some (.row ty es cells):=zAC _ _ _
   rw[e]at hx;injection hx with hx;subst hx
   exact Nat.le_of_eq hlen.symm
  ·have e:c2.H b=some (.row ty es cells):=zAC _ _ _
   rw[e]at hx;injection hx with hx;injection hx with e1 e2 e3
   subst e1;subst e2;subst e3
   obtain⟨base,cap,arr,k1,k2,k3,k4,k5,k6,k7⟩:=hv ty es cells hHb' hlen
   exact⟨base,cap,arr,k1,by rw[mub];exact k2,k3,k4,k5,by rw[mub];exact k6,k7⟩
def zRf(P:Program)(ao:AOp)(E:Nat→AV)(H:AHeap)(b:Nat)(rv:AV)(rd:List Nat)(w:Option (Nat×ABlk)):Prop:=
 (∀q y,w=some (q,y)→q=b∨(H q≠none∧q∈rd))∧
 ∀(o:Oper)(c:Ctx)(a:Act),zAo P o.op=some ao→(∀q,q∈rd→c.H q=H q)→¬c.U b∧¬c.R b→Ok c→Reads c E a ao.reads→ExecK P o a c fun r H'=>r=rv∧H'=zA3 c.H w
def AOp.tag:AOp→Nat
 |.alloc _ _ _=>1
 |.box _ _ _=>2
 |.store _ _ _=>3
 |.len _ _=>4
 |_=>0
def zYz:Op→Nat
 |.alloc _=>1
 |.box _ _=>2
 |.store _ _ _=>3
 |.call ⟨.builtin .len,_,_⟩=>4
 |_=>0
theorem zLQ{P:Program}{op:Op}{ao:AOp}(hc:zAo P op=some ao):ao.tag=zYz op:=by
 cases op with
 |move x=>obtain⟨y,hy,rfl⟩:=zAI hc;rfl
 |assign x=>obtain⟨y,hy,rfl⟩:=zAI hc;rfl
 |pick x y z=>
  simp only[zAo]at hc
  split at hc
  ·injection hc with hc;subst hc;rfl
  ·cases hc
 |binOp op t x y yt=>
  simp only[zAo]at hc
  split at hc
  ·obtain⟨x',y',hx,hy,rfl⟩:=zAP hc;rfl
  ·split at hc
   ·obtain⟨y,hy,rfl⟩:=zAI hc;rfl
   ·obtain⟨y,hy,rfl⟩:=zAI hc;rfl
   ·cases hc
  ·unfold zIH at hc
   split at hc
   ·split at hc
    ·obtain⟨x',y',hx,hy,rfl⟩:=zAP hc;rfl
    ·obtain⟨x',y',hx,hy,rfl⟩:=zAP hc;rfl
    ·cases hc
   ·cases hc
  ·unfold zFg at hc
   split at hc
   ·split at hc
    ·obtain⟨x',y',hx,hy,rfl⟩:=zAP hc;rfl
    ·obtain⟨x',y',hx,hy,rfl⟩:=zAP hc;rfl
    ·cases hc
   ·split at hc
    ·split at hc
     ·obtain⟨x',y',hx,hy,rfl⟩:=zAP hc;rfl
     ·obtain⟨x',y',hx,hy,rfl⟩:=zAP hc;rfl
     ·cases hc
    ·cases hc
  ·split at hc
   ·obtain⟨y,hy,rfl⟩:=zAI hc;rfl
   ·obtain⟨y,hy,rfl⟩:=zAI hc;rfl
   ·cases hc
  ·obtain⟨x',y',hx,hy,rfl⟩:=zAP hc;rfl
  ·cases hc
 |unOp op t x=>obtain⟨y,hy,rfl⟩:=zAI hc;rfl
 |nilCheck x=>obtain⟨y,hy,rfl⟩:=zAI hc;rfl
 |range t x=>
  simp only[zAo]at hc
  split at hc
  ·rename_i ht
   obtain⟨y,hy,rfl⟩:=zAI hc
   rfl
  ·cases hc
 |next it s=>
  simp only[zAo]at hc
  split at hc
  ·rename_i hs
   obtain⟨y,hy,rfl⟩:=zAI hc
   rfl
  ·cases hc
 |convert s d x=>
  simp only[zAo,zFT]at hc
  split at hc
  ·obtain⟨y,hy,rfl⟩:=zAI hc;rfl
  ·split at hc
   ·obtain⟨y,hy,rfl⟩:=zAI hc;rfl
   ·cases hc
  ·split at hc
   ·split at hc
    ·obtain⟨y,hy,rfl⟩:=zAI hc;rfl
    ·cases hc
   ·cases hc
  ·split at hc
   ·obtain⟨y,hy,rfl⟩:=zAI hc;rfl
   ·cases hc
  ·cases hc
 |extract x i=>obtain⟨y,hy,rfl⟩:=zAI hc;rfl
 |field t x f=>obtain⟨p,hp,hc⟩:=zAT hc;obtain⟨y,hy,rfl⟩:=zAI hc;rfl
 |build t ps=>
  simp only[zAo]at hc
  split at hc
  ·obtain⟨qs,hqs,rfl⟩:=zAY hc;rfl
  ·cases hc
 |load t x=>
  simp only[zAo,zL9]at hc
  split at hc
  ·injection hc with hc;subst hc;rfl
  obtain⟨p,hp,hc⟩:=zAT hc;obtain⟨y,hy,rfl⟩:=zAI hc;rfl
 |fieldAddr t x f=>obtain⟨p,hp,hc⟩:=zAT hc;obtain⟨y,hy,rfl⟩:=zAI hc;rfl
 |indexAddr t x i=>
  simp only[zAo]at hc
  split at hc
  ·obtain⟨x',y',hx,hy,rfl⟩:=zAP hc;rfl
  ·unfold zIT at hc
   split at hc
   ·split at hc
    ·obtain⟨y,hy,rfl⟩:=zAI hc;rfl
    ·obtain⟨x',y',hx,hy,rfl⟩:=zAP hc;rfl
   ·cases hc
 |index t x i=>
  obtain⟨n,hn,hc⟩:=zAT hc
  cases n with
  |true=>simp only[if_true]at hc;obtain⟨x',y',hx,hy,rfl⟩:=zAP hc;rfl
  |false=>simp at hc
 |slice t x lo hi mx=>
  simp only[zAo]at hc
  split at hc
  ·injection hc with hc;subst hc;rfl
  ·obtain⟨es,hes,rfl⟩:=zAY hc;rfl
  ·obtain⟨es,hes,rfl⟩:=zAY hc;rfl
  ·cases hc
 |makeFunc f first caps=>
  simp only[zAo]at hc
  split at hc
  ·injection hc with hc;subst hc;rfl
  ·cases hc
 |buildSlice t len ps=>
  obtain⟨q,hq,hc⟩:=zAT hc
  split at hc
  ·obtain⟨qs,hqs,rfl⟩:=zAY hc;rfl
  ·cases hc
 |call cl=>
  obtain⟨callee,args,ats⟩:=cl
  simp only[zAo,zFZ]at hc
  split at hc
  ·split at hc
   ·split at hc
    ·obtain⟨_,_,rfl⟩:=zAI hc;rfl
    ·cases hc
   ·split at hc
    ·injection hc with hc;subst hc;rfl
    ·cases hc
  ·obtain⟨_,_,hc⟩:=zAT hc;obtain⟨_,_,rfl⟩:=zAI hc;rfl
  ·split at hc
   ·obtain⟨x',y',hx,hy,rfl⟩:=zAP hc;rfl
   ·cases hc
  ·obtain⟨_,_,hc⟩:=zAT hc;obtain⟨x',y',hx,hy,rfl⟩:=zAP hc;rfl
  ·obtain⟨_,_,_,_,rfl⟩:=zAP hc;rfl
  ·obtain⟨_,_,_,_,rfl⟩:=zAP hc;rfl
  ·obtain⟨_,_,hc⟩:=zAT hc;obtain⟨_,_,rfl⟩:=zAI hc;rfl
  ·obtain⟨_,_,rfl⟩:=zAI hc;rfl
  ·split at hc
   ·split at hc
    ·obtain⟨_,_,_,_,rfl⟩:=zAP hc;rfl
    ·cases hc
   ·cases hc
  ·cases hc
 |alloc t=>obtain⟨z,hz,rfl⟩:=zAY hc;rfl
 |box t x=>obtain⟨y,hy,rfl⟩:=zAI hc;rfl
 |store t x v=>obtain⟨i,hi,hc⟩:=zAT hc;obtain⟨x',y',hx,hy,rfl⟩:=zAP hc;rfl
 |makeSlice t l q=>obtain⟨q',hsi,hc⟩:=zAT hc;obtain⟨x',y',hx,hy,rfl⟩:=zAP hc;rfl
 |_=>cases hc
theorem zfd{op:Op}{n:Nat}(h:n=zYz op):(n=1→∃t,op=.alloc t)∧(n=2→∃t x,op=.box t x)∧(n=3→∃t x v,op=.store t x v)∧(n=4→∃args ts,op=.call ⟨.builtin .len,args,ts⟩):=by
 subst h
 unfold zYz
 split<;>simp
theorem zEu{P:Program}{ao:AOp}{E:Nat→AV}{H:AHeap}{b ty es n:Nat}{ti:Bool}{cells:List AV}(hlen:cells.length=n*es)
 (h1: ∀H',zB0 P ao E H' fun v H''=> ∃b',H' b'=none∧v=.own b' (n*es) 0 n ti∧H''=H'.upd b' (some (.row ty es cells))):zRf P ao E H b (.own b (n*es) 0 n ti) [] (some (b,.row ty es cells)):=by
 refine⟨(fun q y e=>by injection e with e;injection e with e1 e2;exact .inl e1.symm),fun o c a hc _ hfree hok hr=>?_⟩
 have hok1:Ok (c.reserve b):=hok.reserve b
 have hl1:Later0 c (c.reserve b):=c.reserve_later0 b
 have hr1:Reads (c.reserve b) E a ao.reads:=fun t ht=>(hr t ht).later0 hl1
 have hx:=zCs (K:=fun v H''=> ∃b',c.H b'=none∧v=.own b' (n*es) 0 n ti∧H''=c.H.upd b' (some (.row ty es cells))) (c:=c.reserve b) hc (h1 c.H) hok1 hr1
 have fin: ∀{c':Ctx}{v:Value}{r:AV},Later (c.reserve b) c'→Ok c'→Enc c' r v→(∃b',c.H b'=none∧r=.own b' (n*es) 0 n ti∧c'.H=c.H.upd b' (some (.row ty es cells)))→
  ∃(c2:Ctx)(r2:AV),c2.w=c'.w∧Later c c2∧Ok c2∧Enc c2 r2 v∧r2=.own b (n*es) 0 n ti∧c2.H=zA3 c.H (some (b,.row ty es cells)):=by
  rintro c' v r hl hok' he ⟨b',hb',rfl,hH⟩
  exact zPY hok hfree hl hok' he hb' hH hlen
 rcases hx with⟨c',v,r,x1,x2,x3,x4,x5⟩|⟨c',x1,x2,x3,b',_,x4,_⟩|⟨g,as,x1,x2⟩|⟨l,fn,tmps,assign,body,x1,x2⟩
 ·obtain⟨c2,r2,y1,y2,y3,y4,y5,y6⟩:=fin x2 x3 x4 x5
  exact .inl ⟨c2,v,r2,by rw[y1];exact x1,y2,y3,y4,y5,y6⟩
 ·cases x4
 ·refine .inr (.inr (.inl ⟨g,as,x1,x2.mono fun e w' ⟨c',v,r,a1,a2,a3,a4,a5,a6⟩=>?_⟩))
  obtain⟨c2,r2,y1,y2,y3,y4,y5,y6⟩:=fin a4 a3 a5 a6
  exact⟨c2,v,r2,a1,y1.trans a2,y3,y2,y4,y5,y6⟩
 ·refine .inr (.inr (.inr ⟨l,fn,tmps,assign,body,x1,x2.mono fun e w' ⟨c',v,r,a1,a2,a3,a4,a5,a6⟩=>?_⟩))
  obtain⟨c2,r2,y1,y2,y3,y4,y5,y6⟩:=fin a4 a3 a5 a6
  exact⟨c2,v,r2,a1,y1.trans a2,y3,y2,y4,y5,y6⟩
theorem zTf{P:Program}{ao:AOp}{E:Nat→AV}{H:AHeap}{K:AV→List Nat→Option (Nat×ABlk)→Prop}(h:exD P ao E H K){b:Nat}(hb:H b=none): ∃rv rd w,K rv rd w∧zRf P ao E H b rv rd w:=by
 have viaP:(∃rv,zCp ao E H (fun r=>r=rv)∧K rv (zBs E ao) none)→∃rv rd w,K rv rd w∧zRf P ao E H b rv rd w:=by
  rintro⟨rv,h1,h2⟩
  refine⟨rv,_,none,h2,(fun q y e=>by cases e),fun o c a hc hrd _ hok hr=>?_⟩
  exact zDk hc (zKm hrd h1) (Le.refl _) hok hr
 cases ao with
 |call f args=>
  rcases h with⟨rv,rd,h1,h2⟩|⟨_,ty,es,n,cells,hlen,h1,h2⟩
  ·refine⟨rv,rd,none,h2,(fun q y e=>by cases e),fun o c a hc hrd _ hok hr=>?_⟩
   exact zCs (K:=fun r H'=>r=rv∧H'=c.H) hc (h1 c.H hrd) hok hr
  ·exact⟨_,[],_,h2 b hb,zEu hlen h1⟩
 |alloc ty es cells=>
  refine⟨_,[],_,h b hb,(fun q y e=>by injection e with e;injection e with e1 e2;exact .inl e1.symm),fun o c a hc _ hfree hok hr=>?_⟩
  obtain⟨dst,op,type,pos,after,guard⟩:=o
  obtain⟨t,rfl⟩:=(zfd (zLQ hc)).1 rfl
  obtain⟨z,hz,e⟩:=zAY hc
  injection e with e1 e2 e3
  subst e1;subst e2;subst e3
  obtain⟨i,v0,hi,hv0,hzc⟩:=zGY hz
  refine ExecK.of_eff (s:=Instr.alloc _ true (.tuple #[])) rfl ?_
  obtain⟨c',r,v',h1,h2⟩:=zCX (P:=P) (K:=fun r H'=>r=.ptr b cells.length 0∧H'=zA3 c.H (some (b,.row ty (zUX P ty) cells))) hok (zBW c hzc) hfree ⟨rfl,rfl⟩
  exact⟨c',r,v',by simpa[Instr.alloc,zBY hi hv0]using h1,h2⟩
 |box ty es x=>
  simp only[exD]at h
  split at h
  ·rename_i l hl
   refine⟨_,[],_,h b hb,(fun q y e=>by injection e with e;injection e with e1 e2;exact .inl e1.symm),fun o c a hc _ hfree hok hr=>?_⟩
   obtain⟨dst,op,type,pos,after,guard⟩:=o
   obtain⟨t,x',rfl⟩:=(zfd (zLQ hc)).2.1 rfl
   obtain⟨y,hy,e⟩:=zAI hc
   injection e with e1 e2 e3
   subst e1;subst e2;subst e3
   obtain⟨e1,e2,_⟩:=(zAH hy hr).cells hl
   exact ExecK.of_eff (s:=Instr.box ty (a.eval x')) rfl (zCX (K:=fun r H'=>r=.ptr b l.length 0∧H'=zA3 c.H (some (b,.row ty (zUX P ty) l))) hok ⟨e1,e2⟩ hfree ⟨rfl,rfl⟩)
  ·exact h.elim
 |store n x v=>
  simp only[exD]at h
  split at h
  ·rename_i b' L off hx
   split at h
   ·rename_i ty es cells hH
    split at h
    ·rename_i l hl
     obtain⟨h1,h2,h3,h4⟩:=h
     refine⟨_,[b'],_,h4,(fun q y e=>by injection e with e;injection e with e1 e2;subst e1;exact .inr ⟨by rw[hH];simp,List.mem_singleton.2 rfl⟩),fun o c a hc hrd _ hok hr=>?_⟩
     refine zCs (K:=fun r H'=>r=.bot∧H'=zA3 c.H (some (b',.row ty es (zAh cells off l)))) hc ?_ hok hr
     have e:=hrd b' (List.mem_singleton.2 rfl)
     simp only[zB0,zGD,hx,e,hH,hl]
     exact⟨h1,h2,h3,trivial,rfl⟩
    ·exact h.elim
   ·exact h.elim
  ·exact h.elim
 |len s x=>
  have fin: ∀{rv:AV},zDr s (x.ev E) (fun r=>r=rv)→K rv [] none→∃rv rd w,K rv rd w∧zRf P (.len s x) E H b rv rd w:=fun{rv} h1 h2=>by
   refine⟨rv,[],none,h2,(fun q y e=>by cases e),fun o c a hc _ _ hok hr=>?_⟩
   exact zDk (E:=E) (H:=c.H) (K:=fun r=>r=rv) hc h1 (Le.refl _) hok hr
  simp only[exD]at h
  split at h
  ·rename_i n cells ti hx;exact fin (by rw[hx];exact fun _=>rfl) h
  ·rename_i b L off n ti hx;exact fin (by rw[hx];exact fun _=>rfl) h
  ·rename_i s hx;exact fin (by rw[hx];exact rfl) h
  ·exact h.elim
 |app ty es bytes x y=>
  simp only[exD,zed]at h
  split at h
  ·rename_i m ys t hy
   obtain⟨h1,h2,h3,h⟩:=h
   split at h
   ·rename_i n cells ti hx
    obtain⟨rfl,rfl,rfl,h4,h5,h6⟩:=h
    refine⟨_,[],_,h6 b hb,zEu h1 fun H'=>?_⟩
    show zKG H' ty es bytes (x.ev E) (y.ev E) _
    rw[hx,hy]
    refine .inl ⟨h1,h2,rfl,by simp,by simpa using h4,by simpa using h5,fun e=>absurd e (by omega),fun _ b' hb'=>⟨b',hb',?_⟩⟩
    simp
   ·rename_i b' L off n ti hx
    split at h
    ·rename_i ty' es' cells hH
     obtain⟨e1,e2,e3,e4,e5,h4,h5,h6⟩:=h
     refine⟨_,[b'],_,h6,(fun q y e=>by injection e with e;injection e with e1 e2;subst e1;exact .inr ⟨by rw[hH];simp,List.mem_singleton.2 rfl⟩),fun o c a hc hrd _ hok hr=>?_⟩
     refine zCs (K:=fun r H'=>r=.own b' ((n+m)*es) 0 (n+m) false∧H'=zA3 c.H (some (b',.row ty es (cells++ys)))) hc ?_ hok hr
     have e:=hrd b' (List.mem_singleton.2 rfl)
     show zKG c.H ty es bytes (x.ev E) (y.ev E) _
     rw[hx,hy]
     refine .inl ⟨h1,h2,?_⟩
     dsimp only
     rw[e,hH]
     exact⟨e1,e2,e3,e4,e5,h4,h5,rfl,rfl⟩
    ·exact h.elim
   ·exact h.elim
  ·exact h.elim
 |mks ty es bytes zero l c=>
  simp only[exD,zYI]at h
  obtain⟨h0,h⟩:=h
  split at h
  ·rename_i k1 n k2 m hl hc
   obtain⟨rfl,⟨h1,h2,h3⟩,h4⟩:=h
   refine⟨_,[],_,h4 b hb,zEu (zCR _ _) fun H'=>?_⟩
   show(bif zIC l c then zOP H' ty es bytes zero (l.ev E) (c.ev E) _ else zZC H' ty es bytes zero (l.ev E) (c.ev E) _)
   rw[h0,hl,hc]
   refine⟨⟨h1,Int.le_refl _,h2,h3⟩,fun b' hb'=>⟨b',hb',?_,rfl⟩⟩
   simp
  ·exact h.elim
 |_=>exact viaP h
end Go.Proofs.YtmndejlpfmmaiaaGreatDoor.Fw
namespace Go.Proofs.YtmndejlpfmmaiaaGreatDoor.Fw
open Go
def zL2(rd':List Nat)(wr':Option Nat)(rd:List Nat)(wr:Option Nat):Prop:=
 (∀b',wr'=some b'→b'∉rd∧wr≠some b')∧(∀b,wr=some b→b∉rd')
def zBR(un:Nat→Nat→Bool)(i:Nat)(rd:List Nat)(wr:Option Nat):List (Nat×Nat)→Prop
 |[]=>True
 |(j,b')::r=>(un j i=true→b'∉rd∧wr≠some b')∧zBR un i rd wr r
def zDF(un:Nat→Nat→Bool)(i b:Nat):List (Nat×List Nat)→Prop
 |[]=>True
 |(j,rd')::r=>(un j i=true→b∉rd')∧zDF un i b r
def zGr(un:Nat→Nat→Bool)(i:Nat)(R:List (Nat×List Nat))(W:List (Nat×Nat))(rd:List Nat)(wr:Option Nat):Prop:=
 zBR un i rd wr W∧match wr with
  |none=>True
  |some b=>zDF un i b R
def zNt(i:Nat)(rd:List Nat)(R:List (Nat×List Nat)):List (Nat×List Nat):=
 match rd with
 |[]=>R
 |x::l=>(i,x::l)::R
def zRc(i:Nat)(wr:Option (Nat×ABlk))(W:List (Nat×Nat)):List (Nat×Nat):=
 match wr with
 |none=>W
 |some p=>(i,p.1)::W
def zB6(P:Program)(un:Nat→Nat→Bool):List AOper→Nat→Env→AHeap→List (Nat×List Nat)→List (Nat×Nat)→(Env→AHeap→Prop)→Prop
 |[],_,E,H,_,_,K=>K E H
 |⟨d,none,o⟩::r,i,E,H,R,W,K=>exD P o E.get H fun rv rd w=>zGr un i R W rd (w.map Prod.fst)∧zB6 P un r (i+1) (zB9 E d rv) (zA3 H w) (zNt i rd R) (zRc i w W) K
 |⟨d,some (t,b),o⟩::r,i,E,H,R,W,K=>match E.get t with
  |.bool b'=>(b'=b→exD P o E.get H fun rv rd w=>zGr un i R W rd (w.map Prod.fst)∧zB6 P un r (i+1) (zB9 E d rv) (zA3 H w) (zNt i rd R) (zRc i w W) K)∧
   (b'≠b→zB6 P un r (i+1) (zB9 E d und) H R W K)
  |.tup []=>zB6 P un r (i+1) (zB9 E d und) H R W K
  |_=>False
def zJi(un:Nat→Nat→Bool)(i:Nat)(R:List (Nat×List Nat))(W:List (Nat×Nat))(rd:List Nat)(wr:Option Nat):Prop:=
 (∀e∈W,un e.1 i=true→e.2∉rd∧wr≠some e.2)∧(∀e∈R,un e.1 i=true→∀b,wr=some b→b∉e.2)
theorem zHi{un:Nat→Nat→Bool}{i:Nat}{rd:List Nat}{wr:Option Nat}: ∀{W:List (Nat×Nat)},zBR un i rd wr W→∀e∈W,un e.1 i=true→e.2∉rd∧wr≠some e.2
 |[],_,e,he,_=>by cases he
 |(j,b')::r,h,e,he,hu=>by
  rcases List.mem_cons.1 he with rfl|he
  ·exact h.1 hu
  ·exact zHi h.2 e he hu
theorem zHX{un:Nat→Nat→Bool}{i b:Nat}: ∀{R:List (Nat×List Nat)},zDF un i b R→∀e∈R,un e.1 i=true→b∉e.2
 |[],_,e,he,_=>by cases he
 |(j,b')::r,h,e,he,hu=>by
  rcases List.mem_cons.1 he with rfl|he
  ·exact h.1 hu
  ·exact zHX h.2 e he hu
theorem zSM{un:Nat→Nat→Bool}{i:Nat}{R:List (Nat×List Nat)}{W:List (Nat×Nat)}{rd:List Nat}{wr:Option Nat}(h:zGr un i R W rd wr):zJi un i R W rd wr:=by
 refine⟨zHi h.1,fun e he hu b hb=>?_⟩
 subst hb
 exact zHX h.2 e he hu
theorem zHI(un:Nat→Nat→Bool)(i:Nat)(R:List (Nat×List Nat))(W:List (Nat×Nat)):zJi un i R W [] none:=⟨fun _ _ _=>by simp,fun _ _ _ b h=>by cases h⟩
theorem zHE(rd:List Nat)(wr:Option Nat):zL2 [] none rd wr:=⟨fun _ h=>(by cases h),fun _ _=>by simp⟩
theorem zNx{un:Nat→Nat→Bool}{i k:Nat}{R:List (Nat×List Nat)}{W:List (Nat×Nat)}{rd' rd:List Nat}{w':Option (Nat×ABlk)}{wr:Option Nat}(h:zJi un k (zNt i rd' R) (zRc i w' W) rd wr)(hu:un i k=true):zL2 rd' (w'.map Prod.fst) rd wr:=by
 refine⟨fun b' hb'=>?_,fun b hb=>?_⟩
 ·cases w' with
  |none=>cases hb'
  |some p=>injection hb' with hb';subst hb';exact h.1 (i,p.1) List.mem_cons_self hu
 ·cases rd' with
  |nil=>simp
  |cons x l=>exact h.2 (i,x::l) List.mem_cons_self hu b hb
theorem zPE{un:Nat→Nat→Bool}{i k:Nat}{R:List (Nat×List Nat)}{W:List (Nat×Nat)}{rd' rd:List Nat}{w':Option (Nat×ABlk)}{wr:Option Nat}(h:zJi un k (zNt i rd' R) (zRc i w' W) rd wr):zJi un k R W rd wr:=by
 refine⟨fun e he=>h.1 e ?_,fun e he=>h.2 e ?_⟩
 ·cases w' with
  |none=>exact he
  |some p=>exact List.mem_cons_of_mem _ he
 ·cases rd' with
  |nil=>exact he
  |cons x l=>exact List.mem_cons_of_mem _ he
def zVl(P:Program)(x:AOper)(E:Env)(H:AHeap)(b:Nat)(rv:AV)(rd:List Nat)(w:Option (Nat×ABlk)):Prop:=
 (∃t bb,x.g=some (t,bb)∧((∃b',E.get t=.bool b'∧b'≠bb)∨E.get t=.tup [])∧rv=und∧w=none∧rd=[])∨
 ((x.g=none∨∃t bb,x.g=some (t,bb)∧E.get t=.bool bb)∧zRf P x.op E.get H b rv rd w)
def zBM(l:List AOper)(k:Nat):Option Nat:=(l[k]?).bind (·.dst)
def zCG(l:List AOper)(val:Nat→AV)(E:Env):Nat→Env
 |0=>E
 |k+1=>zB9 (zCG l val E k) (zBM l k) (val k)
def zCe(H:AHeap)(wr:Nat→Option (Nat×ABlk)):Nat→AHeap
 |0=>H
 |k+1=>zA3 (zCe H wr k) (wr k)
def zDa{α:Type}(x:α)(f:Nat→α):Nat→α
 |0=>x
 |k+1=>f k
theorem zBx(x:AOper)(l:List AOper)(v:AV)(val:Nat→AV)(E:Env): ∀k,zCG (x::l) (zDa v val) E (k+1)=zCG l val (zB9 E x.dst v) k
 |0=>rfl
 |k+1=>by
  show zB9 (zCG (x::l) (zDa v val) E (k+1)) (zBM (x::l) (k+1)) (val k)=_
  rw[zBx x l v val E k]
  rfl
theorem zCN(H:AHeap)(w:Option (Nat×ABlk))(wr:Nat→Option (Nat×ABlk)): ∀k,zCe H (zDa w wr) (k+1)=zCe (zA3 H w) wr k
 |0=>rfl
 |k+1=>by
  show zA3 (zCe H (zDa w wr) (k+1)) (wr k)=_
  rw[zCN H w wr k]
  rfl
def zY1(P:Program)(un:Nat→Nat→Bool)(β:Nat→Nat)(l:List AOper)(i:Nat)(E:Env)(H:AHeap)(R:List (Nat×List Nat))(W:List (Nat×Nat))(val:Nat→AV)(wr:Nat→Option (Nat×ABlk))(rd:Nat→List Nat):Prop:=
 (∀k x,l[k]? =some x→zVl P x (zCG l val E k) (zCe H wr k) (β (i+k)) (val k) (rd k) (wr k))∧
 (∀k,k<l.length→zJi un (i+k) R W (rd k) ((wr k).map Prod.fst))∧
 (∀j k,j<k→k<l.length→un (i+j) (i+k)=true→zL2 (rd j) ((wr j).map Prod.fst) (rd k) ((wr k).map Prod.fst))
theorem zFv{P:Program}{un:Nat→Nat→Bool}{β:Nat→Nat}{x:AOper}{l:List AOper}{i:Nat}{E:Env}{H:AHeap}{R R':List (Nat×List Nat)}{W W':List (Nat×Nat)}{v:AV}{w:Option (Nat×ABlk)}{r:List Nat}{val:Nat→AV}{wr:Nat→Option (Nat×ABlk)}{rd:Nat→List Nat}
 (hs:zVl P x E H (β i) v r w) (hc:zJi un i R W r (w.map Prod.fst)) (h:zY1 P un β l (i+1) (zB9 E x.dst v) (zA3 H w) R' W' val wr rd)
 (hsub: ∀k,k<l.length→zJi un (i+1+k) R W (rd k) ((wr k).map Prod.fst))
 (hme: ∀k,k<l.length→un i (i+1+k)=true→zL2 r (w.map Prod.fst) (rd k) ((wr k).map Prod.fst)):
 zY1 P un β (x::l) i E H R W (zDa v val) (zDa w wr) (zDa r rd):=by
 obtain⟨h1,h2,h3⟩:=h
 refine⟨fun k y hk=>?_,fun k hk=>?_,fun j k hjk hk hu=>?_⟩
 ·cases k with
  |zero=>injection hk with hk;subst hk;exact hs
  |succ k=>
   rw[zBx,zCN,show i+(k+1)=i+1+k by omega]
   exact h1 k y hk
 ·cases k with
  |zero=>exact hc
  |succ k=>
   rw[show i+(k+1)=i+1+k by omega]
   exact hsub k (by simpa using hk)
 ·cases k with
  |zero=>omega
  |succ k=>
   cases j with
   |zero=>
    rw[show i+(k+1)=i+1+k by omega]at hu
    exact hme k (by simpa using hk) (by simpa using hu)
   |succ j=>
    rw[show i+(k+1)=i+1+k by omega,show i+(j+1)=i+1+j by omega]at hu
    exact h3 j k (by omega) (by simpa using hk) hu
theorem extract{P:Program}{un:Nat→Nat→Bool}{β:Nat→Nat}(hinj: ∀i j,β i=β j→i=j){K:Env→AHeap→Prop}: ∀(l:List AOper)(i:Nat)(E:Env)(H:AHeap)(R:List (Nat×List Nat))(W:List (Nat×Nat)),zB6 P un l i E H R W K→(∀j,i≤j→H (β j)=none)→
 ∃val wr rd,zY1 P un β l i E H R W val wr rd∧K (zCG l val E l.length) (zCe H wr l.length)
 |[],i,E,H,R,W,h,_=>⟨fun _=>.bot,fun _=>none,fun _=>[],⟨fun k x hk=>by simp at hk,fun k hk=>absurd hk (by simp),fun j k _ hk=>absurd hk (by simp)⟩,h⟩
 |⟨d,g,o⟩::r,i,E,H,R,W,h,hβ=>by
  have run:(g=none∨∃t bb,g=some (t,bb)∧E.get t=.bool bb)→(exD P o E.get H fun rv rd w=>zGr un i R W rd (w.map Prod.fst)∧zB6 P un r (i+1) (zB9 E d rv) (zA3 H w) (zNt i rd R) (zRc i w W) K)→
   ∃val wr rd,zY1 P un β (⟨d,g,o⟩::r) i E H R W val wr rd∧K (zCG (⟨d,g,o⟩::r) val E (r.length+1)) (zCe H wr (r.length+1)):=by
   intro hg hx
   obtain⟨rv,rd0,w,⟨hcl,hrest⟩,hstep⟩:=zTf hx (hβ i (Nat.le_refl _))
   have hβ': ∀j,i+1≤j→(zA3 H w) (β j)=none:=by
    intro j hj
    cases w with
    |none=>exact hβ j (by omega)
    |some p=>
     obtain⟨q,y⟩:=p
     have hne:β j≠q:=by
      rcases hstep.1 q y rfl with e|⟨e,_⟩
      ·intro e2;have:=hinj j i (e2.trans e);omega
      ·intro e2;exact e (e2▸hβ j (by omega))
     simp only[zA3,AHeap.upd,if_neg hne]
     exact hβ j (by omega)
   obtain⟨val,wr,rd,ht,hK⟩:=extract hinj r (i+1) _ _ _ _ hrest hβ'
   refine⟨zDa rv val,zDa w wr,zDa rd0 rd,zFv (.inr ⟨hg,hstep⟩) (zSM hcl) ht (fun k hk=>zPE (ht.2.1 k hk)) (fun k hk hu=>zNx (ht.2.1 k hk) hu),?_⟩
   rw[zBx,zCN]
   exact hK
  cases g with
  |none=>exact run (.inl rfl) h
  |some p=>
   obtain⟨t,b⟩:=p
   simp only[zB6]at h
   split at h
   ·rename_i b' hb'
    by_cases e:b'=b
    ·exact run (.inr ⟨t,b,rfl,e▸hb'⟩) (h.1 e)
    ·obtain⟨val,wr,rd,ht,hK⟩:=extract hinj r (i+1) _ _ _ _ (h.2 e) (fun j hj=>hβ j (by omega))
     refine⟨zDa und val,zDa none wr,zDa [] rd,zFv (.inl ⟨t,b,rfl,.inl ⟨b',hb',e⟩,rfl,rfl,rfl⟩) (zHI _ _ _ _) ht (fun k hk=>ht.2.1 k hk) (fun k hk hu=>zHE _ _),?_⟩
     rw[List.length_cons,zBx,zCN]
     exact hK
   ·rename_i hb'
    obtain⟨val,wr,rd,ht,hK⟩:=extract hinj r (i+1) _ _ _ _ h (fun j hj=>hβ j (by omega))
    refine⟨zDa und val,zDa none wr,zDa [] rd,zFv (.inl ⟨t,b,rfl,.inr hb',rfl,rfl,rfl⟩) (zHI _ _ _ _) ht (fun k hk=>ht.2.1 k hk) (fun k hk hu=>zHE _ _),?_⟩
    rw[List.length_cons,zBx,zCN]
    exact hK
   ·exact h.elim
end Go.Proofs.YtmndejlpfmmaiaaGreatDoor.Fw
namespace Go.Proofs.YtmndejlpfmmaiaaGreatDoor.Fw
open Go
def AOper.reads(x:AOper):List Nat:=x.op.reads++(match x.g with|some (t,_)=>[t]|none=>[])
inductive Anc(ops:Array Oper):Nat→Nat→Prop
 |edge {i:Nat} {o:Oper} {e:Edge} (ho:ops[i]? =some o) (he:e∈o.after) (hb:Region.binds .any e=true):Anc ops e.on i
 |step {i j:Nat} {o:Oper} {e:Edge} (ho:ops[i]? =some o) (he:e∈o.after) (hb:Region.binds .any e=true) (h:Anc ops j e.on):Anc ops j i
def zIf(x:AOper):Bool:=match x.g,x.op with
 |none,.ext _ _=>true
 |none,.mov _=>true
 |_,_=>false
structure Stat(P:Program)(N:Nat)(ops:Array Oper)(l:List AOper)(p:Nat)(un:Nat→Nat→Bool):Prop where
 len:l.length=ops.size
 ple:p≤ops.size
 comp: ∀(i:Nat)(o:Oper),ops[i]? =some o→∃x:AOper,l[i]? =some x∧zC6 P N ops o=some x
 edge: ∀(i:Nat)(o:Oper)(e:Edge),ops[i]? =some o→e∈o.after→Region.binds .any e=true→e.on<i
 tmp: ∀(i j:Nat)(x y:AOper)(t:Nat),i<p→j<p→l[i]? =some x→l[j]? =some y→t∈x.reads→y.dst=some t→j≠i→Anc ops j i∨Anc ops i j
 dst: ∀(i j:Nat)(x y:AOper)(d:Nat),i<p→j<p→l[i]? =some x→l[j]? =some y→x.dst=some d→y.dst=some d→i=j
 ord: ∀j i,j<i→i<p→un j i=false→Anc ops j i
 tail: ∃q,p≤q∧q≤ops.size∧(∀j k,p≤k→k<ops.size→j<k→j<q→Anc ops j k)∧∀(k:Nat)(x:AOper),q≤k→l[k]? =some x→zIf x=true∧
  ∀(j:Nat)(y:AOper)(d:Nat),q≤j→l[j]? =some y→y.dst=some d→(d∈x.op.reads→Anc ops j k)∧(x.dst=some d→k=j)
theorem zB4{ops:Array Oper}{listed:Array Bool}{i:Nat}:i∈Region.ready .any ops listed↔i<ops.size∧listed.getD i true=false∧∃o,ops[i]? =some o∧∀e∈o.after,Region.binds .any e=true→listed.getD e.on false=true:=by
 unfold Region.ready
 simp only[List.mem_filter,List.mem_range,Bool.and_eq_true,Bool.not_eq_true']
 constructor
 ·rintro⟨h1,h2,h3⟩
  refine⟨h1,h2,?_⟩
  cases ho:ops[i]? with
  |none=>rw[ho]at h3;simp at h3
  |some o=>
   rw[ho]at h3
   simp only[Option.map_some,Option.getD_some,Array.all_eq_true_iff_forall_mem]at h3
   refine⟨o,rfl,fun e he hb=>?_⟩
   have:=h3 e he
   simpa[hb]using this
 ·rintro⟨h1,h2,o,ho,h3⟩
  refine⟨h1,h2,?_⟩
  rw[ho]
  simp only[Option.map_some,Option.getD_some,Array.all_eq_true_iff_forall_mem]
  intro e he
  by_cases hb:Region.binds .any e=true
  ·simp[h3 e he hb]
  ·simp at hb;simp[hb]
def zY3(ops:Array Oper)(L:Nat→Bool):Prop:= ∀i o e,L i=true→ops[i]? =some o→e∈o.after→Region.binds .any e=true→L e.on=true
theorem Anc.down{ops:Array Oper}{L:Nat→Bool}(hd:zY3 ops L){j i:Nat}(h:Anc ops j i):L i=true→L j=true:=by
 induction h with
 |edge ho he hb=>exact fun hi=>hd _ _ _ hi ho he hb
 |step ho he hb _ ih=>exact fun hi=>ih (hd _ _ _ hi ho he hb)
theorem Anc.ready{ops:Array Oper}{L:Nat→Bool}(hd:zY3 ops L){j i:Nat}(h:Anc ops j i)(hr: ∀o e,ops[i]? =some o→e∈o.after→Region.binds .any e=true→L e.on=true):L j=true:=by
 cases h with
 |edge ho he hb=>exact hr _ _ ho he hb
 |step ho he hb h=>exact h.down hd (hr _ _ ho he hb)
theorem Anc.lt{P:Program}{N:Nat}{ops:Array Oper}{l:List AOper}{p:Nat}{un:Nat→Nat→Bool}(hs:Stat P N ops l p un){j i:Nat}(h:Anc ops j i):j<i:=by
 induction h with
 |edge ho he hb=>exact hs.edge _ _ _ ho he hb
 |step ho he hb _ ih=>exact Nat.lt_trans ih (hs.edge _ _ _ ho he hb)
def hof(H:AHeap)(wr:Nat→Option (Nat×ABlk))(L:Nat→Bool):Nat→AHeap
 |0=>H
 |k+1=>if L k=true then zA3 (hof H wr L k) (wr k)else hof H wr L k
theorem zJB{H:AHeap}{wr:Nat→Option (Nat×ABlk)}{L L':Nat→Bool}{q:Nat}: ∀m,(∀k,k<m→(∃y,wr k=some (q,y))→L k=L' k)→hof H wr L m q=hof H wr L' m q
 |0,_=>rfl
 |m+1,h=>by
  have ih:=zJB (H:=H) m (fun k hk hy=>h k (by omega) hy)
  have other:(¬ ∃y,wr m=some (q,y))→∀X:AHeap,zA3 X (wr m) q=X q:=by
   intro hn X
   cases hw:wr m with
   |none=>rfl
   |some b=>
    obtain⟨b,y⟩:=b
    have:q≠b:=fun e=>hn ⟨y,by rw[hw,e]⟩
    simp[zA3,AHeap.upd,this]
  by_cases hy: ∃y,wr m=some (q,y)
  ·have e:=h m (by omega) hy
   obtain⟨y,hy⟩:=hy
   simp only[hof,e]
   split
   ·simp[hy,zA3,AHeap.upd]
   ·exact ih
  ·simp only[hof]
   split<;>split<;>simp only[other hy,ih]
theorem zG7(H:AHeap)(wr:Nat→Option (Nat×ABlk))(j:Nat): ∀m,j≤m→hof H wr (fun k=>decide (k<j)) m=zCe H wr j:=by
 have h1: ∀m,m≤j→hof H wr (fun k=>decide (k<j)) m=zCe H wr m:=by
  intro m
  induction m with
  |zero=>intro _;rfl
  |succ m ih=>
   intro hm
   simp only[hof,zCe,ih (by omega)]
   rw[if_pos (by simp;omega)]
 intro m hm
 induction m with
 |zero=>exact h1 0 (by omega) |>.trans (by rw[show j=0 by omega])
 |succ m ih=>
  by_cases e:j=m+1
  ·rw[e];exact e▸h1 (m+1) (by omega)
  ·simp only[hof]
   rw[if_neg (by simp;omega)]
   exact ih (by omega)
theorem zLD{H:AHeap}{w w':Option (Nat×ABlk)}(h: ∀b y y',w=some (b,y)→w'≠some (b,y')):zA3 (zA3 H w) w'=zA3 (zA3 H w') w:=by
 cases w with
 |none=>rfl
 |some a=>
  cases w' with
  |none=>rfl
  |some b=>
   obtain⟨a,x⟩:=a
   obtain⟨b,y⟩:=b
   have:a≠b:=fun e=>h a x y rfl (by rw[e])
   exact zAq H _ _ this
theorem zWz{H:AHeap}{wr:Nat→Option (Nat×ABlk)}{L:Nat→Bool}{j:Nat}(hj:L j=false): ∀m,(∀k,j<k→k<m→L k=true→∀b y y',wr j=some (b,y)→wr k≠some (b,y'))→j<m→hof H wr (fun k=>L k||decide (k=j)) m=zA3 (hof H wr L m) (wr j):=by
 have h0: ∀m,m≤j→hof H wr (fun k=>L k||decide (k=j)) m=hof H wr L m:=by
  intro m
  induction m with
  |zero=>intro _;rfl
  |succ m ih=>
   intro hm
   simp only[hof,ih (by omega)]
   have:(L m||decide (m=j))=L m:=by simp;omega
   rw[this]
 intro m
 induction m with
 |zero=>intro _ h;omega
 |succ m ih=>
  intro h hm
  by_cases e:m=j
  ·subst e
   simp only[hof,h0 m (Nat.le_refl _),hj]
   simp
  ·have e1:(L m||decide (m=j))=L m:=by simp[e]
   simp only[hof,e1,ih (fun k hk hk'=>h k hk (by omega)) (by omega)]
   split
   ·rename_i hl
    exact zLD (fun b y y' hb=>h m (by omega) (by omega) hl b y y' hb)
   ·rfl
theorem zDm{l:List AOper}{val:Nat→AV}{E:Env}{t:Nat}: ∀k,(∀j,j<k→zBM l j≠some t)→(zCG l val E k).get t=E.get t
 |0,_=>rfl
 |k+1,h=>by
  have ih:=zDm (val:=val) (E:=E) k (fun j hj=>h j (by omega))
  have:=h k (by omega)
  simp only[zCG]
  cases hd:zBM l k with
  |none=>exact ih
  |some d=>
   rw[hd]at this
   simp only[zB9,Env.get_set]
   rw[if_neg (fun e=>this (by rw[e]))]
   exact ih
theorem zGg{l:List AOper}{val:Nat→AV}{E:Env}{t j:Nat}(hj:zBM l j=some t): ∀k,j<k→(∀i,i<k→zBM l i=some t→i=j)→(zCG l val E k).get t=val j
 |0,h,_=>by omega
 |k+1,h,hu=>by
  simp only[zCG]
  by_cases e:k=j
  ·subst e
   rw[hj]
   simp only[zB9,Env.get_set,if_true]
  ·have ih:=zGg (val:=val) (E:=E) hj k (by omega) (fun i hi=>hu i (by omega))
   cases hd:zBM l k with
   |none=>exact ih
   |some d=>
    simp only[zB9,Env.get_set]
    rw[if_neg (fun e2=>e (hu k (by omega) (by rw[hd,e2])))]
    exact ih
theorem zAz(a:Array Bool)(i:Nat)(h:i<a.size):a.getD i true=a.getD i false:=by simp[Array.getD,h]
theorem zBT(a:Array Bool)(i j:Nat)(hi:i<a.size):(a.setIfInBounds i true).getD j false=(a.getD j false||decide (j=i)):=by
 simp only[Array.getD_eq_getD_getElem?]
 by_cases e:j=i
 ·subst e;simp[hi]
 ·rw[Array.getElem?_setIfInBounds_ne (fun h=>e h.symm)];simp[e]
end Go.Proofs.YtmndejlpfmmaiaaGreatDoor.Fw
namespace Go.Proofs.YtmndejlpfmmaiaaGreatDoor.Fw
open Go
structure Inv(N:Nat)(lA:List AOper)(p:Nat)(val:Nat→AV)(wr:Nat→Option (Nat×ABlk))(β:Nat→Nat)(D:List Nat)(E0:Env)(H0:AHeap)(c0:Ctx)(L:Nat→Bool)(c:Ctx)(a:Act):Prop where
 ok:Ok c
 lat:Later c0 c
 size:a.tmps.size=N
 dlen:a.defers.length=D.length
 dmark: ∀i(h:i<D.length),∃r,a.defers[i]? =some { target:=.collected r,args:= #[] }∧Enc c (.ptr D[i] 0 0) (.pointer (some ⟨r,0,none⟩))
 hit: ∀j t,j<p→L j=true→zBM lA j=some t→Enc c (val j) (a.tmps.getD t undef)
 miss: ∀t,(∀j,j<p→L j=true→zBM lA j≠some t)→Enc c (E0.get t) (a.tmps.getD t undef)
 heap:c.H=hof H0 wr L p
 res: ∀j,j<p→L j=false→¬c.U (β j)∧c.R (β j)
def Ctx.unres(c:Ctx)(b:Nat):Ctx:={ c with R:=fun i=>c.R i∧i≠b }
theorem Ctx.unres_later(c:Ctx)(b:Nat):Later0 c (c.unres b):=
 ⟨Nat.le_refl _,rfl,rfl,rfl,fun _ h=>h,fun _ x' _ hx=>⟨x',hx,Nat.le_refl _,fun _=>⟨rfl,fun _ _ cells e=>⟨cells,e,fun arr h=>⟨arr,h,rfl⟩⟩⟩⟩,fun _ _ h=>⟨rfl,h⟩⟩
theorem Ctx.unres_ok{c:Ctx}(h:Ok c)(b:Nat):Ok (c.unres b):=by
 refine⟨h.used,?_,h.inj,fun i x hx=>(h.blk i x hx).later0 (c.unres_later b) rfl rfl⟩
 obtain⟨M,hM⟩:=h.fin
 exact⟨M,fun i hi=>hM i (hi.imp id And.left)⟩
theorem zEe{a:Act}{t:Nat}{v:Value}(h:t<a.tmps.size):(a.put (some t) v).tmps.getD t undef=v:=by
 simp[Act.put,Array.getD_eq_getD_getElem?,h]
theorem zBz{a:Act}{d:Option Nat}{t:Nat}{v:Value}(h:d≠some t):(a.put d v).tmps.getD t undef=a.tmps.getD t undef:=by
 cases d with
 |none=>rfl
 |some d=>
  have hne:d≠t:=fun e=>h (by rw[e])
  simp only[Act.put,Array.getD_eq_getD_getElem?,Array.getElem?_setIfInBounds_ne hne]
theorem zPx{N:Nat}{lA:List AOper}{p:Nat}{val:Nat→AV}{wr:Nat→Option (Nat×ABlk)}{β:Nat→Nat}(hinj: ∀i j,β i=β j→i=j){D:List Nat}{E0:Env}{H0:AHeap}{c0:Ctx}{L:Nat→Bool}{c c2:Ctx}{a:Act}(hi:Inv N lA p val wr β D E0 H0 c0 L c a){j:Nat}
 (hj:j<p) (hLj:L j=false) (hfar: ∀i,¬c0.R (β i)) (hl:Later (c.unres (β j)) c2) (hok:Ok c2) (hH:c2.H=zA3 c.H (wr j)) {v:Value} (he:Enc c2 (val j) v) (hdN: ∀d,zBM lA j=some d→d<N)
 (huniq: ∀i d,i<p→zBM lA i=some d→zBM lA j=some d→i=j) (hdiff: ∀k,j<k→k<p→L k=true→∀b y y',wr j=some (b,y)→wr k≠some (b,y')):
 Inv N lA p val wr β D E0 H0 c0 (fun k=>L k||decide (k=j)) c2 (a.put (zBM lA j) v):=by
 have tr: ∀{x:AV}{u:Value},Enc c x u→Enc c2 x u:=fun h=>(h.later0 (c.unres_later (β j))).later hl
 refine⟨hok,?_,?_,?_,?_,?_,?_,?_,?_⟩
 ·refine⟨(hi.lat.toLater0.trans (c.unres_later (β j))).trans hl.toLater0,fun b hb=>?_⟩
  have h1:=hi.lat.res b hb
  have h2:=hl.res b ⟨h1.1,fun e=>hfar j (e▸hb)⟩
  exact⟨h2.1,fun hu=>h1.2 (h2.2 hu)⟩
 ·cases zBM lA j<;>simp[Act.put,hi.size]
 ·have:(a.put (zBM lA j) v).defers=a.defers:=by cases zBM lA j<;>rfl
  rw[this];exact hi.dlen
 ·have:(a.put (zBM lA j) v).defers=a.defers:=by cases zBM lA j<;>rfl
  rw[this]
  exact fun i h=>let⟨r,e,k⟩:=hi.dmark i h;⟨r,e,tr k⟩
 ·intro i t hip hL ht
  by_cases e:i=j
  ·subst e
   rw[ht,zEe (by rw[hi.size];exact hdN t ht)]
   exact he
  ·have hL':L i=true:=by simpa[e]using hL
   rw[zBz (fun h=>e (huniq i t hip ht h))]
   exact tr (hi.hit i t hip hL' ht)
 ·intro t ht
  have hne:zBM lA j≠some t:=ht j hj (by simp)
  rw[zBz hne]
  exact tr (hi.miss t fun i hip hL=>ht i hip (by simp[hL]))
 ·rw[hH,hi.heap,zWz hLj p hdiff hj]
 ·intro i hip hL
  have h1:L i=false∧i≠j:=by simpa using hL
  have h2:=hi.res i hip h1.1
  have h3:=hl.res (β i) ⟨h2.2,fun e=>h1.2 (hinj i j e)⟩
  exact⟨fun hu=>h2.1 (h3.2 hu),h3.1⟩
theorem zTJ{P:Program}{N:Nat}{ro:Option Nat}{ops:Array Oper}{l:List AOper}{p:Nat}{un:Nat→Nat→Bool}(hs:Stat P N ops l p un){val:Nat→AV}{wr:Nat→Option (Nat×ABlk)}{rd:Nat→List Nat}{β:Nat→Nat}(hinj: ∀i j,β i=β j→i=j){D:List Nat}{E0:Env}{H0:AHeap}
 (told:zY1 P un β (l.take p) 0 E0 H0 [] [] val wr rd) {c0:Ctx} (hfar: ∀i,¬c0.R (β i)) {L:Nat→Bool} (hd:zY3 ops L) {c:Ctx} {a:Act} (hi:Inv N (l.take p) p val wr β D E0 H0 c0 L c a) {j:Nat} (hj:j<p) (hLj:L j=false)
 (hready: ∀o e,ops[j]? =some o→e∈o.after→Region.binds .any e=true→L e.on=true) {K:Act→World→Prop} {Q:Exit→Act→World→Prop}
 (next: ∀(c':Ctx)(a':Act),Inv N (l.take p) p val wr β D E0 H0 c0 (fun k=>L k||decide (k=j)) c' a'→K a' c'.w):wpOpIn (FW ro) 0 P ops Q j K a c.w:=by
 have hlen:(l.take p).length=p:=by have:=hs.len;have:=hs.ple;simp;omega
 have hjs:j<ops.size:=Nat.lt_of_lt_of_le hj hs.ple
 obtain⟨x,hx,hcomp⟩:=hs.comp j _ (Array.getElem?_eq_getElem hjs)
 obtain⟨h1,h2,h3,h4⟩:=zCE hcomp
 have hxA: ∀{i:Nat},i<p→(l.take p)[i]? =l[i]? :=fun h=>by rw[List.getElem?_take,if_pos h]
 have hdst:zBM (l.take p) j=x.dst:=by simp only[zBM,hxA hj,hx,Option.bind_some]
 have dst_of: ∀{i t:Nat},i<p→zBM (l.take p) i=some t→∃y,l[i]? =some y∧y.dst=some t:=by
  intro i t hip ht
  simp only[zBM,hxA hip]at ht
  cases hy:l[i]? with
  |none=>rw[hy]at ht;cases ht
  |some y=>rw[hy]at ht;exact⟨y,rfl,ht⟩
 have hu: ∀i d,i<p→zBM (l.take p) i=some d→zBM (l.take p) j=some d→i=j:=by
  intro i d hip hdi hdj
  obtain⟨y,hy,hyd⟩:=dst_of hip hdi
  exact hs.dst i j y x d hip hj hy hx hyd (hdst▸hdj)
 have hst:=told.1 j x (by rw[hxA hj];exact hx)
 rw[Nat.zero_add]at hst
 have reads: ∀t,t∈x.reads→Enc c ((zCG (l.take p) val E0 j).get t) (a.tmps.getD t undef):=by
  intro t ht
  by_cases hex: ∃k,k<p∧k≠j∧zBM (l.take p) k=some t
  ·obtain⟨k,hkp,hkj,hkt⟩:=hex
   obtain⟨y,hy,hyd⟩:=dst_of hkp hkt
   have huk: ∀i,i<p→zBM (l.take p) i=some t→i=k:=fun i hip hit=>by
    obtain⟨z,hz,hzd⟩:=dst_of hip hit
    exact hs.dst i k z y t hip hkp hz hy hzd hyd
   rcases hs.tmp j k x y t hj hkp hx hy ht hyd hkj with hanc|hanc
   ·have hLk:=hanc.ready hd hready
    have hkl:=hanc.lt hs
    rw[zGg hkt j hkl (fun i hij hit=>huk i (Nat.lt_trans hij hj) hit)]
    exact hi.hit k t hkp hLk hkt
   ·have hjk:=hanc.lt hs
    have hLk:L k=false:=by
     cases hLk:L k with
     |false=>rfl
     |true=>have:=hanc.down hd hLk;rw[hLj]at this;cases this
    rw[zDm j (fun i hij hit=>by have:=huk i (Nat.lt_trans hij hj) hit;omega)]
    exact hi.miss t fun i hip hLi hit=>by
     have:=huk i hip hit
     subst this
     rw[hLk]at hLi;cases hLi
  ·rw[zDm j (fun k hk e=>hex ⟨k,Nat.lt_trans hk hj,by omega,e⟩)]
   exact hi.miss t fun k hkp hLk e=>hex ⟨k,hkp,(fun e2=>by rw[e2,hLj]at hLk;cases hLk),e⟩
 have heap: ∀q,q∈rd j→c.H q=zCe H0 wr j q:=by
  intro q hq
  rw[hi.heap,← zG7 H0 wr j p (by omega)]
  refine zJB p fun k hk ⟨y,hy⟩=>?_
  rcases Nat.lt_trichotomy k j with hlt|heq|hgt
  ·have:un k j=false:=by
    cases hun:un k j with
    |false=>rfl
    |true=>
     have:=(told.2.2 k j hlt (by rw[hlen];exact hj) (by simpa using hun)).1 q (by rw[hy];rfl)
     exact absurd hq this.1
   rw[(hs.ord k j hlt hj this).ready hd hready];simp[hlt]
  ·subst heq;rw[hLj];simp
  ·have:un j k=false:=by
    cases hun:un j k with
    |false=>rfl
    |true=>
     have:=(told.2.2 j k hgt (by rw[hlen];exact hk) (by simpa using hun)).2 q (by rw[hy];rfl)
     exact absurd hq this
   have hanc:=hs.ord j k hgt hk this
   have:L k=false:=by
    cases hLk:L k with
    |false=>rfl
    |true=>have:=hanc.down hd hLk;rw[hLj]at this;cases this
   rw[this];simp;omega
 have hdiff: ∀k,j<k→k<p→L k=true→∀b y y',wr j=some (b,y)→wr k≠some (b,y'):=by
  intro k hjk hkp hLk b y y' hb hk
  have:un j k=true:=by
   cases hun:un j k with
   |true=>rfl
   |false=>
    have:=(hs.ord j k hjk hkp hun).down hd hLk
    rw[hLj]at this;cases this
  have:=((told.2.2 j k hjk (by rw[hlen];exact hkp) (by simpa using this)).1 b (by rw[hb];rfl)).2
  exact this (by rw[hk];rfl)
 have hg:=zDi h2 a.tmps
 have done: ∀{c2:Ctx}{v:Value},Later (c.unres (β j)) c2→Ok c2→c2.H=zA3 c.H (wr j)→Enc c2 (val j) v→K (a.put x.dst v) c2.w:=by
  intro c2 v g1 g2 g3 g4
  rw[← hdst]
  exact next c2 _ (zPx hinj hi hj hLj hfar g1 g2 g3 g4 (fun d e=>h4 d (hdst▸e)) hu hdiff)
 unfold wpOpIn
 simp only[Array.getElem?_eq_getElem hjs]
 rcases hst with⟨t,bb,hgd,hbb,hv,hw,_⟩|⟨hgd,hstep⟩
 ·have henc:=reads t (by simp[AOper.reads,hgd])
  have hwant:Region.wanted ops[j] (yielded ops a.tmps)=false:=by
   rcases hbb with⟨b',hb',hne⟩|hb'
   ·rw[hb']at henc
    rw[hg.2 t bb hgd b' (zFh henc)];simp[hne]
   ·rw[hb']at henc
    exact zFy (by rw[h2,hgd]) (zKZ henc)
  rw[hwant,if_neg (by simp)]
  refine⟨fun _ _=>trivial,?_⟩
  rw[h3]
  exact done (c2:=c.unres (β j)) (Later.refl _) (Ctx.unres_ok hi.ok _) (by rw[hw];rfl) (by rw[hv];exact zFu _)
 ·have hwant:Region.wanted ops[j] (yielded ops a.tmps)=true:=by
   rcases hgd with e|⟨t,bb,e,hb⟩
   ·exact hg.1 e
   ·have henc:=reads t (by simp[AOper.reads,e])
    rw[hb]at henc
    rw[hg.2 t bb e bb (zFh henc)];simp
  rw[if_pos hwant]
  have hfree: ¬(c.unres (β j)).U (β j)∧¬(c.unres (β j)).R (β j):=⟨(hi.res j hj hLj).1,fun h=>h.2 rfl⟩
  have hreads:Reads (c.unres (β j)) (zCG (l.take p) val E0 j).get a x.op.reads:=fun t ht=>(reads t (by simp[AOper.reads,ht])).later0 (c.unres_later (β j))
  have hex:=hstep.2 ops[j] (c.unres (β j)) a h1 heap hfree (Ctx.unres_ok hi.ok _) hreads
  have:=hex.wpIn (ro:=ro) (next:=K) (Q:=Q) (zEk h1) fun c' v r g1 g2 g3 ⟨g4,g5⟩=>by
   rw[h3]
   exact done g1 g2 g5 (g4▸g3)
  exact this
end Go.Proofs.YtmndejlpfmmaiaaGreatDoor.Fw
namespace Go.Proofs.YtmndejlpfmmaiaaGreatDoor.Fw
open Go
theorem zYE{P:Program}{N:Nat}{ro:Option Nat}{ops:Array Oper}{i:Nat}{o:Oper}{x:AOper}(ho:ops[i]? =some o)(hx:zC6 P N ops o=some x){s:St}{K:St→Prop}{r:List AOper}(h:zA2 P (x::r) s K)
 {c0 c:Ctx} {a:Act} (hl:Later c0 c) (hH:c.H=s.H) (hok:Ok c) (hr:RelA N c s.D s.E a) {Q:Exit→Act→World→Prop} {KN:Act→World→Prop}
 (next: ∀(c':Ctx)(a':Act)(s':St),Later c0 c'→c'.H=s'.H→Ok c'→RelA N c' s'.D s'.E a'→zA2 P r s' K→KN a' c'.w):wpOpIn (FW ro) 0 P ops Q i KN a c.w:=by
 obtain⟨h1,h2,h3,h4⟩:=zCE hx
 obtain⟨d,g,ao⟩:=x
 simp only at h1 h2 h3 h4
 have hg:=zDi h2 a.tmps
 have exec:zB0 P ao s.E.get s.H (fun v H'=>zA2 P r ⟨s.D,zB9 s.E d v,H'⟩ K)→o.wpIn (FW ro) 0 P a c.w KN Q:=by
  intro hw
  rw[← hH]at hw
  refine(zCs h1 hw hok (a:=a) (fun t _=>hr.tmp t)).wpIn (zEk h1) fun c' v rv g1 g2 g3 g4=>?_
  have hrel:=(hr.later g1).put g3 (dst:=d) h4
  rw[h3]
  exact next c' _ ⟨s.D,zB9 s.E d rv,c'.H⟩ (hl.trans g1) rfl g2 hrel g4
 simp only[wpOpIn,ho]
 cases g with
 |none=>
  rw[if_pos (hg.1 rfl)]
  exact exec h
 |some p=>
  obtain⟨t,b⟩:=p
  simp only[zA2]at h
  split at h
  ·rename_i b' hb'
   have hb:=zFh (hb'▸hr.tmp t)
   have hwant:=hg.2 t b rfl b' hb
   by_cases e:b'=b
   ·rw[hwant,if_pos (by simp[e])]
    exact exec (h.1 e)
   ·rw[hwant,if_neg (by simp[e])]
    refine⟨fun _ _=>trivial,?_⟩
    have hrel:=hr.put (dst:=d) (zFu c) h4
    rw[h3]
    exact next c _ ⟨s.D,zB9 s.E d und,s.H⟩ hl hH hok hrel (h.2 e)
  ·rename_i hb'
   rw[zFy h2 (zKZ (hb'▸hr.tmp t)),if_neg (by simp)]
   refine⟨fun _ _=>trivial,?_⟩
   have hrel:=hr.put (dst:=d) (zFu c) h4
   rw[h3]
   exact next c _ ⟨s.D,zB9 s.E d und,s.H⟩ hl hH hok hrel h
  ·exact h.elim
theorem zXM{x:AV}{i:Nat}{K:AV→Prop}(h:zK8 x i K): ∃r,K r∧∀K':AV→Prop,K' r→zK8 x i K':=by
 unfold zK8 at h
 split at h
 ·split at h
  ·rename_i l y hy
   exact⟨y,h,fun K' hk=>by simp only[zK8,hy];exact hk⟩
  ·exact h.elim
 ·exact h.elim
theorem zG3{x:AOper}(h:zIf x=true):(∃d o i,x=⟨d,none,.ext o i⟩)∨∃d o,x=⟨d,none,.mov o⟩:=by
 obtain⟨d,g,op⟩:=x
 unfold zIf at h
 split at h
 ·rename_i o i h1 h2
  exact .inl ⟨d,o,i,by simp only at h1 h2;rw[h1,h2]⟩
 ·rename_i o h1 h2
  exact .inr ⟨d,o,by simp only at h1 h2;rw[h1,h2]⟩
 ·cases h
theorem ext_seq{P:Program}{D:List Nat}{H:AHeap}{K:St→Prop}: ∀(l:List AOper)(E:Env),(∀x,x∈l→zIf x=true)→zA2 P l ⟨D,E,H⟩ K→
 ∃val:Nat→AV,(∀k x,l[k]? =some x→zCp x.op (zCG l val E k).get H (fun r=>r=val k))∧K ⟨D,zCG l val E l.length,H⟩
 |[],E,_,h=>⟨fun _=>.bot,fun k x hk=>by simp at hk,h⟩
 |x::r,E,hx,h=>by
  have go: ∀v,zCp x.op E.get H (fun r=>r=v)→zA2 P r ⟨D,zB9 E x.dst v,H⟩ K→∃val:Nat→AV,(∀k y,(x::r)[k]? =some y→zCp y.op (zCG (x::r) val E k).get H (fun r=>r=val k))∧K ⟨D,zCG (x::r) val E (x::r).length,H⟩:=by
   intro v hv hr
   obtain⟨val,h1,h2⟩:=ext_seq r (zB9 E x.dst v) (fun y hy=>hx y (List.mem_cons_of_mem _ hy)) hr
   refine⟨zDa v val,fun k y hk=>?_,by rw[List.length_cons,zBx];exact h2⟩
   cases k with
   |zero=>injection hk with hk;subst hk;exact hv
   |succ k=>rw[zBx];exact h1 k y hk
  rcases zG3 (hx x List.mem_cons_self)with⟨d,o,i,rfl⟩|⟨d,o,rfl⟩
  ·have h':zK8 (o.ev E.get) i fun v=>zA2 P r ⟨D,zB9 E d v,H⟩ K:=h
   obtain⟨v,hv,hv'⟩:=zXM h'
   exact go v (hv' _ rfl) hv
  ·exact go (o.ev E.get) rfl h
structure InvX(N:Nat)(lx:List AOper)(val:Nat→AV)(D:List Nat)(E0:Env)(H0:AHeap)(c0:Ctx)(L:Nat→Bool)(c:Ctx)(a:Act):Prop where
 ok:Ok c
 lat:Later c0 c
 size:a.tmps.size=N
 dlen:a.defers.length=D.length
 dmark: ∀i(h:i<D.length),∃r,a.defers[i]? =some { target:=.collected r,args:= #[] }∧Enc c (.ptr D[i] 0 0) (.pointer (some ⟨r,0,none⟩))
 hit: ∀j t,L j=true→zBM lx j=some t→Enc c (val j) (a.tmps.getD t undef)
 miss: ∀t,(∀j,L j=true→zBM lx j≠some t)→Enc c (E0.get t) (a.tmps.getD t undef)
 heap:c.H=H0
theorem zZz{P:Program}{N:Nat}{ro:Option Nat}{ops:Array Oper}{l:List AOper}{p:Nat}{un:Nat→Nat→Bool}(hs:Stat P N ops l p un){Q:Exit→St→Prop}{c0:Ctx}{q:Nat}
 (hx: ∀(k:Nat)(x:AOper),q≤k→l[k]? =some x→zIf x=true∧∀(j:Nat)(y:AOper)(d:Nat),q≤j→l[j]? =some y→y.dst=some d→(d∈x.op.reads→Anc ops j k)∧(x.dst=some d→k=j))
 {D:List Nat} {E0:Env} {H0:AHeap} {val:Nat→AV} (hval: ∀k x,(l.drop q)[k]? =some x→zCp x.op (zCG (l.drop q) val E0 k).get H0 (fun r=>r=val k)) (hend:Q .normal ⟨D,zCG (l.drop q) val E0 (l.drop q).length,H0⟩):
 ∀(fuel:Nat)(listed:Array Bool),listed.size=ops.size→(listed.toList.filter id).length+fuel=ops.size→zY3 ops (fun j=>listed.getD j false)→(∀j,j<q→j<ops.size→listed.getD j false=true)→∀(c:Ctx)(a:Act),InvX N (l.drop q) val D E0 H0 c0 (fun j=>listed.getD (q+j) false) c a→
  wpAnyIn (FW ro) 0 P .any ops (Post N c0 Q) fuel listed a c.w:=by
 have hdst: ∀{k:Nat}{x:AOper},l[q+k]? =some x→zBM (l.drop q) k=x.dst:=fun h=>by simp only[zBM,List.getElem?_drop,h,Option.bind_some]
 have dst_of: ∀{k t:Nat},zBM (l.drop q) k=some t→∃y,l[q+k]? =some y∧y.dst=some t:=by
  intro k t h
  simp only[zBM,List.getElem?_drop]at h
  cases hy:l[q+k]? with
  |none=>rw[hy]at h;cases h
  |some y=>rw[hy]at h;exact⟨y,rfl,h⟩
 intro fuel
 induction fuel with
 |zero=>
  intro listed hsz hcnt hdown hlow c a hi
  have hall: ∀j,j<ops.size→listed.getD j false=true:=by
   have h1:(listed.toList.filter id).length=listed.toList.length:=by simp at hcnt ⊢; omega
   have h2:=List.length_filter_eq_length_iff.1 h1
   intro j hj
   have hj':j<listed.size:=by omega
   simp only[Array.getD,hj',dif_pos]
   have hm:listed[j]∈listed.toList:=by rw[← Array.getElem_toList];exact List.getElem_mem _
   simpa using h2 _ hm
  refine⟨List.eq_nil_iff_forall_not_mem.2 fun i hir=>?_,c,⟨D,zCG (l.drop q) val E0 (l.drop q).length,H0⟩,hi.heap,rfl,hi.ok,⟨hi.size,fun t=>?_,hi.dlen,hi.dmark⟩,hi.lat,hend⟩
  ·obtain⟨h1,h2,_⟩:=zB4.1 hir
   rw[zAz _ _ (by omega),hall i h1]at h2;cases h2
  ·have hlen: ∀{k:Nat}{y:AOper},l[q+k]? =some y→k<(l.drop q).length∧q+k<ops.size:=fun h=>by
    have h1:=(List.getElem?_eq_some_iff.1 h).1
    have h2:=hs.len
    simp;omega
   by_cases hex: ∃k,zBM (l.drop q) k=some t
   ·obtain⟨k,hk⟩:=hex
    obtain⟨y,hy,hyd⟩:=dst_of hk
    rw[zGg hk _ (hlen hy).1 fun i _ hit=>by
     obtain⟨z,hz,hzd⟩:=dst_of hit
     have:=((hx (q+i) z (by omega) hz).2 (q+k) y t (by omega) hy hyd).2 hzd
     omega]
    exact hi.hit k t (hall _ (hlen hy).2) hk
   ·rw[zDm _ fun j _ e=>hex ⟨j,e⟩]
    exact hi.miss t fun j _ e=>hex ⟨j,e⟩
 |succ fuel ih=>
  intro listed hsz hcnt hdown hlow c a hi
  have hne:Region.ready .any ops listed≠[]:=by
   have hex: ∃j,j<ops.size∧listed.getD j false=false:=by
    apply Classical.byContradiction
    intro hn
    have hall: ∀b,b∈listed.toList→id b=true:=by
     intro b hb
     obtain⟨i,hi,e⟩:=List.getElem_of_mem hb
     have hi':i<listed.size:=by simpa using hi
     cases b with
     |true=>rfl
     |false=>
      refine(hn ⟨i,by omega,?_⟩).elim
      simp only[Array.getD,hi',dif_pos]
      rw[← e,Array.getElem_toList];rfl
    have:=List.length_filter_eq_length_iff.2 hall
    simp at this hcnt
    omega
   have: ∀j,j<ops.size→listed.getD j false=false→∃i,i∈Region.ready .any ops listed:=by
    intro j
    induction j using Nat.strongRecOn with
    |_ j ihj=>
     intro hjs hf
     by_cases hr: ∀e∈(ops[j]).after,Region.binds .any e=true→listed.getD e.on false=true
     ·exact⟨j,zB4.2 ⟨hjs,by rw[zAz _ _ (by omega)];exact hf,ops[j],Array.getElem?_eq_getElem hjs,hr⟩⟩
     ·have: ∃e,e∈(ops[j]).after∧Region.binds .any e=true∧listed.getD e.on false=false:=by
       apply Classical.byContradiction
       intro hn
       exact hr fun e he hb=>by
        cases hq:listed.getD e.on false with
        |true=>rfl
        |false=>exact absurd ⟨e,he,hb,hq⟩ hn
      obtain⟨e,he,hb,hq⟩:=this
      have hlt:=hs.edge j _ e (Array.getElem?_eq_getElem hjs) he hb
      exact ihj e.on hlt (by omega) hq
   obtain⟨j,h1,h2⟩:=hex
   obtain⟨i,hir⟩:=this j h1 h2
   intro e;rw[e]at hir;cases hir
  refine⟨fun e=>absurd e hne,fun i hir=>?_⟩
  obtain⟨h1,h2,o,ho,h3⟩:=zB4.1 hir
  rw[zAz _ _ (by omega)]at h2
  have hqi:q≤i:=by
   apply Classical.byContradiction
   intro hn
   rw[hlow i (by omega) h1]at h2;cases h2
  obtain⟨k,rfl⟩: ∃k,i=q+k:=⟨i-q,by omega⟩
  obtain⟨x,hxi,hcomp⟩:=hs.comp _ o ho
  obtain⟨c1,c2,c3,c4⟩:=zCE hcomp
  obtain⟨e1,e2⟩:=hx _ x hqi hxi
  have hg:x.g=none:=by
   rcases zG3 e1 with⟨d,u,v,rfl⟩|⟨d,u,rfl⟩<;>rfl
  have hwant:=(zDi c2 a.tmps).1 hg
  have hready: ∀o' e,ops[q+k]? =some o'→e∈o'.after→Region.binds .any e=true→listed.getD e.on false=true:=by
   intro o' e ho' he hb
   rw[ho]at ho';injection ho' with ho';subst ho'
   exact h3 e he hb
  have hreads:Reads c (zCG (l.drop q) val E0 k).get a x.op.reads:=fun t ht=>by
   by_cases hex: ∃j,zBM (l.drop q) j=some t
   ·obtain⟨j,hj⟩:=hex
    obtain⟨y,hy,hyd⟩:=dst_of hj
    have hanc:=(e2 (q+j) y t (by omega) hy hyd).1 ht
    have hLj:=hanc.ready (L:=fun j=>listed.getD j false) hdown hready
    have hlt:=hanc.lt hs
    rw[zGg hj k (by omega) fun i _ hit=>by
     obtain⟨z,hz,hzd⟩:=dst_of hit
     have:=((hx (q+i) z (by omega) hz).2 (q+j) y t (by omega) hy hyd).2 hzd
     omega]
    exact hi.hit j t hLj hj
   ·rw[zDm k fun j _ e=>hex ⟨j,e⟩]
    exact hi.miss t fun j _ e=>hex ⟨j,e⟩
  have hv:=hval k x (by rw[List.getElem?_drop];exact hxi)
  rw[← hi.heap]at hv
  simp only[wpOpIn,ho]
  rw[if_pos hwant]
  refine(zDk c1 hv (Le.refl _) hi.ok hreads).wpIn (zEk c1) fun c' v rv g1 g2 g3 g4=>?_
  obtain⟨rfl,g5⟩:=g4
  have tr: ∀{x:AV}{u:Value},Enc c x u→Enc c' x u:=fun h=>h.later g1
  have hfun: ∀j,(listed.setIfInBounds (q+k) true).getD (q+j) false=(listed.getD (q+j) false||decide (j=k)):=fun j=>by
   rw[zBT _ _ _ (by omega)]
   congr 1
   by_cases e:j=k
   ·simp[e]
   ·simp[e]
  rw[c3]
  have hdk:=hdst hxi
  refine ih (listed.setIfInBounds (q+k) true) (by simp[hsz]) ?_ ?_ (fun j hj hjs=>by rw[zBT _ _ _ (by omega),hlow j hj hjs];rfl) c' _ ⟨g2,hi.lat.trans g1,?_,?_,?_,?_,?_,by rw[g5,hi.heap]⟩
  ·have hil:q+k<listed.toList.length:=by simp;omega
   have hget:listed.toList[q+k]=false:=by
    have:q+k<listed.size:=by omega
    simp only[Array.getD,this,dif_pos]at h2
    rw[Array.getElem_toList];exact h2
   have hset:((listed.setIfInBounds (q+k) true).toList.filter id).length=(listed.toList.filter id).length+1:=by
    rw[Array.toList_setIfInBounds]
    have e1:listed.toList=listed.toList.take (q+k)++false::listed.toList.drop (q+k+1):=by
     conv=>lhs;rw[← List.take_append_drop (q+k) listed.toList]
     rw[List.drop_eq_getElem_cons hil,hget]
    have e2:listed.toList.set (q+k) true=listed.toList.take (q+k)++true::listed.toList.drop (q+k+1):=by
     rw[List.set_eq_take_append_cons_drop,if_pos hil]
    rw[e2]
    conv=>rhs;rw[e1]
    simp[List.filter_append]
    omega
   omega
  ·intro j o' e hj ho' he hb
   have hj:(listed.setIfInBounds (q+k) true).getD j false=true:=hj
   show(listed.setIfInBounds (q+k) true).getD e.on false=true
   rw[zBT _ _ _ (by omega)]at hj ⊢
   have:listed.getD j false=true∨j=q+k:=by simpa using hj
   rcases this with h|h
   ·have hd:listed.getD e.on false=true:=hdown j o' e h ho' he hb
    rw[hd];rfl
   ·subst h;rw[hready o' e ho' he hb];rfl
  ·cases hd:x.dst<;>simp[Act.put,hi.size]
  ·have:(a.put x.dst v).defers=a.defers:=by cases x.dst<;>rfl
   rw[this];exact hi.dlen
  ·have:(a.put x.dst v).defers=a.defers:=by cases x.dst<;>rfl
   rw[this]
   exact fun i h=>let⟨r,e,w⟩:=hi.dmark i h;⟨r,e,tr w⟩
  ·intro j t hL ht
   rw[hfun]at hL
   by_cases e:j=k
   ·subst e
    rw[hdk]at ht
    rw[ht,zEe (by rw[hi.size];exact c4 t ht)]
    exact g3
   ·have hL':listed.getD (q+j) false=true:=by simpa[e]using hL
    rw[zBz fun h=>e ?_]
    ·exact tr (hi.hit j t hL' ht)
    ·obtain⟨y,hy,hyd⟩:=dst_of ht
     have:=(e2 (q+j) y t (by omega) hy hyd).2 h
     omega
  ·intro t ht
   have hne2:x.dst≠some t:=by rw[← hdk];exact ht k (by rw[hfun];simp)
   rw[zBz hne2]
   exact tr (hi.miss t fun j hL=>ht j (by rw[hfun,hL];rfl))
theorem zIj{P:Program}{N:Nat}{ro:Option Nat}{ops:Array Oper}{l:List AOper}{p:Nat}{un:Nat→Nat→Bool}(hs:Stat P N ops l p un){Q:Exit→St→Prop}{c0:Ctx}{q:Nat}
 (hx: ∀(k:Nat)(x:AOper),q≤k→l[k]? =some x→zIf x=true∧∀(j:Nat)(y:AOper)(d:Nat),q≤j→l[j]? =some y→y.dst=some d→(d∈x.op.reads→Anc ops j k)∧(x.dst=some d→k=j))
 (fuel:Nat) (listed:Array Bool) (hk:q+fuel=ops.size) (hsz:listed.size=ops.size) (hL: ∀j,listed.getD j false=decide (j<q)) {s:St} {c:Ctx} {a:Act} (h:zA2 P (l.drop q) s (Q .normal)) (hl:Later c0 c) (hH:c.H=s.H) (hok:Ok c) (hr:RelA N c s.D s.E a):
 wpAnyIn (FW ro) 0 P .any ops (Post N c0 Q) fuel listed a c.w:=by
 have hmem: ∀{x:AOper},x∈l.drop q→∃k,l[q+k]? =some x:=fun hm=>by
  obtain⟨k,hk⟩:=List.mem_iff_getElem?.1 hm
  exact⟨k,by rw[← List.getElem?_drop];exact hk⟩
 obtain⟨val,h1,h2⟩:=ext_seq (l.drop q) s.E (fun x hm=>by
  obtain⟨k,hk⟩:=hmem hm
  exact(hx _ x (by omega) hk).1) (show zA2 P (l.drop q) ⟨s.D,s.E,s.H⟩ (Q .normal)from h)
 refine zZz hs hx (D:=s.D) h1 h2 fuel listed hsz ?_ (fun i o e hi ho he hb=>?_) (fun j hj _=>by rw[hL];simpa using hj) c a ⟨hok,hl,hr.size,hr.dlen,hr.dmark,fun j t hLj _=>?_,fun t _=>hr.tmp t,hH⟩
 ·have:listed.toList=List.replicate q true++List.replicate (ops.size-q) false:=by
   apply List.ext_getElem
   ·simp[hsz];omega
   ·intro i h1 h2
    have hd:=hL i
    have hi':i<listed.size:=by simpa using h1
    simp only[Array.getD,hi',dif_pos]at hd
    rw[Array.getElem_toList]
    by_cases e:i<q
    ·rw[List.getElem_append_left (by simpa using e)]
     simpa[e]using hd
    ·rw[List.getElem_append_right (by simp;omega)]
     simpa[e]using hd
  rw[this];simp;omega
 ·have h1:=hs.edge i o e ho he hb
  simp only[hL,decide_eq_true_eq]at*
  omega
 ·rw[hL]at hLj
  simp at hLj
  omega
theorem zWc{P:Program}{N:Nat}{ro:Option Nat}{ops:Array Oper}{l:List AOper}{p:Nat}{un:Nat→Nat→Bool}(hs:Stat P N ops l p un){Q:Exit→St→Prop}{c0:Ctx}{q:Nat}(hq:q≤ops.size)(ht: ∀j k,p≤k→k<ops.size→j<k→j<q→Anc ops j k)
 (hx: ∀(k:Nat)(x:AOper),q≤k→l[k]? =some x→zIf x=true∧∀(j:Nat)(y:AOper)(d:Nat),q≤j→l[j]? =some y→y.dst=some d→(d∈x.op.reads→Anc ops j k)∧(x.dst=some d→k=j)): ∀(fuel k:Nat)(listed:Array Bool),p≤k→k≤q→k+fuel=ops.size→listed.size=ops.size→(∀j,listed.getD j false=decide (j<k))→
 ∀(s:St)(c:Ctx)(a:Act),zA2 P (l.drop k) s (Q .normal)→Later c0 c→c.H=s.H→Ok c→RelA N c s.D s.E a→wpAnyIn (FW ro) 0 P .any ops (Post N c0 Q) fuel listed a c.w
 |0,k,listed,hp,hkq,hk,hsz,hL,s,c,a,h,hl,hH,hok,hr=>by
  have hnil:l.drop k=[]:=List.drop_eq_nil_of_le (by rw[hs.len];omega)
  rw[hnil]at h
  refine⟨?_,c,s,hH,rfl,hok,hr,hl,h⟩
  refine List.eq_nil_iff_forall_not_mem.2 fun i hi=>?_
  obtain⟨h1,h2,_⟩:=zB4.1 hi
  rw[zAz _ _ (by omega),hL i]at h2
  simp at h2
  omega
 |fuel+1,k,listed,hp,hkq,hk,hsz,hL,s,c,a,h,hl,hH,hok,hr=>by
  by_cases hkq':k=q
  ·subst hkq'
   exact zIj hs hx (fuel+1) listed hk hsz hL h hl hH hok hr
  have hlt:k<ops.size:=by omega
  have hdown:zY3 ops (fun j=>listed.getD j false):=by
   intro i o e hi ho he hb
   have h1:=hs.edge i o e ho he hb
   simp only[hL,decide_eq_true_eq]at*
   omega
  have hk_ready:k∈Region.ready .any ops listed:=zB4.2 ⟨hlt,by rw[zAz _ _ (by omega),hL k];simp,ops[k],Array.getElem?_eq_getElem hlt,fun e he hb=>by
   have h1:=hs.edge k _ e (Array.getElem?_eq_getElem hlt) he hb
   rw[hL];simpa using h1⟩
  refine⟨(fun hnil=>by rw[hnil]at hk_ready;cases hk_ready),fun i hi=>?_⟩
  obtain⟨h1,h2,o,ho,h3⟩:=zB4.1 hi
  rw[zAz _ _ (by omega),hL i]at h2
  have hik:i=k:=by
   rcases Nat.lt_trichotomy i k with h|h|h
   ·simp at h2;omega
   ·exact h
   ·have hanc:=ht k i (by omega) h1 h (by omega)
    have:=hanc.ready (L:=fun j=>listed.getD j false) hdown (fun o' e ho' he hb=>by
     rw[ho]at ho';injection ho' with ho';subst ho'
     exact h3 e he hb)
    simp[hL]at this
  subst hik
  obtain⟨x,hxi,hcomp⟩:=hs.comp i o ho
  have hdrop:l.drop i=x::l.drop (i+1):=by
   obtain⟨hil,e⟩:=List.getElem?_eq_some_iff.1 hxi
   rw[List.drop_eq_getElem_cons hil,e]
  rw[hdrop]at h
  refine zYE ho hcomp h hl hH hok hr fun c' a' s' g1 g2 g3 g4 g5=>?_
  refine zWc hs hq ht hx fuel (i+1) (listed.setIfInBounds i true) (by omega) (by omega) (by omega) (by simp[hsz]) (fun j=>?_) s' c' a' g5 g1 g2 g3 g4
  rw[zBT _ _ _ (by omega),hL]
  by_cases e:j=i
  ·subst e;simp
  ·simp[e];omega
theorem zay{P:Program}{N:Nat}{ro:Option Nat}{ops:Array Oper}{l:List AOper}{p:Nat}{un:Nat→Nat→Bool}(hs:Stat P N ops l p un){val:Nat→AV}{wr:Nat→Option (Nat×ABlk)}{rd:Nat→List Nat}{β:Nat→Nat}(hinj: ∀i j,β i=β j→i=j){D:List Nat}{E0:Env}{H0:AHeap}
 (told:zY1 P un β (l.take p) 0 E0 H0 [] [] val wr rd) {c0:Ctx} (hfar: ∀i,¬c0.R (β i)) {Q:Exit→St→Prop} (hend:zA2 P (l.drop p) ⟨D,zCG (l.take p) val E0 p,zCe H0 wr p⟩ (Q .normal)):
 ∀(fuel:Nat)(listed:Array Bool),listed.size=ops.size→(listed.toList.filter id).length+fuel=ops.size→zY3 ops (fun j=>listed.getD j false)→(∀j,p≤j→listed.getD j false=false)→∀(c:Ctx)(a:Act),Inv N (l.take p) p val wr β D E0 H0 c0 (fun j=>listed.getD j false) c a→
  wpAnyIn (FW ro) 0 P .any ops (Post N c0 Q) fuel listed a c.w:=by
 have hlenA:(l.take p).length=p:=by have:=hs.len;have:=hs.ple;simp;omega
 have toB: ∀(fuel:Nat)(listed:Array Bool),listed.size=ops.size→(listed.toList.filter id).length+fuel=ops.size→(∀j,p≤j→listed.getD j false=false)→(∀j,j<p→listed.getD j false=true)→∀(c:Ctx)(a:Act),Inv N (l.take p) p val wr β D E0 H0 c0 (fun j=>listed.getD j false) c a→
  wpAnyIn (FW ro) 0 P .any ops (Post N c0 Q) fuel listed a c.w:=by
  intro fuel listed hsz hcnt hno hall c a hi
  have hLd: ∀j,listed.getD j false=decide (j<p):=by
   intro j
   by_cases e:j<p
   ·rw[hall j e];simp[e]
   ·rw[hno j (by omega)];simp[e]
  have hcount:(listed.toList.filter id).length=p:=by
   have:listed.toList=List.replicate p true++List.replicate (ops.size-p) false:=by
    apply List.ext_getElem
    ·have:=hs.ple;simp[hsz];omega
    ·intro i h1 h2
     have hd:=hLd i
     have hi':i<listed.size:=by simpa using h1
     simp only[Array.getD,hi',dif_pos]at hd
     rw[Array.getElem_toList]
     by_cases e:i<p
     ·rw[List.getElem_append_left (by simpa using e)]
      simpa[e]using hd
     ·rw[List.getElem_append_right (by simp;omega)]
      simpa[e]using hd
   rw[this];simp
  have hheap:c.H=zCe H0 wr p:=by
   rw[hi.heap,← zG7 H0 wr p p (Nat.le_refl _)]
   congr 1
   funext j;exact hLd j
  have hrel:RelA N c D (zCG (l.take p) val E0 p) a:=by
   refine⟨hi.size,fun t=>?_,hi.dlen,hi.dmark⟩
   by_cases hex: ∃k,k<p∧zBM (l.take p) k=some t
   ·obtain⟨k,hk,hkt⟩:=hex
    rw[zGg hkt p hk (fun i hip hit=>by
     have: ∀{i:Nat},i<p→zBM (l.take p) i=some t→∃y,l[i]? =some y∧y.dst=some t:=by
      intro i hip ht
      simp only[zBM,List.getElem?_take,if_pos hip]at ht
      cases hy:l[i]? with
      |none=>rw[hy]at ht;cases ht
      |some y=>rw[hy]at ht;exact⟨y,rfl,ht⟩
     obtain⟨y,hy,hyd⟩:=this hip hit
     obtain⟨z,hz,hzd⟩:=this hk hkt
     exact hs.dst i k y z t hip hk hy hz hyd hzd)]
    exact hi.hit k t hk (hall k hk) hkt
   ·rw[zDm p (fun j hj e=>hex ⟨j,hj,e⟩)]
    exact hi.miss t fun j hj _ e=>hex ⟨j,hj,e⟩
  obtain⟨q,hpq,hq,ht,hx⟩:=hs.tail
  exact zWc hs hq ht hx fuel p listed (Nat.le_refl _) hpq (by omega) hsz hLd ⟨D,zCG (l.take p) val E0 p,zCe H0 wr p⟩ c a hend hi.lat hheap hi.ok hrel
 intro fuel
 induction fuel with
 |zero=>
  intro listed hsz hcnt hdown hno c a hi
  have hallt: ∀b∈listed.toList,b=true:=by
   have:(listed.toList.filter id).length=listed.toList.length:=by simp at hcnt ⊢; omega
   have:=List.length_filter_eq_length_iff.1 this
   intro b hb;simpa using this b hb
  refine toB 0 listed hsz hcnt hno (fun j hj=>?_) c a hi
  have hj':j<listed.size:=by have:=hs.ple;omega
  simp only[Array.getD,hj',dif_pos]
  have hm:listed[j]∈listed.toList:=by rw[← Array.getElem_toList];exact List.getElem_mem _
  exact hallt _ hm
 |succ fuel ih=>
  intro listed hsz hcnt hdown hno c a hi
  by_cases hall: ∀j,j<p→listed.getD j false=true
  ·exact toB (fuel+1) listed hsz hcnt hno hall c a hi
  ·
   obtain⟨j0,hj0⟩: ∃j,j<p∧listed.getD j false=false:=by
    by_cases h: ∃j,j<p∧listed.getD j false=false
    ·exact h
    ·exact absurd (fun j hj=>by
      cases e:listed.getD j false with
      |true=>rfl
      |false=>exact absurd ⟨j,hj,e⟩ h) hall
   have hne:Region.ready .any ops listed≠[]:=by
    have: ∀j,j<p→listed.getD j false=false→∃i,i∈Region.ready .any ops listed:=by
     intro j
     induction j using Nat.strongRecOn with
     |_ j ihj=>
      intro hj hf
      have hjs:j<ops.size:=Nat.lt_of_lt_of_le hj hs.ple
      by_cases hr: ∀e∈(ops[j]).after,Region.binds .any e=true→listed.getD e.on false=true
      ·exact⟨j,zB4.2 ⟨hjs,by rw[zAz _ _ (by omega)];exact hf,ops[j],Array.getElem?_eq_getElem hjs,hr⟩⟩
      ·have: ∃e,e∈(ops[j]).after∧Region.binds .any e=true∧listed.getD e.on false=false:=by
        apply Classical.byContradiction
        intro hn
        exact hr fun e he hb=>by
         cases hq:listed.getD e.on false with
         |true=>rfl
         |false=>exact absurd ⟨e,he,hb,hq⟩ hn
       obtain⟨e,he,hb,hq⟩:=this
       have hlt:=hs.edge j _ e (Array.getElem?_eq_getElem hjs) he hb
       exact ihj e.on hlt (by omega) hq
    obtain⟨i,hi⟩:=this j0 hj0.1 hj0.2
    intro e;rw[e]at hi;cases hi
   refine⟨fun e=>absurd e hne,fun i hir=>?_⟩
   obtain⟨h1,h2,o,ho,h3⟩:=zB4.1 hir
   rw[zAz _ _ (by omega)]at h2
   have hready: ∀o' e,ops[i]? =some o'→e∈o'.after→Region.binds .any e=true→listed.getD e.on false=true:=by
    intro o' e ho' he hb
    rw[ho]at ho';injection ho' with ho';subst ho'
    exact h3 e he hb
   have hip:i<p:=by
    apply Classical.byContradiction
    intro hn
    obtain⟨q,hpq,hq,ht,hx⟩:=hs.tail
    have hanc:=ht j0 i (by omega) h1 (by omega) (by omega)
    have:=hanc.ready (L:=fun j=>listed.getD j false) hdown hready
    rw[hj0.2]at this;cases this
   refine zTJ hs hinj told hfar hdown hi hip h2 hready fun c' a' hi'=>?_
   have hfun:(fun j=>(listed.setIfInBounds i true).getD j false)=(fun k=>listed.getD k false||decide (k=i)):=by
    funext j;exact zBT _ _ _ (by omega)
   refine ih (listed.setIfInBounds i true) (by simp[hsz]) ?_ ?_ (fun j hj=>?_) c' a' (by rw[hfun];exact hi')
   ·have hil:i<listed.toList.length:=by simp;omega
    have hget:listed.toList[i]=false:=by
     have:i<listed.size:=by omega
     simp only[Array.getD,this,dif_pos]at h2
     rw[Array.getElem_toList];exact h2
    have hset:((listed.setIfInBounds i true).toList.filter id).length=(listed.toList.filter id).length+1:=by
     rw[Array.toList_setIfInBounds]
     have e1:listed.toList=listed.toList.take i++false::listed.toList.drop (i+1):=by
      conv=>lhs;rw[← List.take_append_drop i listed.toList]
      rw[List.drop_eq_getElem_cons hil,hget]
     have e2:listed.toList.set i true=listed.toList.take i++true::listed.toList.drop (i+1):=by
      rw[List.set_eq_take_append_cons_drop,if_pos hil]
     rw[e2]
     conv=>rhs;rw[e1]
     simp[List.filter_append]
     omega
    omega
   ·rw[hfun]
    intro j o' e hj ho' he hb
    have:listed.getD j false=true∨j=i:=by simpa using hj
    rcases this with h|h
    ·simp[hdown j o' e h ho' he hb]
    ·subst h;simp[hready o' e ho' he hb]
   ·rw[zBT _ _ _ (by omega),hno j hj]
    simp;omega
end Go.Proofs.YtmndejlpfmmaiaaGreatDoor.Fw
namespace Go.Proofs.YtmndejlpfmmaiaaGreatDoor.Fw
open Go
def zRO(acc:List Nat)(o:Oper):Nat:=o.after.toList.foldl (fun s e=>if Region.binds .any e then s ||| (2^e.on ||| acc.getD e.on 0)else s) 0
def zH1:List Oper→List Nat→List Nat
 |[],acc=>acc
 |o::r,acc=>zH1 r (acc++[zRO acc o])
theorem zOL{acc:List Nat}{o:Oper}{j:Nat}(h:(zRO acc o).testBit j=true): ∃e∈o.after,Region.binds .any e=true∧(e.on=j∨(acc.getD e.on 0).testBit j=true):=by
 have key: ∀(es:List Edge)(s:Nat),(es.foldl (fun s e=>if Region.binds .any e then s ||| (2^e.on ||| acc.getD e.on 0)else s) s).testBit j=true→s.testBit j=true∨∃e∈es,Region.binds .any e=true∧(e.on=j∨(acc.getD e.on 0).testBit j=true):=by
  intro es
  induction es with
  |nil=>intro s h;exact .inl h
  |cons e r ih=>
   intro s h
   simp only[List.foldl_cons]at h
   rcases ih _ h with h1|⟨e',he,h1⟩
   ·split at h1
    ·rename_i hb
     simp only[Nat.testBit_or,Bool.or_eq_true,Nat.testBit_two_pow]at h1
     rcases h1 with h1|h1|h1
     ·exact .inl h1
     ·exact .inr ⟨e,List.mem_cons_self,hb,.inl (by simpa using h1)⟩
     ·exact .inr ⟨e,List.mem_cons_self,hb,.inr h1⟩
    ·exact .inl h1
   ·exact .inr ⟨e',List.mem_cons_of_mem _ he,h1⟩
 rcases key o.after.toList 0 h with h|⟨e,he,h⟩
 ·simp at h
 ·exact⟨e,by simpa using he,h⟩
theorem zKB{ops:Array Oper}: ∀(l:List Oper)(acc:List Nat),l=ops.toList.drop acc.length→(∀k j,(acc.getD k 0).testBit j=true→Anc ops j k)→∀k j,((zH1 l acc).getD k 0).testBit j=true→Anc ops j k
 |[],acc,_,h=>h
 |o::r,acc,hl,h=>by
  have ho:ops[acc.length]? =some o:=by
   have:ops.toList[acc.length]? =some o:=by
    rw[← List.head?_drop,← hl];rfl
   simpa using this
  refine zKB r (acc++[zRO acc o]) ?_ ?_
  ·have:=congrArg List.tail hl
   simpa[List.tail_drop]using this
  ·intro k j hk
   by_cases e:k<acc.length
   ·rw[List.getD_eq_getElem?_getD,List.getElem?_append_left e,← List.getD_eq_getElem?_getD]at hk
    exact h k j hk
   ·by_cases e2:k=acc.length
    ·subst e2
     simp only[List.getD_eq_getElem?_getD,List.getElem?_append_right (Nat.le_refl _),Nat.sub_self,List.getElem?_cons_zero,Option.getD_some]at hk
     obtain⟨ed,he,hb,h1⟩:=zOL hk
     rcases h1 with h1|h1
     ·subst h1;exact .edge ho he hb
     ·exact .step ho he hb (h _ _ h1)
    ·rw[List.getD_eq_getElem?_getD,List.getElem?_eq_none (by simp;omega)]at hk
     simp at hk
def unM(us:List Nat)(j i:Nat):Bool:=(us.getD i 0).testBit j
def zEf(m i:Nat):Bool:=m &&& (2^i-1)==2^i-1
theorem zDX{m i j:Nat}(h:zEf m i=true)(hj:j<i):m.testBit j=true:=by
 have h1:m &&& (2^i-1)=2^i-1:=by simpa[zEf]using h
 have h2:(m &&& (2^i-1)).testBit j=(2^i-1).testBit j:=by rw[h1]
 rw[Nat.testBit_and,Nat.testBit_two_pow_sub_one]at h2
 simpa[hj]using h2
def zKj:List Nat→Bool
 |[]=>true
 |x::r=>!r.contains x&&zKj r
def zRz(l:List AOper):List (Option Nat):=l.map (·.dst)
def zJq(m i t:Nat):List (Option Nat)→Nat→Bool
 |[],_=>true
 |d::r,j=>(d !=some t||j==i||m.testBit j)&&zJq m i t r (j+1)
def zGV(ms:List Nat)(i t:Nat):List (Option Nat)→Nat→Bool
 |[],_=>true
 |d::r,j=>(d !=some t||j==i||(ms.getD i 0).testBit j||(ms.getD j 0).testBit i)&&zGV ms i t r (j+1)
def zIW(ms:List Nat)(ds:List (Option Nat)):List AOper→Nat→Bool
 |[],_=>true
 |x::r,i=>(x.reads.all fun t=>zGV ms i t ds 0)&&zIW ms ds r (i+1)
def zHy:List Oper→Nat→Bool
 |[],_=>true
 |o::r,i=>(o.after.toList.all fun e=>!Region.binds .any e||decide (e.on<i))&&zHy r (i+1)
def zdy(ms us:List Nat)(n:Nat):Bool:=(List.range n).all fun i=>zEf (ms.getD i 0 ||| us.getD i 0) i
def zcD(ms:List Nat)(p n:Nat):Bool:=(List.range (n-p)).all fun k=>zEf (ms.getD (p+k) 0) (p+k)
def zRQ(l:List AOper):Nat:=l.length-(l.reverse.takeWhile zIf).length
def zMx(ms:List Nat)(ds:List (Option Nat))(q n:Nat):List AOper→Nat→Bool
 |[],_=>true
 |x::r,i=>(x.op.reads.all fun t=>zJq (ms.getD i 0) n t ds q)&&zMx ms ds q n r (i+1)
def zfm(ms:List Nat)(q n:Nat)(l:List AOper):Bool:=decide (q+l.length=n)&&l.all zIf&&zKj ((zRz l).filterMap id)&&zMx ms (zRz l) q n l q
def zaa(ms:List Nat)(l:List AOper)(p n q:Nat):Bool:=
 decide (p≤q)&&decide (q≤n)&&((List.range (n-p)).all fun k=>zEf (ms.getD (p+k) 0) (min (p+k) q))&&zfm ms q n (l.drop q)
def zYt(ops:Array Oper)(l:List AOper)(p:Nat)(us ms:List Nat):Bool:=
 decide (p≤ops.size)&&zHy ops.toList 0&&zIW ms (zRz (l.take p)) (l.take p) 0&&zKj ((zRz (l.take p)).filterMap id)&&zdy ms us p&&(zcD ms p ops.size||zaa ms l p ops.size (max p (zRQ l)))
theorem zEJ{P:Program}{N:Nat}{ops:Array Oper}: ∀{os:List Oper}{l:List AOper},zBo P N ops os=some l→l.length=os.length∧∀(i:Nat)(o:Oper),os[i]? =some o→∃x:AOper,l[i]? =some x∧zC6 P N ops o=some x
 |[],l,h=>by injection h with h;subst h;exact⟨rfl,fun i o h=>by simp at h⟩
 |o::r,l,h=>by
  simp only[zBo]at h
  split at h
  ·rename_i x l' hx hl'
   injection h with h;subst h
   obtain⟨h1,h2⟩:=zEJ hl'
   refine⟨by simp[h1],fun i o' hi=>?_⟩
   cases i with
   |zero=>injection hi with hi;subst hi;exact⟨x,rfl,hx⟩
   |succ i=>exact h2 i o' hi
  ·cases h
theorem zGG{m i t:Nat}: ∀{ds:List (Option Nat)}{j0:Nat},zJq m i t ds j0=true→∀k,ds[k]? =some (some t)→j0+k≠i→m.testBit (j0+k)=true
 |[],_,_,k,hk,_=>by simp at hk
 |d::r,j0,h,k,hk,hne=>by
  simp only[zJq,Bool.and_eq_true,Bool.or_eq_true]at h
  cases k with
  |zero=>
   injection hk with hk;subst hk
   rcases h.1 with(h1|h1)|h1
   ·simp at h1
   ·simp at h1;omega
   ·exact h1
  |succ k=>
   have:=zGG h.2 k hk (by omega)
   rwa[show j0+1+k=j0+(k+1) by omega]at this
theorem zFJ{ms:List Nat}{i t:Nat}: ∀{ds:List (Option Nat)}{j0:Nat},zGV ms i t ds j0=true→∀k,ds[k]? =some (some t)→j0+k≠i→(ms.getD i 0).testBit (j0+k)=true∨(ms.getD (j0+k) 0).testBit i=true
 |[],_,_,k,hk,_=>by simp at hk
 |d::r,j0,h,k,hk,hne=>by
  simp only[zGV,Bool.and_eq_true,Bool.or_eq_true]at h
  cases k with
  |zero=>
   injection hk with hk;subst hk
   rcases h.1 with((h1|h1)|h1)|h1
   ·simp at h1
   ·simp at h1;omega
   ·exact .inl h1
   ·exact .inr h1
  |succ k=>
   have:=zFJ h.2 k hk (by omega)
   rwa[show j0+1+k=j0+(k+1) by omega]at this
theorem zFH{ms:List Nat}{ds:List (Option Nat)}: ∀{l:List AOper}{i0:Nat},zIW ms ds l i0=true→∀k x,l[k]? =some x→∀t∈x.reads,zGV ms (i0+k) t ds 0=true
 |[],_,_,k,x,hk,_,_=>by simp at hk
 |y::r,i0,h,k,x,hk,t,ht=>by
  simp only[zIW,Bool.and_eq_true]at h
  cases k with
  |zero=>injection hk with hk;subst hk;exact List.all_eq_true.1 h.1 t ht
  |succ k=>
   have:=zFH h.2 k x hk t ht
   rwa[show i0+1+k=i0+(k+1) by omega]at this
theorem zGc{ms:List Nat}{ds:List (Option Nat)}{q n:Nat}: ∀{l:List AOper}{i0:Nat},zMx ms ds q n l i0=true→∀k x,l[k]? =some x→∀t∈x.op.reads,zJq (ms.getD (i0+k) 0) n t ds q=true
 |[],_,_,k,x,hk,_,_=>by simp at hk
 |y::r,i0,h,k,x,hk,t,ht=>by
  simp only[zMx,Bool.and_eq_true]at h
  cases k with
  |zero=>injection hk with hk;subst hk;exact List.all_eq_true.1 h.1 t ht
  |succ k=>
   have:=zGc h.2 k x hk t ht
   rwa[show i0+1+k=i0+(k+1) by omega]at this
theorem zFN: ∀{l:List Oper}{i0:Nat},zHy l i0=true→∀k o,l[k]? =some o→∀e∈o.after,Region.binds .any e=true→e.on<i0+k
 |[],_,_,k,o,hk,_,_,_=>by simp at hk
 |y::r,i0,h,k,o,hk,e,he,hb=>by
  simp only[zHy,Bool.and_eq_true]at h
  cases k with
  |zero=>
   injection hk with hk;subst hk
   have:=List.all_eq_true.1 h.1 e (by simpa using he)
   simpa[hb]using this
  |succ k=>
   have:=zFN h.2 k o hk e he hb
   omega
theorem zE3: ∀{l:List (Option Nat)},zKj (l.filterMap id)=true→∀(i j d:Nat),l[i]? =some (some d)→l[j]? =some (some d)→i=j
 |[],_,i,j,d,hi,_=>by simp at hi
 |o::r,h,i,j,d,hi,hj=>by
  have hr:zKj (r.filterMap id)=true:=by
   cases o with
   |none=>simpa[List.filterMap_cons]using h
   |some x=>simp only[List.filterMap_cons,id,zKj,Bool.and_eq_true]at h;exact h.2
  have head: ∀(k:Nat),o=some d→r[k]? =some (some d)→False:=by
   intro k ho hk
   subst ho
   simp only[List.filterMap_cons,id,zKj,Bool.and_eq_true,Bool.not_eq_true']at h
   have hm:d∈r.filterMap id:=List.mem_filterMap.2 ⟨some d,List.mem_of_getElem? hk,rfl⟩
   have:=h.1
   simp at this
   exact this (List.mem_of_getElem? hk)
  cases i with
  |zero=>
   cases j with
   |zero=>rfl
   |succ j=>injection hi with hi;exact(head j hi hj).elim
  |succ i=>
   cases j with
   |zero=>injection hj with hj;exact(head i hj hi).elim
   |succ j=>rw[zE3 hr i j d hi hj]
theorem zW5{P:Program}{N:Nat}{ops:Array Oper}{l:List AOper}{p:Nat}{us ms:List Nat}(hl:zBo P N ops ops.toList=some l)(hms:zH1 ops.toList []=ms)(h:zYt ops l p us ms=true):Stat P N ops l p (unM us):=by
 simp only[zYt,Bool.and_eq_true,decide_eq_true_eq]at h
 obtain⟨⟨⟨⟨⟨h1,h2⟩,h3⟩,h4⟩,h5⟩,h6⟩:=h
 obtain⟨c1,c2⟩:=zEJ hl
 have hanc: ∀k j,(ms.getD k 0).testBit j=true→Anc ops j k:=by
  intro k j hk
  rw[← hms]at hk
  exact zKB ops.toList [] rfl (fun k j h=>by simp at h) k j hk
 have htk: ∀{i:Nat}{x:AOper},i<p→l[i]? =some x→(l.take p)[i]? =some x:=fun h hx=>by rw[List.getElem?_take,if_pos h];exact hx
 refine⟨by simpa using c1,h1,fun i o ho=>c2 i o (by simpa using ho),fun i o e ho he hb=>?_,fun i j x y t hi hj hx hy ht hd hne=>?_,fun i j x y d hi hj hx hy hxd hyd=>?_,fun j i hji hi hu=>?_,?_⟩
 ·have:=zFN h2 i o (by simpa using ho) e he hb
  omega
 ·have r1:=zFH h3 i x (htk hi hx) t ht
  rw[Nat.zero_add]at r1
  have r2:=zFJ r1 j (by simp only[zRz,List.getElem?_map,htk hj hy,Option.map_some,hd]) (by omega)
  rw[Nat.zero_add]at r2
  exact r2.imp (hanc i j) (hanc j i)
 ·exact zE3 h4 i j d (by simp only[zRz,List.getElem?_map,htk hi hx,Option.map_some,hxd]) (by simp only[zRz,List.getElem?_map,htk hj hy,Option.map_some,hyd])
 ·have:=List.all_eq_true.1 h5 i (by simpa using hi)
  have hb:=zDX this hji
  rw[Nat.testBit_or,Bool.or_eq_true]at hb
  rcases hb with hb|hb
  ·exact hanc i j hb
  ·rw[unM,hb]at hu;cases hu
 ·rw[Bool.or_eq_true]at h6
  rcases h6 with h6|h6
  ·refine⟨ops.size,h1,Nat.le_refl _,fun j k hk hks hjk _=>?_,fun k x hk hx=>?_⟩
   ·have:=List.all_eq_true.1 h6 (k-p) (by simp;omega)
    rw[show p+(k-p)=k by omega]at this
    exact hanc k j (zDX this hjk)
   ·have:=(List.getElem?_eq_some_iff.1 hx).1
    simp at c1;omega
  ·generalize max p (zRQ l)=q at h6
   simp only[zaa,zfm,Bool.and_eq_true,decide_eq_true_eq]at h6
   obtain⟨⟨⟨g1,g2⟩,g3⟩,⟨⟨g7,g4⟩,g5⟩,g6⟩:=h6
   have hdr: ∀{k:Nat}{x:AOper},q≤k→l[k]? =some x→(l.drop q)[k-q]? =some x:=fun{k x} h hx=>by rw[List.getElem?_drop,show q+(k-q)=k by omega];exact hx
   refine⟨q,g1,g2,fun j k hk hks hjk hjq=>?_,fun k x hk hx=>⟨List.all_eq_true.1 g4 x (List.mem_of_getElem? (hdr hk hx)),fun j y d hj hy hd=>⟨fun hm=>?_,fun hxd=>?_⟩⟩⟩
   ·have:=List.all_eq_true.1 g3 (k-p) (by simp;omega)
    rw[show p+(k-p)=k by omega]at this
    exact hanc k j (zDX this (by omega))
   ·have r1:=zGc g6 (k-q) x (hdr hk hx) d hm
    rw[show q+(k-q)=k by omega]at r1
    have hjl:=(List.getElem?_eq_some_iff.1 hy).1
    have r2:=zGG r1 (j-q) (by simp only[zRz,List.getElem?_map,hdr hj hy,Option.map_some,hd]) (by
     have:(l.drop q).length=l.length-q:=List.length_drop
     omega)
    rw[show q+(j-q)=j by omega]at r2
    exact hanc k j r2
   ·have:=zE3 g5 (k-q) (j-q) d (by simp only[zRz,List.getElem?_map,hdr hk hx,Option.map_some,hxd]) (by simp only[zRz,List.getElem?_map,hdr hj hy,Option.map_some,hd])
    omega
theorem zYe{P:Program}{rr:Bool}{N rid:Nat}{ops:Array Oper}{l:List AOper}{p:Nat}{un:Nat→Nat→Bool}(hs:Stat P N ops l p un)(hm:P.follows .mixedOrders=true){Q:Exit→St→Prop}{s:St}
 (h:zB6 P un (l.take p) 0 s.E s.H [] [] fun E H=>zA2 P (l.drop p) ⟨s.D,E,H⟩ (Q .normal)):AW P rr N (.region rid ops true) Q s:=by
 intro ro c0 a0 _ hH hok hr
 refine wpIn_region_any hm ?_
 have hok':=Ctx.drew_ok hok
 obtain⟨M,hM⟩:=hok.fin
 have hinj: ∀i j,M+i=M+j→i=j:=fun i j h=>by omega
 have hfree: ∀j,¬c0.U (M+j)∧¬c0.R (M+j):=fun j=>⟨fun h=>by have:=hM _ (.inl h);omega,fun h=>by have:=hM _ (.inr h);omega⟩
 obtain⟨val,wr,rd,told,hK⟩:=extract (β:=fun i=>M+i) hinj (l.take p) 0 s.E s.H [] [] h (fun j _=>hH▸zDC hok (hfree j).1)
 have hlenA:(l.take p).length=p:=by have:=hs.len;have:=hs.ple;simp;omega
 rw[hlenA]at hK
 let c1:Ctx:={ c0.drew with R:=fun b=>c0.R b∨∃i,i<p∧b=M+i }
 have hl01:Later0 c0.drew c1:=⟨Nat.le_refl _,rfl,rfl,rfl,fun _ h=>h,fun _ x' _ hx=>⟨x',hx,Nat.le_refl _,fun _=>⟨rfl,fun _ _ cells e=>⟨cells,e,fun arr h=>⟨arr,h,rfl⟩⟩⟩⟩,fun _ _ h=>⟨rfl,h⟩⟩
 have hok1:Ok c1:=by
  refine⟨hok'.used,⟨M+p,fun b hb=>?_⟩,hok'.inj,fun i x hx=>(hok'.blk i x hx).later0 hl01 rfl rfl⟩
  rcases hb with h|h|⟨i,hi,e⟩
  ·have:=hM b (.inl h);omega
  ·have:=hM b (.inr h);omega
  ·omega
 have hlat:Later c0 c1:=⟨(c0.drew_later).toLater0.trans hl01,fun b hb=>⟨.inl hb,fun h=>h⟩⟩
 have tr: ∀{x:AV}{v:Value},Enc c0 x v→Enc c1 x v:=fun h=>h.later hlat
 refine zay hs (β:=fun i=>M+i) (D:=s.D) hinj told (c0:=c0) (fun i=>(hfree i).2) hK ops.size (Array.replicate ops.size false) (by simp) ?_ ?_ ?_ c1 a0 ?_
 ·have:(Array.replicate ops.size false).toList.filter id=[]:=by simp
  rw[this];simp
 ·intro i o e hi;simp[Array.getD_eq_getD_getElem?,Array.getElem?_replicate]at hi
  split at hi<;>simp at hi
 ·intro j _;simp[Array.getD_eq_getD_getElem?,Array.getElem?_replicate];split<;>rfl
 ·have hLf: ∀j,(Array.replicate ops.size false).getD j false=false:=by
   intro j;simp[Array.getD_eq_getD_getElem?,Array.getElem?_replicate];split<;>rfl
  refine⟨hok1,hlat,hr.size,hr.dlen,fun i hi=>let⟨r,e,k⟩:=hr.dmark i hi;⟨r,e,tr k⟩,fun j t _ hL=>?_,fun t _=>tr (hr.tmp t),?_,fun j hj _=>⟨(hfree j).1,.inr ⟨j,hj,rfl⟩⟩⟩
  ·rw[hLf]at hL;cases hL
  ·have: ∀m,hof s.H wr (fun j=>(Array.replicate ops.size false).getD j false) m=s.H:=by
    intro m
    induction m with
    |zero=>rfl
    |succ m ih=>simp only[hof,hLf];rw[if_neg (by simp)];simpa[hLf]using ih
   rw[this];exact hH
end Go.Proofs.YtmndejlpfmmaiaaGreatDoor.Fw
namespace Go.Proofs.YtmndejlpfmmaiaaGreatDoor.Fw
open Go
def zHs(E:Env):List Nat→List AV→Env
 |p::ps,x::xs=>zHs (E.set p x) ps xs
 |_,_=>E
def zWl(L:LoopState→Option Code→ABlk)(b:Nat)(K:AV→AHeap→Prop):Exit→St→Prop
 |.normal,s=>s.H b=some (L .busy none)∧K (.bool true) (s.H.upd b (some (L .ready none)))
 |.ret,s=>s.H b=some (L .busy none)∧K (.bool false) (s.H.upd b (some (L .done (some .ret))))
 |.exit i,s=>s.H b=some (L .busy none)∧K (.bool false) (s.H.upd b (some (L .done (some (.exit i)))))
 |_,_=>False
def zQ2(Q:Exit→St→Prop):Option Code→St→Prop
 |none,s=>Q .normal s
 |some .ret,s=>Q .ret s
 |some (.exit i),s=>Q (.exit i) s
 |_,_=>False
def zZp(P:Program)(ps:List Nat)(WA WB:(Exit→St→Prop)→St→Prop)(g:AV)(Q:Exit→St→Prop)(s:St):Prop:=
 match g with
 |.fn (.func f) first caps=> ∀(L:LoopState→Option Code→ABlk)(b d:Nat),s.H b=none→s.H d=none→b≠d→
  (∀Hh args K,Hh b=some (L .ready none)→args.length=ps.length→
   (∀R1,(∀s1,s1.D=[]→s1.H b=some (L .ready none)→(∀R2,(∀e s2,Settle (zWl L b K e) s2→R2 e s2)→WB R2 ⟨[],s1.E,s1.H.upd b (some (L .busy none))⟩)→R1 .normal s1)→WA R1 ⟨[],zHs s.E ps args,Hh⟩)→YieldW P b args Hh K)→
  Run P f (first++[.yld b]++caps) ((s.H.upd d (some (.raw (.deferred (some []))))).upd b (some (L .ready none)))
   (fun _ H'=> ∃st pend,st≠.busy∧H' b=some (L st pend)∧zQ2 Q pend ⟨d::s.D,s.E,H'.upd b none⟩)
 |_=>False
theorem zRm{N:Nat}{c:Ctx}: ∀(ps:List Nat)(args:List AV)(vs:List Value)(E:Env)(tmps:Array Value),tmps.size=N→(∀t,Enc c (E.get t) (tmps.getD t undef))→vs.length=args.length→args.length=ps.length→(∀p∈ps,p<N)→
 (∀i(h:i<args.length)(h':i<vs.length),Enc c (args[i]) (vs[i]))→
 ((ps.zip vs).foldl (fun tm p=>tm.setIfInBounds p.1 p.2) tmps).size=N∧∀t,Enc c ((zHs E ps args).get t) (((ps.zip vs).foldl (fun tm p=>tm.setIfInBounds p.1 p.2) tmps).getD t undef):=by
 intro ps
 induction ps with
 |nil=>intro args vs E tmps h1 h2 _ _ _ _;exact⟨h1,fun t=>by simpa[zHs]using h2 t⟩
 |cons p ps ih=>
  intro args vs E tmps h1 h2 h3 h4 h5 h6
  match args,vs,h3,h4 with
  |x::args,v::vs,h3,h4=>
   simp only[zHs,List.zip_cons_cons,List.foldl_cons]
   have hp:=h5 p (List.mem_cons_self ..)
   refine ih args vs (E.set p x) (tmps.setIfInBounds p v) (by simpa using h1) (fun t=>?_) (by simpa using h3) (by simpa using h4) (fun q hq=>h5 q (List.mem_cons_of_mem _ hq)) (fun i hi hi'=>h6 (i+1) (by simpa using hi) (by simpa using hi'))
   rw[Env.get_set]
   by_cases e:t=p
   ·subst e
    rw[if_pos rfl,Array.getD_eq_getD_getElem?,Array.getElem?_setIfInBounds_self_of_lt (by omega)]
    exact h6 0 (by simp) (by simp)
   ·rw[if_neg e,Array.getD_eq_getD_getElem?,Array.getElem?_setIfInBounds_ne (fun h=>e h.symm),← Array.getD_eq_getD_getElem?]
    exact h2 t
theorem zKT{P:Program}{N b:Nat}{fn:FuncId}{ps:Array Tmp}{assign body:Code}{E:Env}{H:AHeap}{args:List AV}{K:AV→AHeap→Prop}
 (hH:H b=some (.loop .ready none fn ps assign body N E)) (hl:args.length=ps.size) (hps: ∀p∈ps.toList,p<N)
 (h:AW P true N assign (fun e s1=>e=.normal∧s1.D=[]∧s1.H b=some (.loop .ready none fn ps assign body N E)∧
  AW P true N body (fun e s2=>Settle (zWl (fun st p=>.loop st p fn ps assign body N E) b K e) s2) ⟨[],s1.E,s1.H.upd b (some (.loop .busy none fn ps assign body N E))⟩) ⟨[],zHs E ps.toList args,H⟩):YieldW P b args H K:=by
 intro c vs v hc hok hv hs he
 obtain⟨tmps,dd,g1,g2,g3⟩:=hok.blk b _ (by rw[hc];exact hH)
 have lt0:c.μ b<c.w.heap.size:=(Array.getElem?_eq_some_iff.1 g1).1
 obtain rfl:v=.func (.yield (c.μ b)) #[] #[]:=by
  cases hv with
  |yld _ _ _ _ hv'=>exact hv' _ (by rw[hc];exact hH) rfl
 have hU:c.U b:=hok.used b (by rw[hc,hH];simp)
 refine⟨c.μ b,fn,_,assign,body,rfl,run_yield g1 (by simpa[hl]using hs),?_⟩
 refine roundIn_of_wpIn (F:=Fence.wide) trivial ?_
 have hrel:RelA N c [] (zHs E ps.toList args) { tmps:=(ps.zip vs).foldl (fun tmps (t,a)=>tmps.setIfInBounds t a) tmps,defers:=[] }:=by
  have e:(ps.zip vs).foldl (fun tmps (t,a)=>tmps.setIfInBounds t a) tmps=(ps.toList.zip vs.toList).foldl (fun tm p=>tm.setIfInBounds p.1 p.2) tmps:=by
   rw[← Array.foldl_toList,Array.toList_zip]
  obtain⟨r1,r2⟩:=zRm (c:=c) ps.toList args vs.toList E tmps g2 g3 (by simpa using hs) (by simpa using hl) hps (fun i hi hi'=>by
   have:=he i hi (by simpa using hi')
   simpa using this)
  refine⟨by simp only[e];exact r1,fun t=>by simp only[e];exact r2 t,rfl,fun i hi=>absurd hi (by simp)⟩
 have hA:=h (some (c.μ b)) c _ (fun h=>by cases h) hc hok hrel
 refine wpIn_mono hA ?_
 rintro e a1 w1 ⟨c1,s1,k1,rfl,k3,k4,k5,rfl,kD,kH,kb⟩
 have same: ∀(c':Ctx){st:LoopState}{pe:Option Code},Later c c'→c'.H b=some (.loop st pe fn ps assign body N E)→c'.μ b=c.μ b:=fun c' st pe hl' hx=>by
  obtain⟨x,x1,x2,x3⟩:=hl'.old b _ hU hx
  rw[hc,hH]at x1
  injection x1 with x1
  subst x1
  exact(x3 rfl).1
 have turn: ∀(c':Ctx){st st':LoopState}{pe pe':Option Code}{r:Loop},Ok c'→c'.H b=some (.loop st pe fn ps assign body N E)→c'.w.heap[c'.μ b]? =some (.loop r)→r.fn=fn→r.params=ps→r.assign=assign→r.body=body→r.tmps.size=N→(∀t,Enc c' (E.get t) (r.tmps.getD t undef))→
  Later c' (c'.putO b (.loop st' pe' fn ps assign body N E) (.loop { r with state:=st',pending:=pe' }))∧Ok (c'.putO b (.loop st' pe' fn ps assign body N E) (.loop { r with state:=st',pending:=pe' })):=by
  intro c' st st' pe pe' r hok' hx hr e1 e2 e3 e4 e5 e6
  have hlat:=Ctx.putO_later hok' hx rfl trivial (y:=.loop st' pe' fn ps assign body N E) rfl (fun _ _ _ h=>by cases h) (.loop { r with state:=st',pending:=pe' })
  refine⟨hlat,Ctx.putO_ok hok' hx rfl trivial rfl (fun _ _ _ h=>by cases h) _ ⟨r.tmps,r.defers,?_,e5,fun t=>(e6 t).later hlat⟩⟩
  show(c'.w.putObj (c'.μ b) _).heap[c'.μ b]? =_
  rw[World.putObj_heap_same (Array.getElem?_eq_some_iff.1 hr).1,← e1,← e2,← e3,← e4]
 obtain⟨tm1,dd1,m1,m2,m3⟩:=k3.blk b _ (by rw[k1];exact kH)
 have mu1:=same c1 k5 (by rw[k1];exact kH)
 obtain⟨t1,t2⟩:=turn c1 (st':=.busy) (pe':=none) k3 (by rw[k1];exact kH) m1 rfl rfl rfl rfl m2 m3
 refine⟨_,run_beginRound (by rw[← mu1];exact m1) rfl,?_⟩
 have hB:=kb (some (c.μ b)) _ a1 (fun h=>by cases h) (by show c1.H.upd b _=_;rw[k1]) t2 (by rw[kD]at k4;exact k4.later t1)
 rw[show(c1.putO b (.loop .busy none fn ps assign body N E) (.loop { state:=.busy,pending:=none,fn:=fn,tmps:=tm1,params:=ps,assign:=assign,body:=body,defers:=dd1 })).w=c1.w.putObj (c.μ b) (.loop { state:=.busy,pending:=none,fn:=fn,tmps:=tm1,params:=ps,assign:=assign,body:=body,defers:=dd1 }) by rw[← mu1];rfl]at hB
 refine wpIn_mono hB ?_
 rintro e a2 w2 ⟨c2,s2,n1,rfl,n3,n4,n5,n6⟩
 obtain⟨c3,s3,q1,q2,q3,q4,q5,q6⟩:=n6 _ c2 a2 n1 n3 n4
 have lat3:Later c c3:=(k5.trans t1).trans (n5.trans q5)
 have fin: ∀(st:LoopState)(jump:Option Code),st=(if jump.isNone then .ready else .done)→s3.H b=some (.loop .busy none fn ps assign body N E)→K (.bool jump.isNone) (s3.H.upd b (some (.loop st jump fn ps assign body N E)))→
  ∃v w',(Instr.endRound (c.μ b) jump).run P c2.w=.ok v w'∧∃(c':Ctx)(v':Value)(r:AV),Ending.returned v=.returned v'∧c'.w=w'∧Ok c'∧Later c c'∧Enc c' r v'∧K r c'.H:=by
  intro st jump est hb hk
  have hx:c3.H b=some (.loop .busy none fn ps assign body N E):=by rw[q1];exact hb
  obtain⟨tm3,dd3,o1,o2,o3⟩:=q3.blk b _ hx
  have mu3:=same c3 lat3 hx
  obtain⟨u1,u2⟩:=turn c3 (st':=st) (pe':=jump) q3 hx o1 rfl rfl rfl rfl o2 o3
  have hend:=run_endRound (P:=P) jump (show c2.w.heap[c.μ b]? =some (.loop ⟨.busy,none,fn,tm3,ps,assign,body,dd3⟩) by rw[← q2,← mu3];exact o1)
  refine⟨_,_,hend,_,_,.bool jump.isNone,rfl,?_,u2,lat3.trans u1,.bool _,?_⟩
  ·show c3.w.putObj (c3.μ b) _=c2.w.putObj (c.μ b) _
   rw[q2,mu3,est]
  ·show K _ (c3.H.upd b _)
   rw[q1];exact hk
 cases e with
 |normal=>exact fin .ready none rfl q6.1 q6.2
 |ret=>exact fin .done (some .ret) rfl q6.1 q6.2
 |exit i=>exact fin .done (some (.exit i)) rfl q6.1 q6.2
 |goto l=>exact q6.elim
 |panic ch=>exact q6.elim
 |outgrown=>exact q6.elim
theorem zcy{P:Program}{N:Nat}{g:Operand}{ps:Array Tmp}{assign body:Code}{Q:Exit→St→Prop}{s:St}{go:Opd}(hg:zBB g=some go)(hps: ∀p∈ps.toList,p<N){WA WB:(Exit→St→Prop)→St→Prop}
 (ha: ∀Q s,WA Q s→AW P true N assign Q s) (hb: ∀Q s,WB Q s→AW P true N body Q s) (h:zZp P ps.toList WA WB (go.ev s.E.get) Q s):AW P false N (.rangeFunc g ps assign body) Q s:=by
 intro ro c a hro hH hok hrel
 obtain rfl:ro=none:=hro rfl
 refine wpIn_rangeFunc ?_
 intro fn hfn
 have hge:=zAH (c:=c) (E:=s.E.get) (a:=a) hg (fun t _=>hrel.tmp t)
 unfold zZp at h
 split at h
 ·rename_i f first caps hf
  rw[hf]at hge
  obtain⟨d,hd⟩:=hok.fresh
  have hl1:Later c (c.new d (.deferred (some [])) (.raw (.deferred (some [])))):=Ctx.new_later hok hd _ _
  have hμd:(c.new d (.deferred (some [])) (.raw (.deferred (some [])))).μ d=c.w.heap.size:=by simp[Ctx.new]
  have hok1:Ok (c.new d (.deferred (some [])) (.raw (.deferred (some [])))):=Ctx.new_ok hok hd _ _ ⟨by rw[hμd];exact zB1 _ _,fun _ _ _ h=>by cases h⟩
  have hw1:(c.new d (.deferred (some [])) (.raw (.deferred (some [])))).w=c.w.alloc (.deferred (some [])):=rfl
  have hH1:(c.new d (.deferred (some [])) (.raw (.deferred (some [])))).H=s.H.upd d (some (.raw (.deferred (some [])))):=by rw[← hH];rfl
  have hmark:Enc (c.new d (.deferred (some [])) (.raw (.deferred (some [])))) (.ptr d 0 0) (.pointer (some ⟨c.w.heap.size,0,none⟩)):=zEE c d _ _
  have hUd:(c.new d (.deferred (some [])) (.raw (.deferred (some [])))).U d:=.inr rfl
  generalize c.new d (.deferred (some [])) (.raw (.deferred (some [])))=c1 at*
  obtain⟨b,hbf⟩:=hok1.fresh
  have hbd:b≠d:=fun e=>hbf.1 (e▸hUd)
  have hcb:s.H b=none:=by rw[← hH];exact zDC hok (fun k=>hbf.1 (hl1.used _ k))
  have hcd:s.H d=none:=by rw[← hH];exact zDC hok hd.1
  have hl2:Later c1 (c1.new b (.loop ⟨.ready,none,fn,a.tmps,ps,assign,body,c.w.heap.size⟩) (.loop .ready none fn ps assign body N s.E)):=Ctx.new_later hok1 hbf _ _
  have hμb:(c1.new b (.loop ⟨.ready,none,fn,a.tmps,ps,assign,body,c.w.heap.size⟩) (.loop .ready none fn ps assign body N s.E)).μ b=c.w.heap.size+1:=by simp[Ctx.new,hw1]
  have hok2:Ok (c1.new b (.loop ⟨.ready,none,fn,a.tmps,ps,assign,body,c.w.heap.size⟩) (.loop .ready none fn ps assign body N s.E)):=by
   refine Ctx.new_ok hok1 hbf _ _ ⟨a.tmps,c.w.heap.size,?_,hrel.size,fun t=>((hrel.tmp t).later hl1).later hl2⟩
   rw[hμb]
   have:=zB1 c1.w (.loop ⟨.ready,none,fn,a.tmps,ps,assign,body,c.w.heap.size⟩)
   rw[hw1,World.size_alloc,← hw1]at this
   exact this
  have hw2:(c1.new b (.loop ⟨.ready,none,fn,a.tmps,ps,assign,body,c.w.heap.size⟩) (.loop .ready none fn ps assign body N s.E)).w=(c.w.alloc (.deferred (some []))).alloc (.loop ⟨.ready,none,fn,a.tmps,ps,assign,body,c.w.heap.size⟩):=by rw[← hw1];rfl
  have hH2:(c1.new b (.loop ⟨.ready,none,fn,a.tmps,ps,assign,body,c.w.heap.size⟩) (.loop .ready none fn ps assign body N s.E)).H=(s.H.upd d (some (.raw (.deferred (some []))))).upd b (some (.loop .ready none fn ps assign body N s.E)):=by rw[← hH1];rfl
  have hyb:Enc (c1.new b (.loop ⟨.ready,none,fn,a.tmps,ps,assign,body,c.w.heap.size⟩) (.loop .ready none fn ps assign body N s.E)) (.yld b) (.func (.yield (c.w.heap.size+1)) #[] #[]):=
   .yld b _ ⟨_,rfl⟩ (.inr rfl) fun _ _ _=>by rw[hμb]
  have hUb:(c1.new b (.loop ⟨.ready,none,fn,a.tmps,ps,assign,body,c.w.heap.size⟩) (.loop .ready none fn ps assign body N s.E)).U b:=.inr rfl
  have hHb:(c1.new b (.loop ⟨.ready,none,fn,a.tmps,ps,assign,body,c.w.heap.size⟩) (.loop .ready none fn ps assign body N s.E)).H b=some (.loop .ready none fn ps assign body N s.E):=by rw[hH2,zAC]
  generalize c1.new b (.loop ⟨.ready,none,fn,a.tmps,ps,assign,body,c.w.heap.size⟩) (.loop .ready none fn ps assign body N s.E)=c2 at*
  have hrun:=h (fun st p=>.loop st p fn ps assign body N s.E) b d hcb hcd hbd (fun Hh args K h1 h2 h3=>zKT h1 (by simpa using h2) hps
   (ha _ _ (h3 _ fun s1 e2 e3 e4=>⟨rfl,e2,e3,hb _ _ (e4 _ fun _ _ h=>h)⟩)))
  rw[← hH2]at hrun
  obtain⟨⟨fnc,hfun,hname,hbody⟩,hrun⟩:=hrun
  have hl12:=hl1.trans hl2
  obtain⟨fv,cv,hv,hsz,hall⟩:=zPf (args:=[.yld b]) (as:= #[.func (.yield (c.w.heap.size+1)) #[] #[]]) (hge.later hl12) rfl (fun i hi hi'=>by
   have:i=0:=by simp at hi;omega
   subst this;exact hyb)
  have hname':fnc.name≠"runtime.NumGoroutine":=by simpa using hname
  have hbody': ¬fnc.body=none:=by intro h;rw[h]at hbody;cases hbody
  refine⟨c.w.heap.size+1,[{ target:=.collected c.w.heap.size,args:= #[] }],c2.w,{ target:=.fn (.func f) cv,args:=fv++ #[.func (.yield (c.w.heap.size+1)) #[] #[]] },c2.w,f,fv++ #[.func (.yield (c.w.heap.size+1)) #[] #[]]++cv,c2.w,?_,?_,?_,?_,?_,?_⟩
  ·rw[hw2];exact run_enterLoop_outer _ _ _ _ _
  ·simp[resolve,Deferred.ofValue,hv];rfl
  ·exact fun _ _=>trivial
  ·simp[invoke,callFunc,hfun,hname',hbody']
  ·intro h;cases h
  ·refine zHU (CallsIn.calls (F:=Fence.wide) (n:=0) ?_ room_wide)
   refine(callsIn_wide.2 (hrun c2 _ rfl hok2 hsz hall)).mono ?_
   rintro e w3 ⟨c3,v,r,rfl,rfl,k3,k4,_,st,pend,kst,kH,kq⟩
   have mu3:c3.μ b=c.w.heap.size+1:=by
    obtain⟨x,x1,x2,x3⟩:=k4.old b _ hUb kH
    rw[hHb]at x1
    injection x1 with x1
    subst x1
    rw[(x3 rfl).1,hμb]
   obtain⟨tm3,dd3,o1,o2,o3⟩:=k3.blk b _ kH
   have hend:=run_endLoop (P:=P) (show c3.w.heap[c.w.heap.size+1]? =some (.loop ⟨st,pend,fn,tm3,ps,assign,body,dd3⟩) by rw[← mu3];exact o1) kst
   refine⟨pend,_,hend,?_⟩
   have hlat:=Ctx.putO_later k3 kH rfl trivial (y:=.loop .exhausted pend fn ps assign body N s.E) rfl (fun _ _ _ h=>by cases h) (.loop ⟨.exhausted,pend,fn,tm3,ps,assign,body,dd3⟩)
   have hok4:=Ctx.putO_ok k3 kH rfl trivial (y:=.loop .exhausted pend fn ps assign body N s.E) rfl (fun _ _ _ h=>by cases h) (.loop ⟨.exhausted,pend,fn,tm3,ps,assign,body,dd3⟩) ⟨tm3,dd3,by
    show(c3.w.putObj (c3.μ b) _).heap[c3.μ b]? =_
    rw[World.putObj_heap_same (Array.getElem?_eq_some_iff.1 o1).1],o2,fun t=>(o3 t).later hlat⟩
   have hlat5:=hlat.trans (Ctx.drop_later (c3.putO b (.loop .exhausted pend fn ps assign body N s.E) (.loop ⟨.exhausted,pend,fn,tm3,ps,assign,body,dd3⟩)) b)
   have hok5:=Ctx.drop_ok hok4 b
   have hw5:((c3.putO b (.loop .exhausted pend fn ps assign body N s.E) (.loop ⟨.exhausted,pend,fn,tm3,ps,assign,body,dd3⟩)).drop b).w=c3.w.putObj (c.w.heap.size+1) (.loop ⟨.exhausted,pend,fn,tm3,ps,assign,body,dd3⟩):=by rw[← mu3];rfl
   have hH5:((c3.putO b (.loop .exhausted pend fn ps assign body N s.E) (.loop ⟨.exhausted,pend,fn,tm3,ps,assign,body,dd3⟩)).drop b).H=c3.H.upd b none:=zAR _ _ _ _
   generalize(c3.putO b (.loop .exhausted pend fn ps assign body N s.E) (.loop ⟨.exhausted,pend,fn,tm3,ps,assign,body,dd3⟩)).drop b=c5 at*
   rw[← hw5]
   have lat15:Later c1 c5:=(hl2.trans k4).trans hlat5
   have lat05:Later c c5:=hl1.trans lat15
   have hrel5:RelA N c5 (d::s.D) s.E { a with defers:=[{ target:=.collected c.w.heap.size,args:= #[] }]++a.defers }:=by
    refine⟨hrel.size,fun t=>(hrel.tmp t).later lat05,by simp[hrel.dlen],fun i hi=>?_⟩
    cases i with
    |zero=>exact⟨c.w.heap.size,rfl,hmark.later lat15⟩
    |succ i=>
     obtain⟨r,r1,r2⟩:=hrel.dmark i (by simpa using hi)
     exact⟨r,by simpa using r1,by simpa using r2.later lat05⟩
   unfold zQ2 at kq
   split at kq
   ·exact⟨c5,_,hH5,rfl,hok5,hrel5,lat05,kq⟩
   ·exact wpIn_mono (zWC (P:=P) (rr:=false) kq none c5 _ (fun _=>rfl) hH5 hok5 hrel5) fun _ _ _ hp=>Post.mono lat05 (fun _ q=>q) hp
   ·exact wpIn_mono (zPo (P:=P) (rr:=false) kq none c5 _ (fun _=>rfl) hH5 hok5 hrel5) fun _ _ _ hp=>Post.mono lat05 (fun _ q=>q) hp
   ·exact kq.elim
 ·exact h.elim
inductive ACode where
 |skip
 |reg (l:List AOper) (kp:List Nat)
 |draw (a b:List AOper) (us:List Nat) (kp:List Nat)
 |seq (a b:ACode)
 |cond (c:Opd) (a b:ACode)
 |block (n:Nat) (c:ACode)
 |loop (c:ACode)
 |exit (n:Nat)
 |ret
 |scope0 (c:ACode)
 |scopeJ (l:Nat) (a b:ACode)
 |goto (l:Nat)
 |refuse
 |rfn (g:Opd) (ps:List Nat) (a b:ACode)
def St.keep(s:St)(l:List Nat):St:=⟨s.D,s.E.keep l,s.H⟩
def zW1(Q:Exit→St→Prop):Exit→St→Prop
 |.exit n,s=>Settle (Q (.exit n)) s
 |e,s=>Q e s
def W(P:Program):ACode→(Exit→St→Prop)→St→Prop
 |.skip,Q,s=>Q .normal s
 |.reg l kp,Q,s=>zA2 P l s fun s'=>Q .normal (s'.keep kp)
 |.draw a b us kp,Q,s=>zB6 P (unM us) a 0 s.E s.H [] [] fun E H=>zA2 P b ⟨s.D,E,H⟩ fun s'=>Q .normal (s'.keep kp)
 |.seq a b,Q,s=>W P a (zDK (fun s'=>W P b Q s') Q) s
 |.cond c a b,Q,s=>match c.ev s.E.get with
  |.bool t=>(t=true→W P a Q s)∧(t=false→W P b Q s)
  |_=>False
 |.block n c,Q,s=>W P c (zDZ n Q) s
 |.loop c,Q,s=> ∃I:Nat→St→Prop,(∃n,Settle (I n) s)∧∀n s',I n s'→W P c (zDK (Settle fun s''=> ∃n',n'<n∧I n' s'') (zW1 Q)) s'
 |.exit n,Q,s=>Q (.exit n) s
 |.ret,Q,s=>Q .ret s
 |.scope0 c,Q,s=>W P c (zF0 Q) s
 |.scopeJ l a b,Q,s=> ∃J:Nat→St→Prop,W P a (zHx l (Settle fun s'=> ∃n,J n s') Q) s∧∀n s',J n s'→W P b (zHx l (Settle fun s''=> ∃n',n'<n∧J n' s'') Q) s'
 |.goto l,Q,s=>Q (.goto l) s
 |.refuse,_,_=>False
 |.rfn g ps a b,Q,s=>zZp P ps (W P a) (W P b) (g.ev s.E.get) Q s
structure Plan where
 kp:Nat→List Nat
 dr:Nat→Nat×List Nat×List Nat
def zDN:Code→Bool
 |.seq a b=>zDN a||zDN b
 |.cond _ a b=>zDN a||zDN b
 |.block _ c=>zDN c
 |.loop c=>zDN c
 |.scope c=>zDN c
 |.goto _=>true
 |_=>false
def zAQ:Code→ACode→Option (Nat×Code×ACode)
 |.seq (.label l) b,.seq _ y=>some (l,b,y)
 |.seq _ b,.seq _ y=>zAQ b y
 |_,_=>none
def zUv:Code→Nat→Bool
 |.seq (.label l') _,l=>l'==l
 |.seq a b,l=>(findLabel a l).isNone&&zUv b l
 |_,_=>false
def zKh(c:Code)(x:ACode):ACode:=match zAQ c x with
 |some (l,b,y)=>if zDN b=true∧zUv c l=true then .scopeJ l x y else .scope0 x
 |none=>.scope0 x
theorem zHB: ∀(c:Code)(x:ACode){l:Nat}{b:Code}{y:ACode},zAQ c x=some (l,b,y)→zUv c l=true→findLabel c l=some (.seq .skip b)
 |.seq (.label l') b',.seq x' y',l,b,y,h,hc=>by
  simp only[zAQ,Option.some.injEq,Prod.mk.injEq]at h
  obtain⟨rfl,rfl,_⟩:=h
  simp[findLabel]
 |.seq a b',x,l,b,y,h,hc=>by
  cases a with
  |label l'=>
   cases x with
   |seq x' y'=>
    simp only[zAQ,Option.some.injEq,Prod.mk.injEq]at h
    obtain⟨rfl,rfl,_⟩:=h
    simp[findLabel]
   |_=>simp[zAQ]at h
  |_=>
   cases x with
   |seq x' y'=>
    simp only[zAQ]at h
    simp only[zUv,Bool.and_eq_true,Option.isNone_iff_eq_none]at hc
    rw[findLabel,hc.1]
    exact zHB b' y' h hc.2
   |_=>simp[zAQ]at h
 |.skip,x,l,b,y,h,_=>by simp[zAQ]at h
 |.region ..,x,l,b,y,h,_=>by simp[zAQ]at h
 |.cond ..,x,l,b,y,h,_=>by simp[zAQ]at h
 |.block ..,x,l,b,y,h,_=>by simp[zAQ]at h
 |.loop ..,x,l,b,y,h,_=>by simp[zAQ]at h
 |.exit ..,x,l,b,y,h,_=>by simp[zAQ]at h
 |.ret,x,l,b,y,h,_=>by simp[zAQ]at h
 |.label ..,x,l,b,y,h,_=>by simp[zAQ]at h
 |.scope ..,x,l,b,y,h,_=>by simp[zAQ]at h
 |.goto ..,x,l,b,y,h,_=>by simp[zAQ]at h
 |.refuse ..,x,l,b,y,h,_=>by simp[zAQ]at h
 |.rangeFunc ..,x,l,b,y,h,_=>by simp[zAQ]at h
def zYN(o:Oper):Bool:=match o.op with
 |.panic _=>true
 |_=>false
def comp(P:Program)(N:Nat)(pl:Plan)(top:Bool):Code→Option ACode
 |.skip=>some .skip
 |.region rid ops false=>if ops.toList.any zYN=true then some .refuse else(zBo P N ops ops.toList).map (.reg · (pl.kp rid))
 |.region rid ops true=>match zBo P N ops ops.toList with
  |some l=>if zH1 ops.toList []=(pl.dr rid).2.2∧zYt ops l (pl.dr rid).1 (pl.dr rid).2.1 (pl.dr rid).2.2=true then some (.draw (l.take (pl.dr rid).1) (l.drop (pl.dr rid).1) (pl.dr rid).2.1 (pl.kp rid))else none
  |none=>none
 |.seq a b=>match comp P N pl top a,comp P N pl top b with
  |some x,some y=>some (.seq x y)
  |_,_=>none
 |.cond c a b=>match zBB c,comp P N pl top a,comp P N pl top b with
  |some c,some x,some y=>some (.cond c x y)
  |_,_,_=>none
 |.block n c=>(comp P N pl top c).map (.block n)
 |.loop c=>(comp P N pl top c).map .loop
 |.exit n=>some (.exit n)
 |.ret=>some .ret
 |.label _=>some .skip
 |.scope c=>(comp P N pl top c).map (zKh c)
 |.goto l=>some (.goto l)
 |.refuse _=>some .refuse
 |.rangeFunc g ps a b=>match top,zBB g,comp P N pl false a,comp P N pl false b with
  |true,some g,some x,some y=>if ps.toList.all (· <N)=true then some (.rfn g ps.toList x y)else none
  |_,_,_,_=>none
theorem AW.unsettle{P:Program}{rr:Bool}{N:Nat}{c:Code}{Q:Exit→St→Prop}{s:St}(h:AW P rr N c (fun e=>Settle (Q e)) s):AW P rr N c Q s:=
 fun ro c a hr hH hok hrel=>wpIn_mono (h ro c a hr hH hok hrel) fun _ _ _ hp=>Post.settle hp
def zUH(P:Program)(N:Nat)(pl:Plan)(c:Code):Prop:= ∀{rr top:Bool}(_:top=true→rr=false)(ac:ACode),comp P N pl top c=some ac→∀(Q:Exit→St→Prop)(s:St),W P ac Q s→AW P rr N c Q s
def zYl(P:Program)(N:Nat)(pl:Plan):Code→Prop
 |.seq a b=>zUH P N pl a∧zUH P N pl b∧zYl P N pl b
 |_=>True
theorem zJ2{P:Program}{N:Nat}{pl:Plan}{top:Bool}: ∀(c:Code)(x:ACode){l:Nat}{b:Code}{y:ACode},zAQ c x=some (l,b,y)→comp P N pl top c=some x→zYl P N pl c→zUH P N pl b∧comp P N pl top b=some y
 |.seq a b',x,l,b,y,h,hx,hc=>by
  simp only[comp]at hx
  split at hx
  ·rename_i x1 y1 hx1 hy1
   injection hx with hx
   subst hx
   obtain⟨_,gb,hch⟩:=hc
   cases a with
   |label l'=>
    simp only[zAQ,Option.some.injEq,Prod.mk.injEq]at h
    obtain⟨_,rfl,rfl⟩:=h
    exact⟨gb,hy1⟩
   |_=>
    simp only[zAQ]at h
    exact zJ2 b' y1 h hy1 hch
  ·cases hx
 |.skip,x,l,b,y,h,_,_=>by simp[zAQ]at h
 |.region ..,x,l,b,y,h,_,_=>by simp[zAQ]at h
 |.cond ..,x,l,b,y,h,_,_=>by simp[zAQ]at h
 |.block ..,x,l,b,y,h,_,_=>by simp[zAQ]at h
 |.loop ..,x,l,b,y,h,_,_=>by simp[zAQ]at h
 |.exit ..,x,l,b,y,h,_,_=>by simp[zAQ]at h
 |.ret,x,l,b,y,h,_,_=>by simp[zAQ]at h
 |.label ..,x,l,b,y,h,_,_=>by simp[zAQ]at h
 |.scope ..,x,l,b,y,h,_,_=>by simp[zAQ]at h
 |.goto ..,x,l,b,y,h,_,_=>by simp[zAQ]at h
 |.refuse ..,x,l,b,y,h,_,_=>by simp[zAQ]at h
 |.rangeFunc ..,x,l,b,y,h,_,_=>by simp[zAQ]at h
theorem zCQ{P:Program}{N:Nat}{pl:Plan}(hm:P.follows .mixedOrders=true): ∀(c:Code),zUH P N pl c∧zYl P N pl c:=by
 have region: ∀(rr:Bool)(kp:List Nat)(Q:Exit→St→Prop)(c:Code)(s:St),AW P rr N c (fun e s'=>e=.normal∧Q .normal (s'.keep kp)) s→AW P rr N c Q s:=by
  intro rr kp Q c s h
  refine AW.unsettle (AW.mono h fun e s' h=>?_)
  obtain⟨rfl,h⟩:=h
  exact Settle.keep kp h
 intro c
 induction c with
 |rangeFunc g ps a b iha ihb=>
  refine⟨?_,trivial⟩
  intro rr top htop ac h Q s hw
  simp only[comp]at h
  split at h
  ·rename_i g' x y hg hx hy
   obtain rfl:rr=false:=htop rfl
   split at h
   ·rename_i hps
    injection h with h;subst h
    exact zcy hg (fun p hp=>by simpa using List.all_eq_true.1 hps p hp) (iha.1 (fun e=>by cases e) x hx) (ihb.1 (fun e=>by cases e) y hy) hw
   ·cases h
  ·cases h
 |skip=>
  refine⟨?_,trivial⟩
  intro rr top htop ac h Q s hw;injection h with h;subst h;exact zYc hw
 |region rid ops draw=>
  refine⟨?_,trivial⟩
  intro rr top htop ac h Q s hw
  cases draw with
  |false=>
   simp only[comp]at h
   split at h
   ·injection h with h;subst h;exact hw.elim
   ·obtain⟨l,hl,rfl⟩:=zAY h
    refine region rr (pl.kp rid) Q _ s (zQo hl ?_)
    simp only[W]at hw
    simpa using hw
  |true=>
   simp only[comp]at h
   split at h
   ·rename_i l hl
    split at h
    ·rename_i hc
     injection h with h;subst h
     refine region rr (pl.kp rid) Q _ s (zYe (zW5 hl hc.1 hc.2) hm ?_)
     simp only[W]at hw
     simpa using hw
    ·cases h
   ·cases h
 |seq a b iha ihb=>
  refine⟨?_,⟨iha.1,ihb.1,ihb.2⟩⟩
  intro rr top htop ac h Q s hw
  simp only[comp]at h
  split at h
  ·rename_i x y hx hy
   injection h with h;subst h
   refine zQ1 (AW.mono (iha.1 htop x hx _ s hw) fun e s' h=>?_)
   cases e with
   |normal=>exact ihb.1 htop y hy Q s' h
   |_=>exact h
  ·cases h
 |cond c a b iha ihb=>
  refine⟨?_,trivial⟩
  intro rr top htop ac h Q s hw
  simp only[comp]at h
  split at h
  ·rename_i o x y ho hx hy
   injection h with h;subst h
   simp only[W]at hw
   split at hw
   ·rename_i t ht
    refine zYw (b:=t) (fun c' a' hH hok hr=>?_) (fun e=>iha.1 htop x hx Q s (hw.1 e)) (fun e=>ihb.1 htop y hy Q s (hw.2 e))
    have:=zAH (c:=c') (E:=s.E.get) (a:=a') ho (fun t _=>hr.tmp t)
    rw[ht]at this
    generalize hv:a'.eval c=v at this
    cases this
    rfl
   ·exact hw.elim
  ·cases h
 |block n c ih=>
  refine⟨?_,trivial⟩
  intro rr top htop ac h Q s hw;obtain⟨x,hx,rfl⟩:=zAY h;exact zT8 (ih.1 htop x hx _ s hw)
 |loop c ih=>
  refine⟨?_,trivial⟩
  intro rr top htop ac h Q s hw
  obtain⟨x,hx,rfl⟩:=zAY h
  obtain⟨I,h0,h1⟩:=hw
  refine zW4 I h0 fun n s' hI=>AW.unsettle (AW.mono (ih.1 htop x hx _ s' (h1 n s' hI)) fun e s'' h=>?_)
  cases e with
  |exit n=>exact h
  |normal=>exact Settle.now h
  |ret=>exact Settle.now h
  |goto n=>exact Settle.now h
  |panic c=>exact Settle.now h
  |outgrown=>exact Settle.now h
 |exit n=>
  refine⟨?_,trivial⟩
  intro rr top htop ac h Q s hw;injection h with h;subst h;exact zPo hw
 |ret=>
  refine⟨?_,trivial⟩
  intro rr top htop ac h Q s hw;injection h with h;subst h;exact zWC hw
 |label l=>
  refine⟨?_,trivial⟩
  intro rr top htop ac h Q s hw;injection h with h;subst h;exact zUa hw
 |scope c ih=>
  refine⟨?_,trivial⟩
  intro rr top htop ac h Q s hw;obtain⟨x,hx,rfl⟩:=zAY h
  unfold zKh at hw
  split at hw
  ·rename_i l b y hfl
   split at hw
   ·rename_i hc
    obtain⟨J,h0,h1⟩:=hw
    obtain⟨gb,hy⟩:=zJ2 _ _ hfl hx ih.2
    exact zQp (zHB _ _ hfl hc.2) J (ih.1 htop _ hx _ s h0) fun n s' hJ=>gb htop _ hy _ s' (h1 n s' hJ)
   ·exact zKC (ih.1 htop _ hx _ s hw)
  ·exact zKC (ih.1 htop _ hx _ s hw)
 |goto l=>
  refine⟨?_,trivial⟩
  intro rr top htop ac h Q s hw;injection h with h;subst h;exact zXY hw
 |refuse why=>
  refine⟨?_,trivial⟩
  intro rr top htop ac h Q s hw;injection h with h;subst h;exact hw.elim
theorem zNE{P:Program}{N:Nat}{pl:Plan}(hm:P.follows .mixedOrders=true)(c:Code){rr top:Bool}(ht:top=true→rr=false)(ac:ACode)(h:comp P N pl top c=some ac)(Q:Exit→St→Prop)(s:St)(hw:W P ac Q s):AW P rr N c Q s:=
 (zCQ hm c).1 ht ac h Q s hw
inductive RV where
 |t (n:Nat)
 |cell (n:Nat) (ag:Option Nat)
def zE7(P:Program):List ResultVar→Option (List RV)
 |[]=>some []
 |.tmp n::r=>(zE7 P r).map (.t n:: ·)
 |.cell n ty::r=>match zIP P ty,zE7 P r with
  |some ag,some l=>some (.cell n ag::l)
  |_,_=>none
def zKF(E:Nat→AV)(H:AHeap):List RV→(List AV→Prop)→Prop
 |[],K=>K []
 |.t n::r,K=>zKF E H r fun l=>K (E n::l)
 |.cell n ag::r,K=>zA9 H ag (E n) fun v=>zKF E H r fun l=>K (v::l)
def zan:List AV→AV
 |[v]=>v
 |l=>.tup l
theorem zOA{P:Program}{t:TypeId}{v r:Value}{w:World}(h:(Instr.loadAt t v).run P w=.ok r w):(do loadVar t (← asAddr v):Sem Value).run P w=.ok r w:=by
 unfold Instr.loadAt at h
 cases v with
 |pointer p=>
  cases p with
  |none=>simp[Instr.sureAddr]at h
  |some a=>simpa[Instr.sureAddr,asAddr]using h
 |_=>simp[Instr.sureAddr]at h
theorem zFj{P:Program}{c:Ctx}(hok:Ok c){E:Nat→AV}{a:Act}(hr: ∀t,Enc c (E t) (a.tmps.getD t undef)): ∀{rs:List ResultVar}{l:List RV}{K:List AV→Prop},zE7 P rs=some l→zKF E c.H l K→
 ∃(vs:List Value)(xs:List AV),(rs.mapM (m:=Sem) fun|.tmp t=>pure (a.tmps.getD t undef)|.cell n t=>do loadVar t (← asAddr (a.tmps.getD n undef))).run P c.w=.ok vs c.w∧vs.length=xs.length∧(∀i(h:i<xs.length)(h':i<vs.length),Enc c (xs[i]) (vs[i]))∧K xs
 |[],l,K,hl,h=>by
  injection hl with hl;subst hl
  exact⟨[],[],rfl,rfl,fun i h=>absurd h (by simp),h⟩
 |.tmp n::r,l,K,hl,h=>by
  obtain⟨l',hl',rfl⟩:=zAY hl
  obtain⟨vs,xs,h1,h2,h3,h4⟩:=zFj hok hr hl' h
  refine⟨a.tmps.getD n undef::vs,E n::xs,by simp only[List.mapM_cons,Sem.run_bind,Sem.run_pure,Result.andThen_ok,h1],by simp[h2],fun i hi hi'=>?_,h4⟩
  cases i with
  |zero=>exact hr n
  |succ i=>exact h3 i (by simpa using hi) (by simpa using hi')
 |.cell n ty::r,l,K,hl,h=>by
  simp only[zE7]at hl
  split at hl
  ·rename_i ag l' hag hl'
   injection hl with hl;subst hl
   obtain⟨x,v,g1,g2,g3⟩:=zF1 (P:=P) hok hag h (hr n)
   obtain⟨vs,xs,h1,h2,h3,h4⟩:=zFj hok hr hl' g3
   have g1':=zOA g1
   refine⟨v::vs,x::xs,by rw[List.mapM_cons,Sem.run_bind,g1',Result.andThen_ok,Sem.run_bind,h1];rfl,by simp[h2],fun i hi hi'=>?_,h4⟩
   cases i with
   |zero=>exact g2
   |succ i=>exact h3 i (by simpa using hi) (by simpa using hi')
  ·cases hl
def zEl:List AV→Nat→Env
 |[],_=>[]
 |x::r,n=>(n,x)::zEl r (n+1)
theorem zJ0: ∀(l:List AV)(n t:Nat),(zEl l n).get t=if n≤t then l.getD (t-n) .bot else .bot
 |[],n,t=>by simp[zEl,Env.get]
 |x::r,n,t=>by
  simp only[zEl,Env.get]
  by_cases e:n=t
  ·subst e;simp
  ·rw[if_neg e,zJ0 r (n+1) t]
   by_cases h:n≤t
   ·rw[if_pos (by omega),if_pos h]
    rw[show t-n=(t-(n+1))+1 by omega]
    rfl
   ·rw[if_neg (by omega),if_neg h]
def zPC:List Nat→AHeap→(AHeap→Prop)→Prop
 |[],H,K=>K H
 |d::D,H,K=>H d=some (.raw (.deferred (some [])))∧zPC D (H.upd d none) K
def zgQ(rs:List RV)(Q:AV→AHeap→Prop):Exit→St→Prop
 |.normal,s=>Settle (fun s'=>zPC s'.D s'.H fun H=>zKF s'.E.get H rs fun l=>Q (zan l) H) s
 |.ret,s=>Settle (fun s'=>zPC s'.D s'.H fun H=>zKF s'.E.get H rs fun l=>Q (zan l) H) s
 |_,_=>False
theorem zI2{P:Program}{F:Fence}{fn:Func}{R:Ending→World→Prop}{N:Nat}{K:AHeap→Prop}: ∀(D:List Nat)(E:Env)(a:Act)(c:Ctx),Ok c→RelA N c D E a→zPC D c.H K→
 (∀c',Ok c'→Later c c'→RelA N c' [] E { a with defers:=[] }→K c'.H→LeavesInM F 0 P fn a.tmps R [] .returning c'.w)→LeavesInM F 0 P fn a.tmps R a.defers .returning c.w:=by
 intro D
 induction D with
 |nil=>
  intro E a c hok hr hk h
  have hd:a.defers=[]:=List.eq_nil_of_length_eq_zero hr.dlen
  rw[hd]
  exact h c hok (Later.refl c) ⟨hr.size,hr.tmp,rfl,fun i hi=>absurd hi (by simp)⟩ hk
 |cons d D ih=>
  intro E a c hok hr hk h
  obtain⟨tmps,defers⟩:=a
  match defers,hr.dlen with
  |m::ds,_=>
   obtain⟨r,r1,r2⟩:=hr.dmark 0 (by simp)
   have em:m={ target:=.collected r,args:= #[] }:=by simpa using r1
   subst em
   obtain⟨g1,g2⟩:=hok.blk d _ hk.1
   have er:c.μ d=r:=by
    cases r2 with
    |ptr _ _ _ _ _ _ _ hv=>
     have:=hv _ hk.1 rfl
     simpa using this.symm
   have hlat:=Ctx.putRaw_later hok hk.1 (.deferred none)
   have hok2:=Ctx.putRaw_ok hok hk.1 (.deferred none) (fun _ _ _ e=>by cases e)
   have hlat2:=hlat.trans (Ctx.drop_later (c.putRaw d (.deferred none)) d)
   have hok3:=Ctx.drop_ok hok2 d
   have hH3:((c.putRaw d (.deferred none)).drop d).H=c.H.upd d none:=zAR _ _ _ _
   have hw3:((c.putRaw d (.deferred none)).drop d).w=c.w.putObj r (.deferred none):=by rw[← er];rfl
   generalize(c.putRaw d (.deferred none)).drop d=c3 at*
   refine⟨by simp,.inl ⟨r,c3.w,rfl,?_,?_⟩⟩
   ·rw[hw3];exact run_takeDeferred (by rw[← er];exact g1)
   ·refine ih E { tmps:=tmps,defers:=ds } c3 hok3 ⟨hr.size,fun t=>(hr.tmp t).later hlat2,by simpa using hr.dlen,fun i hi=>?_⟩ (by rw[hH3];exact hk.2) (fun c' h1 h2 h3 h4=>h c' h1 (hlat2.trans h2) h3 h4)
    obtain⟨q,q1,q2⟩:=hr.dmark (i+1) (by simpa using hi)
    exact⟨q,by simpa using q1,by simpa using q2.later hlat2⟩
def zfr:List Value→Value
 |[v]=>v
 |l=>.tuple l.toArray
theorem zK4{P:Program}{fn:Func}{tmps:Array Value}{w:World}{vs:List Value}(h:(fn.results.toList.mapM (m:=Sem) fun|.tmp t=>pure (tmps.getD t undef)|.cell n t=>do loadVar t (← asAddr (tmps.getD n undef))).run P w=.ok vs w):
 (results fn tmps).run P w=.ok (zfr vs) w:=by
 have h2:(fn.results.mapM (m:=Sem) fun|.tmp t=>pure (tmps.getD t undef)|.cell n t=>do loadVar t (← asAddr (tmps.getD n undef))).run P w=.ok vs.toArray w:=by
  rw[Array.mapM_eq_mapM_toList,Sem.run_map,h];rfl
 unfold results
 rw[Sem.run_bind]
 refine(congrArg (fun r=>Result.andThen r _) (show _=Result.ok vs.toArray w from h2)).trans ?_
 rw[Result.andThen_ok,Sem.run_pure]
 congr 1
 match vs with
 |[]=>rfl
 |[v]=>rfl
 |_::_::_=>rfl
theorem zWO{P:Program}{f:FuncId}{fn:Func}{c:Code}{rs:List RV}(hf:P.funcs[f]? =some fn)(hname:(fn.name=="runtime.NumGoroutine")=false)(hb:fn.body=some c)
 (hrs:zE7 P fn.results.toList=some rs) {args:List AV} {H:AHeap} {Q:AV→AHeap→Prop} (hn:args.length≤fn.ntmps) (h:AW P false fn.ntmps c (zgQ rs Q) ⟨[],zEl args 0,H⟩):Run P f args H Q:=by
 refine⟨⟨fn,hf,hname,by rw[hb];rfl⟩,fun c0 vs hH hok hsz he=>?_⟩
 refine callsIn_wide.1 (callsIn_of_wp_marks (F:=Fence.wide) (n:=0) hf hb trivial ?_)
 have hrel:RelA fn.ntmps c0 [] (zEl args 0) { tmps:=vs++Array.replicate (fn.ntmps-vs.size) undef,defers:=[] }:=by
  refine⟨by simp;omega,fun t=>?_,rfl,fun i hi=>absurd hi (by simp)⟩
  rw[zJ0,if_pos (Nat.zero_le _),Nat.sub_zero]
  by_cases e:t<args.length
  ·have e2:t<vs.size:=by omega
   rw[List.getD_eq_getElem?_getD,List.getElem?_eq_getElem e,Option.getD_some,Array.getD_eq_getD_getElem?,Array.getElem?_append_left e2,Array.getElem?_eq_getElem e2,Option.getD_some]
   exact he t e e2
  ·rw[List.getD_eq_getElem?_getD,List.getElem?_eq_none (by omega)]
   exact .bot _
 have:=h none c0 _ (fun _=>rfl) hH hok hrel
 refine wpIn_mono this fun e a' w' hp=>?_
 obtain⟨c',s',h1,h2,h3,h4,h5,h6⟩:=hp
 have fin:Settle (fun s'=>zPC s'.D s'.H fun H=>zKF s'.E.get H rs fun l=>Q (zan l) H) s'→LeavesInM Fence.wide 0 P fn a'.tmps (fun e w'=> ∃(c'':Ctx)(v':Value)(r:AV),e=.returned v'∧c''.w=w'∧Ok c''∧Later c0 c''∧Enc c'' r v'∧Q r c''.H) a'.defers .returning w':=by
  intro hs
  obtain⟨c2,s2,g1,g2,g3,g4,g5,g6⟩:=hs _ c' a' h1 h3 h4
  rw[← g1]at g6
  rw[← h2,← g2]
  refine zI2 s2.D s2.E a' c2 g3 g4 g6 fun c3 e1 e2 e3 e4=>?_
  obtain⟨vs',xs,k1,k2,k3,k4⟩:=zFj (P:=P) e1 (fun t=>e3.tmp t) hrs e4
  refine⟨zfr vs',?_,c3,_,zan xs,rfl,rfl,e1,(h5.trans g5).trans e2,?_,k4⟩
  ·exact zK4 k1
  ·match vs',xs,k2,k3 with
   |[],[],_,_=>exact .tup [] #[] rfl (fun i h=>absurd h (by simp))
   |[v],[x],_,k3=>exact k3 0 (by simp) (by simp)
   |v::v2::vr,x::x2::xr,k2,k3=>
    refine .tup _ _ (by simpa using k2) fun i hi hi'=>?_
    have:=k3 i hi (by simpa using hi')
    simpa using this
   |_::_::_,[_],k2,_=>simp at k2
   |[_],_::_::_,k2,_=>simp at k2
   |[],_::_,k2,_=>simp at k2
   |_::_,[],k2,_=>simp at k2
 cases e with
 |normal=>exact fin h6
 |ret=>exact fin h6
 |_=>exact h6.elim
def zJl(P:Program)(fn:Func)(pl:Plan):Option (ACode×List RV):=
 match fn.body with
 |some c=>match comp P fn.ntmps pl true c,zE7 P fn.results.toList with
  |some ac,some rs=>some (ac,rs)
  |_,_=>none
 |none=>none
end Go.Proofs.YtmndejlpfmmaiaaGreatDoor.Fw
namespace Go.Proofs.YtmndejlpfmmaiaaGreatDoor.Fw
open Go
def zDw(b es:Nat)(cells:List AV):AV→AV
 |.own b' L off n t=>if b'=b then(if L=cells.length∧(n=0∨off+n*es≤L)then .seq n ((cells.drop off).take (n*es)) t else .bot)else .own b' L off n t
 |x=>x
def zIh(b es:Nat)(cells:List AV):AV→AV
 |.agg l=>.agg (l.map (zDw b es cells))
 |x=>zDw b es cells x
def frz(b es:Nat)(cells:List AV):AV→AV
 |.tup l=>.tup (l.map (zIh b es cells))
 |x=>zIh b es cells x
theorem Enc.list_map{c c':Ctx}{f:AV→AV}{l:List AV}{vs:Array Value}(hf: ∀x v,Enc c x v→Enc c' (f x) v)(hc: ∀i(h:i<l.length)(h':i<vs.size),Enc c (l[i]) (vs[i])):
 ∀i(h:i<(l.map f).length)(h':i<vs.size),Enc c' ((l.map f)[i]) (vs[i]):=by
 intro i h h'
 rw[List.getElem_map]
 exact hf _ _ (hc i (by simpa using h) h')
theorem zFV{c:Ctx}(hok:Ok c){b:Nat}{ty:TypeId}{es:Nat}{cells:List AV}(hH:c.H b=some (.row ty es cells))(x:AV)(v:Value)(h:Enc c x v):Enc (c.drop b) (zDw b es cells x) v:=by
 unfold zDw
 split
 ·split
  ·rename_i e;subst e
   split
   ·rename_i hc;exact Enc.freeze hok h hH hc.1.symm hc.2
   ·exact .bot _
  ·exact h.later (c.drop_later b)
 ·exact h.later (c.drop_later b)
theorem zMh{c:Ctx}(hok:Ok c){b:Nat}{ty:TypeId}{es:Nat}{cells:List AV}(hH:c.H b=some (.row ty es cells))(x:AV)(v:Value)(h:Enc c x v):Enc (c.drop b) (zIh b es cells x) v:=by
 unfold zIh
 split
 ·cases h with
  |agg l vs hlen hc=>exact .agg _ _ (by simpa using hlen) (Enc.list_map (zFV hok hH) hc)
 ·exact zFV hok hH _ _ h
theorem zIc{c:Ctx}(hok:Ok c){b:Nat}{ty:TypeId}{es:Nat}{cells:List AV}(hH:c.H b=some (.row ty es cells))(x:AV)(v:Value)(h:Enc c x v):Enc (c.drop b) (frz b es cells x) v:=by
 unfold frz
 split
 ·cases h with
  |tup l vs hlen hc=>exact .tup _ _ (by simpa using hlen) (Enc.list_map (zMh hok hH) hc)
 ·exact zMh hok hH _ _ h
def loose1:AV→AV
 |.seq n cells _=>.seq n cells false
 |x=>x
def zG9:AV→AV
 |.agg l=>.agg (l.map loose1)
 |x=>loose1 x
def loose:AV→AV
 |.tup l=>.tup (l.map zG9)
 |x=>zG9 x
theorem zHh{c:Ctx}(x:AV)(v:Value)(h:Enc c x v):Enc c (loose1 x) v:=by
 unfold loose1
 split
 ·cases h with
  |seq n cells t base cap cv hlen hcap hmax ht hb hn hc=>exact .seq _ _ false base cap cv hlen hcap hmax (fun e=>by cases e) hb hn hc
 ·exact h
theorem zHa{c:Ctx}(x:AV)(v:Value)(h:Enc c x v):Enc c (zG9 x) v:=by
 unfold zG9
 split
 ·cases h with
  |agg l vs hlen hc=>exact .agg _ _ (by simpa using hlen) (Enc.list_map zHh hc)
 ·exact zHh _ _ h
theorem zCo{c:Ctx}(x:AV)(v:Value)(h:Enc c x v):Enc c (loose x) v:=by
 unfold loose
 split
 ·cases h with
  |tup l vs hlen hc=>exact .tup _ _ (by simpa using hlen) (Enc.list_map zHa hc)
 ·exact zHa _ _ h
def Env.map(f:AV→AV)(E:Env):Env:=List.map (fun p=>(p.1,f p.2)) E
theorem Env.get_map(f:AV→AV)(hf:f .bot=.bot)(E:Env)(t:Nat):(Env.map f E).get t=f (E.get t):=by
 induction E with
 |nil=>exact hf.symm
 |cons p r ih=>
  obtain⟨k,v⟩:=p
  show(if k=t then f v else Env.get (Env.map f r) t)=f (if k=t then v else Env.get r t)
  split
  ·rfl
  ·exact ih
theorem Settle.frz{K:St→Prop}{D:List Nat}{E:Env}{H:AHeap}(b:Nat){ty:TypeId}{es:Nat}{cells:List AV}(hH:H b=some (.row ty es cells))(h:Settle K ⟨D,E.map (frz b es cells),H.upd b none⟩):Settle K ⟨D,E,H⟩:=by
 refine Settle.join ?_
 intro N c a hc hok hr
 refine⟨c.drop b,⟨D,E.map (Fw.frz b es cells),H.upd b none⟩,by simp only[Ctx.drop,hc],rfl,Ctx.drop_ok hok b,?_,c.drop_later b,h⟩
 have hr':=hr.later (c.drop_later b)
 refine⟨hr'.size,fun u=>?_,hr'.dlen,hr'.dmark⟩
 rw[Env.get_map _ rfl]
 exact zIc hok (by rw[hc];exact hH) _ _ (hr.tmp u)
theorem Settle.loose{K:St→Prop}{D:List Nat}{E:Env}{H:AHeap}(t:Nat)(h:Settle K ⟨D,E.set t (loose (E.get t)),H⟩):Settle K ⟨D,E,H⟩:=by
 refine Settle.join ?_
 intro N c a hc hok hr
 refine⟨c,⟨D,E.set t (Fw.loose (E.get t)),H⟩,hc,rfl,hok,⟨hr.size,fun u=>?_,hr.dlen,hr.dmark⟩,Later.refl c,h⟩
 show Enc c (Env.get (E.set t (Fw.loose (E.get t))) u) _
 rw[Env.get_set]
 split
 ·rename_i e;subst e;exact zCo _ _ (hr.tmp u)
 ·exact hr.tmp u
def SetR(Q:AV→AHeap→Prop)(r:AV)(H:AHeap):Prop:=
 ∀(c:Ctx)(v:Value),c.H=H→Ok c→Enc c r v→∃(c':Ctx)(r':AV),c'.w=c.w∧Ok c'∧Later c c'∧Enc c' r' v∧Q r' c'.H
theorem SetR.now{Q:AV→AHeap→Prop}{r:AV}{H:AHeap}(h:Q r H):SetR Q r H:=fun c _ hH hok he=>⟨c,r,rfl,hok,Later.refl c,he,hH▸h⟩
theorem SetR.join{Q:AV→AHeap→Prop}{r:AV}{H:AHeap}(h:SetR (SetR Q) r H):SetR Q r H:=fun c v hH hok he=>
 let⟨c',r',h1,h2,h3,h4,h5⟩:=h c v hH hok he
 let⟨c'',r'',g1,g2,g3,g4,g5⟩:=h5 c' v rfl h2 h4
 ⟨c'',r'',g1.trans h1,g2,h3.trans g3,g4,g5⟩
theorem SetR.mono{Q Q':AV→AHeap→Prop}{r:AV}{H:AHeap}(h:SetR Q r H)(hq: ∀r H,Q r H→Q' r H):SetR Q' r H:=fun c v hH hok he=>
 let⟨c',r',h1,h2,h3,h4,h5⟩:=h c v hH hok he
 ⟨c',r',h1,h2,h3,h4,hq _ _ h5⟩
theorem SetR.kill{Q:AV→AHeap→Prop}{r:AV}{H:AHeap}(b:Nat)(h:SetR Q r (H.upd b none)):SetR Q r H:=
 SetR.join fun c _ hH hok he=>⟨c.drop b,r,rfl,Ctx.drop_ok hok b,c.drop_later b,he.later (c.drop_later b),by show SetR Q r (c.H.upd b none);rw[hH];exact h⟩
theorem SetR.frz{Q:AV→AHeap→Prop}{r:AV}{H:AHeap}(b:Nat){ty:TypeId}{es:Nat}{cells:List AV}(hb:H b=some (.row ty es cells))(h:SetR Q (frz b es cells r) (H.upd b none)):SetR Q r H:=
 SetR.join fun c v hH hok he=>⟨c.drop b,Fw.frz b es cells r,rfl,Ctx.drop_ok hok b,c.drop_later b,zIc hok (by rw[hH];exact hb) r v he,by show SetR Q _ (c.H.upd b none);rw[hH];exact h⟩
theorem SetR.loose{Q:AV→AHeap→Prop}{r:AV}{H:AHeap}(h:SetR Q (loose r) H):SetR Q r H:=
 SetR.join fun c v hH hok he=>⟨c,Fw.loose r,rfl,hok,Later.refl c,zCo r v he,hH▸h⟩
theorem Run.settle{P:Program}{f:FuncId}{args:List AV}{H:AHeap}{Q:AV→AHeap→Prop}(h:Run P f args H (SetR Q)):Run P f args H Q:=
 ⟨h.1,fun c vs hH hok hs he=>(h.2 c vs hH hok hs he).mono fun _ _ ⟨c',v,_,a1,a2,a3,a4,a5,a6⟩=>
  let⟨c'',r',b1,b2,b3,b4,b5⟩:=a6 c' v rfl a3 a5
  ⟨c'',v,r',a1,b1.trans a2,b2,a4.trans b3,b4,b5⟩⟩
def Ctx.dropTo(c:Ctx)(H:AHeap):Ctx:={ c with H:=H }
theorem Ctx.dropTo_later(c:Ctx){H:AHeap}(hl:Le H c.H):Later c (c.dropTo H):=by
 refine⟨⟨Nat.le_refl _,rfl,rfl,rfl,fun _ h=>h,?_,?_⟩,fun _ h=>⟨h,fun k=>k⟩⟩
 ·intro i x' _ hx
  exact⟨x',hl i x' hx,Nat.le_refl _,fun _=>⟨rfl,fun _ _ cells e=>⟨cells,e,fun arr h=>⟨arr,h,rfl⟩⟩⟩⟩
 ·rintro k _ hm
  refine⟨rfl,fun⟨i,hi,e⟩=>hm ⟨i,?_,e⟩⟩
  have hi':ABlk.mut (H i):=hi
  cases hx:H i with
  |none=>rw[hx]at hi';exact hi'.elim
  |some x=>rw[hx]at hi';rw[hl i x hx];exact hi'
theorem Ctx.dropTo_ok{c:Ctx}(h:Ok c){H:AHeap}(hl:Le H c.H):Ok (c.dropTo H):=by
 have ne: ∀i,H i≠none→c.H i≠none:=by
  intro i hi
  obtain⟨x,hx⟩:=Option.ne_none_iff_exists'.1 hi
  rw[hl i x hx];simp
 refine⟨fun i hi=>h.used i (ne i hi),h.fin,fun i j hi hj e=>h.inj i j (ne i hi) (ne j hj) e,fun i x hx=>?_⟩
 exact(h.blk i x (hl i x hx)).later (c.dropTo_later hl) rfl rfl
theorem Settle.dropTo{K:St→Prop}{D:List Nat}{E:Env}{H H':AHeap}(hl:Le H H')(h:Settle K ⟨D,E,H⟩):Settle K ⟨D,E,H'⟩:=by
 refine Settle.join ?_
 intro N c a hc hok hr
 have hc':c.H=H':=hc
 subst hc'
 exact⟨c.dropTo H,⟨D,E,H⟩,rfl,rfl,Ctx.dropTo_ok hok hl,hr.later (c.dropTo_later hl),c.dropTo_later hl,h⟩
theorem SetR.dropTo{Q:AV→AHeap→Prop}{r:AV}{H H':AHeap}(hl:Le H H')(h:SetR Q r H):SetR Q r H':=by
 refine SetR.join ?_
 intro c v hc hok he
 subst hc
 exact⟨c.dropTo H,r,rfl,Ctx.dropTo_ok hok hl,c.dropTo_later hl,he.later (c.dropTo_later hl),h⟩
theorem Le.upd{H0 H:AHeap}{b:Nat}{x:Option ABlk}(h:Le H0 H)(hb:H b=none):Le H0 (H.upd b x):=by
 intro i y hy
 have:=h i y hy
 by_cases e:i=b
 ·subst e;rw[hb]at this;cases this
 ·rw[zAA _ _ e];exact this
theorem Le.updB{H0 H:AHeap}{b:Nat}{x:Option ABlk}(h:Le H0 H)(hb:H0 b=none):Le H0 (H.upd b x):=by
 intro i y hy
 by_cases e:i=b
 ·subst e;rw[hb]at hy;cases hy
 ·rw[zAA _ _ e];exact h i y hy
def zYK(Q:AV→AHeap→Prop)(H:AHeap)(l:List AV):Prop:=SetR Q (zan l) H
def zFF(rs:List RV)(Q:AV→AHeap→Prop):Exit→St→Prop
 |.normal,s=>zPC s.D s.H fun H=>zKF s.E.get H rs (zYK Q H)
 |.ret,s=>zPC s.D s.H fun H=>zKF s.E.get H rs (zYK Q H)
 |_,_=>False
theorem zW0{P:Program}{f:FuncId}{fn:Func}{pl:Plan}{ac:ACode}{rs:List RV}(hm:P.follows .mixedOrders=true)(hf:P.funcs[f]? =some fn)(hname:(fn.name=="runtime.NumGoroutine")=false)(hc:zJl P fn pl=some (ac,rs)){n:Nat}(hN:fn.ntmps=n)
 {args:List AV} {H:AHeap} {Q:AV→AHeap→Prop} (hn:args.length≤n) (h:W P ac (zFF rs Q) ⟨[],zEl args 0,H⟩):Run P f args H Q:=by
 unfold zJl at hc
 split at hc
 ·rename_i c hb
  split at hc
  ·rename_i ac' rs' h1 h2
   injection hc with hc
   injection hc with e1 e2
   subst e1;subst e2
   refine Run.settle (zWO hf hname hb h2 (by omega) (AW.mono (zNE hm c (rr:=false) (fun _=>rfl) ac' h1 (zFF rs' Q) ⟨[],zEl args 0,H⟩ h) fun e s hs=>?_))
   cases e with
   |normal=>exact Settle.now hs
   |ret=>exact Settle.now hs
   |_=>exact hs.elim
  ·cases hc
 ·cases hc
def Wk(x y:AV):Prop:= ∀(c:Ctx)(v:Value),Enc c x v→Enc c y v
theorem Wk.refl{x:AV}:Wk x x:=fun _ _ h=>h
theorem Wk.exte{es n:Nat}{cells:List AV}:Wk (.exte es n cells) (.seq n (cells.take (n*es)) false):=fun _ _ h=>h.exte_seq
theorem Wk.ext{n:Nat}{cells:List AV}:Wk (.ext n cells) (.seq n (cells.take n) false):=fun _ _ h=>h.ext_seq
inductive Wks:List AV→List AV→Prop
 |nil:Wks [] []
 |cons {x y:AV} {l m:List AV} (h:Wk x y) (r:Wks l m):Wks (x::l) (y::m)
theorem Wks.len{l m:List AV}(h:Wks l m):l.length=m.length:=by
 induction h with
 |nil=>rfl
 |cons _ _ ih=>simp[ih]
theorem Wks.get{l m:List AV}(h:Wks l m): ∀(i:Nat)(h1:i<l.length)(h2:i<m.length),Wk (l[i]) (m[i]):=by
 induction h with
 |nil=>intro i h1;exact absurd h1 (by simp)
 |cons h _ ih=>
  intro i h1 h2
  cases i with
  |zero=>exact h
  |succ i=>exact ih i (by simpa using h1) (by simpa using h2)
def PFn(P:Program)(f:FuncId)(args:List AV)(r:AV):Prop:= ∀(H:AHeap)(Q:AV→AHeap→Prop),Q r H→Run P f args H Q
theorem PFn.call{P:Program}{f:FuncId}{args:List AV}{r:AV}(h:PFn P f args r){H:AHeap}{K:AV→AHeap→Prop}(k:K r H):zBn P (.fn (.func f) [] []) args H K:=by
 simpa[zBn]using h H K k
theorem PFn.draw{P:Program}{f:FuncId}{args:List AV}{r:AV}(h:PFn P f args r){K:AV→Prop}(k:K r): ∃rv,(∀H',zBn P (.fn (.func f) [] []) args H' fun v H''=>v=rv∧H''=H')∧K rv:=
 ⟨r,fun _=>h.call ⟨rfl,rfl⟩,k⟩
end Go.Proofs.YtmndejlpfmmaiaaGreatDoor.Fw
