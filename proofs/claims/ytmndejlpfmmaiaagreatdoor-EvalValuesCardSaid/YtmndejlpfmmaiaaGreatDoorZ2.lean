/- The texts Fd, joined. -/
import Derived.Test.YtmndejlpfmmaiaaGreatDoorZ1
import Derived.Lib.Builder
import Derived.Lib.UnsafeStr
import Derived.Laws.Externs
import Derived.Laws.BytesString
set_option linter.unusedSimpArgs false
set_option linter.unusedVariables false
namespace Go.Proofs.YtmndejlpfmmaiaaGreatDoor.Fw
open Go
inductive Prim where
 |nck
 |peq (ng:Bool)
 |b2s
 |idxP (n es:Nat)
 |slcP (n es:Nat)
 |toU
 |fromU (u:TypeId) (cs:Nat)
 |usd
 |gix (g n es:Nat)
 |aeq (ng:Bool)
 |cap
 |feq (ng:Bool)
 |aeq5 (ng:Bool)
def bytesOf:List AV→Option (List UInt8)
 |[]=>some []
 |.int .u8 n::r=>if 0≤n∧n<256 then(bytesOf r).map (UInt8.ofNat n.toNat:: ·)else none
 |_=>none
def zIi(H:AHeap)(b L:Nat)(K:TypeId→Nat→List AV→Prop):Prop:=
 match H b with
 |some (.row ty es cells)=>cells.length=L∧K ty es cells
 |_=>False
def zOD(ng:Bool)(H:AHeap)(x y:AV)(K:AV→Prop):Prop:=
 match x,y with
 |.nilP,.nilP=>K (.bool (!ng))
 |.ptr b L off,.nilP=>zEA H (.ptr b L off)∧K (.bool ng)
 |.ptr b L off,.ptr b' L' off'=>zEA H (.ptr b L off)∧zEA H (.ptr b' L' off')∧b=b'∧off=off'∧K (.bool (!ng))
 |_,_=>False
def zVT(K:AV→Prop):Option (List UInt8)→Prop
 |some l=>K (.str ⟨l.toArray⟩)
 |none=>False
def zOO(H:AHeap)(x:AV)(K:AV→Prop):Prop:=
 match x with
 |.seq n cells _=>cells.length=n∧zVT K (bytesOf cells)
 |.own b L off n _=>zIi H b L fun _ es cells=>es=1∧off+n≤L∧zVT K (bytesOf ((cells.drop off).take n))
 |_=>False
def zHu(n es:Nat)(H:AHeap)(x:AV)(K:AV→Prop):Prop:=
 match x with
 |.ptr b L off=>zIi H b L fun _ es' _=>es'=es∧off+n*es≤L∧n<2^63∧K (.own b L off n true)
 |_=>False
def zR2(H:AHeap)(x:AV)(K:AV→Prop):Prop:=
 match x with
 |.nilP=>K .nilP
 |.ptr b L off=>zIi H b L fun _ _ _=>off<L∧K (.ptr b L off)
 |_=>False
def zD2(u:TypeId)(cs:Nat)(H:AHeap)(x:AV)(K:AV→Prop):Prop:=
 match x with
 |.nilP=>K .nilP
 |.ptr b L off=>zIi H b L fun ty _ _=>ty=u∧off=0∧cs≤L∧K (.ptr b L off)
 |_=>False
def zSL(H:AHeap)(x:AV)(K:AV→Prop):Prop:=
 match x with
 |.own b L off n _=>zIi H b L fun _ _ _=>0<n∧K (.ptr b L off)
 |.seq _ cells _=>0<cells.length∧K (.cptr cells)
 |_=>False
def zGm(n es:Nat)(H:AHeap)(x i:AV)(K:AV→Prop):Prop:=
 match i with
 |.int _ i=>zEA H x∧0≤i∧i<n∧zGK (i.toNat*es) x K
 |_=>False
def zOa(g n es:Nat)(H:AHeap)(i:AV)(K:AV→Prop):Prop:=
 match i,H g with
 |.int _ i,some (.glob g' cells)=>g'=g∧0≤i∧i<n∧K (.ptr g cells.length (i.toNat*es))
 |_,_=>False
def zNw(ng:Bool)(x y:AV)(K:AV→Prop):Prop:=
 match x,y with
 |.agg [.int k a,.int k' b],.agg [.int j c,.int j' d]=>k=j∧k'=j'∧K (.bool (ng !=(decide (a=c)&&decide (b=d))))
 |_,_=>False
def zK3(ng:Bool)(x y:AV)(K:AV→Prop):Prop:=
 match x,y with
 |.agg [.int k0 a0,.int k1 a1,.int k2 a2,.int k3 a3,.int k4 a4],.agg [.int j0 b0,.int j1 b1,.int j2 b2,.int j3 b3,.int j4 b4]=>
  k0=j0∧k1=j1∧k2=j2∧k3=j3∧k4=j4∧K (.bool (ng !=(decide (a0=b0)&&(decide (a1=b1)&&(decide (a2=b2)&&(decide (a3=b3)&&decide (a4=b4)))))))
 |_,_=>False
def zY2(ng:Bool)(x:AV)(K:AV→Prop):Prop:=
 match x with
 |.fn _ _ _=>K (.bool ng)
 |.nilF=>K (.bool (!ng))
 |_=>False
def zCV(p:Prim)(l:List AV)(H:AHeap)(K:AV→Prop):Prop:=
 match p,l with
 |.nck,[x]=>zEA H x∧K x
 |.peq ng,[x,y]=>zOD ng H x y K
 |.b2s,[x]=>zOO H x K
 |.idxP n es,[x,i]=>zGm n es H x i K
 |.slcP n es,[x]=>zHu n es H x K
 |.toU,[x]=>zR2 H x K
 |.fromU u cs,[x]=>zD2 u cs H x K
 |.usd,[x]=>zSL H x K
 |.gix g n es,[i]=>zOa g n es H i K
 |.aeq ng,[x,y]=>zNw ng x y K
 |.cap,[x]=>zWY x K
 |.feq ng,[x]=>zY2 ng x K
 |.aeq5 ng,[x,y]=>zK3 ng x y K
 |_,_=>False
theorem zCt{c:Ctx}(hok:Ok c){b L:Nat}{K:TypeId→Nat→List AV→Prop}(h:zIi c.H b L K):
 ∃ty es cells arr,c.H b=some (.row ty es cells)∧cells.length=L∧K ty es cells∧c.w.heap[c.μ b]? =some (.cells arr ty)∧cells.length≤arr.size∧∀i(h:i<cells.length)(h':i<arr.size),Enc c (cells[i]) (arr[i]):=by
 unfold zIi at h
 split at h
 ·rename_i ty es cells hH
  obtain⟨arr,g1,g2,g3⟩:=hok.blk b _ hH
  exact⟨ty,es,cells,arr,hH,h.1,h.2,g1,g2,g3⟩
 ·exact h.elim
theorem zHm{c:Ctx}{b L off:Nat}{v:Value}{ty es:Nat}{cells:List AV}(he:Enc c (.ptr b L off) v)(hH:c.H b=some (.row ty es cells))(hL:cells.length=L):v=.pointer (some ⟨c.μ b,off,none⟩):=by
 cases he with
 |ptr _ _ _ _ hs hb hL' hv=>exact hv _ hH hL
theorem zC8{c:Ctx}{b L off:Nat}{v:Value}(h:zEA c.H (.ptr b L off))(he:Enc c (.ptr b L off) v):v=.pointer (some ⟨c.μ b,off,none⟩):=by
 unfold zEA at h
 simp only at h
 split at h
 ·rename_i y hy
  cases he with
  |ptr _ _ _ _ hs hb hL hv=>exact hv y hy h
 ·exact h.elim
theorem zF2{P:Program}{tp te:TypeId}(hp:P.underlying tp=some (.pointer te))(a:Option Addr)(w:World):(binOp .eql tp (.pointer a) (.pointer none)).run P w=.ok (.bool a.isNone) w:=by
 have h: ∀d:Nat,(Op.equalIn (d+1) tp (.pointer a) (.pointer none)).run P w=.ok a.isNone w:=fun d=>by
  cases a<;>simp[Op.equalIn,run_underlying hp]
 simp only[binOp]
 simp[Op.equal,Op.maxDepth,h 9999]
theorem zGZ{P:Program}{tp te:TypeId}(hp:P.underlying tp=some (.pointer te))(a:Option Addr)(w:World):(binOp .neq tp (.pointer a) (.pointer none)).run P w=.ok (.bool (!a.isNone)) w:=by
 have h: ∀d:Nat,(Op.equalIn (d+1) tp (.pointer a) (.pointer none)).run P w=.ok a.isNone w:=fun d=>by
  cases a<;>simp[Op.equalIn,run_underlying hp]
 simp only[binOp]
 simp[Op.equal,Op.maxDepth,h 9999]
def zFM(ng:Bool):BinOp:=if ng then .neq else .eql
theorem zHG{P:Program}{c:Ctx}{tp te:TypeId}{j:TypeInfo}(hp:P.underlying tp=some (.pointer te))(hte:P.info? te=some j){ng:Bool}{x y:AV}{u v:Value}{K:AV→Prop}(h:zOD ng c.H x y K)(hx:Enc c x u)(hy:Enc c y v)(p q:Operand):
 ∃r v',(do eqGuard (zFM ng) tp p q u v;binOp (zFM ng) tp u v:Sem Value).run P c.w=.ok v' c.w∧Enc c r v'∧K r:=by
 have gd: ∀a b,(eqGuard (zFM ng) tp p q (.pointer a) (.pointer b)).run P c.w=.ok () c.w:=fun a b=>by
  cases ng<;>simp[eqGuard,zFM]
 unfold zOD at h
 split at h
 ·cases hx;cases hy
  refine⟨_,.bool (!ng),?_,.bool _,h⟩
  rw[Sem.run_bind,gd,Result.andThen_ok]
  cases ng
  ·exact zF2 hp none c.w
  ·exact zGZ hp none c.w
 ·have e:=zC8 h.1 hx
  subst e;cases hy
  refine⟨_,.bool ng,?_,.bool _,h.2⟩
  rw[Sem.run_bind,gd,Result.andThen_ok]
  cases ng
  ·exact zF2 hp (some _) c.w
  ·exact zGZ hp (some _) c.w
 ·obtain⟨h1,h2,rfl,rfl,h5⟩:=h
  have e1:=zC8 h1 hx
  have e2:=zC8 h2 hy
  subst e1;subst e2
  refine⟨_,.bool (!ng),?_,.bool _,h5⟩
  rw[Sem.run_bind,gd,Result.andThen_ok]
  cases ng
  ·exact run_eql_ptr_same c.w _ hp hte
  ·exact Lib.run_neq_ptr_same c.w _ hp hte
 ·exact h.elim
theorem zDR{c:Ctx}: ∀{cells:List AV}{l:List UInt8},bytesOf cells=some l→∀(f:Nat→Value),(∀i(h:i<cells.length),Enc c (cells[i]) (f i))→
 (List.range cells.length).map f=l.map fun b=>Value.int .u8 (b.toNat:Int)
 |[],l,h,f,_=>by
  injection h with h;subst h;rfl
 |x::r,l,h,f,hf=>by
  unfold bytesOf at h
  split at h
  ·rename_i h';cases h'
  ·rename_i n r' e
   injection e with e1 e2
   subst e1;subst e2
   split at h
   ·rename_i hn
    cases hb:bytesOf r with
    |none=>rw[hb]at h;cases h
    |some l'=>
          rw[hb]at h;injection h with h;subst h
          have g1:=zDR hb (fun i=>f (i+1)) (fun i hi=>hf (i+1) (by simpa using hi))
          have e0:f 0=.int .u8 n:=by
           have:=hf 0 (by simp)
           simp only[List.getElem_cons_zero]at this
           generalize f 0=v at this
           cases this;rfl
          have e3:((UInt8.ofNat n.toNat).toNat:Int)=n:=by
           rw[UInt8.toNat_ofNat'];omega
          rw[List.length_cons,List.range_succ_eq_map,List.map_cons,List.map_map,List.map_cons,e0,e3,← g1]
          rfl
   ·cases h
  ·cases h
theorem zF3: ∀{cells:List AV}{l:List UInt8},bytesOf cells=some l→l.length=cells.length
 |[],l,h=>by injection h with h;subst h;rfl
 |x::r,l,h=>by
  unfold bytesOf at h
  split at h
  ·rename_i h';cases h'
  ·rename_i n r' e
   injection e with e1 e2
   subst e1;subst e2
   split at h
   ·cases hb:bytesOf r with
    |none=>rw[hb]at h;cases h
    |some l'=>rw[hb]at h;injection h with h;subst h;simp[zF3 hb]
   ·cases h
  ·cases h
theorem zHY: ∀(l:List UInt8)(s:ByteArray),(l.map fun b=>(b.toNat:Int)).foldl (fun r n=>r.push (UInt8.ofNat n.toNat)) s=⟨s.data++l.toArray⟩
 |[],s=>by simp
 |x::l,s=>by
  rw[List.map_cons,List.foldl_cons,zHY l]
  apply ByteArray.ext
  simp[ByteArray.push]
theorem zNp{P:Program}{c:Ctx}(hok:Ok c){src dst e:TypeId}(hs:P.underlying src=some (.slice e))(he':P.underlying e=some (.int .u8))(hd:P.underlying dst=some .string){x:AV}{v:Value}{K:AV→Prop}(h:zOO c.H x K)(he:Enc c x v):
 ∃r v',(convert src dst v).run P c.w=.ok v' c.w∧Enc c r v'∧K r:=by
 have fin: ∀{a:Option Addr}{n cap:Nat}{cells:List AV}{f:Nat→Value},zVT K (bytesOf cells)→cells.length=n→(∀i(h:i<cells.length),Enc c (cells[i]) (f i))→(n≠0→∃a',a=some a'∧∀i,i<n→c.w.cell? (a'.add i)=some (f i))→
  ∃r v',(convert src dst (.slice a n cap)).run P c.w=.ok v' c.w∧Enc c r v'∧K r:=by
  intro a n cap cells f hk hn hf ha
  cases hb:bytesOf cells with
  |none=>rw[hb]at hk;exact hk.elim
  |some l=>
   rw[hb]at hk
   have g1:=zDR hb f hf
   rw[run_convert_bytes_string c.w src dst e a n cap hs he' hd]
   have g2':=zHY l ByteArray.empty
   have e0:(⟨ByteArray.empty.data++l.toArray⟩:ByteArray)=⟨l.toArray⟩:=by
    apply ByteArray.ext
    show #[]++l.toArray=l.toArray
    simp
   rw[e0]at g2'
   refine⟨_,.string ⟨l.toArray⟩,?_,.str _,hk⟩
   cases a with
   |none=>
    have hn0:n=0:=by
     rcases Nat.eq_zero_or_pos n with h|h
     ·exact h
     ·obtain⟨a',e,_⟩:=ha (by omega);cases e
    subst hn0
    have hc0:cells=[]:=List.length_eq_zero_iff.1 hn
    subst hc0
    injection hb with hb;subst hb
    rfl
   |some a=>
    have hl:(loadCells a n).run P c.w=.ok ((l.map fun b=>(b.toNat:Int)).map (Value.int .u8)).toArray c.w:=by
     rw[List.map_map]
     have g1':(List.range cells.length).map f=l.map (Value.int .u8∘fun b=>(b.toNat:Int)):=g1
     rw[← g1',hn]
     refine run_loadCells (P:=P) c.w a n f fun j hj=>?_
     obtain⟨a',e,h⟩:=ha (by omega)
     injection e with e;subst e
     exact h j hj
    rw[run_bytesToString c.w a n cap _ hl,g2']
 unfold zOO at h
 split at h
 ·rename_i n cells ti
  cases he with
  |seq _ _ _ base cap cv hlen hcap hmax ht hb hn hc=>
   refine fin (f:=cv) h.2 h.1 hc fun h0=>?_
   obtain⟨k,off,e,_,_,g⟩:=hb (by omega)
   exact⟨_,e,fun i hi=>by rw[zA8];exact g i (by omega)⟩
 ·rename_i b L off n ti
  obtain⟨ty,es,cells,arr,hH,hL,⟨h1,h2,h3⟩,g1,g2,g3⟩:=zCt hok h
  subst h1
  cases he with
  |own _ _ _ _ _ _ hs hb hL' hv=>
   obtain⟨base,cap,arr',rfl,k0,k1,k2,k3,k4,k5⟩:=hv ty 1 cells hH hL
   have hlen:((cells.drop off).take n).length=n:=by simp;omega
   refine fin (f:=fun i=>arr.getD (off+i) undef) h3 hlen (fun i hi=>?_) fun h0=>?_
   ·have hi':off+i<cells.length:=by rw[hlen]at hi;omega
    have h4:off+i<arr.size:=by omega
    have:=g3 (off+i) hi' h4
    simpa[Array.getD_eq_getD_getElem?,h4]using this
   ·refine⟨_,k0.resolve_left (by omega),fun i hi=>?_⟩
    have h4:off+i<arr.size:=by omega
    rw[zA8,zEO g1 h4]
    simp[Array.getD_eq_getD_getElem?,h4]
 ·exact h.elim
theorem zKy{P:Program}{c:Ctx}{t e:TypeId}{n:Nat}{inf:TypeInfo}(ht:P.underlying t=some (.array n e))(hi:P.info? e=some inf){x i:AV}{v u:Value}{K:AV→Prop}(h:zGm n inf.size c.H x i K)(he:Enc c x v)(hx:Enc c i u):
 ∃r v',(Instr.indexAt t v u).run P c.w=.ok v' c.w∧Enc c r v'∧K r:=by
 unfold zGm at h
 split at h
 ·rename_i k j
  obtain⟨h1,h2,h3,h4⟩:=h
  cases hx
  obtain⟨kk,o,rfl⟩:=zFs h1 he
  have hrun:(Instr.indexAt t (.pointer (some ⟨kk,o,none⟩)) (.int k j)).run P c.w=.ok (.pointer (some ⟨kk,o+j.toNat*inf.size,none⟩)) c.w:=by
   simp[Instr.indexAt,run_underlying ht,Instr.sureAddr,asIntOf,h2,h3,zAX hi,zA8]
  unfold zGK at h4
  split at h4
  ·rename_i b L o'
   obtain⟨p,hp,g1,_⟩:=zI3 he (j.toNat*inf.size) b L o' rfl
   injection hp with hp
   subst hp
   have:=g1 _ rfl
   rw[zA8]at this
   exact⟨_,_,hrun,this,h4⟩
  ·rename_i cells
   cases he with
   |cptr _ k' off' cv hm hk hcell hc=>
    refine⟨_,_,hrun,.cptr _ _ _ (fun i=>cv (j.toNat*inf.size+i)) hm hk (fun i hi=>?_) (fun i hi=>?_),h4⟩
    ·have:=hcell (j.toNat*inf.size+i) (by simp at hi;omega)
     rw[show o+j.toNat*inf.size+i=o+(j.toNat*inf.size+i) by omega];exact this
    ·have:=hc (j.toNat*inf.size+i) (by simp at hi;omega)
     simpa using this
  ·exact h4.elim
 ·exact h.elim
theorem zKf{P:Program}{c:Ctx}(hok:Ok c){t e:TypeId}{n:Nat}{inf:TypeInfo}(ht:P.underlying t=some (.array n e))(hi:P.info? e=some inf){x:AV}{v:Value}{K:AV→Prop}(h:zHu n inf.size c.H x K)(he:Enc c x v):
 ∃r v',(Instr.sliceAt t v none none none).run P c.w=.ok v' c.w∧Enc c r v'∧K r:=by
 unfold zHu at h
 split at h
 ·rename_i b L off
  obtain⟨ty,es,cells,arr,hH,hL,⟨h1,h2,h3,h4⟩,g1,g2,g3⟩:=zCt hok h
  have e:=zHm he hH hL
  subst e
  refine⟨_,.slice (some ⟨c.μ b,off,none⟩) n n,?_,?_,h4⟩
  ·simp[Instr.sliceAt,run_underlying ht,Instr.sureAddr,Instr.sliceBounds,zAX hi]
   intro _;unfold Addr.add;simp
  ·cases he with
   |ptr _ _ _ _ hs hb hL' hv=>
    refine .own b L off n true _ ⟨_,_,rfl,h3⟩ hb hL' fun ty' es' cells' hH' hl'=>?_
    rw[hH]at hH'
    injection hH' with hH';injection hH' with e1 e2 e3
    subst e1;subst e2;subst e3
    exact⟨_,n,arr,rfl,.inr rfl,Nat.le_refl _,h3,fun _=>rfl,g1,by rw[h1];omega⟩
 ·exact h.elim
theorem zN5{P:Program}{c:Ctx}(hok:Ok c){src dst t:TypeId}{j:TypeInfo}(hs:P.underlying src=some (.pointer t))(hd:P.underlying dst=some .unsafePointer)(ht:P.info? t=some j)(hj:j.size≠0){x:AV}{v:Value}{K:AV→Prop}(h:zR2 c.H x K)(he:Enc c x v):
 ∃r v',(convert src dst v).run P c.w=.ok v' c.w∧Enc c r v'∧K r:=by
 unfold zR2 at h
 split at h
 ·cases he
  exact⟨_,.pointer none,by simp[convert,run_underlying hs,run_underlying hd,Conv.unsafePointer],.nilP,h⟩
 ·rename_i b L off
  obtain⟨ty,es,cells,arr,hH,hL,⟨h1,h2⟩,g1,g2,g3⟩:=zCt hok h
  have e:=zHm he hH hL
  subst e
  have hsh:c.w.shape? (⟨c.μ b,off,none⟩:Addr).block=some (ty,arr.size):=by simp[World.shape?,g1]
  exact⟨_,_,Lib.run_to_unsafe c.w _ hs hd ht hj hsh (by show off<arr.size;omega),he,h2⟩
 ·exact h.elim
theorem zJ1{P:Program}{c:Ctx}(hok:Ok c){src dst u:TypeId}{j:TypeInfo}(hs:P.underlying src=some .unsafePointer)(hd:P.underlying dst=some (.pointer u))(hu:P.info? u=some j)(hj:P.cellsOf u≠0){x:AV}{v:Value}{K:AV→Prop}(h:zD2 u (P.cellsOf u) c.H x K)(he:Enc c x v):
 ∃r v',(convert src dst v).run P c.w=.ok v' c.w∧Enc c r v'∧K r:=by
 unfold zD2 at h
 split at h
 ·cases he
  exact⟨_,.pointer none,by simp[convert,run_underlying hs,run_underlying hd,Conv.unsafePointer],.nilP,h⟩
 ·rename_i b L off
  obtain⟨ty,es,cells,arr,hH,hL,⟨rfl,rfl,h2,h3⟩,g1,g2,g3⟩:=zCt hok h
  have e:=zHm he hH hL
  subst e
  have hsh:c.w.shape? (⟨c.μ b,0,none⟩:Addr).block=some (ty,arr.size):=by simp[World.shape?,g1]
  have hl:liesAt P P.depth ty (arr.size / P.cellsOf ty) 0 ty 1=true:=by
   have hd:P.depth=(2*(P.types.size+Made.depth)+1)+1:=rfl
   have h1:1≤arr.size / P.cellsOf ty:=(Nat.le_div_iff_mul_le (by omega)).2 (by omega)
   rw[hd]
   simp only[liesAt,Bool.or_eq_true]
   left
   rw[hd]
   simp[rowAt,hj,h1,sameLayout]
  exact⟨_,_,Lib.run_from_unsafe c.w _ hs hd hu hsh hl,he,h3⟩
 ·exact h.elim
theorem zOE{P:Program}{c:Ctx}(hok:Ok c){ts:Array TypeId}{ty:TypeId}{x:AV}{v:Value}{K:AV→Prop}(h:zSL c.H x K)(he:Enc c x v):
 ∃r v',(Builtin.unsafeSliceData_ ts ty #[v]).run P c.w=.ok v' c.w∧Enc c r v'∧K r:=by
 unfold zSL at h
 split at h
 ·rename_i b L off n ti
  obtain⟨ty',es,cells,arr,hH,hL,⟨h1,h2⟩,g1,g2,g3⟩:=zCt hok h
  cases he with
  |own _ _ _ _ _ _ hs hb hL' hv=>
   obtain⟨base,cap,arr',rfl,k0,k1,k2,k3,k4,k5⟩:=hv ty' es cells hH hL
   have:=k0.resolve_left (by omega)
   subst this
   exact⟨_,_,Lib.run_unsafeSliceData_row c.w ts ty _ n cap (by omega),.ptr b L off _ ⟨_,rfl⟩ hb hL' (fun _ _ _=>rfl),h2⟩
 ·rename_i n cells ti
  cases he with
  |seq _ _ _ base cap cv hlen hcap hmax ht hb hn hc=>
   obtain⟨k,off,rfl,hm,hk,g⟩:=hb h.1
   have hcap0:cap≠0:=by
    have:n≠0:=fun e=>by have:=hlen e;rw[this]at h;simp at h
    omega
   exact⟨_,_,Lib.run_unsafeSliceData_row c.w ts ty _ n cap hcap0,.cptr cells k off cv hm hk g hc,h.2⟩
 ·exact h.elim
theorem zNq{P:Program}{c:Ctx}(hok:Ok c){t e:TypeId}{g n:Nat}{inf:TypeInfo}(ht:P.underlying t=some (.array n e))(hi:P.info? e=some inf){i:AV}{u:Value}{K:AV→Prop}(h:zOa g n inf.size c.H i K)(hx:Enc c i u):
 ∃r v',(Instr.indexAt t (.pointer (some ⟨g,0,none⟩)) u).run P c.w=.ok v' c.w∧Enc c r v'∧K r:=by
 unfold zOa at h
 split at h
 ·rename_i k j g' cells hH
  obtain⟨rfl,h2,h3,h4⟩:=h
  cases hx
  obtain⟨k1,k2,_⟩:=hok.blk _ _ hH
  refine⟨_,.pointer (some ⟨g',j.toNat*inf.size,none⟩),?_,?_,h4⟩
  ·simp[Instr.indexAt,run_underlying ht,Instr.sureAddr,asIntOf,h2,h3,zAX hi,zA8]
  ·refine .ptr g' _ _ _ ⟨_,rfl⟩ (hok.used _ (by rw[hH];simp)) (fun x hx=>?_) (fun x hx _=>by rw[k1])
   rw[hH]at hx;injection hx with hx;subst hx;exact Nat.le_refl _
 ·exact h.elim
def zEm(P:Program)(t:TypeId):Bool:=
 match P.underlying t with
 |some (.int _)=>true
 |_=>false
def zXA(P:Program)(t:TypeId):Bool:=
 match P.underlying t with
 |some (.struct fs)=>match fs.toList with
  |[f0,f1]=>f0.offset==0&&f1.offset==1&&f0.name !="_"&& f1.name !="_"&& zEm P f0.type&& zEm P f1.type&& !P.stoodInHeld t&&!P.eqGuardType P.depth t
  |_=>false
 |_=>false
theorem zew{α:Type}{xs:Array α}{x y:α}(h:xs.toList=[x,y]):xs= #[x,y]:=by cases xs;simp_all
theorem zBi{P:Program}{t:TypeId}(h:zEm P t=true): ∃k,P.underlying t=some (.int k):=by
 unfold zEm at h
 split at h
 ·rename_i k hk;exact⟨k,hk⟩
 ·cases h
theorem zLa{c:Ctx}{k k':IntKind}{a b:Int}{v:Value}(h:Enc c (.agg [.int k a,.int k' b]) v):v=.agg #[.int k a,.int k' b]:=by
 cases h with
 |agg l vs hl hc=>
  have h2:vs.size=2:=by simpa using hl
  have e0:=hc 0 (by simp) (by omega)
  have e1:=hc 1 (by simp) (by omega)
  simp only[List.getElem_cons_zero,List.getElem_cons_succ]at e0 e1
  have hv:vs= #[vs[0],vs[1]]:=by
   apply Array.ext
   ·simp[h2]
   ·intro i hi hi'
    have:i=0∨i=1:=by omega
    rcases this with rfl|rfl<;>simp
  generalize vs[0]=v0 at*
  generalize vs[1]=v1 at*
  cases e0;cases e1
  rw[hv]
theorem zHL{P:Program}{c:Ctx}{t:TypeId}(ht:zXA P t=true){ng:Bool}{x y:AV}{u v:Value}{K:AV→Prop}(h:zNw ng x y K)(hx:Enc c x u)(hy:Enc c y v)(p q:Operand):
 ∃r v',(do eqGuard (zFM ng) t p q u v;binOp (zFM ng) t u v:Sem Value).run P c.w=.ok v' c.w∧Enc c r v'∧K r:=by
 unfold zNw at h
 split at h
 ·rename_i k a k' b j c0 j' d
  obtain⟨rfl,rfl,h⟩:=h
  have e1:=zLa hx
  have e2:=zLa hy
  subst e1;subst e2
  unfold zXA at ht
  split at ht
  ·rename_i fs hu
   split at ht
   ·rename_i f0 f1 hfs
    simp only[Bool.and_eq_true,beq_iff_eq,bne_iff_ne,ne_eq,Bool.not_eq_true']at ht
    obtain⟨⟨⟨⟨⟨⟨⟨h1,h2⟩,h3⟩,h4⟩,h5⟩,h6⟩,h7⟩,h8⟩:=ht
    obtain⟨k0,hk0⟩:=zBi h5
    obtain⟨k1,hk1⟩:=zBi h6
    have hfa:fs= #[f0,f1]:=zew hfs
    subst hfa
    have gd:(eqGuard (zFM ng) t p q (.agg #[.int k a,.int k' b]) (.agg #[.int k c0,.int k' d])).run P c.w=.ok () c.w:=by
     cases ng<;>simp[eqGuard,zFM,h8]
    have hint: ∀(dd:Nat)(tt:TypeId)(kk kx:IntKind)(x y:Int),P.underlying tt=some (.int kk)→(Op.equalIn (dd+1) tt (.int kx x) (.int kx y)).run P c.w=.ok (x==y) c.w:=fun dd tt kk kx x y hk=>by
     simp only[Op.equalIn,Sem.run_bind,run_underlying hk,Result.andThen_ok,if_true,Sem.run_pure]
    have pa: ∀(tt:TypeId)(kk:IntKind)(cs:Array Value)(i:Nat)(z:Value),P.underlying tt=some (.int kk)→cs[i]? =some z→(part tt cs i).run P c.w=.ok z c.w:=fun tt kk cs i z hk hz=>by
     simp[part,isAgg,run_underlying hk,hz]
    have ev: ∀dd:Nat,(Op.equalIn (dd+2) t (.agg #[.int k a,.int k' b]) (.agg #[.int k c0,.int k' d])).run P c.w=.ok (decide (a=c0)&&decide (b=d)) c.w:=fun dd=>by
     have q0:=hint dd f0.type k0 k a c0 hk0
     have q1:=hint dd f1.type k1 k' b d hk1
     have p0:=pa f0.type k0 #[.int k a,.int k' b] f0.offset (.int k a) hk0 (by rw[h1];rfl)
     have p1:=pa f0.type k0 #[.int k c0,.int k' d] f0.offset (.int k c0) hk0 (by rw[h1];rfl)
     have p2:=pa f1.type k1 #[.int k a,.int k' b] f1.offset (.int k' b) hk1 (by rw[h2];rfl)
     have p3:=pa f1.type k1 #[.int k c0,.int k' d] f1.offset (.int k' d) hk1 (by rw[h2];rfl)
     rw[Op.equalIn]
     simp only[Sem.run_bind,run_underlying hu,Result.andThen_ok]
     simp[h7,h3,h4,p0,p1,p2,p3,q0,q1]
     by_cases ha:a=c0<;>by_cases hb:b=d<;>simp[ha,hb,p2,p3,q1]
    refine⟨_,.bool (ng !=(decide (a=c0)&&decide (b=d))),?_,.bool _,h⟩
    rw[Sem.run_bind,gd,Result.andThen_ok]
    cases ng
    ·simp only[zFM,binOp]
     simp[Op.equal,Op.maxDepth,ev 9998]
    ·simp only[zFM,binOp]
     simp[Op.equal,Op.maxDepth,ev 9998]
   ·cases ht
  ·cases ht
 ·exact h.elim
def zQQ(P:Program)(t:TypeId):Bool:=
 match P.underlying t with
 |some (.struct fs)=>match fs.toList with
  |[f0,f1,f2,f3,f4]=>f0.offset==0&&f1.offset==1&&f2.offset==2&&f3.offset==3&&f4.offset==4&&f0.name !="_"&& f1.name !="_"&& f2.name !="_"&& f3.name !="_"&& f4.name !="_"&&
   zEm P f0.type&&zEm P f1.type&&zEm P f2.type&&zEm P f3.type&&zEm P f4.type&&!P.stoodInHeld t&&!P.eqGuardType P.depth t
  |_=>false
 |_=>false
theorem zer{α:Type}{xs:Array α}{a b c d e:α}(h:xs.toList=[a,b,c,d,e]):xs= #[a,b,c,d,e]:=by cases xs;simp_all
theorem zJu{c:Ctx}{k0 k1 k2 k3 k4:IntKind}{a0 a1 a2 a3 a4:Int}{v:Value}(h:Enc c (.agg [.int k0 a0,.int k1 a1,.int k2 a2,.int k3 a3,.int k4 a4]) v):v=.agg #[.int k0 a0,.int k1 a1,.int k2 a2,.int k3 a3,.int k4 a4]:=by
 cases h with
 |agg l vs hl hc=>
  have h2:vs.size=5:=by simpa using hl
  have e0:=hc 0 (by simp) (by omega)
  have e1:=hc 1 (by simp) (by omega)
  have e2:=hc 2 (by simp) (by omega)
  have e3:=hc 3 (by simp) (by omega)
  have e4:=hc 4 (by simp) (by omega)
  simp only[List.getElem_cons_zero,List.getElem_cons_succ]at e0 e1 e2 e3 e4
  have hv:vs= #[vs[0],vs[1],vs[2],vs[3],vs[4]]:=by
   apply Array.ext
   ·simp[h2]
   ·intro i hi hi'
    have:i=0∨i=1∨i=2∨i=3∨i=4:=by omega
    rcases this with rfl|rfl|rfl|rfl|rfl<;>simp
  generalize vs[0]=v0 at*
  generalize vs[1]=v1 at*
  generalize vs[2]=v2 at*
  generalize vs[3]=v3 at*
  generalize vs[4]=v4 at*
  cases e0;cases e1;cases e2;cases e3;cases e4
  rw[hv]
theorem zGM{P:Program}{c:Ctx}{t:TypeId}(ht:zQQ P t=true){ng:Bool}{x y:AV}{u v:Value}{K:AV→Prop}(h:zK3 ng x y K)(hx:Enc c x u)(hy:Enc c y v)(p q:Operand):
 ∃r v',(do eqGuard (zFM ng) t p q u v;binOp (zFM ng) t u v:Sem Value).run P c.w=.ok v' c.w∧Enc c r v'∧K r:=by
 unfold zK3 at h
 split at h
 ·rename_i k0 a0 k1 a1 k2 a2 k3 a3 k4 a4 j0 b0 j1 b1 j2 b2 j3 b3 j4 b4
  obtain⟨rfl,rfl,rfl,rfl,rfl,h⟩:=h
  have e1:=zJu hx
  have e2:=zJu hy
  subst e1;subst e2
  unfold zQQ at ht
  split at ht
  ·rename_i fs hu
   split at ht
   ·rename_i f0 f1 f2 f3 f4 hfs
    simp only[Bool.and_eq_true,beq_iff_eq,bne_iff_ne,ne_eq,Bool.not_eq_true']at ht
    obtain⟨⟨⟨⟨⟨⟨⟨⟨⟨⟨⟨⟨⟨⟨⟨⟨o0,o1⟩,o2⟩,o3⟩,o4⟩,n0⟩,n1⟩,n2⟩,n3⟩,n4⟩,i0⟩,i1⟩,i2⟩,i3⟩,i4⟩,h7⟩,h8⟩:=ht
    obtain⟨l0,hl0⟩:=zBi i0
    obtain⟨l1,hl1⟩:=zBi i1
    obtain⟨l2,hl2⟩:=zBi i2
    obtain⟨l3,hl3⟩:=zBi i3
    obtain⟨l4,hl4⟩:=zBi i4
    have hfa:fs= #[f0,f1,f2,f3,f4]:=zer hfs
    subst hfa
    have gd: ∀u v:Array Value,(eqGuard (zFM ng) t p q (.agg u) (.agg v)).run P c.w=.ok () c.w:=fun u v=>by
     cases ng<;>simp[eqGuard,zFM,h8]
    have hint: ∀(dd:Nat)(tt:TypeId)(kk kx:IntKind)(x y:Int),P.underlying tt=some (.int kk)→(Op.equalIn (dd+1) tt (.int kx x) (.int kx y)).run P c.w=.ok (x==y) c.w:=fun dd tt kk kx x y hk=>by
     simp only[Op.equalIn,Sem.run_bind,run_underlying hk,Result.andThen_ok,if_true,Sem.run_pure]
    have pa: ∀(tt:TypeId)(kk:IntKind)(cs:Array Value)(i:Nat)(z:Value),P.underlying tt=some (.int kk)→cs[i]? =some z→(part tt cs i).run P c.w=.ok z c.w:=fun tt kk cs i z hk hz=>by
     simp[part,isAgg,run_underlying hk,hz]
    have ev: ∀dd:Nat,(Op.equalIn (dd+2) t (.agg #[.int k0 a0,.int k1 a1,.int k2 a2,.int k3 a3,.int k4 a4]) (.agg #[.int k0 b0,.int k1 b1,.int k2 b2,.int k3 b3,.int k4 b4])).run P c.w=.ok (decide (a0=b0)&&(decide (a1=b1)&&(decide (a2=b2)&&(decide (a3=b3)&&decide (a4=b4))))) c.w:=fun dd=>by
     have q0:=hint dd f0.type l0 k0 a0 b0 hl0
     have q1:=hint dd f1.type l1 k1 a1 b1 hl1
     have q2:=hint dd f2.type l2 k2 a2 b2 hl2
     have q3:=hint dd f3.type l3 k3 a3 b3 hl3
     have q4:=hint dd f4.type l4 k4 a4 b4 hl4
     have x0:=pa f0.type l0 #[.int k0 a0,.int k1 a1,.int k2 a2,.int k3 a3,.int k4 a4] f0.offset (.int k0 a0) hl0 (by rw[o0];rfl)
     have x1:=pa f1.type l1 #[.int k0 a0,.int k1 a1,.int k2 a2,.int k3 a3,.int k4 a4] f1.offset (.int k1 a1) hl1 (by rw[o1];rfl)
     have x2:=pa f2.type l2 #[.int k0 a0,.int k1 a1,.int k2 a2,.int k3 a3,.int k4 a4] f2.offset (.int k2 a2) hl2 (by rw[o2];rfl)
     have x3:=pa f3.type l3 #[.int k0 a0,.int k1 a1,.int k2 a2,.int k3 a3,.int k4 a4] f3.offset (.int k3 a3) hl3 (by rw[o3];rfl)
     have x4:=pa f4.type l4 #[.int k0 a0,.int k1 a1,.int k2 a2,.int k3 a3,.int k4 a4] f4.offset (.int k4 a4) hl4 (by rw[o4];rfl)
     have y0:=pa f0.type l0 #[.int k0 b0,.int k1 b1,.int k2 b2,.int k3 b3,.int k4 b4] f0.offset (.int k0 b0) hl0 (by rw[o0];rfl)
     have y1:=pa f1.type l1 #[.int k0 b0,.int k1 b1,.int k2 b2,.int k3 b3,.int k4 b4] f1.offset (.int k1 b1) hl1 (by rw[o1];rfl)
     have y2:=pa f2.type l2 #[.int k0 b0,.int k1 b1,.int k2 b2,.int k3 b3,.int k4 b4] f2.offset (.int k2 b2) hl2 (by rw[o2];rfl)
     have y3:=pa f3.type l3 #[.int k0 b0,.int k1 b1,.int k2 b2,.int k3 b3,.int k4 b4] f3.offset (.int k3 b3) hl3 (by rw[o3];rfl)
     have y4:=pa f4.type l4 #[.int k0 b0,.int k1 b1,.int k2 b2,.int k3 b3,.int k4 b4] f4.offset (.int k4 b4) hl4 (by rw[o4];rfl)
     rw[Op.equalIn]
     simp only[Sem.run_bind,run_underlying hu,Result.andThen_ok]
     simp[h7,n0,n1,n2,n3,n4,x0,y0,q0]
     by_cases ha:a0=b0
     ·subst ha;simp[x1,y1,q1]
      by_cases hb:a1=b1
      ·subst hb;simp[x2,y2,q2]
       by_cases hc:a2=b2
       ·subst hc;simp[x3,y3,q3]
        by_cases hd:a3=b3
        ·subst hd;simp[x4,y4,q4]
         by_cases he:a4=b4<;>simp[he]
        ·simp[hd]
       ·simp[hc]
      ·simp[hb]
     ·simp[ha]
    refine⟨_,.bool (ng !=(decide (a0=b0)&&(decide (a1=b1)&&(decide (a2=b2)&&(decide (a3=b3)&&decide (a4=b4)))))),?_,.bool _,h⟩
    rw[Sem.run_bind,gd,Result.andThen_ok]
    cases ng
    ·simp only[zFM,binOp]
     simp[Op.equal,Op.maxDepth,ev 9998]
    ·simp only[zFM,binOp]
     simp[Op.equal,Op.maxDepth,ev 9998]
   ·cases ht
  ·cases ht
 ·exact h.elim
theorem zHb{P:Program}{c:Ctx}{t:TypeId}{ps rs:Array TypeId}{va:Bool}(ht:P.underlying t=some (.func ps rs va)){ng:Bool}{x:AV}{u:Value}{K:AV→Prop}(h:zY2 ng x K)(hx:Enc c x u)(p q:Operand):
 ∃r v',(do eqGuard (zFM ng) t p q u .nilFunc;binOp (zFM ng) t u .nilFunc:Sem Value).run P c.w=.ok v' c.w∧Enc c r v'∧K r:=by
 unfold zY2 at h
 split at h
 ·rename_i f first caps
  cases hx with
  |fn _ _ _ fv cv hf hcs h1 h2=>
   have gd:(eqGuard (zFM ng) t p q (.func f fv cv) .nilFunc).run P c.w=.ok () c.w:=by cases ng<;>simp[eqGuard,zFM]
   have ev: ∀d:Nat,(Op.equalIn (d+1) t (.func f fv cv) .nilFunc).run P c.w=.ok false c.w:=fun d=>by
    simp only[Op.equalIn,Sem.run_bind,run_underlying ht,Result.andThen_ok,Sem.run_pure]
   refine⟨_,.bool ng,?_,.bool _,h⟩
   rw[Sem.run_bind,gd,Result.andThen_ok]
   cases ng
   ·simp only[zFM,binOp]
    simp[Op.equal,Op.maxDepth,ev 9999]
   ·simp only[zFM,binOp]
    simp[Op.equal,Op.maxDepth,ev 9999]
 ·cases hx
  have gd:(eqGuard (zFM ng) t p q .nilFunc .nilFunc).run P c.w=.ok () c.w:=by cases ng<;>simp[eqGuard,zFM]
  have ev: ∀d:Nat,(Op.equalIn (d+1) t .nilFunc .nilFunc).run P c.w=.ok true c.w:=fun d=>by
   simp only[Op.equalIn,Sem.run_bind,run_underlying ht,Result.andThen_ok,Sem.run_pure]
  refine⟨_,.bool (!ng),?_,.bool _,h⟩
  rw[Sem.run_bind,gd,Result.andThen_ok]
  cases ng
  ·simp only[zFM,binOp]
   simp[Op.equal,Op.maxDepth,ev 9999]
  ·simp only[zFM,binOp]
   simp[Op.equal,Op.maxDepth,ev 9999]
 ·exact h.elim
def zej(H:AHeap)(b:Nat)(K:AV→AHeap→Prop):Option (List UInt8)→Prop
 |some l=>K (.str ⟨l.toArray⟩) (H.upd b none)
 |none=>False
def zcK(e:TypeId)(H:AHeap)(x n:AV)(K:AV→AHeap→Prop):Prop:=
 match x,n with
 |.ptr b L off,.int .i64 m=>zIi H b L fun ty _ cells=>ty=e∧off=0∧0<m∧m.toNat≤L∧m<9223372036854775808∧zej H b K (bytesOf (cells.take m.toNat))
 |_,_=>False
def Ctx.frzn(c:Ctx)(b n:Nat):Ctx:={ c with H:=c.H.upd b none,w:=c.w.freeze ⟨c.μ b,0,none⟩ n }
theorem zDO(w:World)(a:Addr)(n:Nat){k:Nat}(h:k≠a.block):(w.freeze a n).heap[k]? =w.heap[k]? :=by
 unfold World.freeze
 split
 ·rfl
 ·simp only[Array.getElem?_modify]
  rw[if_neg (fun e=>h e.symm)]
theorem zKq(w:World)(a:Addr)(n:Nat):(w.freeze a n).heap.size=w.heap.size:=by
 unfold World.freeze;split<;>simp
theorem zF7(w:World)(a:Addr)(n:Nat):(w.freeze a n).os=w.os∧(w.freeze a n).tape=w.tape∧(w.freeze a n).output=w.output:=by
 unfold World.freeze;split<;>exact⟨rfl,rfl,rfl⟩
theorem Ctx.frzn_later{c:Ctx}(hok:Ok c){b:Nat}{ty:TypeId}{es:Nat}{cells:List AV}(hH:c.H b=some (.row ty es cells))(n:Nat):Later c (c.frzn b n):=by
 have oth: ∀i x',c.H i=some x'→i≠b→(c.frzn b n).w.heap[c.μ i]? =c.w.heap[c.μ i]? :=fun i x' hx hne=>
  zDO _ _ _ fun e=>hne (hok.inj i b (by rw[hx];simp) (by rw[hH];simp) e)
 refine⟨⟨Nat.le_of_eq (zKq _ _ _).symm,(zF7 _ _ _).1,(zF7 _ _ _).2.1,(zF7 _ _ _).2.2,fun _ h=>h,fun i x' hi hx=>?_,fun k hk hm=>⟨zDO _ _ _ ?_,?_⟩⟩,fun _ h=>⟨h,fun k=>k⟩⟩
 ·rcases zBS hx with⟨e,h⟩|⟨hne,hx⟩
  ·cases h
  ·refine⟨x',hx,Nat.le_refl _,fun _=>⟨rfl,fun ty es cells e=>⟨cells,e,fun arr h=>⟨arr,?_,rfl⟩⟩⟩⟩
   show(c.frzn b n).w.heap[c.μ i]? =_
   rw[oth i x' hx hne];exact h
 ·rintro rfl
  exact hm ⟨b,zGH hH,rfl⟩
 ·rintro⟨i,h1,h2⟩
  rcases zFA h1 with e|⟨_,h1⟩
  ·subst e
   have h1':ABlk.mut ((c.H.upd i none) i):=h1
   rw[zAC]at h1'
   exact h1'
  ·exact hm ⟨i,h1,h2⟩
theorem Ctx.frzn_ok{c:Ctx}(hok:Ok c){b:Nat}{ty:TypeId}{es:Nat}{cells:List AV}(hH:c.H b=some (.row ty es cells))(n:Nat):Ok (c.frzn b n):=by
 have hl:=Ctx.frzn_later hok hH n
 have ne: ∀i,(c.H.upd b none) i≠none→i≠b∧c.H i≠none:=by
  intro i hi
  by_cases e:i=b
  ·subst e;rw[zAC]at hi;exact absurd rfl hi
  ·rw[zAA _ _ e]at hi;exact⟨e,hi⟩
 refine⟨fun i hi=>hok.used i (ne i hi).2,hok.fin,fun i j hi hj e=>hok.inj i j (ne i hi).2 (ne j hj).2 e,fun i y hy=>?_⟩
 have hne:i≠b:=(ne i (by show(c.H.upd b none) i≠none;have hy':(c.H.upd b none) i=some y:=hy;rw[hy'];simp)).1
 have hy':c.H i=some y:=by
  have:(c.H.upd b none) i=some y:=hy
  rwa[zAA _ _ hne]at this
 exact(hok.blk i y hy').later hl rfl (zDO _ _ _ fun e=>hne (hok.inj i b (by rw[hy'];simp) (by rw[hH];simp) e))
theorem zNH{P:Program}{c:Ctx}(hok:Ok c){pt it ty e:TypeId}(hp:P.underlying pt=some (.pointer e))(hc:P.cellsOf e=1){x n:AV}{v u:Value}{K:AV→AHeap→Prop}(h:zcK e c.H x n K)(he:Enc c x v)(hn:Enc c n u):
 ∃(c':Ctx)(r:AV)(v':Value),(Builtin.unsafeString_ #[pt,it] ty #[v,u]).run P c.w=.ok v' c'.w∧Later c c'∧Ok c'∧Enc c' r v'∧K r c'.H:=by
 unfold zcK at h
 split at h
 ·rename_i b L off m
  obtain⟨ty',es,cells,arr,hH,hL,⟨rfl,rfl,h1,h2,h3,h4⟩,g1,g2,g3⟩:=zCt hok h
  have ev:=zHm he hH hL
  subst ev
  cases hn
  cases hb:bytesOf (cells.take m.toNat)with
  |none=>rw[hb]at h4;exact h4.elim
  |some l=>
   rw[hb]at h4
   have hlen:l.length=m.toNat:=by rw[zF3 hb];simp;omega
   have hsp:=zDR (c:=c) hb (fun i=>arr.getD i undef) (fun i hi=>by
    have hi':i<cells.length:=by simp at hi;omega
    have h5:i<arr.size:=by omega
    have:=g3 i hi' h5
    simpa[Array.getD_eq_getD_getElem?,h5]using this)
   have hm:(m:Int)=((l.length:Nat):Int):=by omega
   have hcell: ∀j y,l[j]? =some y→c.w.cell? ((⟨c.μ b,0,none⟩:Addr).add j)=some (.int .u8 y.toNat):=by
    intro j y hj
    have hj':j<l.length:=(List.getElem?_eq_some_iff.1 hj).1
    have h5:j<arr.size:=by omega
    have e1:=congrArg (fun z=>z[j]?) hsp
    simp only[List.getElem?_map,hj,Option.map_some]at e1
    rw[List.getElem?_range (by simp;omega)]at e1
    simp only[Option.map_some,Option.some.injEq]at e1
    rw[zA8,Nat.zero_add,zEO g1 h5]
    simpa[Array.getD_eq_getD_getElem?,h5]using e1
   have hrun:=Lib.run_unsafeString_row (P:=P) c.w pt it ty ty' hp hc (c.μ b) arr.size (by simp[World.shape?,g1]) l (by intro e;rw[e]at hlen;simp at hlen;omega) (by omega) (by omega) hcell
   rw[← hm]at hrun
   exact⟨c.frzn b l.length,.str ⟨l.toArray⟩,_,hrun,Ctx.frzn_later hok hH _,Ctx.frzn_ok hok hH _,.str _,h4⟩
 ·exact h.elim
def zY7(H:AHeap)(x:AV)(K:AV→AHeap→Prop):Prop:=
 match x with
 |.str s=> ∀b,H b=none→K (.ptr b 0 0) (H.upd b (some (.raw (.stringIter s 0))))
 |_=>False
theorem zNZ{P:Program}{c:Ctx}(hok:Ok c){t:TypeId}(ht:P.underlying t=some .string){x:AV}{v:Value}{K:AV→AHeap→Prop}(h:zY7 c.H x K)(he:Enc c x v):
 ∃(c':Ctx)(r:AV)(v':Value),(Instr.range t v).run P c.w=.ok v' c'.w∧Later c c'∧Ok c'∧Enc c' r v'∧K r c'.H:=by
 unfold zY7 at h
 split at h
 ·rename_i s
  cases he
  obtain⟨b,hb⟩:=hok.fresh
  refine⟨c.new b (.stringIter s 0) (.raw (.stringIter s 0)),.ptr b 0 0,.pointer (some ⟨c.w.heap.size,0,none⟩),?_,Ctx.new_later hok hb _ _,Ctx.new_ok hok hb _ _ ⟨?_,fun x t f e=>by cases e⟩,zEE c b (.stringIter s 0) (.raw (.stringIter s 0)),h b (zDC hok hb.1)⟩
  ·simp[Instr.range,run_underlying ht]
   rfl
  ·have e:(c.new b (.stringIter s 0) (.raw (.stringIter s 0))).μ b=c.w.heap.size:=by simp[Ctx.new]
   rw[e];exact zB1 _ _
 ·exact h.elim
def Ctx.putRaw(c:Ctx)(b:Nat)(o:Obj):Ctx:={ c with H:=c.H.upd b (some (.raw o)),w:={ c.w with heap:=c.w.heap.setIfInBounds (c.μ b) o } }
theorem zEB(w:World)(o:Obj){j k:Nat}(h:k≠j):(w.heap.setIfInBounds j o)[k]? =w.heap[k]? :=by
 rw[Array.getElem?_setIfInBounds_ne (fun e=>h e.symm)]
theorem Ctx.putRaw_later{c:Ctx}(hok:Ok c){b:Nat}{o:Obj}(hH:c.H b=some (.raw o))(o':Obj):Later c (c.putRaw b o'):=by
 refine⟨⟨by simp[Ctx.putRaw],rfl,rfl,rfl,fun _ h=>h,fun i x' hi hx=>?_,fun k hk hm=>⟨zEB _ _ ?_,?_⟩⟩,fun _ h=>⟨h,fun k=>k⟩⟩
 ·rcases zBS hx with⟨e,h⟩|⟨hne,hx⟩
  ·subst e;injection h with h;subst h
   exact⟨_,hH,Nat.le_refl _,fun _=>⟨rfl,fun ty es cells e=>by cases e⟩⟩
  ·refine⟨x',hx,Nat.le_refl _,fun _=>⟨rfl,fun ty es cells e=>⟨cells,e,fun arr h=>⟨arr,?_,rfl⟩⟩⟩⟩
   show((c.w.heap.setIfInBounds (c.μ b) o'))[c.μ i]? =_
   rw[zEB _ _ (fun e=>hne (hok.inj i b (by rw[hx];simp) (by rw[hH];simp) e))];exact h
 ·rintro rfl
  exact hm ⟨b,by rw[hH];trivial,rfl⟩
 ·rintro⟨i,h1,h2⟩
  rcases zFA h1 with e|⟨_,h1⟩
  ·subst e;exact hm ⟨i,by rw[hH];trivial,h2⟩
  ·exact hm ⟨i,h1,h2⟩
theorem Ctx.putRaw_ok{c:Ctx}(hok:Ok c){b:Nat}{o:Obj}(hH:c.H b=some (.raw o))(o':Obj)(ho: ∀x t f,o'≠.cells x t f):Ok (c.putRaw b o'):=by
 have hl:=Ctx.putRaw_later hok hH o'
 have ne: ∀i,(c.H.upd b (some (.raw o'))) i≠none→c.H i≠none:=by
  intro i hi
  rcases zD1 hi with e|⟨_,h⟩
  ·subst e;rw[hH];simp
  ·exact h
 refine⟨fun i hi=>hok.used i (ne i hi),hok.fin,fun i j hi hj e=>hok.inj i j (ne i hi) (ne j hj) e,fun i y hy=>?_⟩
 rcases zBS hy with⟨e,h⟩|⟨hne,h⟩
 ·subst e;injection h with h;subst h
  refine⟨?_,ho⟩
  have hlt:=(hok.blk i _ hH).lt
  show(c.w.heap.setIfInBounds (c.μ i) o')[c.μ i]? =_
  simp[hlt]
 ·exact(hok.blk i y h).later hl rfl (zEB _ _ fun e=>hne (hok.inj i b (by rw[h];simp) (by rw[hH];simp) e))
def Ctx.putO(c:Ctx)(b:Nat)(x:ABlk)(o:Obj):Ctx:={ c with H:=c.H.upd b (some x),w:=c.w.putObj (c.μ b) o }
theorem Ctx.putO_later{c:Ctx}(hok:Ok c){b:Nat}{x y:ABlk}(hH:c.H b=some x)(hx:x.len=0)(hm:ABlk.mut (some x))(hy:y.len=0)(hr: ∀ty es cells,y≠.row ty es cells)(o:Obj):Later c (c.putO b y o):=by
 refine⟨⟨by simp[Ctx.putO],rfl,rfl,rfl,fun _ h=>h,fun i x' hi hx'=>?_,fun k hk hm'=>⟨World.putObj_heap_other ?_,?_⟩⟩,fun _ h=>⟨h,fun k=>k⟩⟩
 ·rcases zBS hx' with⟨e,h⟩|⟨hne,hx'⟩
  ·subst e;injection h with h;subst h
   exact⟨_,hH,by omega,fun _=>⟨rfl,fun ty es cells e=>absurd e (hr _ _ _)⟩⟩
  ·refine⟨x',hx',Nat.le_refl _,fun _=>⟨rfl,fun ty es cells e=>⟨cells,e,fun arr h=>⟨arr,?_,rfl⟩⟩⟩⟩
   show(c.w.putObj (c.μ b) o).heap[c.μ i]? =_
   rw[World.putObj_heap_other (fun e=>hne (hok.inj i b (by rw[hx'];simp) (by rw[hH];simp) e))];exact h
 ·rintro rfl
  exact hm' ⟨b,by rw[hH];exact hm,rfl⟩
 ·rintro⟨i,h1,h2⟩
  rcases zFA h1 with e|⟨_,h1⟩
  ·subst e;exact hm' ⟨i,by rw[hH];exact hm,h2⟩
  ·exact hm' ⟨i,h1,h2⟩
theorem Ctx.putO_ok{c:Ctx}(hok:Ok c){b:Nat}{x y:ABlk}(hH:c.H b=some x)(hx:x.len=0)(hm:ABlk.mut (some x))(hy:y.len=0)(hr: ∀ty es cells,y≠.row ty es cells)(o:Obj)(hb:BlkOk (c.putO b y o) b y):Ok (c.putO b y o):=by
 have hl:=Ctx.putO_later hok hH hx hm hy hr o
 have ne: ∀i,(c.H.upd b (some y)) i≠none→c.H i≠none:=by
  intro i hi
  rcases zD1 hi with e|⟨_,h⟩
  ·subst e;rw[hH];simp
  ·exact h
 refine⟨fun i hi=>hok.used i (ne i hi),hok.fin,fun i j hi hj e=>hok.inj i j (ne i hi) (ne j hj) e,fun i z hz=>?_⟩
 rcases zBS hz with⟨e,h⟩|⟨hne,h⟩
 ·subst e;injection h with h;subst h;exact hb
 ·exact(hok.blk i z h).later hl rfl (World.putObj_heap_other fun e=>hne (hok.inj i b (by rw[h];simp) (by rw[hH];simp) e))
def zUK(H:AHeap)(b:Nat)(K:AV→AHeap→Prop):Option ABlk→Prop
 |some (.raw (.stringIter s pos))=>(pos<s.size→zB3 s pos<128∧K (.tup [.bool true,.int .i64 (pos:Int),.int .i32 (zB3 s pos:Int)]) (H.upd b (some (.raw (.stringIter s (pos+1))))))∧(s.size≤pos→K (.tup [.bool false]) H)
 |_=>False
def zY8(H:AHeap)(x:AV)(K:AV→AHeap→Prop):Prop:=
 match x with
 |.ptr b L off=>L=0∧off=0∧zUK H b K (H b)
 |_=>False
theorem zKp{s:ByteArray}{pos:Nat}(h:pos<s.size)(hb:zB3 s pos<128):Utf8.decode s pos=(zB3 s pos,1):=by
 have e:(s.get! (pos+0)).toNat=zB3 s pos:=by
  unfold zB3
  have h':pos<s.data.size:=h
  rw[Nat.add_zero]
  show(s.data[pos]!).toNat=_
  rw[getElem!_pos s.data pos h']
  rw[List.getD_eq_getElem?_getD,Array.getElem?_toList,Array.getElem?_eq_getElem h']
  rfl
 unfold Utf8.decode
 simp only[e]
 rw[if_pos hb]
theorem zNW{P:Program}{c:Ctx}(hok:Ok c){ty:TypeId}{x:AV}{v:Value}{K:AV→AHeap→Prop}(h:zY8 c.H x K)(he:Enc c x v):
 ∃(c':Ctx)(r:AV)(v':Value),(Instr.next v true ty).run P c.w=.ok v' c'.w∧Later c c'∧Ok c'∧Enc c' r v'∧K r c'.H:=by
 unfold zY8 at h
 split at h
 ·rename_i b L off
  obtain⟨rfl,rfl,h⟩:=h
  unfold zUK at h
  split at h
  ·rename_i s pos hH
   obtain⟨k1,k2⟩:=hok.blk b _ hH
   have ev:v=.pointer (some ⟨c.μ b,0,none⟩):=by
    cases he with
    |ptr _ _ _ _ _ _ _ hv=>exact hv _ hH rfl
   subst ev
   by_cases hp:pos<s.size
   ·obtain⟨hb,hk⟩:=h.1 hp
    refine⟨c.putRaw b (.stringIter s (pos+1)),_,.tuple #[.bool true,.int .i64 (pos:Int),.int .i32 (zB3 s pos:Int)],?_,Ctx.putRaw_later hok hH _,Ctx.putRaw_ok hok hH _ (fun x t f e=>by cases e),?_,hk⟩
    ·have hset:(setObj (c.μ b) (.stringIter s (pos+1))).run P c.w=.ok () (c.putRaw b (.stringIter s (pos+1))).w:=by
      simp[setObj,Sem.run,k1,Ctx.putRaw]
     have hget:(getObj (c.μ b)).run P c.w=.ok (.stringIter s pos) c.w:=by simp[getObj,Sem.run,k1]
     unfold Instr.next
     simp only[Sem.run_bind,hget,Result.andThen_ok,if_pos hp,zKp hp hb,hset,Sem.run_pure]
     rfl
    ·refine .tup _ _ rfl fun i hi hi'=>?_
     match i,hi with
     |0,_=>exact .bool true
     |1,_=>exact .int .i64 _
     |2,_=>exact .int .i32 _
   ·refine⟨c,_,.tuple #[.bool false],?_,Later.refl c,hok,?_,h.2 (by omega)⟩
    ·have hget:(getObj (c.μ b)).run P c.w=.ok (.stringIter s pos) c.w:=by simp[getObj,Sem.run,k1]
     unfold Instr.next
     simp only[Sem.run_bind,hget,Result.andThen_ok,if_neg hp,Sem.run_pure]
    ·refine .tup _ _ rfl fun i hi hi'=>?_
     match i,hi with
     |0,_=>exact .bool false
  ·exact h.elim
 ·exact h.elim
def zLO:Prim→List Nat
 |.gix g _ _=>[g]
 |_=>[]
def zBJ:AV→List Nat
 |.ptr b _ _=>[b]
 |.own b _ _ _ _=>[b]
 |_=>[]
theorem zCu{H H':AHeap}{x:AV}(hl: ∀q,q∈zBJ x→H' q=H q)(h:zEA H x):zEA H' x:=by
 unfold zEA at*
 split at h
 ·rename_i b L off
  have e:=hl b (by simp[zBJ])
  simp only[e];exact h
 ·trivial
 ·exact h.elim
theorem zCr{H H':AHeap}{b L:Nat}{K:TypeId→Nat→List AV→Prop}(e:H' b=H b)(h:zIi H b L K):zIi H' b L K:=by
 unfold zIi at *; rw[e];exact h
theorem zKk{p:Prim}{l:List AV}{H H':AHeap}{K:AV→Prop}(hl: ∀q,q∈zLO p++l.flatMap zBJ→H' q=H q)(h:zCV p l H K):zCV p l H' K:=by
 have hx: ∀x,x∈l→∀q,q∈zBJ x→H' q=H q:=fun x hx q hq=>hl q (by simp only[List.mem_append,List.mem_flatMap];exact .inr ⟨x,hx,hq⟩)
 unfold zCV at*
 split at h
 ·rename_i x;exact⟨zCu (hx x (by simp)) h.1,h.2⟩
 ·rename_i ng x y
  have ex:=hx x (by simp)
  have ey:=hx y (by simp)
  unfold zOD at*
  split at h
  ·exact h
  ·exact⟨zCu ex h.1,h.2⟩
  ·exact⟨zCu ex h.1,zCu ey h.2.1,h.2.2⟩
  ·exact h.elim
 ·rename_i x
  have ex:=hx x (by simp)
  unfold zOO at*
  split at h
  ·exact h
  ·rename_i b L off n ti;exact zCr (ex b (by simp[zBJ])) h
  ·exact h.elim
 ·rename_i n es x i
  have ex:=hx x (by simp)
  unfold zGm at*
  split at h
  ·exact⟨zCu ex h.1,h.2⟩
  ·exact h.elim
 ·rename_i n es x
  have ex:=hx x (by simp)
  unfold zHu at*
  split at h
  ·rename_i b L off;exact zCr (ex b (by simp[zBJ])) h
  ·exact h.elim
 ·rename_i x
  have ex:=hx x (by simp)
  unfold zR2 at*
  split at h
  ·exact h
  ·rename_i b L off;exact zCr (ex b (by simp[zBJ])) h
  ·exact h.elim
 ·rename_i u cs x
  have ex:=hx x (by simp)
  unfold zD2 at*
  split at h
  ·exact h
  ·rename_i b L off;exact zCr (ex b (by simp[zBJ])) h
  ·exact h.elim
 ·rename_i x
  have ex:=hx x (by simp)
  unfold zSL at*
  split at h
  ·rename_i b L off n ti;exact zCr (ex b (by simp[zBJ])) h
  ·exact h
  ·exact h.elim
 ·rename_i g n es i
  have e:=hl g (by simp[zLO])
  unfold zOa at*
  rw[e]
  exact h
 ·exact h
 ·exact h
 ·exact h
 ·exact h
 ·exact h.elim
theorem zOI{p:Prim}{l:List AV}{H H':AHeap}{K:AV→Prop}(hl: ∀b x,H b=some x→H' b=some x)(h:zCV p l H K):zCV p l H' K:=by
 have lv: ∀{x},zEA H x→zEA H' x:=fun{x} h=>by
  unfold zEA at*
  split at h
  ·split at h
   ·rename_i hH;simp only[hl _ _ hH];exact h
   ·exact h.elim
  ·trivial
  ·exact h.elim
 have rw': ∀{b L}{K:TypeId→Nat→List AV→Prop},zIi H b L K→zIi H' b L K:=fun{b L K} h=>by
  unfold zIi at*
  split at h
  ·rename_i hH;rw[hl _ _ hH];exact h
  ·exact h.elim
 unfold zCV at*
 split at h
 ·exact⟨lv h.1,h.2⟩
 ·unfold zOD at*
  split at h
  ·exact h
  ·exact⟨lv h.1,h.2⟩
  ·exact⟨lv h.1,lv h.2.1,h.2.2⟩
  ·exact h.elim
 ·unfold zOO at*
  split at h
  ·exact h
  ·exact rw' h
  ·exact h.elim
 ·unfold zGm at*
  split at h
  ·exact⟨lv h.1,h.2⟩
  ·exact h.elim
 ·unfold zHu at*
  split at h
  ·exact rw' h
  ·exact h.elim
 ·unfold zR2 at*
  split at h
  ·exact h
  ·exact rw' h
  ·exact h.elim
 ·unfold zD2 at*
  split at h
  ·exact h
  ·exact rw' h
  ·exact h.elim
 ·unfold zSL at*
  split at h
  ·exact rw' h
  ·exact h
  ·exact h.elim
 ·unfold zOa at*
  split at h
  ·rename_i k j g' cells hH;rw[hl _ _ hH];exact h
  ·exact h.elim
 ·exact h
 ·exact h
 ·exact h
 ·exact h
 ·exact h.elim
end Go.Proofs.YtmndejlpfmmaiaaGreatDoor.Fw
