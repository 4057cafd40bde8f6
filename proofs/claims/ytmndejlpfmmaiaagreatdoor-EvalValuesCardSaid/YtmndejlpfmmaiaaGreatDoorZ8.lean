/- The texts FwZ FwV FwR FwP, joined. -/
import Derived.Test.YtmndejlpfmmaiaaGreatDoorZ7
import Derived.ProofKit
import Derived.Lib.SmallJoins
import Derived.SizedLaws
import Derived.OpenShut
import Derived.ShutString
import Derived.ChangeOld
import Derived.Below
import Derived.Deep.SlicePairs
set_option linter.unusedSimpArgs false
set_option linter.unusedVariables false
namespace Go.Proofs.YtmndejlpfmmaiaaGreatDoor.Fw
open Go Go.Proofs.YtmndejlpfmmaiaaGreatDoor.Ma Go.ChangeShapes Go.WideShapes Go.ChangeAt Go.RowKit
def zLF(w:World):Ctx:=⟨fun _=>0,fun _=>False,fun _=>False,fun _=>none,w⟩
theorem zMc{w:World}{k:Nat}: ¬Mut (zLF w) k:=fun⟨_,h,_⟩=>h
section
variable {H:Type} {enc:TypeId×Value→H} {P:Program} {w:World} {base:Nat} {held:Bool}
theorem zER{a:Addr}{v:Value}(h:w.cell? a=some v):a.spot=none∧a.block<w.heap.size:=by
 unfold World.cell? at h
 split at h
 ·rename_i hb
  split at h
  ·cases h
  ·rename_i hs
   exact⟨by cases e:a.spot with
    |none=>rfl
    |some x=>rw[e]at hs;exact absurd rfl hs,(Array.getElem?_eq_some_iff.1 hb).1⟩
 ·cases h
theorem zIG{a:Addr}(h:a.spot=none):a=⟨a.block,a.off,none⟩:=by cases a;simp_all
theorem zIF{a:Addr}(h:a.spot=none)(i:Nat):a.add i=⟨a.block,a.off+i,none⟩:=by
 unfold Addr.add
 split
 ·rename_i e;subst e;exact zIG h
 ·rfl
theorem zMg{n:Int}(h:(Lit.int .i64 n).wf=true): -9223372036854775808≤n∧n<9223372036854775808:=by
 simp only[Lit.wf,IntKind.min,IntKind.max,IntKind.signed,IntKind.bits,Bool.and_eq_true,decide_eq_true_eq]at h
 simp at h;omega
end
section
variable {H:Type} {enc:TypeId×Value→H} {P:Program} {w:World} {base:Nat} {held:Bool}
theorem zQl{c:Ctx}:Enc c (.seq 0 [] false) (.slice none 0 0):=
 .seq 0 [] false none 0 (fun _=>.bool true) (fun _=>rfl) (Nat.le_refl _) (by omega) (fun e=>by cases e) (fun h=>absurd h (by simp)) (.inl rfl) (fun i h=>absurd h (by simp))
theorem zPi{e:TypeId}{p:Nat→Bool}: ∀{ds:List (DataW H)}{d:DataW H},(DataW.weightsAll P e ds).all p=true→d∈ds→(d.weights P e).all p=true
 |[],d,_,h=>by simp at h
 |x::ds,d,h,hd=>by
  rw[DataW.weightsAll,List.all_append,Bool.and_eq_true]at h
  rcases List.mem_cons.1 hd with rfl|hd
  ·exact h.1
  ·exact zPi h.2 hd
theorem zEa{ts:List TypeId}{ds:List (DataW H)}(h:(DataW.weightsEach P ts ds).all (· ≤reachBytes)=true){j:Nat}{t:TypeId}{d:DataW H}(ht:ts[j]? =some t)(hd:ds[j]? =some d):(d.weights P t).all (· ≤reachBytes)=true:=
 List.all_eq_true.2 fun n hn=>List.all_eq_true.1 h _ (DataW.weights_mem_each ht hd n hn)
theorem zRp{t e:TypeId}{elems spare:List (DataW H)}(ht:P.underlying t=some (.slice e))(hb:0<P.bytesOf e)(h:((DataW.slice elems spare).weights P t).all (· ≤reachBytes)=true):
 elems.length≤140737488355328∧∀d,d∈elems→(d.weights P e).all (· ≤reachBytes)=true:=by
 simp only[DataW.weights,ht,List.all_cons,List.all_append,Bool.and_eq_true,decide_eq_true_eq]at h
 obtain⟨h1,h2,_⟩:=h
 have h3:=Nat.le_mul_of_pos_right (elems.length+spare.length) hb
 have:=reachBytes_lt
 exact⟨by omega,fun d hd=>zPi h2 hd⟩
theorem zgE{c:Ctx}{n:Nat}{cells:List AV}{t:Bool}{a:Option Addr}{len cap:Nat}(h:Enc c (.seq n cells t) (.slice a len cap)):n=len:=by cases h;rfl
abbrev zgX:=Bool×List Nat×Bool
def zeh(l:List Int):AV:=.seq l.length (l.map fun n=>.int .i64 n) false
theorem zW3{t e:TypeId}{fuel:Nat}{v:Value}{x:DataW H×List MemPlace}(ht:P.underlying t=some (.slice e))(he:P.underlying e=some (.int .i64))(hc:P.cellsOf e=1)
 (h:DataW.trod enc P w base (fun _=>true) held fuel t [v]=some x): ∃l:List Int,(∀n,n∈l→ -9223372036854775808≤n∧n<9223372036854775808)∧l.length<9223372036854775808∧Enc (zLF w) (zeh l) v:=by
 rcases open_ints ht he hc h with⟨hcs,_⟩|⟨a,len,cap,zs,hcs,_,hl,hm,hz,_,hcell,hwf⟩
 ·injection hcs with hcs;subst hcs
  exact⟨[],by simp,by simp,zQl⟩
 ·injection hcs with hcs;subst hcs
  simp only[if_true]at hz
  have hm':cap<2^63:=by unfold maxLen at hm;omega
  have hlen:(zs.take len).length=len:=by rw[List.length_take];omega
  refine⟨zs.take len,fun n hn=>zMg (hwf n (List.mem_of_mem_take hn)),by omega,?_⟩
  unfold zeh
  rw[hlen]
  have hml:((zs.take len).map fun n=>AV.int .i64 n).length=len:=by rw[List.length_map,hlen]
  refine .seq len _ false (some a) cap (fun i=>.int .i64 (zs.getD i 0)) (fun e=>?_) hl hm' (fun e=>by cases e) (fun hpos=>?_) (.inr (by simp)) (fun i hi=>?_)
  ·subst e;simp
  ·have hlp:0<zs.length:=by omega
   have hs:=zER (hcell 0 hlp)
   have hs1:a.spot=none:=by have:=hs.1;simpa[Addr.add]using this
   have hb1:a.block<w.heap.size:=by have:=hs.2;simpa[Addr.add]using this
   refine⟨a.block,a.off,by rw[← zIG hs1],zMc,hb1,fun i hi=>?_⟩
   have:=hcell i (by omega)
   rwa[zIF hs1]at this
  ·have e1:((zs.take len).map fun n=>AV.int .i64 n)[i]=.int .i64 (zs.getD i 0):=by
    have hi':i<zs.length:=by omega
    simp only[List.getElem_map,List.getElem_take]
    rw[List.getD_eq_getElem?_getD,List.getElem?_eq_getElem hi',Option.getD_some]
   rw[e1];exact .int .i64 _
end
theorem zKK{α:Type}{R:Nat→α→Prop}: ∀n,(∀i,i<n→∃q,R i q)→∃l:List α,l.length=n∧∀i(h:i<l.length),R i (l[i])
 |0,_=>⟨[],rfl,fun i h=>absurd h (by simp)⟩
 |n+1,h=>by
  obtain⟨l,hl,hr⟩:=zKK n (fun i hi=>h i (by omega))
  obtain⟨q,hq⟩:=h n (by omega)
  refine⟨l++[q],by simp[hl],fun i hi=>?_⟩
  by_cases hin:i<l.length
  ·rw[List.getElem_append_left hin];exact hr i hin
  ·have:i=n:=by simp[hl]at hi;omega
   subst this
   rw[List.getElem_append_right (by omega)];simpa[hl]using hq
section
variable {H:Type} {enc:TypeId×Value→H} {P:Program} {w:World} {base:Nat} {held:Bool}
theorem zUS{α:Type}{Good:α→Prop}(Rel:α→DataW H→Prop){f:α→List AV}{es:Nat}{t e:TypeId}{fuel:Nat}{v:Value}{x:DataW H×List MemPlace}(ht:P.underlying t=some (.slice e))(ce:P.cellsOf e=es)(hes:0<es)(hby:0<P.bytesOf e)(hf: ∀q,(f q).length=es)
 (hx: ∀n(cs:List Value) y,DataW.trod enc P w base (fun _=>true) held n e cs=some y→(y.1.weights P e).all (· ≤reachBytes)=true→(hc:cs.length=es)→∃q:α,(Good q∧Rel q y.1)∧∀j(hj:j<es),Enc (zLF w) ((f q)[j]'(by rw[hf];exact hj)) (cs[j]'(by rw[hc];exact hj)))
 (h:DataW.trod enc P w base (fun _=>true) held fuel t [v]=some x) (hw:(x.1.weights P t).all (· ≤reachBytes)=true): ∃l:List α,(∀q,q∈l→Good q)∧l.length≤140737488355328∧Enc (zLF w) (.seq l.length (l.flatMap f) false) v∧
  (l=[]∨∃(D:Nat→DataW H)(S:List (DataW H)),x.1=.slice ((List.range l.length).map D) S∧∀i(h:i<l.length),Rel (l[i]) (D i)):=by
 rcases Go.Deep.open_slice ht h with⟨hcs,_⟩|⟨a,len,cap,m,n,D,Pl,hcs,_,hl,hm,hmm,rfl,hall⟩
 ·injection hcs with hcs;subst hcs
  exact⟨[],by simp,by simp,zQl,.inl rfl⟩
 ·injection hcs with hcs;subst hcs
  simp only[if_true]at hmm;subst hmm
  have hm':m<2^63:=by unfold maxLen at hm;omega
  obtain⟨hwl,hwe⟩:=zRp ht hby hw
  rw[List.length_map,List.length_range]at hwl
  obtain⟨l,hll,hr⟩:=zKK (R:=fun i (q:α)=>(Good q∧Rel q (D i))∧∀j(hj:j<es),∃u,w.cell? ((a.add (i*es)).add j)=some u∧Enc (zLF w) ((f q)[j]'(by rw[hf];exact hj)) u) len fun i hi=>by
   obtain⟨cs,h1,h2⟩:=hall i (by omega)
   rw[ce]at h1
   obtain⟨_,hlen,hcell⟩:=World.cells?_some h1
   obtain⟨q,g1,g2⟩:=hx _ _ _ h2 (hwe _ (List.mem_map.2 ⟨i,List.mem_range.2 hi,rfl⟩)) hlen
   exact⟨q,g1,fun j hj=>⟨_,by rw[hcell j hj,List.getElem?_eq_getElem (by omega)],g2 j hj⟩⟩
  refine⟨l,fun q hq=>?_,by omega,?_,.inr ⟨D,_,by rw[hll],fun i hi=>(hr i hi).1.2⟩⟩
  ·obtain⟨k,hk,rfl⟩:=List.getElem_of_mem hq
   exact(hr k hk).1.1
  ·have hcl:=zCf hf l
   rw[hll]
   rw[hll]at hcl
   refine .seq len _ false (some a) m (fun i=>(w.cell? ⟨a.block,a.off+i,none⟩).getD undef) (fun e=>List.length_eq_zero_iff.1 (by rw[hcl,e,Nat.zero_mul])) hl hm' (fun e=>by cases e) (fun hpos=>?_) (.inr (by simp)) (fun i hi=>?_)
   ·have hlen0:0<l.length:=by
     rcases Nat.eq_zero_or_pos l.length with h0|h0
     ·rw[hcl,← hll,h0,Nat.zero_mul]at hpos;exact absurd hpos (by omega)
     ·exact h0
    obtain⟨u,hu,_⟩:=(hr 0 hlen0).2 0 hes
    have hs:=zER hu
    have hs1:a.spot=none:=by have:=hs.1;simpa[Addr.add]using this
    have hb1:a.block<w.heap.size:=by have:=hs.2;simpa[Addr.add]using this
    refine⟨a.block,a.off,by rw[← zIG hs1],zMc,hb1,fun i hi=>?_⟩
    rw[hcl]at hi
    have hk:i / es<l.length:=by rw[hll];exact Nat.div_lt_of_lt_mul (by rw[Nat.mul_comm];exact hi)
    obtain⟨u,hu,_⟩:=(hr _ hk).2 (i%es) (Nat.mod_lt _ hes)
    rw[Go.Deep.add_add,zIF hs1,Nat.mul_comm,Nat.div_add_mod]at hu
    show w.cell? ⟨a.block,a.off+i,none⟩=_
    rw[hu];rfl
   ·have hi':=hi
    rw[hcl]at hi'
    have hk:i / es<l.length:=by rw[hll];exact Nat.div_lt_of_lt_mul (by rw[Nat.mul_comm];exact hi')
    have hj:i%es<es:=Nat.mod_lt _ hes
    have e0:i / es*es+i%es=i:=by rw[Nat.mul_comm];exact Nat.div_add_mod i es
    obtain⟨u,hu,he⟩:=(hr _ hk).2 (i%es) hj
    have hlen0:0<l.length:=Nat.lt_of_le_of_lt (Nat.zero_le _) hk
    obtain⟨u0,hu0,_⟩:=(hr 0 hlen0).2 0 hes
    have hs:=zER hu0
    have hs1:a.spot=none:=by have:=hs.1;simpa[Addr.add]using this
    rw[Go.Deep.add_add,zIF hs1,Nat.mul_comm,Nat.div_add_mod]at hu
    have eg:=zTO hf hk hj (by rw[e0];exact hi)
    simp only[e0]at eg
    rw[eg,hu];exact he
theorem zXl{α:Type}{Good:α→Prop}{f:α→List AV}{es:Nat}{t e:TypeId}{fuel:Nat}{v:Value}{x:DataW H×List MemPlace}(ht:P.underlying t=some (.slice e))(ce:P.cellsOf e=es)(hes:0<es)(hby:0<P.bytesOf e)(hf: ∀q,(f q).length=es)
 (hx: ∀n(cs:List Value) y,DataW.trod enc P w base (fun _=>true) held n e cs=some y→(y.1.weights P e).all (· ≤reachBytes)=true→(hc:cs.length=es)→∃q:α,Good q∧∀j(hj:j<es),Enc (zLF w) ((f q)[j]'(by rw[hf];exact hj)) (cs[j]'(by rw[hc];exact hj)))
 (h:DataW.trod enc P w base (fun _=>true) held fuel t [v]=some x) (hw:(x.1.weights P t).all (· ≤reachBytes)=true): ∃l:List α,(∀q,q∈l→Good q)∧l.length≤140737488355328∧Enc (zLF w) (.seq l.length (l.flatMap f) false) v:=by
 obtain⟨l,h1,h2,h3,_⟩:=zUS (fun _ _=>True) ht ce hes hby hf (fun n cs y hy hw hc=>by
  obtain⟨q,g1,g2⟩:=hx n cs y hy hw hc
  exact⟨q,⟨g1,trivial⟩,g2⟩) h hw
 exact⟨l,h1,h2,h3⟩
def zGI(P:Program):List Field→Nat→Bool
 |[],_=>true
 |f::r,j=>f.offset==j&&P.cellsOf f.type==1&&(match P.underlying f.type with|some (.int .i64)=>true|_=>false)&&zGI P r (j+1)
theorem zJN: ∀{l:List Field}{j i:Nat}{f:Field},zGI P l j=true→l[i]? =some f→f.offset=j+i∧P.cellsOf f.type=1∧P.underlying f.type=some (.int .i64)
 |g::r,j,0,f,h,hf=>by
  simp only[zGI,Bool.and_eq_true,beq_iff_eq]at h
  obtain⟨⟨⟨h1,h2⟩,h3⟩,_⟩:=h
  have e:g=f:=by simpa using hf
  subst e
  refine⟨h1,h2,?_⟩
  generalize P.underlying g.type=y at h3
  split at h3
  ·rfl
  ·cases h3
 |g::r,j,i+1,f,h,hf=>by
  simp only[zGI,Bool.and_eq_true]at h
  have:=zJN (l:=r) (j:=j+1) (i:=i) h.2 (by simpa using hf)
  exact⟨by omega,this.2⟩
 |[],_,_,_,_,hf=>by simp at hf
theorem zXE{e:TypeId}{fs:Array Field}(he:P.underlying e=some (.struct fs))(hok:zGI P fs.toList 0=true){n:Nat}{cs:List Value}{y:DataW H×List MemPlace}(h:DataW.trod enc P w base (fun _=>true) held n e cs=some y)(hc:cs.length=fs.size):
 ∃l:List Int,l.length=fs.size∧∀j(hj:j<l.length)(hj':j<cs.length),(-9223372036854775808≤l[j]∧l[j]<9223372036854775808)∧cs[j]=.int .i64 (l[j]):=by
 obtain⟨xs,k,_,_,_,hxl,hf⟩:=DataW.trod_struct he h
 obtain⟨l,hl,hr⟩:=zKK (R:=fun j (z:Int)=> ∀hj':j<cs.length,(-9223372036854775808≤z∧z<9223372036854775808)∧cs[j]=.int .i64 z) fs.size fun j hj=>by
  have hfj:fs[j]? =some fs[j]:=Array.getElem?_eq_getElem hj
  obtain⟨o,c,u⟩:=zJN hok (by rw[Array.getElem?_toList];exact hfj)
  have g:=hf j _ hfj
  have hxj:xs[j]? =some (xs[j]'(by omega)):=List.getElem?_eq_getElem (by omega)
  have hcj:(cs.drop j).take 1=[cs[j]'(by omega)]:=by
   rw[List.drop_eq_getElem_cons (by omega)];rfl
  rw[o,c,Nat.zero_add,hcj,hxj]at g
  obtain⟨z,e1,_,e3⟩:=DataW.trod_int u g
  injection e1 with e1
  exact⟨z,fun _=>⟨zMg e3,e1⟩⟩
 exact⟨l,hl,fun j hj hj'=>hr j hj hj'⟩
theorem zWZ{t e:TypeId}{fs:Array Field}{fuel:Nat}{v:Value}{x:DataW H×List MemPlace}(ht:P.underlying t=some (.slice e))(he:P.underlying e=some (.struct fs))(hfs:fs.size=2)(hok:zGI P fs.toList 0=true)(hc:P.cellsOf e=2)(hby:0<P.bytesOf e)
 (h:DataW.trod enc P w base (fun _=>true) held fuel t [v]=some x) (hw:(x.1.weights P t).all (· ≤reachBytes)=true): ∃l:List Pt,(∀n,n∈l→n.ok)∧l.length≤140737488355328∧Enc (zLF w) (zBr l false) v:=
 zXl (α:=Pt) (Good:=Pt.ok) (f:=ptC) (es:=2) ht hc (by omega) hby (fun _=>rfl) (fun n cs y hy _ hcl=>by
  obtain⟨l,hl,hr⟩:=zXE he hok hy (by omega)
  rw[hfs]at hl
  match l,hl with
  |[z0,z1],_=>
   have r0:=hr 0 (by simp) (by omega)
   have r1:=hr 1 (by simp) (by omega)
   exact⟨⟨z0,z1⟩,⟨r0.1,r1.1⟩,fun j hj=>by
    match j,hj with
    |0,_=>rw[r0.2];exact .int .i64 z0
    |1,_=>rw[r1.2];exact .int .i64 z1⟩) h hw
end
end Go.Proofs.YtmndejlpfmmaiaaGreatDoor.Fw
namespace Go.Proofs.YtmndejlpfmmaiaaGreatDoor.Fw
open Go Go.Proofs.YtmndejlpfmmaiaaGreatDoor.Ma
open Go.ChangeMaps
set_option maxRecDepth 20000
variable {H:Type} {enc:TypeId×Value→H} {P:Program} {w:World} {base:Nat} {held:Bool}
theorem zLk{t e:TypeId}{fs:Array Field}{fuel:Nat}{v:Value}{x:DataW H×List MemPlace}(ht:P.underlying t=some (.slice e))(he:P.underlying e=some (.struct fs))(hfs:fs.size=2)(hok:zGI P fs.toList 0=true)(hc:P.cellsOf e=2)(hby:P.bytesOf e=16)
 (h:DataW.trod enc P w base (fun _=>true) held fuel t [v]=some x) (hw:(x.1.weights P t).all (· ≤reachBytes)=true): ∃l:List Pt,(∀n,n∈l→n.ok)∧l.length≤8796093021952∧Enc (zLF w) (zBr l false) v:=by
 obtain⟨l,h1,_,h3⟩:=zWZ ht he hfs hok hc (by omega) h hw
 refine⟨l,h1,?_,h3⟩
 rcases Go.Deep.open_slice ht h with⟨hcs,_⟩|⟨a,len,cap,m,n,D,Pl,hcs,_,hl,hm,hmm,rfl,hall⟩
 ·injection hcs with hcs;subst hcs
  have:=zgE h3
  omega
 ·injection hcs with hcs;subst hcs
  have:=zgE h3
  simp only[DataW.weights,ht,List.all_cons,Bool.and_eq_true,decide_eq_true_eq,hby,List.length_map,List.length_range]at hw
  have e:reachBytes=140737488351232:=rfl
  rw[e]at hw
  omega
end Go.Proofs.YtmndejlpfmmaiaaGreatDoor.Fw
