/- The texts FwZ FwV FwU, joined. -/
import Derived.Test.YtmndejlpfmmaiaaDoorZ6
import Derived.ProofKit
import Derived.Lib.SmallJoins
import Derived.SizedLaws
import Derived.OpenShut
import Derived.ShutString
import Derived.ChangeOld
import Derived.Below
import Derived.Deep.SlicePairs
set_option linter.unusedSimpArgs false
set_option linter.unusedVariables false
namespace Go.Proofs.YtmndejlpfmmaiaaDoor.Fw
open Go Go.Proofs.YtmndejlpfmmaiaaDoor.Ma Go.ChangeShapes Go.WideShapes Go.ChangeAt Go.RowKit
def ctx0(w:World):Ctx:=⟨fun _=>0,fun _=>False,fun _=>False,fun _=>none,w⟩
theorem ctx0_mut{w:World}{k:Nat}: ¬Mut (ctx0 w) k:=fun⟨_,h,_⟩=>h
section
variable {H:Type} {enc:TypeId×Value→H} {P:Program} {w:World} {base:Nat} {held:Bool}
theorem spot_none{a:Addr}{v:Value}(h:w.cell? a=some v):a.spot=none∧a.block<w.heap.size:=by
 unfold World.cell? at h
 split at h
 ·rename_i hb
  split at h
  ·cases h
  ·rename_i hs
   exact⟨by cases e:a.spot with
    |none=>rfl
    |some x=>rw[e]at hs;exact absurd rfl hs,(Array.getElem?_eq_some_iff.1 hb).1⟩
 ·cases h
theorem addr_eta{a:Addr}(h:a.spot=none):a=⟨a.block,a.off,none⟩:=by cases a;simp_all
theorem addr_add{a:Addr}(h:a.spot=none)(i:Nat):a.add i=⟨a.block,a.off+i,none⟩:=by
 unfold Addr.add
 split
 ·rename_i e;subst e;exact addr_eta h
 ·rfl
theorem i64_in{n:Int}(h:(Lit.int .i64 n).wf=true): -9223372036854775808≤n∧n<9223372036854775808:=by
 simp only[Lit.wf,IntKind.min,IntKind.max,IntKind.signed,IntKind.bits,Bool.and_eq_true,decide_eq_true_eq]at h
 simp at h;omega
end
section
variable {H:Type} {enc:TypeId×Value→H} {P:Program} {w:World} {base:Nat} {held:Bool}
theorem seq_nil{c:Ctx}:Enc c (.seq 0 [] false) (.slice none 0 0):=
 .seq 0 [] false none 0 (fun _=>.bool true) (fun _=>rfl) (Nat.le_refl _) (by omega) (fun e=>by cases e) (fun h=>absurd h (by simp)) (.inl rfl) (fun i h=>absurd h (by simp))
abbrev NumV:=Bool×List Nat×Bool
def I64s(l:List Int):AV:=.seq l.length (l.map fun n=>.int .i64 n) false
theorem i64s_in{t e:TypeId}{fuel:Nat}{v:Value}{x:DataW H×List MemPlace}(ht:P.underlying t=some (.slice e))(he:P.underlying e=some (.int .i64))(hc:P.cellsOf e=1)
 (h:DataW.trod enc P w base (fun _=>true) held fuel t [v]=some x): ∃l:List Int,(∀n,n∈l→ -9223372036854775808≤n∧n<9223372036854775808)∧l.length<9223372036854775808∧Enc (ctx0 w) (I64s l) v:=by
 rcases open_ints ht he hc h with⟨hcs,_⟩|⟨a,len,cap,zs,hcs,_,hl,hm,hz,_,hcell,hwf⟩
 ·injection hcs with hcs;subst hcs
  exact⟨[],by simp,by simp,seq_nil⟩
 ·injection hcs with hcs;subst hcs
  simp only[if_true]at hz
  have hm':cap<2^63:=by unfold maxLen at hm;omega
  have hlen:(zs.take len).length=len:=by rw[List.length_take];omega
  refine⟨zs.take len,fun n hn=>i64_in (hwf n (List.mem_of_mem_take hn)),by omega,?_⟩
  unfold I64s
  rw[hlen]
  have hml:((zs.take len).map fun n=>AV.int .i64 n).length=len:=by rw[List.length_map,hlen]
  refine .seq len _ false (some a) cap (fun i=>.int .i64 (zs.getD i 0)) (fun e=>?_) hl hm' (fun e=>by cases e) (fun hpos=>?_) (.inr (by simp)) (fun i hi=>?_)
  ·subst e;simp
  ·have hlp:0<zs.length:=by omega
   have hs:=spot_none (hcell 0 hlp)
   have hs1:a.spot=none:=by have:=hs.1;simpa[Addr.add]using this
   have hb1:a.block<w.heap.size:=by have:=hs.2;simpa[Addr.add]using this
   refine⟨a.block,a.off,by rw[← addr_eta hs1],ctx0_mut,hb1,fun i hi=>?_⟩
   have:=hcell i (by omega)
   rwa[addr_add hs1]at this
  ·have e1:((zs.take len).map fun n=>AV.int .i64 n)[i]=.int .i64 (zs.getD i 0):=by
    have hi':i<zs.length:=by omega
    simp only[List.getElem_map,List.getElem_take]
    rw[List.getD_eq_getElem?_getD,List.getElem?_eq_getElem hi',Option.getD_some]
   rw[e1];exact .int .i64 _
end
section
variable {P:Program} {H:Type} {enc:TypeId×Value→H} {w:World} {base:Nat} {held:Bool}
theorem point_in{r:Reach}{b0:Nat}{t:TypeId}{f0 f1:Field}{v:Value}{d:DataW H}{p:List MemPlace}(hs:P.underlying t=some (.struct #[f0,f1]))(hone:Go.Deep.oneCellFields P #[f0,f1]=true)(hC:P.cellsOf t=2)
 (h0:P.underlying f0.type=some (.int .i64)) (h1:P.underlying f1.type=some (.int .i64))
 (hv:Value.okWide P w r b0 t v) (h:DataW.Trod enc P w base (fun _=>true) held t v d p):
 ∃q:Int×Int,((-9223372036854775808≤q.1∧q.1<9223372036854775808)∧(-9223372036854775808≤q.2∧q.2<9223372036854775808))∧Enc (ctx0 w) (.agg [.int .i64 q.1,.int .i64 q.2]) v:=by
 obtain⟨v0,v1,y0,y1,n,rfl,rfl,rfl,ha,hb⟩:=Go.Joins.open_agg2 hs hone hC hv h
 obtain⟨s0,e0,_,g0⟩:=DataW.trod_int h0 ha
 obtain⟨s1,e1,_,g1⟩:=DataW.trod_int h1 hb
 injection e0 with e0;injection e1 with e1
 subst e0;subst e1
 refine⟨(s0,s1),⟨i64_in g0,i64_in g1⟩,.agg _ _ rfl fun i hi hi'=>?_⟩
 match i,hi with
 |0,_=>exact .int .i64 s0
 |1,_=>exact .int .i64 s1
end
end Go.Proofs.YtmndejlpfmmaiaaDoor.Fw
