/- The texts Wz FwS Wt, joined. -/
import Derived.Test.YtmndejlpfmmaiaaGreatDoorZ9
import Derived.Test.YtmndejlpfmmaiaaGreatDoorCards
import Derived.Test.YtmndejlpfmmaiaaGreatDoorTie
import Derived.Handed
import Derived.LaidLaws
import Derived.LaidHandle
import Derived.SevenTiedAt
import Derived.MakeChecks
import Derived.Lib.LaidTab
set_option linter.unusedSimpArgs false
set_option linter.unusedVariables false
namespace Go.Proofs.YtmndejlpfmmaiaaGreatDoor
open Go
def layTable(cs:Array Value):Obj→Obj
 |.cells _ t frozen=>.cells cs t frozen
 |o=>o
def bytesU8(l:List Nat):Array Value:=(l.map fun(n:Nat)=>Value.int .u8 n).toArray
noncomputable def laidWorld (os:Os):World:={ World.holding Tryz.prog os ⟨#[],#[],[]⟩with heap:=(((World.holding Tryz.prog os ⟨#[],#[],[]⟩).heap.modify 0 (layTable (bytesU8 [0,1,28,2,29,14,24,3,30,22,20,15,25,17,4,8,31,27,13,23,21,19,16,7,26,12,18,6,11,5,10,9]))).modify 3 (layTable (bytesU8 Go.Pinned.utf8FirstZ))).modify 4 (layTable (bytesU8 [128,191,160,191,128,159,144,191,128,143,0,0,0,0,0,0,0,0,0,0,0,0,0,0,0,0,0,0,0,0,0,0])) }
theorem ownKnobD:ownKnob Tryz.prog.godebug=none:=by kernel_rfl
theorem laidOutD:laidOutB Tryz.prog=true:=by kernel_rfl
end Go.Proofs.YtmndejlpfmmaiaaGreatDoor
namespace Go.Proofs.YtmndejlpfmmaiaaGreatDoor.Fw
open Go Go.Proofs.YtmndejlpfmmaiaaGreatDoor.Ma Go.ChangeShapes Go.WideShapes Go.ChangeAt Go.RowKit
section
variable {H:Type} {enc:TypeId×Value→H} {P:Program} {w:World} {base:Nat} {held:Bool}
theorem bulk_map{α:Type}{s:α→Nat}: ∀{l:List α}{D:Nat→DataW H},(∀i(h:i<l.length),s (l[i])≤Rows.uptoBulk (D i))→sumN (l.map s)≤Rows.uptoBulkAll ((List.range l.length).map D)
 |[],D,_=>Nat.zero_le _
 |a::l,D,h=>by
  have h0:=h 0 (by simp)
  have ih:=bulk_map (s:=s) (l:=l) (D:=fun i=>D (i+1)) (fun i hi=>h (i+1) (by simpa using hi))
  have e:(List.range (a::l).length).map D=D 0::(List.range l.length).map fun i=>D (i+1):=by
   rw[List.length_cons,List.range_succ_eq_map,List.map_cons,List.map_map];rfl
  rw[e,Rows.uptoBulkAll,List.map_cons]
  show s a+sumN (l.map s)≤_
  have h0':s a≤Rows.uptoBulk (D 0):=h0
  omega
theorem bulk_pos(d:DataW H):1≤Rows.uptoBulk d:=by
 unfold Rows.uptoBulk
 split<;>omega
theorem sumN_one{α:Type}: ∀l:List α,sumN (l.map fun _=>1)=l.length
 |[]=>rfl
 |a::l=>by
  show 1+sumN (l.map fun _=>1)=_
  rw[sumN_one l,List.length_cons];omega
theorem sumN_len: ∀l:List (List Int),sumN (l.map fun r=>r.length+1)=l.length+sumN (l.map fun r=>r.length)
 |[]=>rfl
 |a::l=>by
  show a.length+1+sumN (l.map fun r=>r.length+1)=l.length+1+(a.length+sumN (l.map fun r=>r.length))
  rw[sumN_len l];omega
theorem rowB_in{t e:TypeId}{fuel:Nat}{v:Value}{x:DataW H×List MemPlace}(ht:P.underlying t=some (.slice e))(he:P.underlying e=some (.int .i64))(hc:P.cellsOf e=1)(hby:0<P.bytesOf e)
 (h:DataW.trod enc P w base (fun _=>true) held fuel t [v]=some x) (hw:(x.1.weights P t).all (· ≤reachBytes)=true): ∃l:List Int,((∀n,n∈l→I64 n)∧l.length+1≤Rows.uptoBulk x.1)∧l.length≤140737488355328∧Enc (ctx0 w) (OutsA l false) v:=by
 obtain⟨l,h1,h2,h3,h4⟩:=rows_rel (α:=Int) (Good:=I64) (fun _ _=>True) (f:=outC) (es:=1) ht hc (by omega) hby (fun _=>rfl) (fun n cs y hy _ hcl=>by
  match cs,hcl with
  |[u],_=>
   obtain⟨z,e1,_,e3⟩:=DataW.trod_int he hy
   injection e1 with e1;subst e1
   exact⟨z,⟨i64_in e3,trivial⟩,fun j hj=>by
    match j,hj with
    |0,_=>exact .int .i64 z⟩) h hw
 rw[outC_map]at h3
 refine⟨l,⟨h1,?_⟩,h2,h3⟩
 rcases h4 with rfl|⟨D,S,e,_⟩
 ·exact bulk_pos _
 ·rw[e,Rows.uptoBulk]
  have:=bulk_map (s:=fun _=>1) (l:=l) (D:=D) fun i _=>bulk_pos _
  rw[sumN_one]at this
  omega
theorem gridB_in{t e i:TypeId}{fuel:Nat}{v:Value}{x:DataW H×List MemPlace}(ht:P.underlying t=some (.slice e))(he:P.underlying e=some (.slice i))(hi:P.underlying i=some (.int .i64))(ce:P.cellsOf e=1)(be:0<P.bytesOf e)(ci:P.cellsOf i=1)(bi:0<P.bytesOf i)
 (h:DataW.trod enc P w base (fun _=>true) held fuel t [v]=some x) (hw:(x.1.weights P t).all (· ≤reachBytes)=true): ∃l:List (List Int),(∀n,n∈l→GoodRow n)∧l.length+sumN (l.map fun r=>r.length)≤Rows.uptoBulk x.1∧Enc (ctx0 w) (GridA l) v:=by
 obtain⟨l,h1,h2,h3,h4⟩:=rows_rel (α:=List Int) (Good:=GoodRow) (fun r d=>r.length+1≤Rows.uptoBulk d) (f:=gridC) (es:=1) ht ce (by omega) be (fun _=>rfl) (fun n cs y hy hw hcl=>by
  match cs,hcl with
  |[u],_=>
   obtain⟨l,⟨h1,h4⟩,h2,h3⟩:=rowB_in he hi ci bi hy hw
   exact⟨l,⟨⟨h1,h2⟩,h4⟩,fun j hj=>by
    match j,hj with
    |0,_=>exact h3⟩) h hw
 refine⟨l,h1,?_,h3⟩
 rcases h4 with rfl|⟨D,S,e,hr⟩
 ·exact Nat.zero_le _
 ·rw[e,Rows.uptoBulk]
  have:=bulk_map (s:=fun r:List Int=>r.length+1) (l:=l) (D:=D) hr
  rw[sumN_len]at this
  omega
end
def ctxT(w:World):Ctx:=⟨fun b=>b,fun b=>b=0,fun _=>False,fun b=>if b=0 then some (.glob 0 tabC)else none,w⟩
def TabAt(w:World):Prop:= ∀i,i<32→w.cell? ⟨0,i,none⟩=some (.int .u8 ((deB.getD i 0:Nat):Int))
theorem ctxT_H(w:World):TzH (ctxT w).H:=by simp[TzH,ctxT]
theorem ctxT_some{w:World}{b:Nat}{x:ABlk}(h:(ctxT w).H b=some x):b=0∧x=.glob 0 tabC:=by
 have h2:(if b=0 then some (ABlk.glob 0 tabC)else none)=some x:=h
 split at h2
 ·injection h2 with h2;exact⟨‹_›,h2.symm⟩
 ·cases h2
theorem ctxT_ne{w:World}{b:Nat}(h:(ctxT w).H b≠none):b=0:=by
 cases e:(ctxT w).H b with
 |none=>exact absurd e h
 |some x=>exact(ctxT_some e).1
theorem ctxT_mut{w:World}{k:Nat}: ¬Mut (ctxT w) k:=by
 rintro⟨b,h,_⟩
 cases e:(ctxT w).H b with
 |none=>rw[e]at h;exact h
 |some x=>rw[e,(ctxT_some e).2]at h;exact h
theorem ctxT_later(w:World):Later0 (ctx0 w) (ctxT w):=
 ⟨Nat.le_refl _,rfl,rfl,rfl,fun _ h=>h.elim,fun _ _ h=>h.elim,fun _ _ _=>⟨rfl,ctxT_mut⟩⟩
theorem ctxT_ok{w:World}(h:TabAt w):Ok (ctxT w):=by
 refine⟨fun b hb=>ctxT_ne hb,⟨0+1,fun b hb=>?_⟩,fun b b' hb hb' _=>by rw[ctxT_ne hb,ctxT_ne hb'],fun b x hx=>?_⟩
 ·rcases hb with hb|hb
  ·have hb':b=0:=hb
   omega
  ·exact hb.elim
 ·obtain⟨rfl,rfl⟩:=ctxT_some hx
  refine⟨rfl,(spot_none (h 0 (by omega))).2,fun i=>.int .u8 ((deB.getD i 0:Nat):Int),fun i hi=>h i hi,fun i hi=>?_⟩
  have hi':i<deB.length:=by simpa[tabC]using hi
  have e:tabC[i]=AV.int .u8 ((deB.getD i 0:Nat):Int):=by
   simp only[tabC,List.getElem_map]
   rw[List.getD_eq_getElem?_getD,List.getElem?_eq_getElem hi',Option.getD_some]
  exact e▸Enc.int _ _
theorem law_tab{P:Program}{f:FuncId}{args:List AV}(h: ∀{H:AHeap}{Q:AV→AHeap→Prop},TzH H→Q (.bool true) H→Run P f args H Q)(w:World)(ht:TabAt w)(vs:Array Value)(hn:vs.size=args.length)(he: ∀i(h:i<args.length)(h':i<vs.size),Enc (ctx0 w) (args[i]) (vs[i])):
 Calls P f vs w fun e w'=>e=.returned (.bool true)∧Below w.heap.size w w':=by
 refine((h (Q:=fun r _=>r=.bool true) (ctxT_H w) rfl).2 (ctxT w) vs rfl (ctxT_ok ht) hn fun i h h'=>(he i h h').later0 (ctxT_later w)).mono ?_
 rintro e w' ⟨c,v,r,rfl,rfl,_,hl,hr,rfl⟩
 cases hr
 exact⟨rfl,⟨hl.os,hl.tape,hl.output,hl.size,fun k hk=>(hl.keep k hk ctxT_mut).1⟩⟩
theorem tab_at{w:World}{rest:List (String×DataW Unit)}(h:laidMetH Tryz.prog (("math/bits.deBruijn32tab",Lib.tabData .u8 (deB.map fun (n:Nat)=>(n:Int)))::rest) w)(hp:(rest.all fun x=>x.2.handleName?.isNone)=true):TabAt w:=by
 rw[MakeChecks.laidMetH_plain _ _ _ (by rw[List.all_cons,hp];rfl)]at h
 have ht:=Lib.tabIs_of_head (g:=0) (t:=282) (e:=5) (n:=32) (by kernel_rfl) (by kernel_rfl) Tryz.underlying282 Tryz.underlying5 (by kernel_rfl) (by kernel_rfl) h
 intro i hi
 rw[ht.cell (g:=0) (by kernel_rfl) i (by rw[List.length_map];exact hi)]
 congr 2
 have hi':i<deB.length:=hi
 rw[List.getD_eq_getElem?_getD,List.getElem?_map,List.getElem?_eq_getElem hi',Option.map_some,Option.getD_some,List.getD_eq_getElem?_getD,List.getElem?_eq_getElem hi',Option.getD_some]
end Go.Proofs.YtmndejlpfmmaiaaGreatDoor.Fw
