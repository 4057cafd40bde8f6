/- The texts Wz Wu, joined. -/
import Derived.Test.YtmndejlpfmmaiaaDoorZ9
import Derived.Test.YtmndejlpfmmaiaaDoorCards
import Derived.Test.YtmndejlpfmmaiaaDoorTie
import Derived.Handed
import Derived.LaidLaws
import Derived.LaidHandle
import Derived.SevenTiedAt
import Derived.MakeChecks
import Derived.Lib.LaidTab
import Derived.LaidSub
set_option linter.unusedSimpArgs false
set_option linter.unusedVariables false
namespace Go.Proofs.YtmndejlpfmmaiaaDoor
open Go
def layTable(cs:Array Value):Obj→Obj
 |.cells _ t frozen=>.cells cs t frozen
 |o=>o
def bytesU8(l:List Nat):Array Value:=(l.map fun(n:Nat)=>Value.int .u8 n).toArray
noncomputable def laidWorld (os:Os):World:={ World.holding Tryd.prog os ⟨#[],#[],[]⟩with heap:=((((World.holding Tryd.prog os ⟨#[],#[],[]⟩).heap.modify 1 (layTable (bytesU8 [0,1,56,2,57,49,28,3,61,58,42,50,38,29,17,4,62,47,59,36,45,43,51,22,53,39,33,30,24,18,12,5,63,55,48,27,60,41,37,16,46,35,44,21,52,32,23,11,54,26,40,15,34,20,31,10,25,14,19,9,13,8,7,6]))).modify 0 (layTable (bytesU8 [0,1,28,2,29,14,24,3,30,22,20,15,25,17,4,8,31,27,13,23,21,19,16,7,26,12,18,6,11,5,10,9]))).modify 3 (layTable (bytesU8 Go.Pinned.utf8FirstZ))).modify 4 (layTable (bytesU8 [128,191,160,191,128,159,144,191,128,143,0,0,0,0,0,0,0,0,0,0,0,0,0,0,0,0,0,0,0,0,0,0])) }
theorem ownKnobD:ownKnob Tryd.prog.godebug=none:=by kernel_rfl
end Go.Proofs.YtmndejlpfmmaiaaDoor
namespace Go.Proofs.YtmndejlpfmmaiaaDoor.Fw
open Go Go.Proofs.YtmndejlpfmmaiaaDoor.Ma Go.ChangeShapes Go.WideShapes Go.ChangeAt Go.RowKit
def ctxU(w:World):Ctx:=⟨fun b=>b,fun b=>b=1,fun _=>False,fun b=>if b=1 then some (.glob 1 tab64C)else none,w⟩
def Tab64At(w:World):Prop:= ∀i,i<64→w.cell? ⟨1,i,none⟩=some (.int .u8 ((deB64.getD i 0:Nat):Int))
theorem ctxU_H(w:World):Tz64H (ctxU w).H:=by simp[Tz64H,ctxU]
theorem ctxU_some{w:World}{b:Nat}{x:ABlk}(h:(ctxU w).H b=some x):b=1∧x=.glob 1 tab64C:=by
 have h2:(if b=1 then some (ABlk.glob 1 tab64C)else none)=some x:=h
 split at h2
 ·injection h2 with h2;exact⟨‹_›,h2.symm⟩
 ·cases h2
theorem ctxU_ne{w:World}{b:Nat}(h:(ctxU w).H b≠none):b=1:=by
 cases e:(ctxU w).H b with
 |none=>exact absurd e h
 |some x=>exact(ctxU_some e).1
theorem ctxU_mut{w:World}{k:Nat}: ¬Mut (ctxU w) k:=by
 rintro⟨b,h,_⟩
 cases e:(ctxU w).H b with
 |none=>rw[e]at h;exact h
 |some x=>rw[e,(ctxU_some e).2]at h;exact h
theorem ctxU_later(w:World):Later0 (ctx0 w) (ctxU w):=
 ⟨Nat.le_refl _,rfl,rfl,rfl,fun _ h=>h.elim,fun _ _ h=>h.elim,fun _ _ _=>⟨rfl,ctxU_mut⟩⟩
theorem ctxU_ok{w:World}(h:Tab64At w):Ok (ctxU w):=by
 refine⟨fun b hb=>ctxU_ne hb,⟨1+1,fun b hb=>?_⟩,fun b b' hb hb' _=>by rw[ctxU_ne hb,ctxU_ne hb'],fun b x hx=>?_⟩
 ·rcases hb with hb|hb
  ·have hb':b=1:=hb
   omega
  ·exact hb.elim
 ·obtain⟨rfl,rfl⟩:=ctxU_some hx
  refine⟨rfl,(spot_none (h 0 (by omega))).2,fun i=>.int .u8 ((deB64.getD i 0:Nat):Int),fun i hi=>h i hi,fun i hi=>?_⟩
  have hi':i<deB64.length:=by simpa[tab64C]using hi
  have e:tab64C[i]=AV.int .u8 ((deB64.getD i 0:Nat):Int):=by
   simp only[tab64C,List.getElem_map]
   rw[List.getD_eq_getElem?_getD,List.getElem?_eq_getElem hi',Option.getD_some]
  exact e▸Enc.int _ _
theorem law_tab64{P:Program}{f:FuncId}{args:List AV}(h: ∀{H:AHeap}{Q:AV→AHeap→Prop},Tz64H H→Q (.bool true) H→Run P f args H Q)(w:World)(ht:Tab64At w)(vs:Array Value)(hn:vs.size=args.length)(he: ∀i(h:i<args.length)(h':i<vs.size),Enc (ctx0 w) (args[i]) (vs[i])):
 Calls P f vs w fun e w'=>e=.returned (.bool true)∧Below w.heap.size w w':=by
 refine((h (Q:=fun r _=>r=.bool true) (ctxU_H w) rfl).2 (ctxU w) vs rfl (ctxU_ok ht) hn fun i h h'=>(he i h h').later0 (ctxU_later w)).mono ?_
 rintro e w' ⟨c,v,r,rfl,rfl,_,hl,hr,rfl⟩
 cases hr
 exact⟨rfl,⟨hl.os,hl.tape,hl.output,hl.size,fun k hk=>(hl.keep k hk ctxU_mut).1⟩⟩
theorem tab64_at{w:World}{laid:List (String×DataW Unit)}(h0:laidMetH Tryd.prog laid w)(hf:laid.filter (fun x=>x.1=="math/bits.deBruijn64tab")=[("math/bits.deBruijn64tab",Lib.tabData .u8 (deB64.map fun (n:Nat)=>(n:Int)))]):Tab64At w:=by
 have h:=laidMetH.filter (fun x=>x.1=="math/bits.deBruijn64tab") h0
 rw[hf]at h
 rw[MakeChecks.laidMetH_plain _ _ _ (by rfl)]at h
 have ht:=Lib.tabIs_of_head (g:=1) (t:=206) (e:=5) (n:=64) (by kernel_rfl) (by kernel_rfl) Tryd.underlying206 Tryd.underlying5 (by kernel_rfl) (by kernel_rfl) h
 intro i hi
 rw[ht.cell (g:=1) (by kernel_rfl) i (by rw[List.length_map];exact hi)]
 congr 2
 have hi':i<deB64.length:=hi
 rw[List.getD_eq_getElem?_getD,List.getElem?_map,List.getElem?_eq_getElem hi',Option.map_some,Option.getD_some,List.getD_eq_getElem?_getD,List.getElem?_eq_getElem hi',Option.getD_some]
end Go.Proofs.YtmndejlpfmmaiaaDoor.Fw
