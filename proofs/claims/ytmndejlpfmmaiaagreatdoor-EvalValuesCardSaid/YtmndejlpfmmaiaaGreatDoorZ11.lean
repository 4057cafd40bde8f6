/- The texts Wz Wu, joined. -/
import Derived.Test.YtmndejlpfmmaiaaGreatDoorZ10
import Derived.Test.YtmndejlpfmmaiaaGreatDoorCards
import Derived.Test.YtmndejlpfmmaiaaGreatDoorTie
import Derived.Handed
import Derived.LaidLaws
import Derived.LaidHandle
import Derived.SevenTiedAt
import Derived.MakeChecks
import Derived.Lib.LaidTab
import Derived.LaidSub
set_option linter.unusedSimpArgs false
set_option linter.unusedVariables false
namespace Go.Proofs.YtmndejlpfmmaiaaGreatDoor
open Go
def zFX(cs:Array Value):Obj→Obj
 |.cells _ t frozen=>.cells cs t frozen
 |o=>o
def zHl(l:List Nat):Array Value:=(l.map fun(n:Nat)=>Value.int .u8 n).toArray
noncomputable def zCm (os:Os):World:={ World.holding Tryz.prog os ⟨#[],#[],[]⟩with heap:=((((World.holding Tryz.prog os ⟨#[],#[],[]⟩).heap.modify 1 (zFX (zHl [0,1,56,2,57,49,28,3,61,58,42,50,38,29,17,4,62,47,59,36,45,43,51,22,53,39,33,30,24,18,12,5,63,55,48,27,60,41,37,16,46,35,44,21,52,32,23,11,54,26,40,15,34,20,31,10,25,14,19,9,13,8,7,6]))).modify 0 (zFX (zHl [0,1,28,2,29,14,24,3,30,22,20,15,25,17,4,8,31,27,13,23,21,19,16,7,26,12,18,6,11,5,10,9]))).modify 3 (zFX (zHl Go.Pinned.utf8FirstZ))).modify 4 (zFX (zHl [128,191,160,191,128,159,144,191,128,143,0,0,0,0,0,0,0,0,0,0,0,0,0,0,0,0,0,0,0,0,0,0])) }
theorem zHr:ownKnob Tryz.prog.godebug=none:=by kernel_rfl
theorem zEb:laidOutB Tryz.prog=true:=by kernel_rfl
end Go.Proofs.YtmndejlpfmmaiaaGreatDoor
namespace Go.Proofs.YtmndejlpfmmaiaaGreatDoor.Fw
open Go Go.Proofs.YtmndejlpfmmaiaaGreatDoor.Ma Go.ChangeShapes Go.WideShapes Go.ChangeAt Go.RowKit
def zRx(w:World):Ctx:=⟨fun b=>b,fun b=>b=1,fun _=>False,fun b=>if b=1 then some (.glob 1 zDI)else none,w⟩
def zK2(w:World):Prop:= ∀i,i<64→w.cell? ⟨1,i,none⟩=some (.int .u8 ((zGq.getD i 0:Nat):Int))
theorem zbx(w:World):Tz64H (zRx w).H:=by simp[Tz64H,zRx]
theorem zFw{w:World}{b:Nat}{x:ABlk}(h:(zRx w).H b=some x):b=1∧x=.glob 1 zDI:=by
 have h2:(if b=1 then some (ABlk.glob 1 zDI)else none)=some x:=h
 split at h2
 ·injection h2 with h2;exact⟨‹_›,h2.symm⟩
 ·cases h2
theorem zK5{w:World}{b:Nat}(h:(zRx w).H b≠none):b=1:=by
 cases e:(zRx w).H b with
 |none=>exact absurd e h
 |some x=>exact(zFw e).1
theorem zL7{w:World}{k:Nat}: ¬Mut (zRx w) k:=by
 rintro⟨b,h,_⟩
 cases e:(zRx w).H b with
 |none=>rw[e]at h;exact h
 |some x=>rw[e,(zFw e).2]at h;exact h
theorem zNs(w:World):Later0 (zLF w) (zRx w):=
 ⟨Nat.le_refl _,rfl,rfl,rfl,fun _ h=>h.elim,fun _ _ h=>h.elim,fun _ _ _=>⟨rfl,zL7⟩⟩
theorem zXV{w:World}(h:zK2 w):Ok (zRx w):=by
 refine⟨fun b hb=>zK5 hb,⟨1+1,fun b hb=>?_⟩,fun b b' hb hb' _=>by rw[zK5 hb,zK5 hb'],fun b x hx=>?_⟩
 ·rcases hb with hb|hb
  ·have hb':b=1:=hb
   omega
  ·exact hb.elim
 ·obtain⟨rfl,rfl⟩:=zFw hx
  refine⟨rfl,(zER (h 0 (by omega))).2,fun i=>.int .u8 ((zGq.getD i 0:Nat):Int),fun i hi=>h i hi,fun i hi=>?_⟩
  have hi':i<zGq.length:=by simpa[zDI]using hi
  have e:zDI[i]=AV.int .u8 ((zGq.getD i 0:Nat):Int):=by
   simp only[zDI,List.getElem_map]
   rw[List.getD_eq_getElem?_getD,List.getElem?_eq_getElem hi',Option.getD_some]
  exact e▸Enc.int _ _
theorem zGW{P:Program}{f:FuncId}{args:List AV}(h: ∀{H:AHeap}{Q:AV→AHeap→Prop},Tz64H H→Q (.bool true) H→Run P f args H Q)(w:World)(ht:zK2 w)(vs:Array Value)(hn:vs.size=args.length)(he: ∀i(h:i<args.length)(h':i<vs.size),Enc (zLF w) (args[i]) (vs[i])):
 Calls P f vs w fun e w'=>e=.returned (.bool true)∧Below w.heap.size w w':=by
 refine((h (Q:=fun r _=>r=.bool true) (zbx w) rfl).2 (zRx w) vs rfl (zXV ht) hn fun i h h'=>(he i h h').later0 (zNs w)).mono ?_
 rintro e w' ⟨c,v,r,rfl,rfl,_,hl,hr,rfl⟩
 cases hr
 exact⟨rfl,⟨hl.os,hl.tape,hl.output,hl.size,fun k hk=>(hl.keep k hk zL7).1⟩⟩
theorem zH7{w:World}{laid:List (String×DataW Unit)}(h0:laidMetH Tryz.prog laid w)(hf:laid.filter (fun x=>x.1=="math/bits.deBruijn64tab")=[("math/bits.deBruijn64tab",Lib.tabData .u8 (zGq.map fun (n:Nat)=>(n:Int)))]):zK2 w:=by
 have h:=laidMetH.filter (fun x=>x.1=="math/bits.deBruijn64tab") h0
 rw[hf]at h
 rw[MakeChecks.laidMetH_plain _ _ _ (by rfl)]at h
 have ht:=Lib.tabIs_of_head (g:=1) (t:=283) (e:=5) (n:=64) (by kernel_rfl) (by kernel_rfl) Tryz.underlying283 Tryz.underlying5 (by kernel_rfl) (by kernel_rfl) h
 intro i hi
 rw[ht.cell (g:=1) (by kernel_rfl) i (by rw[List.length_map];exact hi)]
 congr 2
 have hi':i<zGq.length:=hi
 rw[List.getD_eq_getElem?_getD,List.getElem?_map,List.getElem?_eq_getElem hi',Option.map_some,Option.getD_some,List.getD_eq_getElem?_getD,List.getElem?_eq_getElem hi',Option.getD_some]
end Go.Proofs.YtmndejlpfmmaiaaGreatDoor.Fw
