/- The texts Wz Wu, joined. -/
import Derived.Test.YtmndejlpfmmaiaaGreatDoorZ10
import Derived.Test.YtmndejlpfmmaiaaGreatDoorCards
import Derived.Test.YtmndejlpfmmaiaaGreatDoorTie
import Derived.Handed
import Derived.LaidLaws
import Derived.LaidHandle
import Derived.SevenTiedAt
import Derived.MakeChecks
import Derived.Lib.LaidTab
import Derived.LaidSub
set_option linter.unusedSimpArgs false
set_option linter.unusedVariables false
namespace Go.Proofs.YtmndejlpfmmaiaaGreatDoor
open Go
def zFw(cs:Array Value):Obj→Obj
 |.cells _ t frozen=>.cells cs t frozen
 |o=>o
def zI9(l:List Nat):Array Value:=(l.map fun(n:Nat)=>Value.int .u8 n).toArray
noncomputable def zDB (os:Os):World:={ World.holding Tryz.prog os ⟨#[],#[],[]⟩with heap:=((((World.holding Tryz.prog os ⟨#[],#[],[]⟩).heap.modify 1 (zFw (zI9 [0,1,56,2,57,49,28,3,61,58,42,50,38,29,17,4,62,47,59,36,45,43,51,22,53,39,33,30,24,18,12,5,63,55,48,27,60,41,37,16,46,35,44,21,52,32,23,11,54,26,40,15,34,20,31,10,25,14,19,9,13,8,7,6]))).modify 0 (zFw (zI9 [0,1,28,2,29,14,24,3,30,22,20,15,25,17,4,8,31,27,13,23,21,19,16,7,26,12,18,6,11,5,10,9]))).modify 3 (zFw (zI9 Go.Pinned.utf8FirstZ))).modify 4 (zFw (zI9 [128,191,160,191,128,159,144,191,128,143,0,0,0,0,0,0,0,0,0,0,0,0,0,0,0,0,0,0,0,0,0,0])) }
theorem zJC:ownKnob Tryz.prog.godebug=none:=by kernel_rfl
theorem zEe:laidOutB Tryz.prog=true:=by kernel_rfl
end Go.Proofs.YtmndejlpfmmaiaaGreatDoor
namespace Go.Proofs.YtmndejlpfmmaiaaGreatDoor.Fw
open Go Go.Proofs.YtmndejlpfmmaiaaGreatDoor.Ma Go.ChangeShapes Go.WideShapes Go.ChangeAt Go.RowKit
def zST(w:World):Ctx:=⟨fun b=>b,fun b=>b=1,fun _=>False,fun b=>if b=1 then some (.glob 1 zDX)else none,w⟩
def zLE(w:World):Prop:= ∀i,i<64→w.cell? ⟨1,i,none⟩=some (.int .u8 ((zHK.getD i 0:Nat):Int))
theorem zeF(w:World):Tz64H (zST w).H:=by simp[Tz64H,zST]
theorem zGD{w:World}{b:Nat}{x:ABlk}(h:(zST w).H b=some x):b=1∧x=.glob 1 zDX:=by
 have h2:(if b=1 then some (ABlk.glob 1 zDX)else none)=some x:=h
 split at h2
 ·injection h2 with h2;exact⟨‹_›,h2.symm⟩
 ·cases h2
theorem zLO{w:World}{b:Nat}(h:(zST w).H b≠none):b=1:=by
 cases e:(zST w).H b with
 |none=>exact absurd e h
 |some x=>exact(zGD e).1
theorem zNW{w:World}{k:Nat}: ¬Mut (zST w) k:=by
 rintro⟨b,h,_⟩
 cases e:(zST w).H b with
 |none=>rw[e]at h;exact h
 |some x=>rw[e,(zGD e).2]at h;exact h
theorem zOT(w:World):Later0 (zNJ w) (zST w):=
 ⟨Nat.le_refl _,rfl,rfl,rfl,fun _ h=>h.elim,fun _ _ h=>h.elim,fun _ _ _=>⟨rfl,zNW⟩⟩
theorem zYr{w:World}(h:zLE w):Ok (zST w):=by
 refine⟨fun b hb=>zLO hb,⟨1+1,fun b hb=>?_⟩,fun b b' hb hb' _=>by rw[zLO hb,zLO hb'],fun b x hx=>?_⟩
 ·rcases hb with hb|hb
  ·have hb':b=1:=hb
   omega
  ·exact hb.elim
 ·obtain⟨rfl,rfl⟩:=zGD hx
  refine⟨rfl,(zF8 (h 0 (by omega))).2,fun i=>.int .u8 ((zHK.getD i 0:Nat):Int),fun i hi=>h i hi,fun i hi=>?_⟩
  have hi':i<zHK.length:=by simpa[zDX]using hi
  have e:zDX[i]=AV.int .u8 ((zHK.getD i 0:Nat):Int):=by
   simp only[zDX,List.getElem_map]
   rw[List.getD_eq_getElem?_getD,List.getElem?_eq_getElem hi',Option.getD_some]
  exact e▸Enc.int _ _
theorem zGr{P:Program}{f:FuncId}{args:List AV}(h: ∀{H:AHeap}{Q:AV→AHeap→Prop},Tz64H H→Q (.bool true) H→Run P f args H Q)(w:World)(ht:zLE w)(vs:Array Value)(hn:vs.size=args.length)(he: ∀i(h:i<args.length)(h':i<vs.size),Enc (zNJ w) (args[i]) (vs[i])):
 Calls P f vs w fun e w'=>e=.returned (.bool true)∧Below w.heap.size w w':=by
 refine((h (Q:=fun r _=>r=.bool true) (zeF w) rfl).2 (zST w) vs rfl (zYr ht) hn fun i h h'=>(he i h h').later0 (zOT w)).mono ?_
 rintro e w' ⟨c,v,r,rfl,rfl,_,hl,hr,rfl⟩
 cases hr
 exact⟨rfl,⟨hl.os,hl.tape,hl.output,hl.size,fun k hk=>(hl.keep k hk zNW).1⟩⟩
theorem zIN{w:World}{laid:List (String×DataW Unit)}(h0:laidMetH Tryz.prog laid w)(hf:laid.filter (fun x=>x.1=="math/bits.deBruijn64tab")=[("math/bits.deBruijn64tab",Lib.tabData .u8 (zHK.map fun (n:Nat)=>(n:Int)))]):zLE w:=by
 have h:=laidMetH.filter (fun x=>x.1=="math/bits.deBruijn64tab") h0
 rw[hf]at h
 rw[MakeChecks.laidMetH_plain _ _ _ (by rfl)]at h
 have ht:=Lib.tabIs_of_head (g:=1) (t:=283) (e:=5) (n:=64) (by kernel_rfl) (by kernel_rfl) Tryz.underlying283 Tryz.underlying5 (by kernel_rfl) (by kernel_rfl) h
 intro i hi
 rw[ht.cell (g:=1) (by kernel_rfl) i (by rw[List.length_map];exact hi)]
 congr 2
 have hi':i<zHK.length:=hi
 rw[List.getD_eq_getElem?_getD,List.getElem?_map,List.getElem?_eq_getElem hi',Option.map_some,Option.getD_some,List.getD_eq_getElem?_getD,List.getElem?_eq_getElem hi',Option.getD_some]
end Go.Proofs.YtmndejlpfmmaiaaGreatDoor.Fw
