/- The texts Ec Ed Nc Ta Ua Qn Qa Qb Ub Al3, joined. -/
import Derived.Test.YtmndejlpfmmaiaaGreatDoorZ5
set_option linter.unusedSimpArgs false
set_option linter.unusedVariables false
namespace Go.Proofs.YtmndejlpfmmaiaaGreatDoor.Fw
open Go Go.Proofs.YtmndejlpfmmaiaaGreatDoor.Ma
set_option maxRecDepth 20000
def InsA(i:Ins):AV:=.agg [.int .i64 i.op,.int .i64 i.to,.int .i64 i.a,.int .i64 i.b,.int .i64 i.c]
theorem cells_InsA{i:Ins}:(InsA i).cells=some [.int .i64 i.op,.int .i64 i.to,.int .i64 i.a,.int .i64 i.b,.int .i64 i.c]:=id rfl
theorem fold_InsA{i:Ins}:AV.agg [.int .i64 i.op,.int .i64 i.to,.int .i64 i.a,.int .i64 i.b,.int .i64 i.c]=InsA i:=id rfl
theorem cells_ProgA{p:PR}:(ProgA p).cells=some [.int .i64 p.ins,.int .i64 p.regs,CodeA p.code false,OutsA p.outs false]:=id rfl
theorem fold_ProgA{p:PR}:AV.agg [.int .i64 p.ins,.int .i64 p.regs,CodeA p.code false,OutsA p.outs false]=ProgA p:=id rfl
section
variable {H:AHeap} {K:AV→Prop} {k:IntKind} {t:Bool} {l:List Ins} {i:Nat}
theorem len_CodeA(h:l.length<9223372036854775808):lenW false (CodeA l t) K=K (.int .i64 ((l.length:Nat):Int)):=len_rw h
theorem idx_CodeA(h:i<l.length):idxAW 5 (CodeA l t) (.int k (i:Int)) K=K (.cptr ((l.flatMap insC).drop (i*5))):=idx_rw (flat_len insC_len l) h
theorem load_CodeA(h:i<l.length):loadW H (some 5) (.cptr ((l.flatMap insC).drop (i*5))) K=K (InsA (l[i])):=by
 rw[flat_drop insC_len l i h];simp[loadW,cellsAt,insC,InsA]
theorem loadOp_CodeA(h:i<l.length):loadW H none (.cptr ((l.flatMap insC).drop (i*5))) K=K (.int .i64 (l[i]).op):=by
 rw[flat_drop insC_len l i h];simp[loadW,cellsAt,insC]
theorem len_OutsA{l:List Int}(h:l.length<9223372036854775808):lenW false (OutsA l t) K=K (.int .i64 ((l.length:Nat):Int)):=len_rw h
theorem idx_OutsA{l:List Int}(h:i<l.length):idxAW 1 (OutsA l t) (.int k (i:Int)) K=K (.cptr ((l.map fun n=>AV.int .i64 n).drop i)):=by rw[idx_rw (by simp) h,Nat.mul_one]
theorem load_OutsA{l:List Int}(h:i<l.length):loadW H none (.cptr ((l.map fun n=>AV.int .i64 n).drop i)) K=K (.int .i64 (l[i])):=by
 rw[List.drop_eq_getElem_cons (by simpa using h)];simp[loadW,cellsAt]
end
theorem geqI{k:IntKind}{n m:Int}{K:AV→Prop}:binW .geq (.int k n) (.int k m) K↔K (.bool (decide (m≤n))):=by simp[binW,binInt]
theorem leqI{k:IntKind}{n m:Int}{K:AV→Prop}:binW .leq (.int k n) (.int k m) K↔K (.bool (decide (n≤m))):=by simp[binW,binInt]
theorem two_fn{n:Int}:PFn Tryz.prog 219 [.int .i64 n] (.bool (decide (n=3∨n=4))):=by
 intro H Q hq
 refine enter219 (by simp) ?_
 by_cases h:n=3
 ·rw[decide_eq_true (show n=3∨n=4 from .inl h)]at hq
  have c1:decide (n=((3:Nat):Int))=true:=decide_eq_true h
  simp(disch:=first|exact Xe|fail)only[ac219,rs219,eql_int,c1,↓Xa,Xb,Xc,↓reduceIte,Nat.reduceLT,Nat.reduceEqDiff,Nat.reduceBEq,Nat.reduceLeDiff,Nat.reduceAdd,Nat.reduceMul]
  exact SetR.now hq
 ·have c1:decide (n=((3:Nat):Int))=false:=decide_eq_false h
  have c2:decide (n=((4:Nat):Int))=decide (n=3∨n=4):=decide_eq_decide.2 (by omega)
  simp(disch:=first|exact Xe|fail)only[ac219,rs219,eql_int,c1,c2,↓Xa,Xb,Xc,↓reduceIte,Nat.reduceLT,Nat.reduceEqDiff,Nat.reduceBEq,Nat.reduceLeDiff,Nat.reduceAdd,Nat.reduceMul]
  exact SetR.now hq
def conI(i:Ins):Prop:=if i.op=5∨i.op=6 then i.c≠0∧ -512≤i.c∧i.c≤512 else if i.op=7∨i.op=8 then 1≤i.c∧i.c≤64 else i.c=0
instance (i:Ins):Decidable (conI i):=by unfold conI;infer_instance
theorem constant_fn(i:Ins):PFn Tryz.prog 220 [InsA i] (.bool (decide (conI i))):=by
 intro H Q hq
 refine enter220 (by simp) ?_
 have big:(i.op=5∨i.op=6)→∀(p:Nat)(x:Option ABlk),H p=none→SetR Q (.bool (!decide (i.c=((0:Nat):Int))&&(decide (-512≤i.c)&&decide (i.c≤((512:Nat):Int))))) (H.upd p x):=fun h p x hp=>by
  have hc:conI i↔i.c≠0∧ -512≤i.c∧i.c≤512:=by unfold conI;rw[if_pos h]
  have e:decide (conI i)=(!decide (i.c=((0:Nat):Int))&&(decide (-512≤i.c)&&decide (i.c≤((512:Nat):Int)))):=by
   rw[Bool.eq_iff_iff]
   simp only[decide_eq_true_eq,Bool.and_eq_true,Bool.not_eq_true',decide_eq_false_iff_not]
   exact hc
  rw[e]at hq
  exact SetR.dropTo ((Le.refl H).updB hp) (SetR.now hq)
 have sml: ¬(i.op=5∨i.op=6)→(i.op=7∨i.op=8)→∀(p:Nat)(x:Option ABlk),H p=none→SetR Q (.bool (decide (((1:Nat):Int)≤i.c)&&decide (i.c≤((64:Nat):Int)))) (H.upd p x):=fun h h' p x hp=>by
  have hc:conI i↔1≤i.c∧i.c≤64:=by unfold conI;rw[if_neg h,if_pos h']
  have e:decide (conI i)=(decide (((1:Nat):Int)≤i.c)&&decide (i.c≤((64:Nat):Int))):=by
   rw[Bool.eq_iff_iff]
   simp only[decide_eq_true_eq,Bool.and_eq_true]
   exact hc
  rw[e]at hq
  exact SetR.dropTo ((Le.refl H).updB hp) (SetR.now hq)
 simp(disch:=first|exact Xe|fail)only[ac220,cells_InsA,↓Xa,Xb,Xc,↓reduceIte,Nat.reduceLT,Nat.reduceEqDiff,Nat.reduceBEq,Nat.reduceLeDiff,Nat.reduceAdd,Nat.reduceMul]
 refine alloc_i fun p1 hp1=>?_
 have n1:=hp1
 simp(disch:=first|exact Xe|fail)only[eql_int,↓Xa,Xb,Xc,↓reduceIte,Nat.reduceLT,Nat.reduceEqDiff,Nat.reduceBEq,Nat.reduceLeDiff,Nat.reduceAdd,Nat.reduceMul]
 have c512: ∀b,b=decide (i.c=((0:Nat):Int))→True:=fun _ _=>trivial
 by_cases h5:i.op=5
 ·have f:=big (.inl h5)
  have e5:decide (i.op=((5:Nat):Int))=true:=decide_eq_true h5
  by_cases z1:i.c=((0:Nat):Int)
  ·rw[decide_eq_true z1]at f
   simp(disch:=first|exact Xe|fail)only[eql_int,e5,neq_int,geqI,leqI,decide_eq_true z1,rs220,↓Xa,Xb,Xc,↓reduceIte,Nat.reduceLT,Nat.reduceEqDiff,Nat.reduceBEq,Nat.reduceLeDiff,Nat.reduceAdd,Nat.reduceMul]
   exact f _ _ n1
  ·rw[decide_eq_false z1]at f
   by_cases z2: -512≤i.c
   ·rw[decide_eq_true z2]at f
    simp(disch:=first|exact Xe|fail)only[eql_int,e5,neq_int,geqI,leqI,decide_eq_false z1,decide_eq_true z2,rs220,↓Xa,Xb,Xc,↓reduceIte,Nat.reduceLT,Nat.reduceEqDiff,Nat.reduceBEq,Nat.reduceLeDiff,Nat.reduceAdd,Nat.reduceMul]
    exact f _ _ n1
   ·rw[decide_eq_false z2]at f
    simp(disch:=first|exact Xe|fail)only[eql_int,e5,neq_int,geqI,leqI,decide_eq_false z1,decide_eq_false z2,rs220,↓Xa,Xb,Xc,↓reduceIte,Nat.reduceLT,Nat.reduceEqDiff,Nat.reduceBEq,Nat.reduceLeDiff,Nat.reduceAdd,Nat.reduceMul]
    exact f _ _ n1
 have e5:decide (i.op=((5:Nat):Int))=false:=decide_eq_false h5
 by_cases h6:i.op=6
 ·have f:=big (.inr h6)
  have e6:decide (i.op=((6:Nat):Int))=true:=decide_eq_true h6
  by_cases z1:i.c=((0:Nat):Int)
  ·rw[decide_eq_true z1]at f
   simp(disch:=first|exact Xe|fail)only[eql_int,e5,e6,neq_int,geqI,leqI,decide_eq_true z1,rs220,↓Xa,Xb,Xc,↓reduceIte,Nat.reduceLT,Nat.reduceEqDiff,Nat.reduceBEq,Nat.reduceLeDiff,Nat.reduceAdd,Nat.reduceMul]
   exact f _ _ n1
  ·rw[decide_eq_false z1]at f
   by_cases z2: -512≤i.c
   ·rw[decide_eq_true z2]at f
    simp(disch:=first|exact Xe|fail)only[eql_int,e5,e6,neq_int,geqI,leqI,decide_eq_false z1,decide_eq_true z2,rs220,↓Xa,Xb,Xc,↓reduceIte,Nat.reduceLT,Nat.reduceEqDiff,Nat.reduceBEq,Nat.reduceLeDiff,Nat.reduceAdd,Nat.reduceMul]
    exact f _ _ n1
   ·rw[decide_eq_false z2]at f
    simp(disch:=first|exact Xe|fail)only[eql_int,e5,e6,neq_int,geqI,leqI,decide_eq_false z1,decide_eq_false z2,rs220,↓Xa,Xb,Xc,↓reduceIte,Nat.reduceLT,Nat.reduceEqDiff,Nat.reduceBEq,Nat.reduceLeDiff,Nat.reduceAdd,Nat.reduceMul]
    exact f _ _ n1
 have e6:decide (i.op=((6:Nat):Int))=false:=decide_eq_false h6
 have n56: ¬(i.op=5∨i.op=6):=by omega
 by_cases h7:i.op=7
 ·have f:=sml n56 (.inl h7)
  have e7:decide (i.op=((7:Nat):Int))=true:=decide_eq_true h7
  by_cases z1:((1:Nat):Int)≤i.c
  ·rw[decide_eq_true z1]at f
   simp(disch:=first|exact Xe|fail)only[eql_int,e5,e6,e7,geqI,leqI,decide_eq_true z1,rs220,↓Xa,Xb,Xc,↓reduceIte,Nat.reduceLT,Nat.reduceEqDiff,Nat.reduceBEq,Nat.reduceLeDiff,Nat.reduceAdd,Nat.reduceMul]
   exact f _ _ n1
  ·rw[decide_eq_false z1]at f
   simp(disch:=first|exact Xe|fail)only[eql_int,e5,e6,e7,geqI,leqI,decide_eq_false z1,rs220,↓Xa,Xb,Xc,↓reduceIte,Nat.reduceLT,Nat.reduceEqDiff,Nat.reduceBEq,Nat.reduceLeDiff,Nat.reduceAdd,Nat.reduceMul]
   exact f _ _ n1
 have e7:decide (i.op=((7:Nat):Int))=false:=decide_eq_false h7
 by_cases h8:i.op=8
 ·have f:=sml n56 (.inr h8)
  have e8:decide (i.op=((8:Nat):Int))=true:=decide_eq_true h8
  by_cases z1:((1:Nat):Int)≤i.c
  ·rw[decide_eq_true z1]at f
   simp(disch:=first|exact Xe|fail)only[eql_int,e5,e6,e7,e8,geqI,leqI,decide_eq_true z1,rs220,↓Xa,Xb,Xc,↓reduceIte,Nat.reduceLT,Nat.reduceEqDiff,Nat.reduceBEq,Nat.reduceLeDiff,Nat.reduceAdd,Nat.reduceMul]
   exact f _ _ n1
  ·rw[decide_eq_false z1]at f
   simp(disch:=first|exact Xe|fail)only[eql_int,e5,e6,e7,e8,geqI,leqI,decide_eq_false z1,rs220,↓Xa,Xb,Xc,↓reduceIte,Nat.reduceLT,Nat.reduceEqDiff,Nat.reduceBEq,Nat.reduceLeDiff,Nat.reduceAdd,Nat.reduceMul]
   exact f _ _ n1
 have e8:decide (i.op=((8:Nat):Int))=false:=decide_eq_false h8
 have e:decide (conI i)=decide (i.c=((0:Nat):Int)):=decide_eq_decide.2 (by unfold conI;rw[if_neg n56,if_neg (by omega)];rfl)
 rw[e]at hq
 simp(disch:=first|exact Xe|fail)only[eql_int,e5,e6,e7,e8,eql_int,rs220,↓Xa,Xb,Xc,↓reduceIte,Nat.reduceLT,Nat.reduceEqDiff,Nat.reduceBEq,Nat.reduceLeDiff,Nat.reduceAdd,Nat.reduceMul]
 exact SetR.dropTo ((Le.refl H).updB n1) (SetR.now hq)
def asksI(i:Ins):List Int:=if i.op=3∨i.op=4 then[i.a,i.b]else if 1≤i.op∧i.op≤8 then[i.a]else[]
theorem asks_fn(i:Ins)(h1:1≤i.op)(h2:i.op≤8):PFn Tryz.prog 221 [InsA i] (OutsA (asksI i) true):=by
 intro H Q hq
 refine enter221 (by simp) ?_
 simp(disch:=first|exact Xe|fail)only[ac221,cells_InsA,↓Xa,Xb,Xc,↓reduceIte,Nat.reduceLT,Nat.reduceEqDiff,Nat.reduceBEq,Nat.reduceLeDiff,Nat.reduceAdd,Nat.reduceMul]
 refine alloc_i fun p1 hp1=>?_
 have n1:=hp1
 simp(disch:=first|exact Xe|fail)only[eql_int,↓Xa,Xb,Xc,↓reduceIte,Nat.reduceLT,Nat.reduceEqDiff,Nat.reduceBEq,Nat.reduceLeDiff,Nat.reduceAdd,Nat.reduceMul]
 have r1: ∀{x:AV},repA [x] 1=[x]:=by simp[repA,List.range,List.range.loop]
 have r2: ∀{x y:AV},repA [x] 2=[x,x]:=by simp[repA,List.range,List.range.loop]
 have fin: ∀{p:Nat}{x:Option ABlk},H p=none→SetR Q (OutsA (asksI i) true) (H.upd p x):=fun hp=>SetR.dropTo ((Le.refl H).updB hp) (SetR.now hq)
 have e0: ∀m:Int,i.op=m→decide (i.op=m)=true:=fun m h=>decide_eq_true h
 by_cases h3:i.op=3
 ·unfold asksI at fin
  rw[if_pos (.inl h3)]at fin
  have e3:decide (i.op=((3:Nat):Int))=true:=decide_eq_true h3
  simp(disch:=first|exact Xe|fail)only[eql_int,e3,repA,List.range,List.range.loop,rs221,↓Xa,Xb,Xc,↓reduceIte,Nat.reduceLT,Nat.reduceEqDiff,Nat.reduceBEq,Nat.reduceLeDiff,Nat.reduceAdd,Nat.reduceMul]
  exact fin n1
 have e3:decide (i.op=((3:Nat):Int))=false:=decide_eq_false h3
 by_cases h4:i.op=4
 ·unfold asksI at fin
  rw[if_pos (.inr h4)]at fin
  have e4:decide (i.op=((4:Nat):Int))=true:=decide_eq_true h4
  simp(disch:=first|exact Xe|fail)only[eql_int,e3,e4,repA,List.range,List.range.loop,rs221,↓Xa,Xb,Xc,↓reduceIte,Nat.reduceLT,Nat.reduceEqDiff,Nat.reduceBEq,Nat.reduceLeDiff,Nat.reduceAdd,Nat.reduceMul]
  exact fin n1
 have e4:decide (i.op=((4:Nat):Int))=false:=decide_eq_false h4
 unfold asksI at fin
 rw[if_neg (by omega),if_pos ⟨h1,h2⟩]at fin
 by_cases g1:i.op=1
 ·have e5:decide (i.op=((1:Nat):Int))=true:=decide_eq_true g1
  simp(disch:=first|exact Xe|fail)only[eql_int,e3,e4,e5,r1,rs221,↓Xa,Xb,Xc,↓reduceIte,Nat.reduceLT,Nat.reduceEqDiff,Nat.reduceBEq,Nat.reduceLeDiff,Nat.reduceAdd,Nat.reduceMul]
  exact fin n1
 have f1:decide (i.op=((1:Nat):Int))=false:=decide_eq_false g1
 by_cases g2:i.op=2
 ·have e5:decide (i.op=((2:Nat):Int))=true:=decide_eq_true g2
  simp(disch:=first|exact Xe|fail)only[eql_int,e3,e4,f1,e5,r1,rs221,↓Xa,Xb,Xc,↓reduceIte,Nat.reduceLT,Nat.reduceEqDiff,Nat.reduceBEq,Nat.reduceLeDiff,Nat.reduceAdd,Nat.reduceMul]
  exact fin n1
 have f2:decide (i.op=((2:Nat):Int))=false:=decide_eq_false g2
 by_cases g5:i.op=5
 ·have e5:decide (i.op=((5:Nat):Int))=true:=decide_eq_true g5
  simp(disch:=first|exact Xe|fail)only[eql_int,e3,e4,f1,f2,e5,r1,rs221,↓Xa,Xb,Xc,↓reduceIte,Nat.reduceLT,Nat.reduceEqDiff,Nat.reduceBEq,Nat.reduceLeDiff,Nat.reduceAdd,Nat.reduceMul]
  exact fin n1
 have f5:decide (i.op=((5:Nat):Int))=false:=decide_eq_false g5
 by_cases g6:i.op=6
 ·have e5:decide (i.op=((6:Nat):Int))=true:=decide_eq_true g6
  simp(disch:=first|exact Xe|fail)only[eql_int,e3,e4,f1,f2,f5,e5,r1,rs221,↓Xa,Xb,Xc,↓reduceIte,Nat.reduceLT,Nat.reduceEqDiff,Nat.reduceBEq,Nat.reduceLeDiff,Nat.reduceAdd,Nat.reduceMul]
  exact fin n1
 have f6:decide (i.op=((6:Nat):Int))=false:=decide_eq_false g6
 by_cases g7:i.op=7
 ·have e5:decide (i.op=((7:Nat):Int))=true:=decide_eq_true g7
  simp(disch:=first|exact Xe|fail)only[eql_int,e3,e4,f1,f2,f5,f6,e5,r1,rs221,↓Xa,Xb,Xc,↓reduceIte,Nat.reduceLT,Nat.reduceEqDiff,Nat.reduceBEq,Nat.reduceLeDiff,Nat.reduceAdd,Nat.reduceMul]
  exact fin n1
 have f7:decide (i.op=((7:Nat):Int))=false:=decide_eq_false g7
 have e5:decide (i.op=((8:Nat):Int))=true:=decide_eq_true (by omega)
 simp(disch:=first|exact Xe|fail)only[eql_int,e3,e4,f1,f2,f5,f6,f7,e5,r1,rs221,↓Xa,Xb,Xc,↓reduceIte,Nat.reduceLT,Nat.reduceEqDiff,Nat.reduceBEq,Nat.reduceLeDiff,Nat.reduceAdd,Nat.reduceMul]
 exact fin n1
theorem mayI_iff(n:Int)(i:Ins):mayI n i↔1≤i.op∧i.op≤8∧0≤i.to∧i.to<n∧(¬(i.op=3∨i.op=4)→i.b=0)∧conI i∧∀r,r∈asksI i→0≤r∧r<n:=by
 unfold mayI conI asksI
 by_cases h:i.op=3∨i.op=4
 ·rw[if_pos h,if_neg (by omega),if_neg (by omega),if_pos h]
  simp;omega
 ·rw[if_neg h,if_neg h]
  constructor
  ·rintro⟨a,b,c,d,e,f,g,k⟩
   refine⟨a,b,c,d,fun _=>g,k,fun r hr=>?_⟩
   rw[if_pos ⟨a,b⟩]at hr
   rw[List.mem_singleton.1 hr];exact⟨e,f⟩
  ·rintro⟨a,b,c,d,g,k,m⟩
   rw[if_pos ⟨a,b⟩]at m
   have:=m i.a (by simp)
   exact⟨a,b,c,d,this.1,this.2,g h,k⟩
theorem may_fn(i:Ins)(n:Int):PFn Tryz.prog 163 [InsA i,.int .i64 n] (.bool (decide (mayI n i))):=by
 intro H Q hq
 have bad: ¬mayI n i→∀{p:Nat}{x:Option ABlk},H p=none→SetR Q (.bool false) (H.upd p x):=fun h p x hp=>by
  rw[decide_eq_false h]at hq
  exact SetR.dropTo ((Le.refl H).updB hp) (SetR.now hq)
 have hm:=mayI_iff n i
 have tw:=two_fn (n:=i.op)
 refine enter163 (by simp) ?_
 simp(disch:=first|exact Xe|fail)only[ac163,cells_InsA,↓Xa,Xb,Xc,↓reduceIte,Nat.reduceLT,Nat.reduceEqDiff,Nat.reduceBEq,Nat.reduceLeDiff,Nat.reduceAdd,Nat.reduceMul]
 refine alloc_i fun p1 hp1=>?_
 have n1:=hp1
 by_cases h1:i.op<((1:Nat):Int)
 ·simp(disch:=first|exact Xe|fail)only[lss_int,decide_eq_true h1,rs163,↓Xa,Xb,Xc,↓reduceIte,Nat.reduceLT,Nat.reduceEqDiff,Nat.reduceBEq,Nat.reduceLeDiff,Nat.reduceAdd,Nat.reduceMul]
  exact bad (fun h=>by have:=hm.1 h;omega) n1
 by_cases h2:((8:Nat):Int)<i.op
 ·simp(disch:=first|exact Xe|fail)only[lss_int,gtr_int,decide_eq_false h1,decide_eq_true h2,rs163,↓Xa,Xb,Xc,↓reduceIte,Nat.reduceLT,Nat.reduceEqDiff,Nat.reduceBEq,Nat.reduceLeDiff,Nat.reduceAdd,Nat.reduceMul]
  exact bad (fun h=>by have:=hm.1 h;omega) n1
 by_cases h3:i.to<((0:Nat):Int)
 ·simp(disch:=first|exact Xe|fail)only[lss_int,gtr_int,decide_eq_false h1,decide_eq_false h2,decide_eq_true h3,rs163,↓Xa,Xb,Xc,↓reduceIte,Nat.reduceLT,Nat.reduceEqDiff,Nat.reduceBEq,Nat.reduceLeDiff,Nat.reduceAdd,Nat.reduceMul]
  exact bad (fun h=>by have:=hm.1 h;omega) n1
 by_cases h4:n≤i.to
 ·simp(disch:=first|exact Xe|fail)only[lss_int,gtr_int,geqI,decide_eq_false h1,decide_eq_false h2,decide_eq_false h3,decide_eq_true h4,rs163,↓Xa,Xb,Xc,↓reduceIte,Nat.reduceLT,Nat.reduceEqDiff,Nat.reduceBEq,Nat.reduceLeDiff,Nat.reduceAdd,Nat.reduceMul]
  exact bad (fun h=>by have:=hm.1 h;omega) n1
 simp(disch:=first|exact Xe|fail)only[lss_int,gtr_int,geqI,decide_eq_false h1,decide_eq_false h2,decide_eq_false h3,decide_eq_false h4,↓Xa,Xb,Xc,↓reduceIte,Nat.reduceLT,Nat.reduceEqDiff,Nat.reduceBEq,Nat.reduceLeDiff,Nat.reduceAdd,Nat.reduceMul]
 refine tw.call ?_
 have rest:(¬(i.op=3∨i.op=4)→i.b=0)→conI i→∀M,M=H.upd p1 (some (.row 76 0 [.int .i64 i.op,.int .i64 i.to,.int .i64 i.a,.int .i64 i.b,.int .i64 i.c]))→
  W Tryz.prog (sndC (sndC ac163)) (retN rs163 Q) ⟨[],[(1,.int .i64 n),(2,.ptr p1 5 0)],M⟩:=by
  rintro hb hc M rfl
  have la:(asksI i).length<9223372036854775808:=by unfold asksI;split;simp;split<;>simp
  simp(disch:=first|exact Xe|fail)only[sndC,ac163,fold_InsA,↓Xa,Xb,Xc,↓reduceIte,Nat.reduceLT,Nat.reduceEqDiff,Nat.reduceBEq,Nat.reduceLeDiff,Nat.reduceAdd,Nat.reduceMul]
  refine(asks_fn i (by omega) (by omega)).call ?_
  simp(disch:=first|exact Xe|fail)only[len_OutsA,la,↓Xa,Xb,Xc,↓reduceIte,Nat.reduceLT,Nat.reduceEqDiff,Nat.reduceBEq,Nat.reduceLeDiff,Nat.reduceAdd,Nat.reduceMul]
  refine W_loop (fun s:Nat=>⟨[],[(1,.int .i64 n),(43,OutsA (asksI i) true),(44,.int .i64 (asksI i).length),(45,.int .i64 s)],H.upd p1 (some (.row 76 0 [.int .i64 i.op,.int .i64 i.to,.int .i64 i.a,.int .i64 i.b,.int .i64 i.c]))⟩)
   (fun s=>s≤(asksI i).length∧∀j(h:j<(asksI i).length),j<s→0≤(asksI i)[j]∧(asksI i)[j]<n) (fun s=>(asksI i).length-s) 0 (Settle.now rfl) ⟨Nat.zero_le _,fun j _ h=>absurd h (by omega)⟩ ?_
  rintro s ⟨h5,h6⟩
  by_cases hi:s<(asksI i).length
  ·simp(disch:=first|exact Xe|fail)only[hi,idx_OutsA,load_OutsA,↓Xa,Xb,Xc,↓reduceIte,Nat.reduceLT,Nat.reduceEqDiff,Nat.reduceBEq,Nat.reduceLeDiff,Nat.reduceAdd,Nat.reduceMul]
   have hmem:=List.getElem_mem hi
   have nb: ¬(0≤(asksI i)[s]∧(asksI i)[s]<n)→¬mayI n i:=fun h hm2=>h ((hm.1 hm2).2.2.2.2.2.2 _ hmem)
   by_cases c1:(asksI i)[s]<((0:Nat):Int)
   ·simp(disch:=first|exact Xe|fail)only[lss_int,decide_eq_true c1,rs163,↓Xa,Xb,Xc,↓reduceIte,Nat.reduceLT,Nat.reduceEqDiff,Nat.reduceBEq,Nat.reduceLeDiff,Nat.reduceAdd,Nat.reduceMul]
    exact bad (nb (by omega)) n1
   by_cases c2:n≤(asksI i)[s]
   ·simp(disch:=first|exact Xe|fail)only[lss_int,geqI,decide_eq_false c1,decide_eq_true c2,rs163,↓Xa,Xb,Xc,↓reduceIte,Nat.reduceLT,Nat.reduceEqDiff,Nat.reduceBEq,Nat.reduceLeDiff,Nat.reduceAdd,Nat.reduceMul]
    exact bad (nb (by omega)) n1
   simp(disch:=first|exact Xe|fail)only[lss_int,geqI,decide_eq_false c1,decide_eq_false c2,↓Xa,Xb,Xc,↓reduceIte,Nat.reduceLT,Nat.reduceEqDiff,Nat.reduceBEq,Nat.reduceLeDiff,Nat.reduceAdd,Nat.reduceMul]
   refine Settle.now ⟨s+1,by omega,⟨by omega,fun j hj hjs=>?_⟩,rfl⟩
   by_cases e:j=s
   ·subst e;omega
   ·exact h6 j hj (by omega)
  ·simp(disch:=first|exact Xe|fail)only[hi,↓Xa,Xb,Xc,↓reduceIte,Nat.reduceLT,Nat.reduceEqDiff,Nat.reduceBEq,Nat.reduceLeDiff,Nat.reduceAdd,Nat.reduceMul]
   refine Settle.now ?_
   have hyes:mayI n i:=hm.2 ⟨by omega,by omega,by omega,by omega,hb,hc,fun r hr=>by
    obtain⟨j,hj,rfl⟩:=List.getElem_of_mem hr
    exact h6 j hj (by omega)⟩
   rw[decide_eq_true hyes]at hq
   simp(disch:=first|exact Xe|fail)only[rs163,↓Xa,Xb,Xc,↓reduceIte,Nat.reduceLT,Nat.reduceEqDiff,Nat.reduceBEq,Nat.reduceLeDiff,Nat.reduceAdd,Nat.reduceMul]
   exact SetR.dropTo ((Le.refl H).updB n1) (SetR.now hq)
 have cf:=constant_fn i
 by_cases ht:i.op=3∨i.op=4
 ·rw[decide_eq_true ht]
  by_cases hc:conI i
  ·rw[decide_eq_true hc]at cf
   simp(disch:=first|exact Xe|fail)only[fold_InsA,↓Xa,Xb,Xc,↓reduceIte,Nat.reduceLT,Nat.reduceEqDiff,Nat.reduceBEq,Nat.reduceLeDiff,Nat.reduceAdd,Nat.reduceMul]
   refine cf.call ?_
   have r:=rest (fun h=>absurd ht h) hc _ rfl
   simp(disch:=first|exact Xe|fail)only[sndC,ac163,fold_InsA,↓Xa,Xb,Xc,↓reduceIte,Nat.reduceLT,Nat.reduceEqDiff,Nat.reduceBEq,Nat.reduceLeDiff,Nat.reduceAdd,Nat.reduceMul]at r
   simp(disch:=first|exact Xe|fail)only[fold_InsA,↓Xa,Xb,Xc,↓reduceIte,Nat.reduceLT,Nat.reduceEqDiff,Nat.reduceBEq,Nat.reduceLeDiff,Nat.reduceAdd,Nat.reduceMul]
   exact r
  ·rw[decide_eq_false hc]at cf
   simp(disch:=first|exact Xe|fail)only[fold_InsA,↓Xa,Xb,Xc,↓reduceIte,Nat.reduceLT,Nat.reduceEqDiff,Nat.reduceBEq,Nat.reduceLeDiff,Nat.reduceAdd,Nat.reduceMul]
   refine cf.call ?_
   simp(disch:=first|exact Xe|fail)only[fold_InsA,rs163,↓Xa,Xb,Xc,↓reduceIte,Nat.reduceLT,Nat.reduceEqDiff,Nat.reduceBEq,Nat.reduceLeDiff,Nat.reduceAdd,Nat.reduceMul]
   exact bad (fun h=>hc (hm.1 h).2.2.2.2.2.1) n1
 ·rw[decide_eq_false ht]
  by_cases hb:i.b=((0:Nat):Int)
  ·by_cases hc:conI i
   ·rw[decide_eq_true hc]at cf
    simp(disch:=first|exact Xe|fail)only[neq_int,decide_eq_true hb,fold_InsA,↓Xa,Xb,Xc,↓reduceIte,Nat.reduceLT,Nat.reduceEqDiff,Nat.reduceBEq,Nat.reduceLeDiff,Nat.reduceAdd,Nat.reduceMul]
    refine cf.call ?_
    have r:=rest (fun _=>hb) hc _ rfl
    simp(disch:=first|exact Xe|fail)only[sndC,ac163,fold_InsA,↓Xa,Xb,Xc,↓reduceIte,Nat.reduceLT,Nat.reduceEqDiff,Nat.reduceBEq,Nat.reduceLeDiff,Nat.reduceAdd,Nat.reduceMul]at r
    simp(disch:=first|exact Xe|fail)only[fold_InsA,↓Xa,Xb,Xc,↓reduceIte,Nat.reduceLT,Nat.reduceEqDiff,Nat.reduceBEq,Nat.reduceLeDiff,Nat.reduceAdd,Nat.reduceMul]
    exact r
   ·rw[decide_eq_false hc]at cf
    simp(disch:=first|exact Xe|fail)only[neq_int,decide_eq_true hb,fold_InsA,↓Xa,Xb,Xc,↓reduceIte,Nat.reduceLT,Nat.reduceEqDiff,Nat.reduceBEq,Nat.reduceLeDiff,Nat.reduceAdd,Nat.reduceMul]
    refine cf.call ?_
    simp(disch:=first|exact Xe|fail)only[fold_InsA,rs163,↓Xa,Xb,Xc,↓reduceIte,Nat.reduceLT,Nat.reduceEqDiff,Nat.reduceBEq,Nat.reduceLeDiff,Nat.reduceAdd,Nat.reduceMul]
    exact bad (fun h=>hc (hm.1 h).2.2.2.2.2.1) n1
  ·simp(disch:=first|exact Xe|fail)only[neq_int,decide_eq_false hb,rs163,↓Xa,Xb,Xc,↓reduceIte,Nat.reduceLT,Nat.reduceEqDiff,Nat.reduceBEq,Nat.reduceLeDiff,Nat.reduceAdd,Nat.reduceMul]
   exact bad (fun h=>hb ((hm.1 h).2.2.2.2.1 ht)) n1
theorem check_fn(p:PR)(hp:p.ok): ∃k:Int,PFn Tryz.prog 99 [ProgA p] (.tup [.int .i64 k,.int .i64 (((if rightP p then 0 else 80:Nat)):Int)]):=by
 obtain⟨hp1,hp2,hp3,hp4,hp5,hp6⟩:=hp
 have lc:p.code.length<9223372036854775808:=by omega
 have lo:p.outs.length<9223372036854775808:=by omega
 by_cases hh:headP p
 rotate_left
 ·refine⟨-1,fun H Q hq=>?_⟩
  rw[if_neg (fun h=>hh h.1)]at hq
  have out: ∀(q:Nat)(x:Option ABlk),H q=none→SetR Q (.tup [.int .i64 (-1),.int .i64 ((80:Nat):Int)]) (H.upd q x):=fun q x h=>SetR.dropTo ((Le.refl H).updB h) (SetR.now hq)
  refine enter99 (by simp) ?_
  simp(disch:=first|exact Xe|fail)only[ac99,cells_ProgA,↓Xa,Xb,Xc,↓reduceIte,Nat.reduceLT,Nat.reduceEqDiff,Nat.reduceBEq,Nat.reduceLeDiff,Nat.reduceAdd,Nat.reduceMul]
  refine alloc_i fun p1 hp1=>?_
  have n1:=hp1
  unfold headP at hh
  by_cases h1:p.ins<((1:Nat):Int)
  ·simp(disch:=first|exact Xe|fail)only[lss_int,decide_eq_true h1,rs99,↓Xa,Xb,Xc,↓reduceIte,Nat.reduceLT,Nat.reduceEqDiff,Nat.reduceBEq,Nat.reduceLeDiff,Nat.reduceAdd,Nat.reduceMul]
   exact out _ _ n1
  by_cases h2:p.regs<p.ins
  ·simp(disch:=first|exact Xe|fail)only[lss_int,gtr_int,decide_eq_false h1,decide_eq_true h2,rs99,↓Xa,Xb,Xc,↓reduceIte,Nat.reduceLT,Nat.reduceEqDiff,Nat.reduceBEq,Nat.reduceLeDiff,Nat.reduceAdd,Nat.reduceMul]
   exact out _ _ n1
  by_cases h3:((128:Nat):Int)<p.regs
  ·simp(disch:=first|exact Xe|fail)only[lss_int,gtr_int,decide_eq_false h1,decide_eq_false h2,decide_eq_true h3,rs99,↓Xa,Xb,Xc,↓reduceIte,Nat.reduceLT,Nat.reduceEqDiff,Nat.reduceBEq,Nat.reduceLeDiff,Nat.reduceAdd,Nat.reduceMul]
   exact out _ _ n1
  by_cases h4:((16384:Nat):Int)<((p.code.length:Nat):Int)
  ·simp(disch:=first|exact Xe|fail)only[lss_int,gtr_int,decide_eq_false h1,decide_eq_false h2,decide_eq_false h3,len_CodeA,lc,decide_eq_true h4,rs99,↓Xa,Xb,Xc,↓reduceIte,Nat.reduceLT,Nat.reduceEqDiff,Nat.reduceBEq,Nat.reduceLeDiff,Nat.reduceAdd,Nat.reduceMul]
   exact out _ _ n1
  by_cases h5:((p.outs.length:Nat):Int)<((1:Nat):Int)
  ·simp(disch:=first|exact Xe|fail)only[lss_int,gtr_int,decide_eq_false h1,decide_eq_false h2,decide_eq_false h3,len_CodeA,lc,decide_eq_false h4,len_OutsA,lo,decide_eq_true h5,rs99,↓Xa,Xb,Xc,↓reduceIte,Nat.reduceLT,Nat.reduceEqDiff,Nat.reduceBEq,Nat.reduceLeDiff,Nat.reduceAdd,Nat.reduceMul]
   exact out _ _ n1
  have h6:((128:Nat):Int)<((p.outs.length:Nat):Int):=by
   have:=fun h=>hh h
   omega
  simp(disch:=first|exact Xe|fail)only[lss_int,gtr_int,decide_eq_false h1,decide_eq_false h2,decide_eq_false h3,len_CodeA,lc,decide_eq_false h4,len_OutsA,lo,decide_eq_false h5,decide_eq_true h6,rs99,↓Xa,Xb,Xc,↓reduceIte,Nat.reduceLT,Nat.reduceEqDiff,Nat.reduceBEq,Nat.reduceLeDiff,Nat.reduceAdd,Nat.reduceMul]
  exact out _ _ n1
 ·have hh':=hh
  unfold headP at hh'
  have h1: ¬p.ins<((1:Nat):Int):=by omega
  have h2: ¬p.regs<p.ins:=by omega
  have h3: ¬((128:Nat):Int)<p.regs:=by omega
  have h4: ¬((16384:Nat):Int)<((p.code.length:Nat):Int):=by omega
  have h5: ¬((p.outs.length:Nat):Int)<((1:Nat):Int):=by omega
  have h6: ¬((128:Nat):Int)<((p.outs.length:Nat):Int):=by omega
  have start: ∀{H:AHeap}{Q:AV→AHeap→Prop},(∀p1,H p1=none→W Tryz.prog (sndC (sndC ac99)) (retN rs99 Q) ⟨[],[(1,.ptr p1 4 0)],H.upd p1 (some (.row 25 0 [.int .i64 p.ins,.int .i64 p.regs,CodeA p.code false,OutsA p.outs false]))⟩)→Run Tryz.prog 99 [ProgA p] H Q:=by
   intro H Q hw
   refine enter99 (by simp) ?_
   simp(disch:=first|exact Xe|fail)only[ac99,cells_ProgA,↓Xa,Xb,Xc,↓reduceIte,Nat.reduceLT,Nat.reduceEqDiff,Nat.reduceBEq,Nat.reduceLeDiff,Nat.reduceAdd,Nat.reduceMul]
   refine alloc_i fun p1 hp1=>?_
   have n1:=hp1
   have r:=hw p1 n1
   simp(disch:=first|exact Xe|fail)only[sndC,ac99,len_OutsA,lo,↓Xa,Xb,Xc,↓reduceIte,Nat.reduceLT,Nat.reduceEqDiff,Nat.reduceBEq,Nat.reduceLeDiff,Nat.reduceAdd,Nat.reduceMul]at r
   simp(disch:=first|exact Xe|fail)only[lss_int,gtr_int,decide_eq_false h1,decide_eq_false h2,decide_eq_false h3,len_CodeA,lc,decide_eq_false h4,len_OutsA,lo,decide_eq_false h5,decide_eq_false h6,↓Xa,Xb,Xc,↓reduceIte,Nat.reduceLT,Nat.reduceEqDiff,Nat.reduceBEq,Nat.reduceLeDiff,Nat.reduceAdd,Nat.reduceMul]
   exact r
  by_cases ho: ∀n,n∈p.outs→0≤n∧n<p.regs
  rotate_left
  ·refine⟨-1,fun H Q hq=>start fun p1 n1=>?_⟩
   rw[if_neg (fun h=>ho h.2.1)]at hq
   simp(disch:=first|exact Xe|fail)only[sndC,ac99,len_OutsA,lo,↓Xa,Xb,Xc,↓reduceIte,Nat.reduceLT,Nat.reduceEqDiff,Nat.reduceBEq,Nat.reduceLeDiff,Nat.reduceAdd,Nat.reduceMul]
   refine W_loop (fun s:Nat=>⟨[],[(1,.ptr p1 4 0),(42,OutsA p.outs false),(43,.int .i64 p.outs.length),(44,.int .i64 s)],H.upd p1 (some (.row 25 0 [.int .i64 p.ins,.int .i64 p.regs,CodeA p.code false,OutsA p.outs false]))⟩)
    (fun s=>s≤p.outs.length∧∀j(h:j<p.outs.length),j<s→0≤p.outs[j]∧p.outs[j]<p.regs) (fun s=>p.outs.length-s) 0 (Settle.now rfl) ⟨Nat.zero_le _,fun j _ h=>absurd h (by omega)⟩ ?_
   rintro s ⟨g1,g2⟩
   by_cases hi:s<p.outs.length
   ·simp(disch:=first|exact Xe|fail)only[hi,idx_OutsA,load_OutsA,↓Xa,Xb,Xc,↓reduceIte,Nat.reduceLT,Nat.reduceEqDiff,Nat.reduceBEq,Nat.reduceLeDiff,Nat.reduceAdd,Nat.reduceMul]
    by_cases c1:p.outs[s]<((0:Nat):Int)
    ·simp(disch:=first|exact Xe|fail)only[lss_int,decide_eq_true c1,rs99,↓Xa,Xb,Xc,↓reduceIte,Nat.reduceLT,Nat.reduceEqDiff,Nat.reduceBEq,Nat.reduceLeDiff,Nat.reduceAdd,Nat.reduceMul]
     exact SetR.dropTo ((Le.refl H).updB n1) (SetR.now hq)
    by_cases c2:p.regs≤p.outs[s]
    ·simp(disch:=first|exact Xe|fail)only[lss_int,geqI,decide_eq_false c1,decide_eq_true c2,rs99,↓Xa,Xb,Xc,↓reduceIte,Nat.reduceLT,Nat.reduceEqDiff,Nat.reduceBEq,Nat.reduceLeDiff,Nat.reduceAdd,Nat.reduceMul]
     exact SetR.dropTo ((Le.refl H).updB n1) (SetR.now hq)
    simp(disch:=first|exact Xe|fail)only[lss_int,geqI,decide_eq_false c1,decide_eq_false c2,↓Xa,Xb,Xc,↓reduceIte,Nat.reduceLT,Nat.reduceEqDiff,Nat.reduceBEq,Nat.reduceLeDiff,Nat.reduceAdd,Nat.reduceMul]
    refine Settle.now ⟨s+1,by omega,⟨by omega,fun j hj hjs=>?_⟩,rfl⟩
    by_cases e:j=s
    ·subst e;omega
    ·exact g2 j hj (by omega)
   ·exact absurd (fun n hn=>by
     obtain⟨j,hj,rfl⟩:=List.getElem_of_mem hn
     exact g2 j hj (by omega)) ho
  have start2: ∀{H:AHeap}{Q:AV→AHeap→Prop},(∀p1,H p1=none→W Tryz.prog (sndC (sndC (sndC ac99))) (retN rs99 Q) ⟨[],[(1,.ptr p1 4 0),(42,OutsA p.outs false),(43,.int .i64 p.outs.length),(44,.int .i64 p.outs.length),(45,.bool false)],H.upd p1 (some (.row 25 0 [.int .i64 p.ins,.int .i64 p.regs,CodeA p.code false,OutsA p.outs false]))⟩)→Run Tryz.prog 99 [ProgA p] H Q:=by
   intro H Q hw
   refine start fun p1 n1=>?_
   have r:=hw p1 n1
   simp(disch:=first|exact Xe|fail)only[sndC,ac99,len_CodeA,lc,↓Xa,Xb,Xc,↓reduceIte,Nat.reduceLT,Nat.reduceEqDiff,Nat.reduceBEq,Nat.reduceLeDiff,Nat.reduceAdd,Nat.reduceMul]at r
   simp(disch:=first|exact Xe|fail)only[sndC,ac99,len_OutsA,lo,↓Xa,Xb,Xc,↓reduceIte,Nat.reduceLT,Nat.reduceEqDiff,Nat.reduceBEq,Nat.reduceLeDiff,Nat.reduceAdd,Nat.reduceMul]
   refine W_loop (fun s:Nat=>⟨[],[(1,.ptr p1 4 0),(42,OutsA p.outs false),(43,.int .i64 p.outs.length),(44,.int .i64 s)],H.upd p1 (some (.row 25 0 [.int .i64 p.ins,.int .i64 p.regs,CodeA p.code false,OutsA p.outs false]))⟩)
    (fun s=>s≤p.outs.length) (fun s=>p.outs.length-s) 0 (Settle.now rfl) (Nat.zero_le _) ?_
   rintro s g1
   by_cases hi:s<p.outs.length
   ·have hm:=ho _ (List.getElem_mem hi)
    have c1: ¬p.outs[s]<((0:Nat):Int):=by omega
    have c2: ¬p.regs≤p.outs[s]:=by omega
    simp(disch:=first|exact Xe|fail)only[hi,idx_OutsA,load_OutsA,↓Xa,Xb,Xc,↓reduceIte,Nat.reduceLT,Nat.reduceEqDiff,Nat.reduceBEq,Nat.reduceLeDiff,Nat.reduceAdd,Nat.reduceMul]
    simp(disch:=first|exact Xe|fail)only[lss_int,geqI,decide_eq_false c1,decide_eq_false c2,↓Xa,Xb,Xc,↓reduceIte,Nat.reduceLT,Nat.reduceEqDiff,Nat.reduceBEq,Nat.reduceLeDiff,Nat.reduceAdd,Nat.reduceMul]
    exact Settle.now ⟨s+1,by omega,by omega,rfl⟩
   ·obtain rfl:s=p.outs.length:=by omega
    simp(disch:=first|exact Xe|fail)only[hi,↓Xa,Xb,Xc,↓reduceIte,Nat.reduceLT,Nat.reduceEqDiff,Nat.reduceBEq,Nat.reduceLeDiff,Nat.reduceAdd,Nat.reduceMul]
    refine Settle.now ?_
    simp(disch:=first|exact Xe|fail)only[len_CodeA,lc,↓Xa,Xb,Xc,↓reduceIte,Nat.reduceLT,Nat.reduceEqDiff,Nat.reduceBEq,Nat.reduceLeDiff,Nat.reduceAdd,Nat.reduceMul]
    exact r
  have step: ∀{H:AHeap}{p1 s:Nat},H p1=none→True:=fun _=>trivial
  rcases first_of (P:=fun j=> ∃h:j<p.code.length,¬mayI p.regs (p.code[j])) 0 p.code.length with⟨c,_,hc,⟨hc',hbad⟩,hmin⟩|hall
  ·refine⟨(c:Int),fun H Q hq=>start2 fun p1 n1=>?_⟩
   rw[if_neg (fun h=>hbad (h.2.2 _ (List.getElem_mem hc')))]at hq
   simp(disch:=first|exact Xe|fail)only[sndC,ac99,len_CodeA,lc,↓Xa,Xb,Xc,↓reduceIte,Nat.reduceLT,Nat.reduceEqDiff,Nat.reduceBEq,Nat.reduceLeDiff,Nat.reduceAdd,Nat.reduceMul]
   refine W_loop (fun s:Nat=>⟨[],[(1,.ptr p1 4 0),(58,CodeA p.code false),(59,.int .i64 p.code.length),(60,.int .i64 s)],H.upd p1 (some (.row 25 0 [.int .i64 p.ins,.int .i64 p.regs,CodeA p.code false,OutsA p.outs false]))⟩)
    (fun s=>s≤c) (fun s=>p.code.length-s) 0 (Settle.now rfl) (Nat.zero_le _) ?_
   rintro s g1
   have hs:s<p.code.length:=by omega
   have mf:=may_fn (p.code[s]) p.regs
   simp(disch:=first|exact Xe|fail)only[hs,idx_CodeA,load_CodeA,↓Xa,Xb,Xc,↓reduceIte,Nat.reduceLT,Nat.reduceEqDiff,Nat.reduceBEq,Nat.reduceLeDiff,Nat.reduceAdd,Nat.reduceMul]
   refine alloc_i fun p2 hp2=>?_
   have n2:=hp2
   simp only[upd_none]at n2
   obtain⟨_,n2⟩:=n2
   simp(disch:=first|exact Xe|fail)only[cells_InsA,fold_InsA,↓Xa,Xb,Xc,↓reduceIte,Nat.reduceLT,Nat.reduceEqDiff,Nat.reduceBEq,Nat.reduceLeDiff,Nat.reduceAdd,Nat.reduceMul]
   by_cases e:s=c
   ·subst e
    rw[decide_eq_false hbad]at mf
    refine mf.call ?_
    simp(disch:=first|exact Xe|fail)only[rs99,↓Xa,Xb,Xc,↓reduceIte,Nat.reduceLT,Nat.reduceEqDiff,Nat.reduceBEq,Nat.reduceLeDiff,Nat.reduceAdd,Nat.reduceMul]
    exact SetR.dropTo (((Le.refl H).updB n1).updB n2) (SetR.now hq)
   ·have hok:mayI p.regs (p.code[s]):=Classical.not_not.1 fun h=>hmin s (by omega) (by omega) ⟨hs,h⟩
    rw[decide_eq_true hok]at mf
    refine mf.call ?_
    simp(disch:=first|exact Xe|fail)only[↓Xa,Xb,Xc,↓reduceIte,Nat.reduceLT,Nat.reduceEqDiff,Nat.reduceBEq,Nat.reduceLeDiff,Nat.reduceAdd,Nat.reduceMul]
    refine Settle.dropTo ((Le.refl _).updB (upd_none.2 ⟨by assumption,n2⟩)) ?_
    exact Settle.now ⟨s+1,by omega,by omega,rfl⟩
  ·refine⟨0,fun H Q hq=>start2 fun p1 n1=>?_⟩
   have hok: ∀i,i∈p.code→mayI p.regs i:=fun i hi=>by
    obtain⟨j,hj,rfl⟩:=List.getElem_of_mem hi
    exact Classical.not_not.1 fun h=>hall j (by omega) (by omega) ⟨hj,h⟩
   rw[if_pos ⟨hh,ho,hok⟩]at hq
   simp(disch:=first|exact Xe|fail)only[sndC,ac99,len_CodeA,lc,↓Xa,Xb,Xc,↓reduceIte,Nat.reduceLT,Nat.reduceEqDiff,Nat.reduceBEq,Nat.reduceLeDiff,Nat.reduceAdd,Nat.reduceMul]
   refine W_loop (fun s:Nat=>⟨[],[(1,.ptr p1 4 0),(58,CodeA p.code false),(59,.int .i64 p.code.length),(60,.int .i64 s)],H.upd p1 (some (.row 25 0 [.int .i64 p.ins,.int .i64 p.regs,CodeA p.code false,OutsA p.outs false]))⟩)
    (fun s=>s≤p.code.length) (fun s=>p.code.length-s) 0 (Settle.now rfl) (Nat.zero_le _) ?_
   rintro s g1
   by_cases hs:s<p.code.length
   ·have mf:=may_fn (p.code[s]) p.regs
    rw[decide_eq_true (hok _ (List.getElem_mem hs))]at mf
    simp(disch:=first|exact Xe|fail)only[hs,idx_CodeA,load_CodeA,↓Xa,Xb,Xc,↓reduceIte,Nat.reduceLT,Nat.reduceEqDiff,Nat.reduceBEq,Nat.reduceLeDiff,Nat.reduceAdd,Nat.reduceMul]
    refine alloc_i fun p2 hp2=>?_
    have n2:=hp2
    simp only[upd_none]at n2
    obtain⟨_,n2⟩:=n2
    simp(disch:=first|exact Xe|fail)only[cells_InsA,fold_InsA,↓Xa,Xb,Xc,↓reduceIte,Nat.reduceLT,Nat.reduceEqDiff,Nat.reduceBEq,Nat.reduceLeDiff,Nat.reduceAdd,Nat.reduceMul]
    refine mf.call ?_
    simp(disch:=first|exact Xe|fail)only[↓Xa,Xb,Xc,↓reduceIte,Nat.reduceLT,Nat.reduceEqDiff,Nat.reduceBEq,Nat.reduceLeDiff,Nat.reduceAdd,Nat.reduceMul]
    refine Settle.dropTo ((Le.refl _).updB (upd_none.2 ⟨by assumption,n2⟩)) ?_
    exact Settle.now ⟨s+1,by omega,by omega,rfl⟩
   ·simp(disch:=first|exact Xe|fail)only[hs,↓Xa,Xb,Xc,↓reduceIte,Nat.reduceLT,Nat.reduceEqDiff,Nat.reduceBEq,Nat.reduceLeDiff,Nat.reduceAdd,Nat.reduceMul]
    refine Settle.now ?_
    simp(disch:=first|exact Xe|fail)only[rs99,↓Xa,Xb,Xc,↓reduceIte,Nat.reduceLT,Nat.reduceEqDiff,Nat.reduceBEq,Nat.reduceLeDiff,Nat.reduceAdd,Nat.reduceMul]
    exact SetR.dropTo ((Le.refl H).updB n1) (SetR.now hq)
theorem mayr_fn(i:Ins)(n:Int):PFn Tryz.prog 153 [InsA i,.int .i64 n] (.bool (decide (mayI n i))):=by
 intro H Q hq
 have bad: ¬mayI n i→∀(p:Nat)(x:Option ABlk),H p=none→SetR Q (.bool false) (H.upd p x):=fun h p x hp=>by
  rw[decide_eq_false h]at hq
  exact SetR.dropTo ((Le.refl H).updB hp) (SetR.now hq)
 have say: ∀(b:Bool),(mayI n i↔b=true)→∀(p:Nat)(x:Option ABlk),H p=none→SetR Q (.bool b) (H.upd p x):=fun b h p x hp=>by
  have e:decide (mayI n i)=b:=by
   cases b
   ·exact decide_eq_false fun h2=>by have:=h.1 h2;cases this
   ·exact decide_eq_true (h.2 rfl)
  rw[e]at hq
  exact SetR.dropTo ((Le.refl H).updB hp) (SetR.now hq)
 refine enter153 (by simp) ?_
 simp(disch:=first|exact Xe|fail)only[ac153,cells_InsA,↓Xa,Xb,Xc,↓reduceIte,Nat.reduceLT,Nat.reduceEqDiff,Nat.reduceBEq,Nat.reduceLeDiff,Nat.reduceAdd,Nat.reduceMul]
 refine alloc_i fun p1 hp1=>?_
 have n1:=hp1
 by_cases h1:i.op<((1:Nat):Int)
 ·simp(disch:=first|exact Xe|fail)only[lss_int,decide_eq_true h1,rs153,↓Xa,Xb,Xc,↓reduceIte,Nat.reduceLT,Nat.reduceEqDiff,Nat.reduceBEq,Nat.reduceLeDiff,Nat.reduceAdd,Nat.reduceMul]
  exact bad (fun h=>by have:=h.1;omega) _ _ n1
 by_cases h2:((8:Nat):Int)<i.op
 ·simp(disch:=first|exact Xe|fail)only[lss_int,gtr_int,decide_eq_false h1,decide_eq_true h2,rs153,↓Xa,Xb,Xc,↓reduceIte,Nat.reduceLT,Nat.reduceEqDiff,Nat.reduceBEq,Nat.reduceLeDiff,Nat.reduceAdd,Nat.reduceMul]
  exact bad (fun h=>by have:=h.2.1;omega) _ _ n1
 by_cases h3:i.to<((0:Nat):Int)
 ·simp(disch:=first|exact Xe|fail)only[lss_int,gtr_int,decide_eq_false h1,decide_eq_false h2,decide_eq_true h3,rs153,↓Xa,Xb,Xc,↓reduceIte,Nat.reduceLT,Nat.reduceEqDiff,Nat.reduceBEq,Nat.reduceLeDiff,Nat.reduceAdd,Nat.reduceMul]
  exact bad (fun h=>by have:=h.2.2.1;omega) _ _ n1
 by_cases h4:n≤i.to
 ·simp(disch:=first|exact Xe|fail)only[lss_int,gtr_int,geqI,decide_eq_false h1,decide_eq_false h2,decide_eq_false h3,decide_eq_true h4,rs153,↓Xa,Xb,Xc,↓reduceIte,Nat.reduceLT,Nat.reduceEqDiff,Nat.reduceBEq,Nat.reduceLeDiff,Nat.reduceAdd,Nat.reduceMul]
  exact bad (fun h=>by have:=h.2.2.2.1;omega) _ _ n1
 by_cases h5:i.a<((0:Nat):Int)
 ·simp(disch:=first|exact Xe|fail)only[lss_int,gtr_int,geqI,decide_eq_false h1,decide_eq_false h2,decide_eq_false h3,decide_eq_false h4,decide_eq_true h5,rs153,↓Xa,Xb,Xc,↓reduceIte,Nat.reduceLT,Nat.reduceEqDiff,Nat.reduceBEq,Nat.reduceLeDiff,Nat.reduceAdd,Nat.reduceMul]
  exact bad (fun h=>by have:=h.2.2.2.2.1;omega) _ _ n1
 by_cases h6:n≤i.a
 ·simp(disch:=first|exact Xe|fail)only[lss_int,gtr_int,geqI,decide_eq_false h1,decide_eq_false h2,decide_eq_false h3,decide_eq_false h4,decide_eq_false h5,decide_eq_true h6,rs153,↓Xa,Xb,Xc,↓reduceIte,Nat.reduceLT,Nat.reduceEqDiff,Nat.reduceBEq,Nat.reduceLeDiff,Nat.reduceAdd,Nat.reduceMul]
  exact bad (fun h=>by have:=h.2.2.2.2.2.1;omega) _ _ n1
 simp(disch:=first|exact Xe|fail)only[lss_int,gtr_int,geqI,decide_eq_false h1,decide_eq_false h2,decide_eq_false h3,decide_eq_false h4,decide_eq_false h5,decide_eq_false h6,↓Xa,Xb,Xc,↓reduceIte,Nat.reduceLT,Nat.reduceEqDiff,Nat.reduceBEq,Nat.reduceLeDiff,Nat.reduceAdd,Nat.reduceMul]
 have hm:mayI n i↔(if i.op=3∨i.op=4 then 0≤i.b∧i.b<n∧i.c=0 else i.b=0∧(if i.op=5∨i.op=6 then i.c≠0∧ -512≤i.c∧i.c≤512 else if i.op=7∨i.op=8 then 1≤i.c∧i.c≤64 else i.c=0)):=
  ⟨fun h=>h.2.2.2.2.2.2,fun h=>⟨by omega,by omega,by omega,by omega,by omega,by omega,h⟩⟩
 have two:(i.op=3∨i.op=4)→W Tryz.prog (sndC (sndC (sndC ac153))) (retN rs153 Q) ⟨[],[(1,.int .i64 n),(2,.ptr p1 5 0)],H.upd p1 (some (.row 76 0 [.int .i64 i.op,.int .i64 i.to,.int .i64 i.a,.int .i64 i.b,.int .i64 i.c]))⟩→True:=fun _ _=>trivial
 by_cases t3:i.op=3∨i.op=4
 ·rw[if_pos t3]at hm
  by_cases a1:((0:Nat):Int)≤i.b
  ·by_cases a2:i.b<n
   ·have hm2:mayI n i↔decide (i.c=((0:Nat):Int))=true:=by rw[decide_eq_true_iff];exact hm.trans ⟨fun h=>h.2.2,fun h=>⟨a1,a2,h⟩⟩
    by_cases e3:i.op=((3:Nat):Int)
    ·simp(disch:=first|exact Xe|fail)only[eql_int,decide_eq_true e3,↓Xa,Xb,Xc,↓reduceIte,Nat.reduceLT,Nat.reduceEqDiff,Nat.reduceBEq,Nat.reduceLeDiff,Nat.reduceAdd,Nat.reduceMul]
     simp(disch:=first|exact Xe|fail)only[eql_int,geqI,lss_int,decide_eq_true a1,decide_eq_true a2,rs153,↓Xa,Xb,Xc,↓reduceIte,Nat.reduceLT,Nat.reduceEqDiff,Nat.reduceBEq,Nat.reduceLeDiff,Nat.reduceAdd,Nat.reduceMul]
     exact say _ hm2 _ _ n1
    ·have e4:i.op=((4:Nat):Int):=by omega
     simp(disch:=first|exact Xe|fail)only[eql_int,decide_eq_false e3,decide_eq_true e4,↓Xa,Xb,Xc,↓reduceIte,Nat.reduceLT,Nat.reduceEqDiff,Nat.reduceBEq,Nat.reduceLeDiff,Nat.reduceAdd,Nat.reduceMul]
     simp(disch:=first|exact Xe|fail)only[eql_int,geqI,lss_int,decide_eq_true a1,decide_eq_true a2,rs153,↓Xa,Xb,Xc,↓reduceIte,Nat.reduceLT,Nat.reduceEqDiff,Nat.reduceBEq,Nat.reduceLeDiff,Nat.reduceAdd,Nat.reduceMul]
     exact say _ hm2 _ _ n1
   ·have hb: ¬mayI n i:=fun h=>a2 (hm.1 h).2.1
    by_cases e3:i.op=((3:Nat):Int)
    ·simp(disch:=first|exact Xe|fail)only[eql_int,decide_eq_true e3,↓Xa,Xb,Xc,↓reduceIte,Nat.reduceLT,Nat.reduceEqDiff,Nat.reduceBEq,Nat.reduceLeDiff,Nat.reduceAdd,Nat.reduceMul]
     simp(disch:=first|exact Xe|fail)only[eql_int,geqI,lss_int,decide_eq_true a1,decide_eq_false a2,rs153,↓Xa,Xb,Xc,↓reduceIte,Nat.reduceLT,Nat.reduceEqDiff,Nat.reduceBEq,Nat.reduceLeDiff,Nat.reduceAdd,Nat.reduceMul]
     exact bad hb _ _ n1
    ·have e4:i.op=((4:Nat):Int):=by omega
     simp(disch:=first|exact Xe|fail)only[eql_int,decide_eq_false e3,decide_eq_true e4,↓Xa,Xb,Xc,↓reduceIte,Nat.reduceLT,Nat.reduceEqDiff,Nat.reduceBEq,Nat.reduceLeDiff,Nat.reduceAdd,Nat.reduceMul]
     simp(disch:=first|exact Xe|fail)only[eql_int,geqI,lss_int,decide_eq_true a1,decide_eq_false a2,rs153,↓Xa,Xb,Xc,↓reduceIte,Nat.reduceLT,Nat.reduceEqDiff,Nat.reduceBEq,Nat.reduceLeDiff,Nat.reduceAdd,Nat.reduceMul]
     exact bad hb _ _ n1
  ·have hb: ¬mayI n i:=fun h=>a1 (hm.1 h).1
   by_cases e3:i.op=((3:Nat):Int)
   ·simp(disch:=first|exact Xe|fail)only[eql_int,decide_eq_true e3,↓Xa,Xb,Xc,↓reduceIte,Nat.reduceLT,Nat.reduceEqDiff,Nat.reduceBEq,Nat.reduceLeDiff,Nat.reduceAdd,Nat.reduceMul]
    simp(disch:=first|exact Xe|fail)only[eql_int,geqI,lss_int,decide_eq_false a1,rs153,↓Xa,Xb,Xc,↓reduceIte,Nat.reduceLT,Nat.reduceEqDiff,Nat.reduceBEq,Nat.reduceLeDiff,Nat.reduceAdd,Nat.reduceMul]
    exact bad hb _ _ n1
   ·have e4:i.op=((4:Nat):Int):=by omega
    simp(disch:=first|exact Xe|fail)only[eql_int,decide_eq_false e3,decide_eq_true e4,↓Xa,Xb,Xc,↓reduceIte,Nat.reduceLT,Nat.reduceEqDiff,Nat.reduceBEq,Nat.reduceLeDiff,Nat.reduceAdd,Nat.reduceMul]
    simp(disch:=first|exact Xe|fail)only[eql_int,geqI,lss_int,decide_eq_false a1,rs153,↓Xa,Xb,Xc,↓reduceIte,Nat.reduceLT,Nat.reduceEqDiff,Nat.reduceBEq,Nat.reduceLeDiff,Nat.reduceAdd,Nat.reduceMul]
    exact bad hb _ _ n1
 rw[if_neg t3]at hm
 have e3: ¬i.op=((3:Nat):Int):=fun h=>t3 (.inl h)
 have e4: ¬i.op=((4:Nat):Int):=fun h=>t3 (.inr h)
 simp(disch:=first|exact Xe|fail)only[eql_int,decide_eq_false e3,decide_eq_false e4,↓Xa,Xb,Xc,↓reduceIte,Nat.reduceLT,Nat.reduceEqDiff,Nat.reduceBEq,Nat.reduceLeDiff,Nat.reduceAdd,Nat.reduceMul]
 by_cases hb0:i.b=((0:Nat):Int)
 rotate_left
 ·simp(disch:=first|exact Xe|fail)only[neq_int,decide_eq_false hb0,rs153,↓Xa,Xb,Xc,↓reduceIte,Nat.reduceLT,Nat.reduceEqDiff,Nat.reduceBEq,Nat.reduceLeDiff,Nat.reduceAdd,Nat.reduceMul]
  exact bad (fun h=>hb0 (hm.1 h).1) _ _ n1
 have hm:mayI n i↔(if i.op=5∨i.op=6 then i.c≠0∧ -512≤i.c∧i.c≤512 else if i.op=7∨i.op=8 then 1≤i.c∧i.c≤64 else i.c=0):=hm.trans ⟨fun h=>h.2,fun h=>⟨hb0,h⟩⟩
 simp(disch:=first|exact Xe|fail)only[neq_int,decide_eq_true hb0,Bool.not_true,↓Xa,Xb,Xc,↓reduceIte,Nat.reduceLT,Nat.reduceEqDiff,Nat.reduceBEq,Nat.reduceLeDiff,Nat.reduceAdd,Nat.reduceMul]
 by_cases t5:i.op=5∨i.op=6
 ·rw[if_pos t5]at hm
  have c56:i.op=((5:Nat):Int)∨(¬i.op=((5:Nat):Int)∧i.op=((6:Nat):Int)):=by omega
  by_cases a0:i.c=((0:Nat):Int)
  ·have hb: ¬mayI n i:=fun h=>(hm.1 h).1 a0
   rcases c56 with e5|⟨e5,e6⟩
   ·simp(disch:=first|exact Xe|fail)only[eql_int,decide_eq_true e5,↓Xa,Xb,Xc,↓reduceIte,Nat.reduceLT,Nat.reduceEqDiff,Nat.reduceBEq,Nat.reduceLeDiff,Nat.reduceAdd,Nat.reduceMul]
    simp(disch:=first|exact Xe|fail)only[neq_int,geqI,leqI,decide_eq_true a0,Bool.not_true,rs153,↓Xa,Xb,Xc,↓reduceIte,Nat.reduceLT,Nat.reduceEqDiff,Nat.reduceBEq,Nat.reduceLeDiff,Nat.reduceAdd,Nat.reduceMul]
    exact bad hb _ _ n1
   ·simp(disch:=first|exact Xe|fail)only[eql_int,decide_eq_false e5,decide_eq_true e6,↓Xa,Xb,Xc,↓reduceIte,Nat.reduceLT,Nat.reduceEqDiff,Nat.reduceBEq,Nat.reduceLeDiff,Nat.reduceAdd,Nat.reduceMul]
    simp(disch:=first|exact Xe|fail)only[neq_int,geqI,leqI,decide_eq_true a0,Bool.not_true,rs153,↓Xa,Xb,Xc,↓reduceIte,Nat.reduceLT,Nat.reduceEqDiff,Nat.reduceBEq,Nat.reduceLeDiff,Nat.reduceAdd,Nat.reduceMul]
    exact bad hb _ _ n1
  by_cases a1: -512≤i.c
  ·have hm2:mayI n i↔decide (i.c≤((512:Nat):Int))=true:=by rw[decide_eq_true_iff];exact hm.trans ⟨fun h=>h.2.2,fun h=>⟨a0,a1,h⟩⟩
   rcases c56 with e5|⟨e5,e6⟩
   ·simp(disch:=first|exact Xe|fail)only[eql_int,decide_eq_true e5,↓Xa,Xb,Xc,↓reduceIte,Nat.reduceLT,Nat.reduceEqDiff,Nat.reduceBEq,Nat.reduceLeDiff,Nat.reduceAdd,Nat.reduceMul]
    simp(disch:=first|exact Xe|fail)only[neq_int,geqI,leqI,decide_eq_false a0,decide_eq_true a1,Bool.not_false,rs153,↓Xa,Xb,Xc,↓reduceIte,Nat.reduceLT,Nat.reduceEqDiff,Nat.reduceBEq,Nat.reduceLeDiff,Nat.reduceAdd,Nat.reduceMul]
    exact say _ hm2 _ _ n1
   ·simp(disch:=first|exact Xe|fail)only[eql_int,decide_eq_false e5,decide_eq_true e6,↓Xa,Xb,Xc,↓reduceIte,Nat.reduceLT,Nat.reduceEqDiff,Nat.reduceBEq,Nat.reduceLeDiff,Nat.reduceAdd,Nat.reduceMul]
    simp(disch:=first|exact Xe|fail)only[neq_int,geqI,leqI,decide_eq_false a0,decide_eq_true a1,Bool.not_false,rs153,↓Xa,Xb,Xc,↓reduceIte,Nat.reduceLT,Nat.reduceEqDiff,Nat.reduceBEq,Nat.reduceLeDiff,Nat.reduceAdd,Nat.reduceMul]
    exact say _ hm2 _ _ n1
  ·have hb: ¬mayI n i:=fun h=>a1 (hm.1 h).2.1
   rcases c56 with e5|⟨e5,e6⟩
   ·simp(disch:=first|exact Xe|fail)only[eql_int,decide_eq_true e5,↓Xa,Xb,Xc,↓reduceIte,Nat.reduceLT,Nat.reduceEqDiff,Nat.reduceBEq,Nat.reduceLeDiff,Nat.reduceAdd,Nat.reduceMul]
    simp(disch:=first|exact Xe|fail)only[neq_int,geqI,leqI,decide_eq_false a0,decide_eq_false a1,Bool.not_false,rs153,↓Xa,Xb,Xc,↓reduceIte,Nat.reduceLT,Nat.reduceEqDiff,Nat.reduceBEq,Nat.reduceLeDiff,Nat.reduceAdd,Nat.reduceMul]
    exact bad hb _ _ n1
   ·simp(disch:=first|exact Xe|fail)only[eql_int,decide_eq_false e5,decide_eq_true e6,↓Xa,Xb,Xc,↓reduceIte,Nat.reduceLT,Nat.reduceEqDiff,Nat.reduceBEq,Nat.reduceLeDiff,Nat.reduceAdd,Nat.reduceMul]
    simp(disch:=first|exact Xe|fail)only[neq_int,geqI,leqI,decide_eq_false a0,decide_eq_false a1,Bool.not_false,rs153,↓Xa,Xb,Xc,↓reduceIte,Nat.reduceLT,Nat.reduceEqDiff,Nat.reduceBEq,Nat.reduceLeDiff,Nat.reduceAdd,Nat.reduceMul]
    exact bad hb _ _ n1
 rw[if_neg t5]at hm
 have e5: ¬i.op=((5:Nat):Int):=fun h=>t5 (.inl h)
 have e6: ¬i.op=((6:Nat):Int):=fun h=>t5 (.inr h)
 simp(disch:=first|exact Xe|fail)only[eql_int,decide_eq_false e5,decide_eq_false e6,↓Xa,Xb,Xc,↓reduceIte,Nat.reduceLT,Nat.reduceEqDiff,Nat.reduceBEq,Nat.reduceLeDiff,Nat.reduceAdd,Nat.reduceMul]
 by_cases t7:i.op=7∨i.op=8
 ·rw[if_pos t7]at hm
  have c78:i.op=((7:Nat):Int)∨(¬i.op=((7:Nat):Int)∧i.op=((8:Nat):Int)):=by omega
  by_cases a1:((1:Nat):Int)≤i.c
  ·have hm2:mayI n i↔decide (i.c≤((64:Nat):Int))=true:=by rw[decide_eq_true_iff];exact hm.trans ⟨fun h=>h.2,fun h=>⟨a1,h⟩⟩
   rcases c78 with e7|⟨e7,e8⟩
   ·simp(disch:=first|exact Xe|fail)only[eql_int,decide_eq_true e7,↓Xa,Xb,Xc,↓reduceIte,Nat.reduceLT,Nat.reduceEqDiff,Nat.reduceBEq,Nat.reduceLeDiff,Nat.reduceAdd,Nat.reduceMul]
    simp(disch:=first|exact Xe|fail)only[geqI,leqI,decide_eq_true a1,rs153,↓Xa,Xb,Xc,↓reduceIte,Nat.reduceLT,Nat.reduceEqDiff,Nat.reduceBEq,Nat.reduceLeDiff,Nat.reduceAdd,Nat.reduceMul]
    exact say _ hm2 _ _ n1
   ·simp(disch:=first|exact Xe|fail)only[eql_int,decide_eq_false e7,decide_eq_true e8,↓Xa,Xb,Xc,↓reduceIte,Nat.reduceLT,Nat.reduceEqDiff,Nat.reduceBEq,Nat.reduceLeDiff,Nat.reduceAdd,Nat.reduceMul]
    simp(disch:=first|exact Xe|fail)only[geqI,leqI,decide_eq_true a1,rs153,↓Xa,Xb,Xc,↓reduceIte,Nat.reduceLT,Nat.reduceEqDiff,Nat.reduceBEq,Nat.reduceLeDiff,Nat.reduceAdd,Nat.reduceMul]
    exact say _ hm2 _ _ n1
  ·have hb: ¬mayI n i:=fun h=>a1 (hm.1 h).1
   rcases c78 with e7|⟨e7,e8⟩
   ·simp(disch:=first|exact Xe|fail)only[eql_int,decide_eq_true e7,↓Xa,Xb,Xc,↓reduceIte,Nat.reduceLT,Nat.reduceEqDiff,Nat.reduceBEq,Nat.reduceLeDiff,Nat.reduceAdd,Nat.reduceMul]
    simp(disch:=first|exact Xe|fail)only[geqI,leqI,decide_eq_false a1,rs153,↓Xa,Xb,Xc,↓reduceIte,Nat.reduceLT,Nat.reduceEqDiff,Nat.reduceBEq,Nat.reduceLeDiff,Nat.reduceAdd,Nat.reduceMul]
    exact bad hb _ _ n1
   ·simp(disch:=first|exact Xe|fail)only[eql_int,decide_eq_false e7,decide_eq_true e8,↓Xa,Xb,Xc,↓reduceIte,Nat.reduceLT,Nat.reduceEqDiff,Nat.reduceBEq,Nat.reduceLeDiff,Nat.reduceAdd,Nat.reduceMul]
    simp(disch:=first|exact Xe|fail)only[geqI,leqI,decide_eq_false a1,rs153,↓Xa,Xb,Xc,↓reduceIte,Nat.reduceLT,Nat.reduceEqDiff,Nat.reduceBEq,Nat.reduceLeDiff,Nat.reduceAdd,Nat.reduceMul]
    exact bad hb _ _ n1
 rw[if_neg t7]at hm
 have e7: ¬i.op=((7:Nat):Int):=fun h=>t7 (.inl h)
 have e8: ¬i.op=((8:Nat):Int):=fun h=>t7 (.inr h)
 have hm2:mayI n i↔decide (i.c=((0:Nat):Int))=true:=by rw[decide_eq_true_iff];exact hm
 simp(disch:=first|exact Xe|fail)only[eql_int,decide_eq_false e7,decide_eq_false e8,rs153,↓Xa,Xb,Xc,↓reduceIte,Nat.reduceLT,Nat.reduceEqDiff,Nat.reduceBEq,Nat.reduceLeDiff,Nat.reduceAdd,Nat.reduceMul]
 exact say _ hm2 _ _ n1
theorem checkr_fn(p:PR)(hp:p.ok): ∃k:Int,PFn Tryz.prog 88 [ProgA p] (.tup [.int .i64 k,.bool (!decide (rightP p))]):=by
 obtain⟨hp1,hp2,hp3,hp4,hp5,hp6⟩:=hp
 have lc:p.code.length<9223372036854775808:=by omega
 have lo:p.outs.length<9223372036854775808:=by omega
 by_cases hh:headP p
 rotate_left
 ·refine⟨-1,fun H Q hq=>?_⟩
  rw[decide_eq_false (fun h=>hh h.1)]at hq
  have out: ∀(q:Nat)(x:Option ABlk),H q=none→SetR Q (.tup [.int .i64 (-1),.bool true]) (H.upd q x):=fun q x h=>SetR.dropTo ((Le.refl H).updB h) (SetR.now hq)
  refine enter88 (by simp) ?_
  simp(disch:=first|exact Xe|fail)only[ac88,cells_ProgA,↓Xa,Xb,Xc,↓reduceIte,Nat.reduceLT,Nat.reduceEqDiff,Nat.reduceBEq,Nat.reduceLeDiff,Nat.reduceAdd,Nat.reduceMul]
  refine alloc_i fun p1 hp1=>?_
  have n1:=hp1
  unfold headP at hh
  by_cases h1:p.ins<((1:Nat):Int)
  ·simp(disch:=first|exact Xe|fail)only[lss_int,decide_eq_true h1,rs88,↓Xa,Xb,Xc,↓reduceIte,Nat.reduceLT,Nat.reduceEqDiff,Nat.reduceBEq,Nat.reduceLeDiff,Nat.reduceAdd,Nat.reduceMul]
   exact out _ _ n1
  by_cases h2:p.regs<p.ins
  ·simp(disch:=first|exact Xe|fail)only[lss_int,gtr_int,decide_eq_false h1,decide_eq_true h2,rs88,↓Xa,Xb,Xc,↓reduceIte,Nat.reduceLT,Nat.reduceEqDiff,Nat.reduceBEq,Nat.reduceLeDiff,Nat.reduceAdd,Nat.reduceMul]
   exact out _ _ n1
  by_cases h3:((128:Nat):Int)<p.regs
  ·simp(disch:=first|exact Xe|fail)only[lss_int,gtr_int,decide_eq_false h1,decide_eq_false h2,decide_eq_true h3,rs88,↓Xa,Xb,Xc,↓reduceIte,Nat.reduceLT,Nat.reduceEqDiff,Nat.reduceBEq,Nat.reduceLeDiff,Nat.reduceAdd,Nat.reduceMul]
   exact out _ _ n1
  by_cases h4:((16384:Nat):Int)<((p.code.length:Nat):Int)
  ·simp(disch:=first|exact Xe|fail)only[lss_int,gtr_int,decide_eq_false h1,decide_eq_false h2,decide_eq_false h3,len_CodeA,lc,decide_eq_true h4,rs88,↓Xa,Xb,Xc,↓reduceIte,Nat.reduceLT,Nat.reduceEqDiff,Nat.reduceBEq,Nat.reduceLeDiff,Nat.reduceAdd,Nat.reduceMul]
   exact out _ _ n1
  by_cases h5:((p.outs.length:Nat):Int)<((1:Nat):Int)
  ·simp(disch:=first|exact Xe|fail)only[lss_int,gtr_int,decide_eq_false h1,decide_eq_false h2,decide_eq_false h3,len_CodeA,lc,decide_eq_false h4,len_OutsA,lo,decide_eq_true h5,rs88,↓Xa,Xb,Xc,↓reduceIte,Nat.reduceLT,Nat.reduceEqDiff,Nat.reduceBEq,Nat.reduceLeDiff,Nat.reduceAdd,Nat.reduceMul]
   exact out _ _ n1
  have h6:((128:Nat):Int)<((p.outs.length:Nat):Int):=by
   have:=fun h=>hh h
   omega
  simp(disch:=first|exact Xe|fail)only[lss_int,gtr_int,decide_eq_false h1,decide_eq_false h2,decide_eq_false h3,len_CodeA,lc,decide_eq_false h4,len_OutsA,lo,decide_eq_false h5,decide_eq_true h6,rs88,↓Xa,Xb,Xc,↓reduceIte,Nat.reduceLT,Nat.reduceEqDiff,Nat.reduceBEq,Nat.reduceLeDiff,Nat.reduceAdd,Nat.reduceMul]
  exact out _ _ n1
 ·have hh':=hh
  unfold headP at hh'
  have h1: ¬p.ins<((1:Nat):Int):=by omega
  have h2: ¬p.regs<p.ins:=by omega
  have h3: ¬((128:Nat):Int)<p.regs:=by omega
  have h4: ¬((16384:Nat):Int)<((p.code.length:Nat):Int):=by omega
  have h5: ¬((p.outs.length:Nat):Int)<((1:Nat):Int):=by omega
  have h6: ¬((128:Nat):Int)<((p.outs.length:Nat):Int):=by omega
  have start: ∀{H:AHeap}{Q:AV→AHeap→Prop},(∀p1,H p1=none→W Tryz.prog (sndC (sndC ac88)) (retN rs88 Q) ⟨[],[(1,.ptr p1 4 0),(38,.bool false)],H.upd p1 (some (.row 25 0 [.int .i64 p.ins,.int .i64 p.regs,CodeA p.code false,OutsA p.outs false]))⟩)→Run Tryz.prog 88 [ProgA p] H Q:=by
   intro H Q hw
   refine enter88 (by simp) ?_
   simp(disch:=first|exact Xe|fail)only[ac88,cells_ProgA,↓Xa,Xb,Xc,↓reduceIte,Nat.reduceLT,Nat.reduceEqDiff,Nat.reduceBEq,Nat.reduceLeDiff,Nat.reduceAdd,Nat.reduceMul]
   refine alloc_i fun p1 hp1=>?_
   have n1:=hp1
   have r:=hw p1 n1
   simp(disch:=first|exact Xe|fail)only[sndC,ac88,↓Xa,Xb,Xc,↓reduceIte,Nat.reduceLT,Nat.reduceEqDiff,Nat.reduceBEq,Nat.reduceLeDiff,Nat.reduceAdd,Nat.reduceMul]at r
   simp(disch:=first|exact Xe|fail)only[lss_int,gtr_int,decide_eq_false h1,decide_eq_false h2,decide_eq_false h3,len_CodeA,lc,decide_eq_false h4,len_OutsA,lo,decide_eq_false h5,decide_eq_false h6,↓Xa,Xb,Xc,↓reduceIte,Nat.reduceLT,Nat.reduceEqDiff,Nat.reduceBEq,Nat.reduceLeDiff,Nat.reduceAdd,Nat.reduceMul]
   exact r
  by_cases ho: ∀n,n∈p.outs→0≤n∧n<p.regs
  rotate_left
  ·refine⟨-1,fun H Q hq=>start fun p1 n1=>?_⟩
   rw[decide_eq_false (fun h=>ho h.2.1)]at hq
   simp(disch:=first|exact Xe|fail)only[sndC,ac88,↓Xa,Xb,Xc,↓reduceIte,Nat.reduceLT,Nat.reduceEqDiff,Nat.reduceBEq,Nat.reduceLeDiff,Nat.reduceAdd,Nat.reduceMul]
   refine W_loop (fun s:Nat=>⟨[],[(1,.ptr p1 4 0),(4,.int .i64 s)],H.upd p1 (some (.row 25 0 [.int .i64 p.ins,.int .i64 p.regs,CodeA p.code false,OutsA p.outs false]))⟩)
    (fun s=>s≤p.outs.length∧∀j(h:j<p.outs.length),j<s→0≤p.outs[j]∧p.outs[j]<p.regs) (fun s=>p.outs.length-s) 0 (Settle.now rfl) ⟨Nat.zero_le _,fun j _ h=>absurd h (by omega)⟩ ?_
   rintro s ⟨g1,g2⟩
   by_cases hi:s<p.outs.length
   ·simp(disch:=first|exact Xe|fail)only[hi,len_OutsA,lo,idx_OutsA,load_OutsA,↓Xa,Xb,Xc,↓reduceIte,Nat.reduceLT,Nat.reduceEqDiff,Nat.reduceBEq,Nat.reduceLeDiff,Nat.reduceAdd,Nat.reduceMul]
    by_cases c1:p.outs[s]<((0:Nat):Int)
    ·simp(disch:=first|exact Xe|fail)only[lss_int,decide_eq_true c1,rs88,↓Xa,Xb,Xc,↓reduceIte,Nat.reduceLT,Nat.reduceEqDiff,Nat.reduceBEq,Nat.reduceLeDiff,Nat.reduceAdd,Nat.reduceMul]
     exact SetR.dropTo ((Le.refl H).updB n1) (SetR.now hq)
    by_cases c2:p.regs≤p.outs[s]
    ·simp(disch:=first|exact Xe|fail)only[lss_int,geqI,hi,idx_OutsA,load_OutsA,decide_eq_false c1,decide_eq_true c2,rs88,↓Xa,Xb,Xc,↓reduceIte,Nat.reduceLT,Nat.reduceEqDiff,Nat.reduceBEq,Nat.reduceLeDiff,Nat.reduceAdd,Nat.reduceMul]
     exact SetR.dropTo ((Le.refl H).updB n1) (SetR.now hq)
    simp(disch:=first|exact Xe|fail)only[lss_int,geqI,hi,idx_OutsA,load_OutsA,decide_eq_false c1,decide_eq_false c2,↓Xa,Xb,Xc,↓reduceIte,Nat.reduceLT,Nat.reduceEqDiff,Nat.reduceBEq,Nat.reduceLeDiff,Nat.reduceAdd,Nat.reduceMul]
    refine Settle.now ⟨s+1,by omega,⟨by omega,fun j hj hjs=>?_⟩,rfl⟩
    by_cases e:j=s
    ·subst e;omega
    ·exact g2 j hj (by omega)
   ·exact absurd (fun n hn=>by
     obtain⟨j,hj,rfl⟩:=List.getElem_of_mem hn
     exact g2 j hj (by omega)) ho
  have start2: ∀{H:AHeap}{Q:AV→AHeap→Prop},(∀p1,H p1=none→W Tryz.prog (sndC (sndC (sndC ac88))) (retN rs88 Q) ⟨[],[(1,.ptr p1 4 0),(4,.int .i64 p.outs.length),(43,.bool false)],H.upd p1 (some (.row 25 0 [.int .i64 p.ins,.int .i64 p.regs,CodeA p.code false,OutsA p.outs false]))⟩)→Run Tryz.prog 88 [ProgA p] H Q:=by
   intro H Q hw
   refine start fun p1 n1=>?_
   have r:=hw p1 n1
   simp(disch:=first|exact Xe|fail)only[sndC,ac88,↓Xa,Xb,Xc,↓reduceIte,Nat.reduceLT,Nat.reduceEqDiff,Nat.reduceBEq,Nat.reduceLeDiff,Nat.reduceAdd,Nat.reduceMul]at r
   simp(disch:=first|exact Xe|fail)only[sndC,ac88,↓Xa,Xb,Xc,↓reduceIte,Nat.reduceLT,Nat.reduceEqDiff,Nat.reduceBEq,Nat.reduceLeDiff,Nat.reduceAdd,Nat.reduceMul]
   refine W_loop (fun s:Nat=>⟨[],[(1,.ptr p1 4 0),(4,.int .i64 s)],H.upd p1 (some (.row 25 0 [.int .i64 p.ins,.int .i64 p.regs,CodeA p.code false,OutsA p.outs false]))⟩)
    (fun s=>s≤p.outs.length) (fun s=>p.outs.length-s) 0 (Settle.now rfl) (Nat.zero_le _) ?_
   rintro s g1
   by_cases hi:s<p.outs.length
   ·have hm:=ho _ (List.getElem_mem hi)
    have c1: ¬p.outs[s]<((0:Nat):Int):=by omega
    have c2: ¬p.regs≤p.outs[s]:=by omega
    simp(disch:=first|exact Xe|fail)only[hi,len_OutsA,lo,idx_OutsA,load_OutsA,↓Xa,Xb,Xc,↓reduceIte,Nat.reduceLT,Nat.reduceEqDiff,Nat.reduceBEq,Nat.reduceLeDiff,Nat.reduceAdd,Nat.reduceMul]
    simp(disch:=first|exact Xe|fail)only[lss_int,geqI,hi,idx_OutsA,load_OutsA,decide_eq_false c1,decide_eq_false c2,↓Xa,Xb,Xc,↓reduceIte,Nat.reduceLT,Nat.reduceEqDiff,Nat.reduceBEq,Nat.reduceLeDiff,Nat.reduceAdd,Nat.reduceMul]
    exact Settle.now ⟨s+1,by omega,by omega,rfl⟩
   ·obtain rfl:s=p.outs.length:=by omega
    simp(disch:=first|exact Xe|fail)only[hi,len_OutsA,lo,↓Xa,Xb,Xc,↓reduceIte,Nat.reduceLT,Nat.reduceEqDiff,Nat.reduceBEq,Nat.reduceLeDiff,Nat.reduceAdd,Nat.reduceMul]
    refine Settle.now ?_
    simp(disch:=first|exact Xe|fail)only[↓Xa,Xb,Xc,↓reduceIte,Nat.reduceLT,Nat.reduceEqDiff,Nat.reduceBEq,Nat.reduceLeDiff,Nat.reduceAdd,Nat.reduceMul]
    exact r
  rcases first_of (P:=fun j=> ∃h:j<p.code.length,¬mayI p.regs (p.code[j])) 0 p.code.length with⟨c,_,hc,⟨hc',hbad⟩,hmin⟩|hall
  ·refine⟨(c:Int),fun H Q hq=>start2 fun p1 n1=>?_⟩
   rw[decide_eq_false (fun h=>hbad (h.2.2 _ (List.getElem_mem hc')))]at hq
   simp(disch:=first|exact Xe|fail)only[sndC,ac88,↓Xa,Xb,Xc,↓reduceIte,Nat.reduceLT,Nat.reduceEqDiff,Nat.reduceBEq,Nat.reduceLeDiff,Nat.reduceAdd,Nat.reduceMul]
   refine W_loop (fun s:Nat=>⟨[],[(1,.ptr p1 4 0),(5,.int .i64 s)],H.upd p1 (some (.row 25 0 [.int .i64 p.ins,.int .i64 p.regs,CodeA p.code false,OutsA p.outs false]))⟩)
    (fun s=>s≤c) (fun s=>p.code.length-s) 0 (Settle.now rfl) (Nat.zero_le _) ?_
   rintro s g1
   have hs:s<p.code.length:=by omega
   have mf:=mayr_fn (p.code[s]) p.regs
   simp(disch:=first|exact Xe|fail)only[hs,len_CodeA,lc,idx_CodeA,load_CodeA,↓Xa,Xb,Xc,↓reduceIte,Nat.reduceLT,Nat.reduceEqDiff,Nat.reduceBEq,Nat.reduceLeDiff,Nat.reduceAdd,Nat.reduceMul]
   by_cases e:s=c
   ·subst e
    rw[decide_eq_false hbad]at mf
    refine mf.call ?_
    simp(disch:=first|exact Xe|fail)only[rs88,↓Xa,Xb,Xc,↓reduceIte,Nat.reduceLT,Nat.reduceEqDiff,Nat.reduceBEq,Nat.reduceLeDiff,Nat.reduceAdd,Nat.reduceMul]
    exact SetR.dropTo ((Le.refl H).updB n1) (SetR.now hq)
   ·have hok:mayI p.regs (p.code[s]):=Classical.not_not.1 fun h=>hmin s (by omega) (by omega) ⟨hs,h⟩
    rw[decide_eq_true hok]at mf
    refine mf.call ?_
    simp(disch:=first|exact Xe|fail)only[↓Xa,Xb,Xc,↓reduceIte,Nat.reduceLT,Nat.reduceEqDiff,Nat.reduceBEq,Nat.reduceLeDiff,Nat.reduceAdd,Nat.reduceMul]
    exact Settle.now ⟨s+1,by omega,by omega,rfl⟩
  ·refine⟨0,fun H Q hq=>start2 fun p1 n1=>?_⟩
   have hok: ∀i,i∈p.code→mayI p.regs i:=fun i hi=>by
    obtain⟨j,hj,rfl⟩:=List.getElem_of_mem hi
    exact Classical.not_not.1 fun h=>hall j (by omega) (by omega) ⟨hj,h⟩
   rw[decide_eq_true (show rightP p from⟨hh,ho,hok⟩)]at hq
   simp(disch:=first|exact Xe|fail)only[sndC,ac88,↓Xa,Xb,Xc,↓reduceIte,Nat.reduceLT,Nat.reduceEqDiff,Nat.reduceBEq,Nat.reduceLeDiff,Nat.reduceAdd,Nat.reduceMul]
   refine W_loop (fun s:Nat=>⟨[],[(1,.ptr p1 4 0),(5,.int .i64 s)],H.upd p1 (some (.row 25 0 [.int .i64 p.ins,.int .i64 p.regs,CodeA p.code false,OutsA p.outs false]))⟩)
    (fun s=>s≤p.code.length) (fun s=>p.code.length-s) 0 (Settle.now rfl) (Nat.zero_le _) ?_
   rintro s g1
   by_cases hs:s<p.code.length
   ·have mf:=mayr_fn (p.code[s]) p.regs
    rw[decide_eq_true (hok _ (List.getElem_mem hs))]at mf
    simp(disch:=first|exact Xe|fail)only[hs,len_CodeA,lc,idx_CodeA,load_CodeA,↓Xa,Xb,Xc,↓reduceIte,Nat.reduceLT,Nat.reduceEqDiff,Nat.reduceBEq,Nat.reduceLeDiff,Nat.reduceAdd,Nat.reduceMul]
    refine mf.call ?_
    simp(disch:=first|exact Xe|fail)only[↓Xa,Xb,Xc,↓reduceIte,Nat.reduceLT,Nat.reduceEqDiff,Nat.reduceBEq,Nat.reduceLeDiff,Nat.reduceAdd,Nat.reduceMul]
    exact Settle.now ⟨s+1,by omega,by omega,rfl⟩
   ·simp(disch:=first|exact Xe|fail)only[hs,len_CodeA,lc,↓Xa,Xb,Xc,↓reduceIte,Nat.reduceLT,Nat.reduceEqDiff,Nat.reduceBEq,Nat.reduceLeDiff,Nat.reduceAdd,Nat.reduceMul]
    refine Settle.now ?_
    simp(disch:=first|exact Xe|fail)only[rs88,↓Xa,Xb,Xc,↓reduceIte,Nat.reduceLT,Nat.reduceEqDiff,Nat.reduceBEq,Nat.reduceLeDiff,Nat.reduceAdd,Nat.reduceMul]
    exact SetR.dropTo ((Le.refl H).updB n1) (SetR.now hq)
theorem right08_fn(p:PR)(hp:p.ok):PFn Tryz.prog 19 [ProgA p] (.bool (decide (rightP p))):=by
 intro H Q hq
 obtain⟨k,hf⟩:=checkr_fn p hp
 refine enter19 (by simp) ?_
 simp(disch:=first|exact Xe|fail)only[ac19,cells_ProgA,↓Xa,Xb,Xc,↓reduceIte,Nat.reduceLT,Nat.reduceEqDiff,Nat.reduceBEq,Nat.reduceLeDiff,Nat.reduceAdd,Nat.reduceMul]
 refine alloc_i fun p1 hp1=>?_
 have n1:=hp1
 simp(disch:=first|exact Xe|fail)only[fold_ProgA,↓Xa,Xb,Xc,↓reduceIte,Nat.reduceLT,Nat.reduceEqDiff,Nat.reduceBEq,Nat.reduceLeDiff,Nat.reduceAdd,Nat.reduceMul]
 refine hf.call ?_
 simp(disch:=first|exact Xe|fail)only[↓Xa,Xb,Xc,↓reduceIte,Nat.reduceLT,Nat.reduceEqDiff,Nat.reduceBEq,Nat.reduceLeDiff,Nat.reduceAdd,Nat.reduceMul]
 cases h:decide (rightP p)
 ·rw[h]at hq
  simp(disch:=first|exact Xe|fail)only[Bool.not_false,rs19,↓Xa,Xb,Xc,↓reduceIte,Nat.reduceLT,Nat.reduceEqDiff,Nat.reduceBEq,Nat.reduceLeDiff,Nat.reduceAdd,Nat.reduceMul]
  exact SetR.dropTo ((Le.refl H).updB n1) (SetR.now hq)
 ·rw[h]at hq
  simp(disch:=first|exact Xe|fail)only[Bool.not_true,rs19,↓Xa,Xb,Xc,↓reduceIte,Nat.reduceLT,Nat.reduceEqDiff,Nat.reduceBEq,Nat.reduceLeDiff,Nat.reduceAdd,Nat.reduceMul]
  exact SetR.dropTo ((Le.refl H).updB n1) (SetR.now hq)
end Go.Proofs.YtmndejlpfmmaiaaGreatDoor.Fw
namespace Go.Proofs.YtmndejlpfmmaiaaGreatDoor.Ma
def deB:List Nat:=[0,1,28,2,29,14,24,3,30,22,20,15,25,17,4,8,31,27,13,23,21,19,16,7,26,12,18,6,11,5,10,9]
end Go.Proofs.YtmndejlpfmmaiaaGreatDoor.Ma
namespace Go.Proofs.YtmndejlpfmmaiaaGreatDoor.Fw
open Go Go.Proofs.YtmndejlpfmmaiaaGreatDoor.Ma
set_option maxRecDepth 20000
def tabC:List AV:=deB.map fun(n:Nat)=>AV.int .u8 (n:Int)
def TzH(H:AHeap):Prop:=H 0=some (.glob 0 tabC)
theorem TzH.le{H H':AHeap}(h:TzH H)(hl:Le H H'):TzH H':=hl _ _ h
theorem shl_bd{x:Int}{n k:Nat}(hx:Bd k x)(hn:n≤32*(k+2048))(j:Nat)(hj:n≤32*j):Bd (k+(j+1)) (x*2^n):=by
 refine Bd.mul hx ?_
 unfold Bd
 rw[Int.natAbs_pow,show(4294967296:Nat)=2^32 from rfl,← Nat.pow_mul]
 exact Nat.pow_lt_pow_right (by omega) (by omega)
theorem sg_shl{x:Int}{n:Nat}:sg (decide (x<0)) (x.natAbs*2^n)=x*2^n:=by
 have h:((x.natAbs*2^n:Nat):Int)=(x.natAbs:Int)*2^n:=by push_cast;rfl
 unfold sg
 by_cases hx:x<0
 ·rw[decide_eq_true hx,if_pos rfl,h,← Int.neg_mul];congr 1;omega
 ·rw[decide_eq_false hx,if_neg (by simp),h];congr 1;omega
theorem ishl_fn{x:Int}{n k:Nat}(hx:Bd k x)(hk:k≤1000000)(hn:n≤65536):PFn Tryz.prog 174 [IntA x,.int .i64 (n:Int)] (.tup [IntA (x*2^n),.int .i64 ((0:Nat):Int)]):=by
 intro H Q hq
 have hl:=hx.len
 have hbs:=(shl_bd hx (n:=n) (by omega) 2048 (by omega)).len
 have hbe:(x*2^n).natAbs=x.natAbs*2^n:=by rw[← sg_shl,sg_abs]
 rw[hbe]at hbs
 refine enter174 (by simp) ?_
 simp(disch:=first|exact Xe|fail)only[ac174,cells_IntA,↓Xa,Xb,Xc,↓reduceIte,Nat.reduceLT,Nat.reduceEqDiff,Nat.reduceBEq,Nat.reduceLeDiff,Nat.reduceAdd,Nat.reduceMul]
 refine alloc_i fun p1 hp1=>?_
 have n1:=hp1
 simp(disch:=first|exact Xe|fail)only[↓Xa,Xb,Xc,↓reduceIte,Nat.reduceLT,Nat.reduceEqDiff,Nat.reduceBEq,Nat.reduceLeDiff,Nat.reduceAdd,Nat.reduceMul]
 refine alloc_i fun p2 hp2=>?_
 have n2:=hp2
 simp only[upd_none]at n2
 obtain⟨_,n2⟩:=n2
 have fin: ∀{v:AV}{a b:Option ABlk},Q v H→SetR Q v ((H.upd p1 a).upd p2 b):=fun h=>SetR.dropTo (((Le.refl H).updB n1).updB n2) (SetR.now h)
 simp(disch:=first|exact Xe|fail)only[IntD,IntB,↓Xa,Xb,Xc,↓reduceIte,Nat.reduceLT,Nat.reduceEqDiff,Nat.reduceBEq,Nat.reduceLeDiff,Nat.reduceAdd,Nat.reduceMul]
 refine(shl_fn true (lim_digs (by omega) _) hn (by omega)).call ?_
 rw[val_digs (by omega)]
 simp(disch:=first|exact Xe|fail)only[IntD,IntB,↓Xa,Xb,Xc,↓reduceIte,Nat.reduceLT,Nat.reduceEqDiff,Nat.reduceBEq,Nat.reduceLeDiff,Nat.reduceAdd,Nat.reduceMul]
 refine(made_fn _ _ (by omega)).call ?_
 rw[sg_shl]
 simp(disch:=first|exact Xe|fail)only[cells_IntA,fold_IntA,rs174,↓Xa,Xb,Xc,↓reduceIte,Nat.reduceLT,Nat.reduceEqDiff,Nat.reduceBEq,Nat.reduceLeDiff,Nat.reduceAdd,Nat.reduceMul]
 exact fin hq
end Go.Proofs.YtmndejlpfmmaiaaGreatDoor.Fw
namespace Go.Proofs.YtmndejlpfmmaiaaGreatDoor.Fw
open Go Go.Proofs.YtmndejlpfmmaiaaGreatDoor.Ma
abbrev QQ:=_root_.Rat
theorem q_pos(q:QQ):0<(q.den:Int):=by have:=q.den_pos;omega
theorem mk_num{n:Int}{d:Nat}(hd:0<d):(mkRat n d).num=n / ((Int.gcd n (d:Int):Nat):Int):=by
 rw[_root_.Rat.num_mkRat,if_neg (by omega),Nat.gcd_comm];rfl
theorem mk_den{n:Int}{d:Nat}(hd:0<d):(((mkRat n d).den:Nat):Int)=(d:Int) / ((Int.gcd n (d:Int):Nat):Int):=by
 rw[_root_.Rat.den_mkRat,if_neg (by omega),Nat.gcd_comm];rfl
theorem q_lt{p q:QQ}:p<q↔p.num*(q.den:Int)<q.num*(p.den:Int):=_root_.Rat.lt_iff p q
theorem Bd.oneQ(k:Nat):Bd (k+1) 1:=by
 unfold Bd
 have:4294967296^1≤4294967296^(k+1):=Nat.pow_le_pow_right (by omega) (by omega)
 have e:(1:Int).natAbs=1:=rfl
 omega
def RB(k:Nat)(q:QQ):Prop:=Bd k q.num∧Bd k (q.den:Int)
theorem RB.mk{n:Int}{d k:Nat}(hn:Bd k n)(hd:Bd k (d:Int))(h0:0<d):RB k (mkRat n d):=by
 refine⟨?_,?_⟩
 ·rw[mk_num h0];exact hn.ediv
 ·rw[mk_den h0];exact hd.ediv
theorem RB.mono{q:QQ}{k k':Nat}(h:RB k q)(hk:k≤k'):RB k' q:=⟨h.1.mono hk,h.2.mono hk⟩
theorem RB.neg{q:QQ}{k:Nat}(h:RB k q):RB k (-q):=⟨h.1.neg,h.2⟩
theorem RB.add{p q:QQ}{k k':Nat}(h:RB k p)(h':RB k' q):RB (k+k'+1) (p+q):=by
 rw[_root_.Rat.add_def']
 refine RB.mk (Bd.add (h.1.mul h'.2) ?_) ?_ (Nat.mul_pos p.den_pos q.den_pos)
 ·have:=h'.1.mul h.2;rw[Nat.add_comm];exact this
 ·rw[Int.natCast_mul];exact(h.2.mul h'.2).mono (by omega)
theorem RB.sub{p q:QQ}{k k':Nat}(h:RB k p)(h':RB k' q):RB (k+k'+1) (p-q):=by
 rw[_root_.Rat.sub_eq_add_neg];exact h.add h'.neg
theorem RB.mul{p q:QQ}{k k':Nat}(h:RB k p)(h':RB k' q):RB (k+k') (p*q):=by
 rw[_root_.Rat.mul_def']
 refine RB.mk (h.1.mul h'.1) ?_ (Nat.mul_pos p.den_pos q.den_pos)
 rw[Int.natCast_mul];exact h.2.mul h'.2
theorem RB.int{z:Int}{k:Nat}(h:Bd (k+1) z):RB (k+1) (z:QQ):=⟨h,Bd.oneQ k⟩
theorem RB.less{q:QQ}{k:Nat}(h:RB k q):Bd k ((q.den:Int)-1):=h.2.le (by have:=q_pos q;omega)
end Go.Proofs.YtmndejlpfmmaiaaGreatDoor.Fw
namespace Go.Proofs.YtmndejlpfmmaiaaGreatDoor.Fw
open Go Go.Proofs.YtmndejlpfmmaiaaGreatDoor.Ma
set_option maxRecDepth 20000
theorem iText_len{x:Int}{k:Nat}(h:Bd k x):(iText x).length≤10*k+2:=by
 have:=decT_bd h
 unfold iText;split<;>simp<;>omega
def pwRow(n:Nat):List Nat:=(List.replicate (n / 16+1) 0).set (n / 16) (2^(n%16))
theorem pwRow_len{n:Nat}:(pwRow n).length=n / 16+1:=by simp[pwRow]
theorem pwRow_lim{n:Nat}:Lim 65536 (pwRow n):=lim_set (fun x hx=>by rw[(List.mem_replicate.1 hx).2];omega) _ _ (by
 have:=Nat.pow_lt_pow_right (a:=2) (by omega) (show n%16<16 by omega)
 exact this)
theorem pwRow_val{n:Nat}:val 65536 (pwRow n)=2^n:=by
 have h:=val_set (B:=65536) (l:=List.replicate (n / 16+1) 0) (i:=n / 16) (2^(n%16)) (by simp)
 have h0:val 65536 (List.replicate (n / 16+1) 0)=0:=val_zeros _ _
 have h1:(List.replicate (n / 16+1) 0).getD (n / 16) 0=0:=by simp[List.getD_eq_getElem?_getD]
 rw[h0,h1]at h
 have e:2^n=65536^(n / 16)*2^(n%16):=by
  conv=>lhs;rw[← Nat.div_add_mod n 16,Nat.pow_add,Nat.pow_mul]
 unfold pwRow
 rw[e];omega
theorem rpower_fn{n:Nat}(hn:n≤65536):PFn Tryz.prog 215 [.int .i64 (n:Int)] (RefA (2^n) false):=by
 intro H Q hq
 have hp16:=Nat.pow_le_pow_right (n:=2) (by omega) (show n%16≤15 by omega)
 refine enter215 (by simp) ?_
 simp(disch:=first|exact Xe|fail)only[ac215,ne_eq,Nat.reduceEqDiff,↓Xa,Xb,Xc,↓reduceIte,Nat.reduceLT,Nat.reduceEqDiff,Nat.reduceBEq,Nat.reduceLeDiff,Nat.reduceAdd,Nat.reduceMul]
 refine alloc_i fun p1 hp1=>?_
 have n1:=hp1
 simp(disch:=first|exact Xe|fail)only[ne_eq,Nat.reduceEqDiff,↓Xa,Xb,Xc,↓reduceIte,Nat.reduceLT,Nat.reduceEqDiff,Nat.reduceBEq,Nat.reduceLeDiff,Nat.reduceAdd,Nat.reduceMul]
 refine newU_i fun o ho=>?_
 obtain⟨a1,a2⟩:=upd_none.1 ho
 simp(disch:=first|exact Xe|fail)only[Nat.one_mul,bin_shl32,ne_eq,Nat.reduceEqDiff,↓Xa,Xb,Xc,↓reduceIte,Nat.reduceLT,Nat.reduceEqDiff,Nat.reduceBEq,Nat.reduceLeDiff,Nat.reduceAdd,Nat.reduceMul]
 have hrow:(List.replicate (n / 16+1) 0).set (n / 16) (2^(n%16))=pwRow n:=rfl
 rw[hrow]
 refine run_call (rnorm_own false true (upd_same _ _ _) pwRow_len (fun ti=>?_) pwRow_lim (by rw[pwRow_len];omega))
 have htr:tr (pwRow n)=digs 65536 (2^n):=by rw[tr_digs (by omega) pwRow_lim,pwRow_val]
 rw[Bool.false_and]
 simp(disch:=first|exact Xe|fail)only[cells_o2,rs215,↓Xa,Xb,Xc,↓reduceIte,Nat.reduceLT,Nat.reduceEqDiff,Nat.reduceBEq,Nat.reduceLeDiff,Nat.reduceAdd,Nat.reduceMul]
 refine SetR.frz o (es:=1) (cells:=U (pwRow n)) (upd_same _ _ _) ?_
 have hle:(tr (pwRow n)).length≤n / 16+1:=by rw[← pwRow_len (n:=n)];exact tr_len _
 have htk:(pwRow n).take (tr (pwRow n)).length=tr (pwRow n):=by
  obtain⟨m,hm⟩:=tr_pre (pwRow n)
  generalize tr (pwRow n)=x at*
  rw[hm];simp
 have e:frz o 1 (U (pwRow n)) (.agg [.bool false,.own o (n / 16+1) 0 (tr (pwRow n)).length ti])=.agg [.bool false,LS (tr (pwRow n)) ti]:=by
  simp[frz,frz2,frz1,LS,pwRow_len,hle,← U_take,htk]
 rw[e,htr]
 refine SetR.dropTo (H:=H) ?_ (SetR.loose ?_)
 ·exact(((Le.refl H).updB n1).updB a2).updB a2
 ·have e2:decide (((2:Int)^n)<0)=false:=decide_eq_false (by have:=Int.pow_pos (n:=2) (m:=n) (by omega);omega)
  have e3:((2:Int)^n).natAbs=2^n:=by rw[Int.natAbs_pow];rfl
  unfold RefA at hq
  rw[e2,e3]at hq
  exact SetR.now hq
end Go.Proofs.YtmndejlpfmmaiaaGreatDoor.Fw
namespace Go.Proofs.YtmndejlpfmmaiaaGreatDoor.Fw
open Go
set_option maxRecDepth 100000
def ac3:ACode:=Js [Jo 3 (.box 25 0 (.t 0)),Jo 5 (.box 3 0 (.t 2)),Jo 6 (.alloc 4 0 [.bool false])] [1,3,5,6] (.seq (Js [Jo 24 (Jc 14 []),Jo 25 (.un .not (.t 24))] [1,3,5,6,25] (.cond (.t 25) (Js [⟨none,none,.store 1 (.t 6) (.k (.bool false))⟩] [6] .ret) .skip)) (.seq (Js [Jo 26 (.load (some 4) (.t 3)),Jm 27 1,Jo 28 (Jc 15 [.t 26,.k (.seq 0 [] true),.t 27])] [1,3,5,6,28] (.cond (.t 28) (Js [⟨none,none,.store 1 (.t 6) (.k (.bool true))⟩] [6] .ret) .skip)) (Js [Jm 30 1,Jo 31 (Jc 16 [.t 30]),Jm 29 31,Je 32 29 0,Je 33 29 1,Jm 7 32,Jm 8 33] [1,3,5,6,7,8] (Js [Jo 35 (.load (some 4) (.t 3)),Jm 36 7,Jo 37 (Jc 17 [.t 35,.t 36]),Jm 34 37,Je 38 34 0,Je 39 34 1,Je 40 34 2,Jm 9 38,Jm 10 39,Jm 11 40] [1,3,5,6,7,8,9,10,11] (Js [Jo 41 (.load (some 4) (.t 3)),Jm 42 7,Jo 43 (Jc 18 [.t 41,.t 42]),Jm 12 43] [1,3,5,6,7,8,9,10,11,12] (Js [Jo 44 (.load (some 4) (.t 3)),Jo 45 (Jc 19 [.t 44]),Jm 13 45] [1,3,5,6,7,8,9,10,11,12,13] (.seq (Js [Jm 46 12,Jo 47 (.prim (.feq false) [.t 46]),Jm 48 47,⟨some 49,some (48,false),Jc 14 []⟩,⟨some 50,some (48,false),.un .not (.t 49)⟩,Jo 51 (.pick (.t 48) (.k (.bool true)) (.t 50))] [1,3,5,6,7,8,9,10,11,12,13,51] (.cond (.t 51) (Js [⟨none,none,.store 1 (.t 6) (.k (.bool false))⟩] [6] .ret) .skip)) (.seq (Js [Jm 52 13,Jo 53 (.un .not (.t 52)),Jm 54 53,⟨some 55,some (54,false),.mov (.t 1)⟩,⟨some 56,some (54,false),.len false (.t 55)⟩,⟨some 57,some (54,false),.fldA 0 (.t 3)⟩,⟨some 58,some (54,false),.load none (.t 57)⟩,⟨some 59,some (54,false),.bin .neq (.t 56) (.t 58)⟩,Jo 60 (.pick (.t 54) (.k (.bool true)) (.t 59))] [3,5,6,7,8,9,10,11,12,13,60] (.cond (.t 60) (.seq (Js [Jm 61 12] [6,9,10,11,13,61] (.block 0 (.rfn (.t 61) [62,63] .skip (.block 1 (Js [⟨none,none,.store 1 (.t 6) (.k (.bool false))⟩] [6] .ret))))) (Js [Jm 64 9,Jv 65 64,Jo 66 (.bin .eql (.t 65) (Jk 0)),Jm 67 66,⟨some 68,some (67,true),.mov (.t 10)⟩,⟨some 69,some (67,true),.bin .eql (.t 68) (Jk 0)⟩,Jo 70 (.pick (.t 67) (.t 69) (.k (.bool false))),Jm 71 70,⟨some 72,some (71,true),.mov (.t 13)⟩,⟨some 73,some (71,true),.mov (.t 72)⟩,⟨some 74,some (73,true),.mov (.t 11)⟩,⟨some 75,some (73,true),.bin .eql (.t 74) (Jk 5)⟩,⟨some 76,some (71,true),.pick (.t 73) (.t 75) (.k (.bool false))⟩,⟨some 77,some (71,true),.mov (.t 76)⟩,⟨some 78,some (77,false),.mov (.t 13)⟩,⟨some 79,some (77,false),.un .not (.t 78)⟩,⟨some 80,some (77,false),.mov (.t 79)⟩,⟨some 81,some (80,true),.mov (.t 11)⟩,⟨some 82,some (80,true),.bin .eql (.t 81) (Jk 80)⟩,⟨some 83,some (77,false),.pick (.t 80) (.t 82) (.k (.bool false))⟩,⟨some 84,some (71,true),.pick (.t 77) (.k (.bool true)) (.t 83)⟩,Jo 85 (.pick (.t 71) (.t 84) (.k (.bool false))),⟨none,none,.store 1 (.t 6) (.t 85)⟩] [6] .ret)) .skip)) (Js [Jo 14 (.mov (.k (.seq 0 [] true)))] [3,5,6,7,8,9,10,11,12,14] (.seq (Js [Jo 15 (.mov (Jk 0))] [3,5,6,7,8,9,10,11,12,14,15] (.block 2 (.loop (.seq (Js [Jm 86 15,Jm 87 8,Jv 88 87,Jb 89 .lss 86 88] [3,5,6,7,8,9,10,11,12,14,15,89] (.cond (.t 89) .skip (.exit 2))) (.seq (.block 3 (.reg [Jm 92 14,Jm 93 8,Jm 94 15,Ji 95 2 93 94,Jo 96 (.load (some 2) (.t 95)),Jo 97 (.bsl [.bool false,.seq 0 [] true] 1 2 [(0,2,.t 96)]),Jo 98 (.bsl [.seq 0 [] true] 1 1 [(0,1,.t 97)]),Jo 99 (.app 31 1 24 (.t 92) (.t 98)),Jm 14 99] [3,5,6,7,8,9,10,11,12,14,15])) (.reg [Jm 90 15,Jo 91 (.bin .add (.t 90) (Jk 1)),Jm 15 91] [3,5,6,7,8,9,10,11,12,14,15])))))) (Js [Jo 101 (.load (some 4) (.t 3)),Jm 102 14,Jo 103 (Jc 20 [.t 101,.t 102]),Jm 100 103,Je 104 100 0,Je 105 100 1,Je 106 100 2,Jo 16 (.alloc 41 0 [.seq 0 [] true]),⟨none,none,.store 1 (.t 16) (.t 104)⟩,Jm 17 105,Jm 18 106] [5,6,7,8,9,10,11,12,16,17,18] (.seq (Js [Jo 19 (.alloc 3 0 [Jn 0]),⟨none,none,.store 1 (.t 19) (Jk 0)⟩] [5,6,7,8,9,10,11,12,16,17,18,19] (.block 4 (.loop (.seq (Js [Jl 107 19,Jo 108 (.bin .lss (.t 107) (Jk 2))] [5,6,7,8,9,10,11,12,16,17,18,19,108] (.cond (.t 108) .skip (.exit 4))) (.seq (.block 5 (Js [Jo 20 (.alloc 3 0 [Jn 0]),⟨none,none,.store 1 (.t 20) (Jk 0)⟩] [5,6,7,8,9,10,11,12,16,17,18,19,20] (.seq (Js [Jm 111 12] [5,6,7,8,9,10,11,12,16,17,18,19,20,111] (.block 6 (.rfn (.t 111) [112,113] (Js [Jm 21 112] [5,6,16,19,20,21,113] (.reg [Jo 22 (.alloc 48 0 [.bool false,.seq 0 [] true]),⟨none,none,.store 2 (.t 22) (.t 113)⟩] [5,6,16,19,20,21,22])) (.block 7 (Jq (.draw [Jm 114 21,Jl 115 20,Jb 116 .neq 114 115,Jm 117 116,⟨some 118,some (117,false),.load none (.t 20)⟩,⟨some 119,some (117,false),.load none (.t 16)⟩,⟨some 120,some (117,false),.len false (.t 119)⟩,⟨some 121,some (117,false),.bin .geq (.t 118) (.t 120)⟩,Jo 122 (.pick (.t 117) (.k (.bool true)) (.t 121)),Jm 123 122,⟨some 124,some (123,false),.load (some 2) (.t 22)⟩,⟨some 125,some (123,false),.load none (.t 16)⟩,⟨some 126,some (123,false),.load none (.t 20)⟩,⟨some 127,some (123,false),.idxA 1 (.t 125) (.t 126)⟩,⟨some 128,some (123,false),.load none (.t 127)⟩,⟨some 129,some (123,false),.idxA 2 (.t 128) (Jk 0)⟩,⟨some 130,some (123,false),.load (some 2) (.t 129)⟩] [⟨some 131,some (123,false),Jc 21 [.t 124,.t 130]⟩,⟨some 132,some (123,false),.un .not (.t 131)⟩,Jo 133 (.pick (.t 123) (.k (.bool true)) (.t 132))] [0,1,0,0,0,16,16,0,0,0,0,1024,3072,1024,1024,1024,1024] [5,6,19,20,133]) (.cond (.t 133) (Js [⟨none,none,.store 1 (.t 6) (.k (.bool false))⟩] [6] .ret) .skip) (Js [Jl 134 20,Jo 135 (.bin .add (.t 134) (Jk 1)),⟨none,none,.store 1 (.t 20) (.t 135)⟩] [5,19,20] (Js [Jl 136 19,Jo 137 (.bin .eql (.t 136) (Jk 0)),Jm 138 137,⟨some 139,some (138,true),.load none (.t 20)⟩,⟨some 140,some (138,true),.load none (.t 5)⟩,⟨some 141,some (138,true),.bin .eql (.t 139) (.t 140)⟩,Jo 142 (.pick (.t 138) (.t 141) (.k (.bool false)))] [142] (.cond (.t 142) (.exit 6) .skip)))))))) (Js [Jl 143 20,Jl 144 16,Jv 145 144,Jb 146 .neq 143 145,Jm 147 146,⟨some 148,some (147,true),.load none (.t 19)⟩,⟨some 149,some (147,true),.bin .eql (.t 148) (Jk 0)⟩,⟨some 150,some (147,true),.mov (.t 149)⟩,⟨some 151,some (150,true),.load none (.t 20)⟩,⟨some 152,some (150,true),.load none (.t 5)⟩,⟨some 153,some (150,true),.bin .eql (.t 151) (.t 152)⟩,⟨some 154,some (147,true),.pick (.t 150) (.t 153) (.k (.bool false))⟩,⟨some 155,some (147,true),.un .not (.t 154)⟩,Jo 156 (.pick (.t 147) (.t 155) (.k (.bool false)))] [5,6,7,8,9,10,11,12,16,17,18,19,156] (.cond (.t 156) (Js [⟨none,none,.store 1 (.t 6) (.k (.bool false))⟩] [6] .ret) .skip))))) (.seq (Js [Jl 157 19] [5,6,7,8,9,10,11,12,16,17,18,157] (.reg [Jo 19 (.alloc 3 0 [Jn 0]),⟨none,none,.store 1 (.t 19) (.t 157)⟩] [5,6,7,8,9,10,11,12,16,17,18,19])) (.reg [Jl 109 19,Jo 110 (.bin .add (.t 109) (Jk 1)),⟨none,none,.store 1 (.t 19) (.t 110)⟩] [5,6,7,8,9,10,11,12,16,17,18,19]))))))) (.seq (Js [Jm 158 17,Jo 159 (.bin .geq (.t 158) (Jk 0))] [6,7,8,9,10,11,17,18,159] (.cond (.t 159) (Js [Jm 160 9,Jv 161 160,Jo 162 (.bin .eql (.t 161) (Jk 0)),Jm 163 162,⟨some 164,some (163,true),.mov (.t 10)⟩,⟨some 165,some (163,true),.mov (.t 17)⟩,⟨some 166,some (163,true),.bin .eql (.t 164) (.t 165)⟩,Jo 167 (.pick (.t 163) (.t 166) (.k (.bool false))),Jm 168 167,⟨some 169,some (168,true),.mov (.t 11)⟩,⟨some 170,some (168,true),.bin .eql (.t 169) (Jk 20)⟩,Jo 171 (.pick (.t 168) (.t 170) (.k (.bool false))),⟨none,none,.store 1 (.t 6) (.t 171)⟩] [6] .ret) .skip)) (.seq (Js [Jm 172 11,Jo 173 (.bin .neq (.t 172) (Jk 0)),Jm 174 173,⟨some 175,some (174,false),.mov (.t 10)⟩,⟨some 176,some (174,false),.bin .neq (.t 175) (Jk 0)⟩,Jo 177 (.pick (.t 174) (.k (.bool true)) (.t 176)),Jm 178 177,⟨some 179,some (178,false),.mov (.t 9)⟩,⟨some 180,some (178,false),.len false (.t 179)⟩,⟨some 181,some (178,false),.mov (.t 18)⟩,⟨some 182,some (178,false),.len false (.t 181)⟩,⟨some 183,some (178,false),.bin .neq (.t 180) (.t 182)⟩,Jo 184 (.pick (.t 178) (.k (.bool true)) (.t 183))] [6,7,8,9,18,184] (.cond (.t 184) (Js [⟨none,none,.store 1 (.t 6) (.k (.bool false))⟩] [6] .ret) .skip)) (.seq (Js [Jo 23 (.mov (Jk 0))] [6,7,8,9,18,23] (.block 8 (.loop (.seq (Js [Jm 185 23,Jm 186 9,Jv 187 186,Jb 188 .lss 185 187] [6,7,8,9,18,23,188] (.cond (.t 188) .skip (.exit 8))) (.seq (.block 9 (.seq (.draw [Jm 191 9,Jm 192 23,Ji 193 2 191 192,Jo 194 (.load (some 2) (.t 193)),Jm 195 18,Jm 196 23,Ji 197 1 195 196,Jl 198 197,Jo 199 (.idxA 2 (.t 198) (Jk 0)),Jo 200 (.load (some 2) (.t 199))] [Jo 201 (Jc 21 [.t 194,.t 200]),Jo 202 (.un .not (.t 201))] [0,1,0,0,15,31,15,15,15,15] [6,7,8,9,18,23,202]) (.cond (.t 202) (Js [⟨none,none,.store 1 (.t 6) (.k (.bool false))⟩] [6] .ret) .skip))) (.reg [Jm 189 23,Jo 190 (.bin .add (.t 189) (Jk 1)),Jm 23 190] [6,7,8,9,18,23])))))) (Js [Jm 203 7,Jm 204 8,Jo 205 (Jc 22 [.t 203,.t 204]),⟨none,none,.store 1 (.t 6) (.t 205)⟩] [6] .ret))))))))))))))))
def rs3:List RV:=[.cell 6 none]
theorem enter3:EnT Tryz.prog 3 206 ac3 rs3:=Ent pl3 mixed Tryz.func3
end Go.Proofs.YtmndejlpfmmaiaaGreatDoor.Fw
