/- The texts Ec Ed Nc Ta Ua Ub Ym Al7, joined. -/
import Derived.Test.YtmndejlpfmmaiaaGreatDoorZ5
set_option linter.unusedSimpArgs false
set_option linter.unusedVariables false
namespace Go.Proofs.YtmndejlpfmmaiaaGreatDoor.Fw
open Go Go.Proofs.YtmndejlpfmmaiaaGreatDoor.Ma
set_option maxRecDepth 20000
def InsA(i:Ins):AV:=.agg [.int .i64 i.op,.int .i64 i.to,.int .i64 i.a,.int .i64 i.b,.int .i64 i.c]
theorem cells_InsA{i:Ins}:(InsA i).cells=some [.int .i64 i.op,.int .i64 i.to,.int .i64 i.a,.int .i64 i.b,.int .i64 i.c]:=id rfl
theorem fold_InsA{i:Ins}:AV.agg [.int .i64 i.op,.int .i64 i.to,.int .i64 i.a,.int .i64 i.b,.int .i64 i.c]=InsA i:=id rfl
theorem cells_ProgA{p:PR}:(ProgA p).cells=some [.int .i64 p.ins,.int .i64 p.regs,CodeA p.code false,OutsA p.outs false]:=id rfl
theorem fold_ProgA{p:PR}:AV.agg [.int .i64 p.ins,.int .i64 p.regs,CodeA p.code false,OutsA p.outs false]=ProgA p:=id rfl
section
variable {H:AHeap} {K:AV→Prop} {k:IntKind} {t:Bool} {l:List Ins} {i:Nat}
theorem len_CodeA(h:l.length<9223372036854775808):lenW false (CodeA l t) K=K (.int .i64 ((l.length:Nat):Int)):=len_rw h
theorem idx_CodeA(h:i<l.length):idxAW 5 (CodeA l t) (.int k (i:Int)) K=K (.cptr ((l.flatMap insC).drop (i*5))):=idx_rw (flat_len insC_len l) h
theorem load_CodeA(h:i<l.length):loadW H (some 5) (.cptr ((l.flatMap insC).drop (i*5))) K=K (InsA (l[i])):=by
 rw[flat_drop insC_len l i h];simp[loadW,cellsAt,insC,InsA]
theorem len_OutsA{l:List Int}(h:l.length<9223372036854775808):lenW false (OutsA l t) K=K (.int .i64 ((l.length:Nat):Int)):=len_rw h
theorem idx_OutsA{l:List Int}(h:i<l.length):idxAW 1 (OutsA l t) (.int k (i:Int)) K=K (.cptr ((l.map fun n=>AV.int .i64 n).drop i)):=by rw[idx_rw (by simp) h,Nat.mul_one]
theorem load_OutsA{l:List Int}(h:i<l.length):loadW H none (.cptr ((l.map fun n=>AV.int .i64 n).drop i)) K=K (.int .i64 (l[i])):=by
 rw[List.drop_eq_getElem_cons (by simpa using h)];simp[loadW,cellsAt]
end
theorem geqI{k:IntKind}{n m:Int}{K:AV→Prop}:binW .geq (.int k n) (.int k m) K↔K (.bool (decide (m≤n))):=by simp[binW,binInt]
theorem leqI{k:IntKind}{n m:Int}{K:AV→Prop}:binW .leq (.int k n) (.int k m) K↔K (.bool (decide (n≤m))):=by simp[binW,binInt]
theorem two_fn{n:Int}:PFn Tryz.prog 219 [.int .i64 n] (.bool (decide (n=3∨n=4))):=by
 intro H Q hq
 refine enter219 (by simp) ?_
 by_cases h:n=3
 ·rw[decide_eq_true (show n=3∨n=4 from .inl h)]at hq
  have c1:decide (n=((3:Nat):Int))=true:=decide_eq_true h
  simp(disch:=first|exact Xe|fail)only[ac219,rs219,eql_int,c1,↓Xa,Xb,Xc,↓reduceIte,Nat.reduceLT,Nat.reduceEqDiff,Nat.reduceBEq,Nat.reduceLeDiff,Nat.reduceAdd,Nat.reduceMul]
  exact SetR.now hq
 ·have c1:decide (n=((3:Nat):Int))=false:=decide_eq_false h
  have c2:decide (n=((4:Nat):Int))=decide (n=3∨n=4):=decide_eq_decide.2 (by omega)
  simp(disch:=first|exact Xe|fail)only[ac219,rs219,eql_int,c1,c2,↓Xa,Xb,Xc,↓reduceIte,Nat.reduceLT,Nat.reduceEqDiff,Nat.reduceBEq,Nat.reduceLeDiff,Nat.reduceAdd,Nat.reduceMul]
  exact SetR.now hq
def conI(i:Ins):Prop:=if i.op=5∨i.op=6 then i.c≠0∧ -512≤i.c∧i.c≤512 else if i.op=7∨i.op=8 then 1≤i.c∧i.c≤64 else i.c=0
instance (i:Ins):Decidable (conI i):=by unfold conI;infer_instance
theorem constant_fn(i:Ins):PFn Tryz.prog 220 [InsA i] (.bool (decide (conI i))):=by
 intro H Q hq
 refine enter220 (by simp) ?_
 have big:(i.op=5∨i.op=6)→∀(p:Nat)(x:Option ABlk),H p=none→SetR Q (.bool (!decide (i.c=((0:Nat):Int))&&(decide (-512≤i.c)&&decide (i.c≤((512:Nat):Int))))) (H.upd p x):=fun h p x hp=>by
  have hc:conI i↔i.c≠0∧ -512≤i.c∧i.c≤512:=by unfold conI;rw[if_pos h]
  have e:decide (conI i)=(!decide (i.c=((0:Nat):Int))&&(decide (-512≤i.c)&&decide (i.c≤((512:Nat):Int)))):=by
   rw[Bool.eq_iff_iff]
   simp only[decide_eq_true_eq,Bool.and_eq_true,Bool.not_eq_true',decide_eq_false_iff_not]
   exact hc
  rw[e]at hq
  exact SetR.dropTo ((Le.refl H).updB hp) (SetR.now hq)
 have sml: ¬(i.op=5∨i.op=6)→(i.op=7∨i.op=8)→∀(p:Nat)(x:Option ABlk),H p=none→SetR Q (.bool (decide (((1:Nat):Int)≤i.c)&&decide (i.c≤((64:Nat):Int)))) (H.upd p x):=fun h h' p x hp=>by
  have hc:conI i↔1≤i.c∧i.c≤64:=by unfold conI;rw[if_neg h,if_pos h']
  have e:decide (conI i)=(decide (((1:Nat):Int)≤i.c)&&decide (i.c≤((64:Nat):Int))):=by
   rw[Bool.eq_iff_iff]
   simp only[decide_eq_true_eq,Bool.and_eq_true]
   exact hc
  rw[e]at hq
  exact SetR.dropTo ((Le.refl H).updB hp) (SetR.now hq)
 simp(disch:=first|exact Xe|fail)only[ac220,cells_InsA,↓Xa,Xb,Xc,↓reduceIte,Nat.reduceLT,Nat.reduceEqDiff,Nat.reduceBEq,Nat.reduceLeDiff,Nat.reduceAdd,Nat.reduceMul]
 refine alloc_i fun p1 hp1=>?_
 have n1:=hp1
 simp(disch:=first|exact Xe|fail)only[eql_int,↓Xa,Xb,Xc,↓reduceIte,Nat.reduceLT,Nat.reduceEqDiff,Nat.reduceBEq,Nat.reduceLeDiff,Nat.reduceAdd,Nat.reduceMul]
 have c512: ∀b,b=decide (i.c=((0:Nat):Int))→True:=fun _ _=>trivial
 by_cases h5:i.op=5
 ·have f:=big (.inl h5)
  have e5:decide (i.op=((5:Nat):Int))=true:=decide_eq_true h5
  by_cases z1:i.c=((0:Nat):Int)
  ·rw[decide_eq_true z1]at f
   simp(disch:=first|exact Xe|fail)only[eql_int,e5,neq_int,geqI,leqI,decide_eq_true z1,rs220,↓Xa,Xb,Xc,↓reduceIte,Nat.reduceLT,Nat.reduceEqDiff,Nat.reduceBEq,Nat.reduceLeDiff,Nat.reduceAdd,Nat.reduceMul]
   exact f _ _ n1
  ·rw[decide_eq_false z1]at f
   by_cases z2: -512≤i.c
   ·rw[decide_eq_true z2]at f
    simp(disch:=first|exact Xe|fail)only[eql_int,e5,neq_int,geqI,leqI,decide_eq_false z1,decide_eq_true z2,rs220,↓Xa,Xb,Xc,↓reduceIte,Nat.reduceLT,Nat.reduceEqDiff,Nat.reduceBEq,Nat.reduceLeDiff,Nat.reduceAdd,Nat.reduceMul]
    exact f _ _ n1
   ·rw[decide_eq_false z2]at f
    simp(disch:=first|exact Xe|fail)only[eql_int,e5,neq_int,geqI,leqI,decide_eq_false z1,decide_eq_false z2,rs220,↓Xa,Xb,Xc,↓reduceIte,Nat.reduceLT,Nat.reduceEqDiff,Nat.reduceBEq,Nat.reduceLeDiff,Nat.reduceAdd,Nat.reduceMul]
    exact f _ _ n1
 have e5:decide (i.op=((5:Nat):Int))=false:=decide_eq_false h5
 by_cases h6:i.op=6
 ·have f:=big (.inr h6)
  have e6:decide (i.op=((6:Nat):Int))=true:=decide_eq_true h6
  by_cases z1:i.c=((0:Nat):Int)
  ·rw[decide_eq_true z1]at f
   simp(disch:=first|exact Xe|fail)only[eql_int,e5,e6,neq_int,geqI,leqI,decide_eq_true z1,rs220,↓Xa,Xb,Xc,↓reduceIte,Nat.reduceLT,Nat.reduceEqDiff,Nat.reduceBEq,Nat.reduceLeDiff,Nat.reduceAdd,Nat.reduceMul]
   exact f _ _ n1
  ·rw[decide_eq_false z1]at f
   by_cases z2: -512≤i.c
   ·rw[decide_eq_true z2]at f
    simp(disch:=first|exact Xe|fail)only[eql_int,e5,e6,neq_int,geqI,leqI,decide_eq_false z1,decide_eq_true z2,rs220,↓Xa,Xb,Xc,↓reduceIte,Nat.reduceLT,Nat.reduceEqDiff,Nat.reduceBEq,Nat.reduceLeDiff,Nat.reduceAdd,Nat.reduceMul]
    exact f _ _ n1
   ·rw[decide_eq_false z2]at f
    simp(disch:=first|exact Xe|fail)only[eql_int,e5,e6,neq_int,geqI,leqI,decide_eq_false z1,decide_eq_false z2,rs220,↓Xa,Xb,Xc,↓reduceIte,Nat.reduceLT,Nat.reduceEqDiff,Nat.reduceBEq,Nat.reduceLeDiff,Nat.reduceAdd,Nat.reduceMul]
    exact f _ _ n1
 have e6:decide (i.op=((6:Nat):Int))=false:=decide_eq_false h6
 have n56: ¬(i.op=5∨i.op=6):=by omega
 by_cases h7:i.op=7
 ·have f:=sml n56 (.inl h7)
  have e7:decide (i.op=((7:Nat):Int))=true:=decide_eq_true h7
  by_cases z1:((1:Nat):Int)≤i.c
  ·rw[decide_eq_true z1]at f
   simp(disch:=first|exact Xe|fail)only[eql_int,e5,e6,e7,geqI,leqI,decide_eq_true z1,rs220,↓Xa,Xb,Xc,↓reduceIte,Nat.reduceLT,Nat.reduceEqDiff,Nat.reduceBEq,Nat.reduceLeDiff,Nat.reduceAdd,Nat.reduceMul]
   exact f _ _ n1
  ·rw[decide_eq_false z1]at f
   simp(disch:=first|exact Xe|fail)only[eql_int,e5,e6,e7,geqI,leqI,decide_eq_false z1,rs220,↓Xa,Xb,Xc,↓reduceIte,Nat.reduceLT,Nat.reduceEqDiff,Nat.reduceBEq,Nat.reduceLeDiff,Nat.reduceAdd,Nat.reduceMul]
   exact f _ _ n1
 have e7:decide (i.op=((7:Nat):Int))=false:=decide_eq_false h7
 by_cases h8:i.op=8
 ·have f:=sml n56 (.inr h8)
  have e8:decide (i.op=((8:Nat):Int))=true:=decide_eq_true h8
  by_cases z1:((1:Nat):Int)≤i.c
  ·rw[decide_eq_true z1]at f
   simp(disch:=first|exact Xe|fail)only[eql_int,e5,e6,e7,e8,geqI,leqI,decide_eq_true z1,rs220,↓Xa,Xb,Xc,↓reduceIte,Nat.reduceLT,Nat.reduceEqDiff,Nat.reduceBEq,Nat.reduceLeDiff,Nat.reduceAdd,Nat.reduceMul]
   exact f _ _ n1
  ·rw[decide_eq_false z1]at f
   simp(disch:=first|exact Xe|fail)only[eql_int,e5,e6,e7,e8,geqI,leqI,decide_eq_false z1,rs220,↓Xa,Xb,Xc,↓reduceIte,Nat.reduceLT,Nat.reduceEqDiff,Nat.reduceBEq,Nat.reduceLeDiff,Nat.reduceAdd,Nat.reduceMul]
   exact f _ _ n1
 have e8:decide (i.op=((8:Nat):Int))=false:=decide_eq_false h8
 have e:decide (conI i)=decide (i.c=((0:Nat):Int)):=decide_eq_decide.2 (by unfold conI;rw[if_neg n56,if_neg (by omega)];rfl)
 rw[e]at hq
 simp(disch:=first|exact Xe|fail)only[eql_int,e5,e6,e7,e8,eql_int,rs220,↓Xa,Xb,Xc,↓reduceIte,Nat.reduceLT,Nat.reduceEqDiff,Nat.reduceBEq,Nat.reduceLeDiff,Nat.reduceAdd,Nat.reduceMul]
 exact SetR.dropTo ((Le.refl H).updB n1) (SetR.now hq)
def asksI(i:Ins):List Int:=if i.op=3∨i.op=4 then[i.a,i.b]else if 1≤i.op∧i.op≤8 then[i.a]else[]
theorem asks_fn(i:Ins)(h1:1≤i.op)(h2:i.op≤8):PFn Tryz.prog 221 [InsA i] (OutsA (asksI i) true):=by
 intro H Q hq
 refine enter221 (by simp) ?_
 simp(disch:=first|exact Xe|fail)only[ac221,cells_InsA,↓Xa,Xb,Xc,↓reduceIte,Nat.reduceLT,Nat.reduceEqDiff,Nat.reduceBEq,Nat.reduceLeDiff,Nat.reduceAdd,Nat.reduceMul]
 refine alloc_i fun p1 hp1=>?_
 have n1:=hp1
 simp(disch:=first|exact Xe|fail)only[eql_int,↓Xa,Xb,Xc,↓reduceIte,Nat.reduceLT,Nat.reduceEqDiff,Nat.reduceBEq,Nat.reduceLeDiff,Nat.reduceAdd,Nat.reduceMul]
 have r1: ∀{x:AV},repA [x] 1=[x]:=by simp[repA,List.range,List.range.loop]
 have r2: ∀{x y:AV},repA [x] 2=[x,x]:=by simp[repA,List.range,List.range.loop]
 have fin: ∀{p:Nat}{x:Option ABlk},H p=none→SetR Q (OutsA (asksI i) true) (H.upd p x):=fun hp=>SetR.dropTo ((Le.refl H).updB hp) (SetR.now hq)
 have e0: ∀m:Int,i.op=m→decide (i.op=m)=true:=fun m h=>decide_eq_true h
 by_cases h3:i.op=3
 ·unfold asksI at fin
  rw[if_pos (.inl h3)]at fin
  have e3:decide (i.op=((3:Nat):Int))=true:=decide_eq_true h3
  simp(disch:=first|exact Xe|fail)only[eql_int,e3,repA,List.range,List.range.loop,rs221,↓Xa,Xb,Xc,↓reduceIte,Nat.reduceLT,Nat.reduceEqDiff,Nat.reduceBEq,Nat.reduceLeDiff,Nat.reduceAdd,Nat.reduceMul]
  exact fin n1
 have e3:decide (i.op=((3:Nat):Int))=false:=decide_eq_false h3
 by_cases h4:i.op=4
 ·unfold asksI at fin
  rw[if_pos (.inr h4)]at fin
  have e4:decide (i.op=((4:Nat):Int))=true:=decide_eq_true h4
  simp(disch:=first|exact Xe|fail)only[eql_int,e3,e4,repA,List.range,List.range.loop,rs221,↓Xa,Xb,Xc,↓reduceIte,Nat.reduceLT,Nat.reduceEqDiff,Nat.reduceBEq,Nat.reduceLeDiff,Nat.reduceAdd,Nat.reduceMul]
  exact fin n1
 have e4:decide (i.op=((4:Nat):Int))=false:=decide_eq_false h4
 unfold asksI at fin
 rw[if_neg (by omega),if_pos ⟨h1,h2⟩]at fin
 by_cases g1:i.op=1
 ·have e5:decide (i.op=((1:Nat):Int))=true:=decide_eq_true g1
  simp(disch:=first|exact Xe|fail)only[eql_int,e3,e4,e5,r1,rs221,↓Xa,Xb,Xc,↓reduceIte,Nat.reduceLT,Nat.reduceEqDiff,Nat.reduceBEq,Nat.reduceLeDiff,Nat.reduceAdd,Nat.reduceMul]
  exact fin n1
 have f1:decide (i.op=((1:Nat):Int))=false:=decide_eq_false g1
 by_cases g2:i.op=2
 ·have e5:decide (i.op=((2:Nat):Int))=true:=decide_eq_true g2
  simp(disch:=first|exact Xe|fail)only[eql_int,e3,e4,f1,e5,r1,rs221,↓Xa,Xb,Xc,↓reduceIte,Nat.reduceLT,Nat.reduceEqDiff,Nat.reduceBEq,Nat.reduceLeDiff,Nat.reduceAdd,Nat.reduceMul]
  exact fin n1
 have f2:decide (i.op=((2:Nat):Int))=false:=decide_eq_false g2
 by_cases g5:i.op=5
 ·have e5:decide (i.op=((5:Nat):Int))=true:=decide_eq_true g5
  simp(disch:=first|exact Xe|fail)only[eql_int,e3,e4,f1,f2,e5,r1,rs221,↓Xa,Xb,Xc,↓reduceIte,Nat.reduceLT,Nat.reduceEqDiff,Nat.reduceBEq,Nat.reduceLeDiff,Nat.reduceAdd,Nat.reduceMul]
  exact fin n1
 have f5:decide (i.op=((5:Nat):Int))=false:=decide_eq_false g5
 by_cases g6:i.op=6
 ·have e5:decide (i.op=((6:Nat):Int))=true:=decide_eq_true g6
  simp(disch:=first|exact Xe|fail)only[eql_int,e3,e4,f1,f2,f5,e5,r1,rs221,↓Xa,Xb,Xc,↓reduceIte,Nat.reduceLT,Nat.reduceEqDiff,Nat.reduceBEq,Nat.reduceLeDiff,Nat.reduceAdd,Nat.reduceMul]
  exact fin n1
 have f6:decide (i.op=((6:Nat):Int))=false:=decide_eq_false g6
 by_cases g7:i.op=7
 ·have e5:decide (i.op=((7:Nat):Int))=true:=decide_eq_true g7
  simp(disch:=first|exact Xe|fail)only[eql_int,e3,e4,f1,f2,f5,f6,e5,r1,rs221,↓Xa,Xb,Xc,↓reduceIte,Nat.reduceLT,Nat.reduceEqDiff,Nat.reduceBEq,Nat.reduceLeDiff,Nat.reduceAdd,Nat.reduceMul]
  exact fin n1
 have f7:decide (i.op=((7:Nat):Int))=false:=decide_eq_false g7
 have e5:decide (i.op=((8:Nat):Int))=true:=decide_eq_true (by omega)
 simp(disch:=first|exact Xe|fail)only[eql_int,e3,e4,f1,f2,f5,f6,f7,e5,r1,rs221,↓Xa,Xb,Xc,↓reduceIte,Nat.reduceLT,Nat.reduceEqDiff,Nat.reduceBEq,Nat.reduceLeDiff,Nat.reduceAdd,Nat.reduceMul]
 exact fin n1
theorem mayI_iff(n:Int)(i:Ins):mayI n i↔1≤i.op∧i.op≤8∧0≤i.to∧i.to<n∧(¬(i.op=3∨i.op=4)→i.b=0)∧conI i∧∀r,r∈asksI i→0≤r∧r<n:=by
 unfold mayI conI asksI
 by_cases h:i.op=3∨i.op=4
 ·rw[if_pos h,if_neg (by omega),if_neg (by omega),if_pos h]
  simp;omega
 ·rw[if_neg h,if_neg h]
  constructor
  ·rintro⟨a,b,c,d,e,f,g,k⟩
   refine⟨a,b,c,d,fun _=>g,k,fun r hr=>?_⟩
   rw[if_pos ⟨a,b⟩]at hr
   rw[List.mem_singleton.1 hr];exact⟨e,f⟩
  ·rintro⟨a,b,c,d,g,k,m⟩
   rw[if_pos ⟨a,b⟩]at m
   have:=m i.a (by simp)
   exact⟨a,b,c,d,this.1,this.2,g h,k⟩
theorem may_fn(i:Ins)(n:Int):PFn Tryz.prog 163 [InsA i,.int .i64 n] (.bool (decide (mayI n i))):=by
 intro H Q hq
 have bad: ¬mayI n i→∀{p:Nat}{x:Option ABlk},H p=none→SetR Q (.bool false) (H.upd p x):=fun h p x hp=>by
  rw[decide_eq_false h]at hq
  exact SetR.dropTo ((Le.refl H).updB hp) (SetR.now hq)
 have hm:=mayI_iff n i
 have tw:=two_fn (n:=i.op)
 refine enter163 (by simp) ?_
 simp(disch:=first|exact Xe|fail)only[ac163,cells_InsA,↓Xa,Xb,Xc,↓reduceIte,Nat.reduceLT,Nat.reduceEqDiff,Nat.reduceBEq,Nat.reduceLeDiff,Nat.reduceAdd,Nat.reduceMul]
 refine alloc_i fun p1 hp1=>?_
 have n1:=hp1
 by_cases h1:i.op<((1:Nat):Int)
 ·simp(disch:=first|exact Xe|fail)only[lss_int,decide_eq_true h1,rs163,↓Xa,Xb,Xc,↓reduceIte,Nat.reduceLT,Nat.reduceEqDiff,Nat.reduceBEq,Nat.reduceLeDiff,Nat.reduceAdd,Nat.reduceMul]
  exact bad (fun h=>by have:=hm.1 h;omega) n1
 by_cases h2:((8:Nat):Int)<i.op
 ·simp(disch:=first|exact Xe|fail)only[lss_int,gtr_int,decide_eq_false h1,decide_eq_true h2,rs163,↓Xa,Xb,Xc,↓reduceIte,Nat.reduceLT,Nat.reduceEqDiff,Nat.reduceBEq,Nat.reduceLeDiff,Nat.reduceAdd,Nat.reduceMul]
  exact bad (fun h=>by have:=hm.1 h;omega) n1
 by_cases h3:i.to<((0:Nat):Int)
 ·simp(disch:=first|exact Xe|fail)only[lss_int,gtr_int,decide_eq_false h1,decide_eq_false h2,decide_eq_true h3,rs163,↓Xa,Xb,Xc,↓reduceIte,Nat.reduceLT,Nat.reduceEqDiff,Nat.reduceBEq,Nat.reduceLeDiff,Nat.reduceAdd,Nat.reduceMul]
  exact bad (fun h=>by have:=hm.1 h;omega) n1
 by_cases h4:n≤i.to
 ·simp(disch:=first|exact Xe|fail)only[lss_int,gtr_int,geqI,decide_eq_false h1,decide_eq_false h2,decide_eq_false h3,decide_eq_true h4,rs163,↓Xa,Xb,Xc,↓reduceIte,Nat.reduceLT,Nat.reduceEqDiff,Nat.reduceBEq,Nat.reduceLeDiff,Nat.reduceAdd,Nat.reduceMul]
  exact bad (fun h=>by have:=hm.1 h;omega) n1
 simp(disch:=first|exact Xe|fail)only[lss_int,gtr_int,geqI,decide_eq_false h1,decide_eq_false h2,decide_eq_false h3,decide_eq_false h4,↓Xa,Xb,Xc,↓reduceIte,Nat.reduceLT,Nat.reduceEqDiff,Nat.reduceBEq,Nat.reduceLeDiff,Nat.reduceAdd,Nat.reduceMul]
 refine tw.call ?_
 have rest:(¬(i.op=3∨i.op=4)→i.b=0)→conI i→∀M,M=H.upd p1 (some (.row 76 0 [.int .i64 i.op,.int .i64 i.to,.int .i64 i.a,.int .i64 i.b,.int .i64 i.c]))→
  W Tryz.prog (sndC (sndC ac163)) (retN rs163 Q) ⟨[],[(1,.int .i64 n),(2,.ptr p1 5 0)],M⟩:=by
  rintro hb hc M rfl
  have la:(asksI i).length<9223372036854775808:=by unfold asksI;split;simp;split<;>simp
  simp(disch:=first|exact Xe|fail)only[sndC,ac163,fold_InsA,↓Xa,Xb,Xc,↓reduceIte,Nat.reduceLT,Nat.reduceEqDiff,Nat.reduceBEq,Nat.reduceLeDiff,Nat.reduceAdd,Nat.reduceMul]
  refine(asks_fn i (by omega) (by omega)).call ?_
  simp(disch:=first|exact Xe|fail)only[len_OutsA,la,↓Xa,Xb,Xc,↓reduceIte,Nat.reduceLT,Nat.reduceEqDiff,Nat.reduceBEq,Nat.reduceLeDiff,Nat.reduceAdd,Nat.reduceMul]
  refine W_loop (fun s:Nat=>⟨[],[(1,.int .i64 n),(43,OutsA (asksI i) true),(44,.int .i64 (asksI i).length),(45,.int .i64 s)],H.upd p1 (some (.row 76 0 [.int .i64 i.op,.int .i64 i.to,.int .i64 i.a,.int .i64 i.b,.int .i64 i.c]))⟩)
   (fun s=>s≤(asksI i).length∧∀j(h:j<(asksI i).length),j<s→0≤(asksI i)[j]∧(asksI i)[j]<n) (fun s=>(asksI i).length-s) 0 (Settle.now rfl) ⟨Nat.zero_le _,fun j _ h=>absurd h (by omega)⟩ ?_
  rintro s ⟨h5,h6⟩
  by_cases hi:s<(asksI i).length
  ·simp(disch:=first|exact Xe|fail)only[hi,idx_OutsA,load_OutsA,↓Xa,Xb,Xc,↓reduceIte,Nat.reduceLT,Nat.reduceEqDiff,Nat.reduceBEq,Nat.reduceLeDiff,Nat.reduceAdd,Nat.reduceMul]
   have hmem:=List.getElem_mem hi
   have nb: ¬(0≤(asksI i)[s]∧(asksI i)[s]<n)→¬mayI n i:=fun h hm2=>h ((hm.1 hm2).2.2.2.2.2.2 _ hmem)
   by_cases c1:(asksI i)[s]<((0:Nat):Int)
   ·simp(disch:=first|exact Xe|fail)only[lss_int,decide_eq_true c1,rs163,↓Xa,Xb,Xc,↓reduceIte,Nat.reduceLT,Nat.reduceEqDiff,Nat.reduceBEq,Nat.reduceLeDiff,Nat.reduceAdd,Nat.reduceMul]
    exact bad (nb (by omega)) n1
   by_cases c2:n≤(asksI i)[s]
   ·simp(disch:=first|exact Xe|fail)only[lss_int,geqI,decide_eq_false c1,decide_eq_true c2,rs163,↓Xa,Xb,Xc,↓reduceIte,Nat.reduceLT,Nat.reduceEqDiff,Nat.reduceBEq,Nat.reduceLeDiff,Nat.reduceAdd,Nat.reduceMul]
    exact bad (nb (by omega)) n1
   simp(disch:=first|exact Xe|fail)only[lss_int,geqI,decide_eq_false c1,decide_eq_false c2,↓Xa,Xb,Xc,↓reduceIte,Nat.reduceLT,Nat.reduceEqDiff,Nat.reduceBEq,Nat.reduceLeDiff,Nat.reduceAdd,Nat.reduceMul]
   refine Settle.now ⟨s+1,by omega,⟨by omega,fun j hj hjs=>?_⟩,rfl⟩
   by_cases e:j=s
   ·subst e;omega
   ·exact h6 j hj (by omega)
  ·simp(disch:=first|exact Xe|fail)only[hi,↓Xa,Xb,Xc,↓reduceIte,Nat.reduceLT,Nat.reduceEqDiff,Nat.reduceBEq,Nat.reduceLeDiff,Nat.reduceAdd,Nat.reduceMul]
   refine Settle.now ?_
   have hyes:mayI n i:=hm.2 ⟨by omega,by omega,by omega,by omega,hb,hc,fun r hr=>by
    obtain⟨j,hj,rfl⟩:=List.getElem_of_mem hr
    exact h6 j hj (by omega)⟩
   rw[decide_eq_true hyes]at hq
   simp(disch:=first|exact Xe|fail)only[rs163,↓Xa,Xb,Xc,↓reduceIte,Nat.reduceLT,Nat.reduceEqDiff,Nat.reduceBEq,Nat.reduceLeDiff,Nat.reduceAdd,Nat.reduceMul]
   exact SetR.dropTo ((Le.refl H).updB n1) (SetR.now hq)
 have cf:=constant_fn i
 by_cases ht:i.op=3∨i.op=4
 ·rw[decide_eq_true ht]
  by_cases hc:conI i
  ·rw[decide_eq_true hc]at cf
   simp(disch:=first|exact Xe|fail)only[fold_InsA,↓Xa,Xb,Xc,↓reduceIte,Nat.reduceLT,Nat.reduceEqDiff,Nat.reduceBEq,Nat.reduceLeDiff,Nat.reduceAdd,Nat.reduceMul]
   refine cf.call ?_
   have r:=rest (fun h=>absurd ht h) hc _ rfl
   simp(disch:=first|exact Xe|fail)only[sndC,ac163,fold_InsA,↓Xa,Xb,Xc,↓reduceIte,Nat.reduceLT,Nat.reduceEqDiff,Nat.reduceBEq,Nat.reduceLeDiff,Nat.reduceAdd,Nat.reduceMul]at r
   simp(disch:=first|exact Xe|fail)only[fold_InsA,↓Xa,Xb,Xc,↓reduceIte,Nat.reduceLT,Nat.reduceEqDiff,Nat.reduceBEq,Nat.reduceLeDiff,Nat.reduceAdd,Nat.reduceMul]
   exact r
  ·rw[decide_eq_false hc]at cf
   simp(disch:=first|exact Xe|fail)only[fold_InsA,↓Xa,Xb,Xc,↓reduceIte,Nat.reduceLT,Nat.reduceEqDiff,Nat.reduceBEq,Nat.reduceLeDiff,Nat.reduceAdd,Nat.reduceMul]
   refine cf.call ?_
   simp(disch:=first|exact Xe|fail)only[fold_InsA,rs163,↓Xa,Xb,Xc,↓reduceIte,Nat.reduceLT,Nat.reduceEqDiff,Nat.reduceBEq,Nat.reduceLeDiff,Nat.reduceAdd,Nat.reduceMul]
   exact bad (fun h=>hc (hm.1 h).2.2.2.2.2.1) n1
 ·rw[decide_eq_false ht]
  by_cases hb:i.b=((0:Nat):Int)
  ·by_cases hc:conI i
   ·rw[decide_eq_true hc]at cf
    simp(disch:=first|exact Xe|fail)only[neq_int,decide_eq_true hb,fold_InsA,↓Xa,Xb,Xc,↓reduceIte,Nat.reduceLT,Nat.reduceEqDiff,Nat.reduceBEq,Nat.reduceLeDiff,Nat.reduceAdd,Nat.reduceMul]
    refine cf.call ?_
    have r:=rest (fun _=>hb) hc _ rfl
    simp(disch:=first|exact Xe|fail)only[sndC,ac163,fold_InsA,↓Xa,Xb,Xc,↓reduceIte,Nat.reduceLT,Nat.reduceEqDiff,Nat.reduceBEq,Nat.reduceLeDiff,Nat.reduceAdd,Nat.reduceMul]at r
    simp(disch:=first|exact Xe|fail)only[fold_InsA,↓Xa,Xb,Xc,↓reduceIte,Nat.reduceLT,Nat.reduceEqDiff,Nat.reduceBEq,Nat.reduceLeDiff,Nat.reduceAdd,Nat.reduceMul]
    exact r
   ·rw[decide_eq_false hc]at cf
    simp(disch:=first|exact Xe|fail)only[neq_int,decide_eq_true hb,fold_InsA,↓Xa,Xb,Xc,↓reduceIte,Nat.reduceLT,Nat.reduceEqDiff,Nat.reduceBEq,Nat.reduceLeDiff,Nat.reduceAdd,Nat.reduceMul]
    refine cf.call ?_
    simp(disch:=first|exact Xe|fail)only[fold_InsA,rs163,↓Xa,Xb,Xc,↓reduceIte,Nat.reduceLT,Nat.reduceEqDiff,Nat.reduceBEq,Nat.reduceLeDiff,Nat.reduceAdd,Nat.reduceMul]
    exact bad (fun h=>hc (hm.1 h).2.2.2.2.2.1) n1
  ·simp(disch:=first|exact Xe|fail)only[neq_int,decide_eq_false hb,rs163,↓Xa,Xb,Xc,↓reduceIte,Nat.reduceLT,Nat.reduceEqDiff,Nat.reduceBEq,Nat.reduceLeDiff,Nat.reduceAdd,Nat.reduceMul]
   exact bad (fun h=>hb ((hm.1 h).2.2.2.2.1 ht)) n1
theorem check_fn(p:PR)(hp:p.ok): ∃k:Int,PFn Tryz.prog 99 [ProgA p] (.tup [.int .i64 k,.int .i64 (((if rightP p then 0 else 80:Nat)):Int)]):=by
 obtain⟨hp1,hp2,hp3,hp4,hp5,hp6⟩:=hp
 have lc:p.code.length<9223372036854775808:=by omega
 have lo:p.outs.length<9223372036854775808:=by omega
 by_cases hh:headP p
 rotate_left
 ·refine⟨-1,fun H Q hq=>?_⟩
  rw[if_neg (fun h=>hh h.1)]at hq
  have out: ∀(q:Nat)(x:Option ABlk),H q=none→SetR Q (.tup [.int .i64 (-1),.int .i64 ((80:Nat):Int)]) (H.upd q x):=fun q x h=>SetR.dropTo ((Le.refl H).updB h) (SetR.now hq)
  refine enter99 (by simp) ?_
  simp(disch:=first|exact Xe|fail)only[ac99,cells_ProgA,↓Xa,Xb,Xc,↓reduceIte,Nat.reduceLT,Nat.reduceEqDiff,Nat.reduceBEq,Nat.reduceLeDiff,Nat.reduceAdd,Nat.reduceMul]
  refine alloc_i fun p1 hp1=>?_
  have n1:=hp1
  unfold headP at hh
  by_cases h1:p.ins<((1:Nat):Int)
  ·simp(disch:=first|exact Xe|fail)only[lss_int,decide_eq_true h1,rs99,↓Xa,Xb,Xc,↓reduceIte,Nat.reduceLT,Nat.reduceEqDiff,Nat.reduceBEq,Nat.reduceLeDiff,Nat.reduceAdd,Nat.reduceMul]
   exact out _ _ n1
  by_cases h2:p.regs<p.ins
  ·simp(disch:=first|exact Xe|fail)only[lss_int,gtr_int,decide_eq_false h1,decide_eq_true h2,rs99,↓Xa,Xb,Xc,↓reduceIte,Nat.reduceLT,Nat.reduceEqDiff,Nat.reduceBEq,Nat.reduceLeDiff,Nat.reduceAdd,Nat.reduceMul]
   exact out _ _ n1
  by_cases h3:((128:Nat):Int)<p.regs
  ·simp(disch:=first|exact Xe|fail)only[lss_int,gtr_int,decide_eq_false h1,decide_eq_false h2,decide_eq_true h3,rs99,↓Xa,Xb,Xc,↓reduceIte,Nat.reduceLT,Nat.reduceEqDiff,Nat.reduceBEq,Nat.reduceLeDiff,Nat.reduceAdd,Nat.reduceMul]
   exact out _ _ n1
  by_cases h4:((16384:Nat):Int)<((p.code.length:Nat):Int)
  ·simp(disch:=first|exact Xe|fail)only[lss_int,gtr_int,decide_eq_false h1,decide_eq_false h2,decide_eq_false h3,len_CodeA,lc,decide_eq_true h4,rs99,↓Xa,Xb,Xc,↓reduceIte,Nat.reduceLT,Nat.reduceEqDiff,Nat.reduceBEq,Nat.reduceLeDiff,Nat.reduceAdd,Nat.reduceMul]
   exact out _ _ n1
  by_cases h5:((p.outs.length:Nat):Int)<((1:Nat):Int)
  ·simp(disch:=first|exact Xe|fail)only[lss_int,gtr_int,decide_eq_false h1,decide_eq_false h2,decide_eq_false h3,len_CodeA,lc,decide_eq_false h4,len_OutsA,lo,decide_eq_true h5,rs99,↓Xa,Xb,Xc,↓reduceIte,Nat.reduceLT,Nat.reduceEqDiff,Nat.reduceBEq,Nat.reduceLeDiff,Nat.reduceAdd,Nat.reduceMul]
   exact out _ _ n1
  have h6:((128:Nat):Int)<((p.outs.length:Nat):Int):=by
   have:=fun h=>hh h
   omega
  simp(disch:=first|exact Xe|fail)only[lss_int,gtr_int,decide_eq_false h1,decide_eq_false h2,decide_eq_false h3,len_CodeA,lc,decide_eq_false h4,len_OutsA,lo,decide_eq_false h5,decide_eq_true h6,rs99,↓Xa,Xb,Xc,↓reduceIte,Nat.reduceLT,Nat.reduceEqDiff,Nat.reduceBEq,Nat.reduceLeDiff,Nat.reduceAdd,Nat.reduceMul]
  exact out _ _ n1
 ·have hh':=hh
  unfold headP at hh'
  have h1: ¬p.ins<((1:Nat):Int):=by omega
  have h2: ¬p.regs<p.ins:=by omega
  have h3: ¬((128:Nat):Int)<p.regs:=by omega
  have h4: ¬((16384:Nat):Int)<((p.code.length:Nat):Int):=by omega
  have h5: ¬((p.outs.length:Nat):Int)<((1:Nat):Int):=by omega
  have h6: ¬((128:Nat):Int)<((p.outs.length:Nat):Int):=by omega
  have start: ∀{H:AHeap}{Q:AV→AHeap→Prop},(∀p1,H p1=none→W Tryz.prog (sndC (sndC ac99)) (retN rs99 Q) ⟨[],[(1,.ptr p1 4 0)],H.upd p1 (some (.row 25 0 [.int .i64 p.ins,.int .i64 p.regs,CodeA p.code false,OutsA p.outs false]))⟩)→Run Tryz.prog 99 [ProgA p] H Q:=by
   intro H Q hw
   refine enter99 (by simp) ?_
   simp(disch:=first|exact Xe|fail)only[ac99,cells_ProgA,↓Xa,Xb,Xc,↓reduceIte,Nat.reduceLT,Nat.reduceEqDiff,Nat.reduceBEq,Nat.reduceLeDiff,Nat.reduceAdd,Nat.reduceMul]
   refine alloc_i fun p1 hp1=>?_
   have n1:=hp1
   have r:=hw p1 n1
   simp(disch:=first|exact Xe|fail)only[sndC,ac99,len_OutsA,lo,↓Xa,Xb,Xc,↓reduceIte,Nat.reduceLT,Nat.reduceEqDiff,Nat.reduceBEq,Nat.reduceLeDiff,Nat.reduceAdd,Nat.reduceMul]at r
   simp(disch:=first|exact Xe|fail)only[lss_int,gtr_int,decide_eq_false h1,decide_eq_false h2,decide_eq_false h3,len_CodeA,lc,decide_eq_false h4,len_OutsA,lo,decide_eq_false h5,decide_eq_false h6,↓Xa,Xb,Xc,↓reduceIte,Nat.reduceLT,Nat.reduceEqDiff,Nat.reduceBEq,Nat.reduceLeDiff,Nat.reduceAdd,Nat.reduceMul]
   exact r
  by_cases ho: ∀n,n∈p.outs→0≤n∧n<p.regs
  rotate_left
  ·refine⟨-1,fun H Q hq=>start fun p1 n1=>?_⟩
   rw[if_neg (fun h=>ho h.2.1)]at hq
   simp(disch:=first|exact Xe|fail)only[sndC,ac99,len_OutsA,lo,↓Xa,Xb,Xc,↓reduceIte,Nat.reduceLT,Nat.reduceEqDiff,Nat.reduceBEq,Nat.reduceLeDiff,Nat.reduceAdd,Nat.reduceMul]
   refine W_loop (fun s:Nat=>⟨[],[(1,.ptr p1 4 0),(42,OutsA p.outs false),(43,.int .i64 p.outs.length),(44,.int .i64 s)],H.upd p1 (some (.row 25 0 [.int .i64 p.ins,.int .i64 p.regs,CodeA p.code false,OutsA p.outs false]))⟩)
    (fun s=>s≤p.outs.length∧∀j(h:j<p.outs.length),j<s→0≤p.outs[j]∧p.outs[j]<p.regs) (fun s=>p.outs.length-s) 0 (Settle.now rfl) ⟨Nat.zero_le _,fun j _ h=>absurd h (by omega)⟩ ?_
   rintro s ⟨g1,g2⟩
   by_cases hi:s<p.outs.length
   ·simp(disch:=first|exact Xe|fail)only[hi,idx_OutsA,load_OutsA,↓Xa,Xb,Xc,↓reduceIte,Nat.reduceLT,Nat.reduceEqDiff,Nat.reduceBEq,Nat.reduceLeDiff,Nat.reduceAdd,Nat.reduceMul]
    by_cases c1:p.outs[s]<((0:Nat):Int)
    ·simp(disch:=first|exact Xe|fail)only[lss_int,decide_eq_true c1,rs99,↓Xa,Xb,Xc,↓reduceIte,Nat.reduceLT,Nat.reduceEqDiff,Nat.reduceBEq,Nat.reduceLeDiff,Nat.reduceAdd,Nat.reduceMul]
     exact SetR.dropTo ((Le.refl H).updB n1) (SetR.now hq)
    by_cases c2:p.regs≤p.outs[s]
    ·simp(disch:=first|exact Xe|fail)only[lss_int,geqI,decide_eq_false c1,decide_eq_true c2,rs99,↓Xa,Xb,Xc,↓reduceIte,Nat.reduceLT,Nat.reduceEqDiff,Nat.reduceBEq,Nat.reduceLeDiff,Nat.reduceAdd,Nat.reduceMul]
     exact SetR.dropTo ((Le.refl H).updB n1) (SetR.now hq)
    simp(disch:=first|exact Xe|fail)only[lss_int,geqI,decide_eq_false c1,decide_eq_false c2,↓Xa,Xb,Xc,↓reduceIte,Nat.reduceLT,Nat.reduceEqDiff,Nat.reduceBEq,Nat.reduceLeDiff,Nat.reduceAdd,Nat.reduceMul]
    refine Settle.now ⟨s+1,by omega,⟨by omega,fun j hj hjs=>?_⟩,rfl⟩
    by_cases e:j=s
    ·subst e;omega
    ·exact g2 j hj (by omega)
   ·exact absurd (fun n hn=>by
     obtain⟨j,hj,rfl⟩:=List.getElem_of_mem hn
     exact g2 j hj (by omega)) ho
  have start2: ∀{H:AHeap}{Q:AV→AHeap→Prop},(∀p1,H p1=none→W Tryz.prog (sndC (sndC (sndC ac99))) (retN rs99 Q) ⟨[],[(1,.ptr p1 4 0),(42,OutsA p.outs false),(43,.int .i64 p.outs.length),(44,.int .i64 p.outs.length),(45,.bool false)],H.upd p1 (some (.row 25 0 [.int .i64 p.ins,.int .i64 p.regs,CodeA p.code false,OutsA p.outs false]))⟩)→Run Tryz.prog 99 [ProgA p] H Q:=by
   intro H Q hw
   refine start fun p1 n1=>?_
   have r:=hw p1 n1
   simp(disch:=first|exact Xe|fail)only[sndC,ac99,len_CodeA,lc,↓Xa,Xb,Xc,↓reduceIte,Nat.reduceLT,Nat.reduceEqDiff,Nat.reduceBEq,Nat.reduceLeDiff,Nat.reduceAdd,Nat.reduceMul]at r
   simp(disch:=first|exact Xe|fail)only[sndC,ac99,len_OutsA,lo,↓Xa,Xb,Xc,↓reduceIte,Nat.reduceLT,Nat.reduceEqDiff,Nat.reduceBEq,Nat.reduceLeDiff,Nat.reduceAdd,Nat.reduceMul]
   refine W_loop (fun s:Nat=>⟨[],[(1,.ptr p1 4 0),(42,OutsA p.outs false),(43,.int .i64 p.outs.length),(44,.int .i64 s)],H.upd p1 (some (.row 25 0 [.int .i64 p.ins,.int .i64 p.regs,CodeA p.code false,OutsA p.outs false]))⟩)
    (fun s=>s≤p.outs.length) (fun s=>p.outs.length-s) 0 (Settle.now rfl) (Nat.zero_le _) ?_
   rintro s g1
   by_cases hi:s<p.outs.length
   ·have hm:=ho _ (List.getElem_mem hi)
    have c1: ¬p.outs[s]<((0:Nat):Int):=by omega
    have c2: ¬p.regs≤p.outs[s]:=by omega
    simp(disch:=first|exact Xe|fail)only[hi,idx_OutsA,load_OutsA,↓Xa,Xb,Xc,↓reduceIte,Nat.reduceLT,Nat.reduceEqDiff,Nat.reduceBEq,Nat.reduceLeDiff,Nat.reduceAdd,Nat.reduceMul]
    simp(disch:=first|exact Xe|fail)only[lss_int,geqI,decide_eq_false c1,decide_eq_false c2,↓Xa,Xb,Xc,↓reduceIte,Nat.reduceLT,Nat.reduceEqDiff,Nat.reduceBEq,Nat.reduceLeDiff,Nat.reduceAdd,Nat.reduceMul]
    exact Settle.now ⟨s+1,by omega,by omega,rfl⟩
   ·obtain rfl:s=p.outs.length:=by omega
    simp(disch:=first|exact Xe|fail)only[hi,↓Xa,Xb,Xc,↓reduceIte,Nat.reduceLT,Nat.reduceEqDiff,Nat.reduceBEq,Nat.reduceLeDiff,Nat.reduceAdd,Nat.reduceMul]
    refine Settle.now ?_
    simp(disch:=first|exact Xe|fail)only[len_CodeA,lc,↓Xa,Xb,Xc,↓reduceIte,Nat.reduceLT,Nat.reduceEqDiff,Nat.reduceBEq,Nat.reduceLeDiff,Nat.reduceAdd,Nat.reduceMul]
    exact r
  have step: ∀{H:AHeap}{p1 s:Nat},H p1=none→True:=fun _=>trivial
  rcases first_of (P:=fun j=> ∃h:j<p.code.length,¬mayI p.regs (p.code[j])) 0 p.code.length with⟨c,_,hc,⟨hc',hbad⟩,hmin⟩|hall
  ·refine⟨(c:Int),fun H Q hq=>start2 fun p1 n1=>?_⟩
   rw[if_neg (fun h=>hbad (h.2.2 _ (List.getElem_mem hc')))]at hq
   simp(disch:=first|exact Xe|fail)only[sndC,ac99,len_CodeA,lc,↓Xa,Xb,Xc,↓reduceIte,Nat.reduceLT,Nat.reduceEqDiff,Nat.reduceBEq,Nat.reduceLeDiff,Nat.reduceAdd,Nat.reduceMul]
   refine W_loop (fun s:Nat=>⟨[],[(1,.ptr p1 4 0),(58,CodeA p.code false),(59,.int .i64 p.code.length),(60,.int .i64 s)],H.upd p1 (some (.row 25 0 [.int .i64 p.ins,.int .i64 p.regs,CodeA p.code false,OutsA p.outs false]))⟩)
    (fun s=>s≤c) (fun s=>p.code.length-s) 0 (Settle.now rfl) (Nat.zero_le _) ?_
   rintro s g1
   have hs:s<p.code.length:=by omega
   have mf:=may_fn (p.code[s]) p.regs
   simp(disch:=first|exact Xe|fail)only[hs,idx_CodeA,load_CodeA,↓Xa,Xb,Xc,↓reduceIte,Nat.reduceLT,Nat.reduceEqDiff,Nat.reduceBEq,Nat.reduceLeDiff,Nat.reduceAdd,Nat.reduceMul]
   refine alloc_i fun p2 hp2=>?_
   have n2:=hp2
   simp only[upd_none]at n2
   obtain⟨_,n2⟩:=n2
   simp(disch:=first|exact Xe|fail)only[cells_InsA,fold_InsA,↓Xa,Xb,Xc,↓reduceIte,Nat.reduceLT,Nat.reduceEqDiff,Nat.reduceBEq,Nat.reduceLeDiff,Nat.reduceAdd,Nat.reduceMul]
   by_cases e:s=c
   ·subst e
    rw[decide_eq_false hbad]at mf
    refine mf.call ?_
    simp(disch:=first|exact Xe|fail)only[rs99,↓Xa,Xb,Xc,↓reduceIte,Nat.reduceLT,Nat.reduceEqDiff,Nat.reduceBEq,Nat.reduceLeDiff,Nat.reduceAdd,Nat.reduceMul]
    exact SetR.dropTo (((Le.refl H).updB n1).updB n2) (SetR.now hq)
   ·have hok:mayI p.regs (p.code[s]):=Classical.not_not.1 fun h=>hmin s (by omega) (by omega) ⟨hs,h⟩
    rw[decide_eq_true hok]at mf
    refine mf.call ?_
    simp(disch:=first|exact Xe|fail)only[↓Xa,Xb,Xc,↓reduceIte,Nat.reduceLT,Nat.reduceEqDiff,Nat.reduceBEq,Nat.reduceLeDiff,Nat.reduceAdd,Nat.reduceMul]
    refine Settle.dropTo ((Le.refl _).updB (upd_none.2 ⟨by assumption,n2⟩)) ?_
    exact Settle.now ⟨s+1,by omega,by omega,rfl⟩
  ·refine⟨0,fun H Q hq=>start2 fun p1 n1=>?_⟩
   have hok: ∀i,i∈p.code→mayI p.regs i:=fun i hi=>by
    obtain⟨j,hj,rfl⟩:=List.getElem_of_mem hi
    exact Classical.not_not.1 fun h=>hall j (by omega) (by omega) ⟨hj,h⟩
   rw[if_pos ⟨hh,ho,hok⟩]at hq
   simp(disch:=first|exact Xe|fail)only[sndC,ac99,len_CodeA,lc,↓Xa,Xb,Xc,↓reduceIte,Nat.reduceLT,Nat.reduceEqDiff,Nat.reduceBEq,Nat.reduceLeDiff,Nat.reduceAdd,Nat.reduceMul]
   refine W_loop (fun s:Nat=>⟨[],[(1,.ptr p1 4 0),(58,CodeA p.code false),(59,.int .i64 p.code.length),(60,.int .i64 s)],H.upd p1 (some (.row 25 0 [.int .i64 p.ins,.int .i64 p.regs,CodeA p.code false,OutsA p.outs false]))⟩)
    (fun s=>s≤p.code.length) (fun s=>p.code.length-s) 0 (Settle.now rfl) (Nat.zero_le _) ?_
   rintro s g1
   by_cases hs:s<p.code.length
   ·have mf:=may_fn (p.code[s]) p.regs
    rw[decide_eq_true (hok _ (List.getElem_mem hs))]at mf
    simp(disch:=first|exact Xe|fail)only[hs,idx_CodeA,load_CodeA,↓Xa,Xb,Xc,↓reduceIte,Nat.reduceLT,Nat.reduceEqDiff,Nat.reduceBEq,Nat.reduceLeDiff,Nat.reduceAdd,Nat.reduceMul]
    refine alloc_i fun p2 hp2=>?_
    have n2:=hp2
    simp only[upd_none]at n2
    obtain⟨_,n2⟩:=n2
    simp(disch:=first|exact Xe|fail)only[cells_InsA,fold_InsA,↓Xa,Xb,Xc,↓reduceIte,Nat.reduceLT,Nat.reduceEqDiff,Nat.reduceBEq,Nat.reduceLeDiff,Nat.reduceAdd,Nat.reduceMul]
    refine mf.call ?_
    simp(disch:=first|exact Xe|fail)only[↓Xa,Xb,Xc,↓reduceIte,Nat.reduceLT,Nat.reduceEqDiff,Nat.reduceBEq,Nat.reduceLeDiff,Nat.reduceAdd,Nat.reduceMul]
    refine Settle.dropTo ((Le.refl _).updB (upd_none.2 ⟨by assumption,n2⟩)) ?_
    exact Settle.now ⟨s+1,by omega,by omega,rfl⟩
   ·simp(disch:=first|exact Xe|fail)only[hs,↓Xa,Xb,Xc,↓reduceIte,Nat.reduceLT,Nat.reduceEqDiff,Nat.reduceBEq,Nat.reduceLeDiff,Nat.reduceAdd,Nat.reduceMul]
    refine Settle.now ?_
    simp(disch:=first|exact Xe|fail)only[rs99,↓Xa,Xb,Xc,↓reduceIte,Nat.reduceLT,Nat.reduceEqDiff,Nat.reduceBEq,Nat.reduceLeDiff,Nat.reduceAdd,Nat.reduceMul]
    exact SetR.dropTo ((Le.refl H).updB n1) (SetR.now hq)
end Go.Proofs.YtmndejlpfmmaiaaGreatDoor.Fw
namespace Go.Proofs.YtmndejlpfmmaiaaGreatDoor.Ma
def tz(n:Nat):Nat:=if h:n=0∨n%2=1 then 0 else tz (n / 2)+1
termination_by n
decreasing_by omega
theorem tz_odd{n:Nat}(h:n%2=1):tz n=0:=by rw[tz];simp[h]
theorem tz_zero:tz 0=0:=by rw[tz];simp
theorem tz_two{n:Nat}(h:0<n):tz (2*n)=tz n+1:=by
 rw[tz,dif_neg (by omega),Nat.mul_div_cancel_left _ (by omega)]
theorem tz_eq(k m:Nat):tz (2^k*(2*m+1))=k:=by
 induction k with
 |zero=>rw[Nat.pow_zero,Nat.one_mul];exact tz_odd (by omega)
 |succ k ih=>
  have e:2^(k+1)*(2*m+1)=2*(2^k*(2*m+1)):=by rw[Nat.pow_succ,Nat.mul_comm (2^k) 2,Nat.mul_assoc]
  rw[e,tz_two (Nat.mul_pos (Nat.pow_pos (by omega)) (by omega)),ih]
theorem tz_spec(n:Nat):0<n→∃m,n=2^tz n*(2*m+1):=by
 induction n using Nat.strongRecOn with
 |_ n ih=>
  intro h
  by_cases ho:n%2=1
  ·exact⟨n / 2,by rw[tz_odd ho,Nat.pow_zero,Nat.one_mul];omega⟩
  ·obtain⟨m,hm⟩:=ih (n / 2) (by omega) (by omega)
   have e:n=2*(n / 2):=by omega
   refine⟨m,?_⟩
   have e2:tz n=tz (n / 2)+1:=by
    conv=>lhs;rw[e]
    exact tz_two (by omega)
   rw[e2,Nat.pow_succ,Nat.mul_comm (2^_) 2,Nat.mul_assoc,← hm]
   exact e
theorem tz_lt{n k:Nat}(h:0<n)(hn:n<2^k):tz n<k:=by
 obtain⟨m,hm⟩:=tz_spec n h
 have h1:2^tz n≤n:=by
  conv=>rhs;rw[hm]
  exact Nat.le_mul_of_pos_right _ (by omega)
 exact(Nat.pow_lt_pow_iff_right (by omega)).1 (Nat.lt_of_le_of_lt h1 hn)
theorem and_neg{x:Nat}(h:0<x)(hx:x<4294967296):x &&& (4294967296-x)=2^tz x:=by
 obtain⟨m,hm⟩:=tz_spec x h
 have hk:=tz_lt (k:=32) h hx
 generalize tz x=k at*
 have hp:(4294967296:Nat)=2^k*2^(32-k):=by rw[← Nat.pow_add,show k+(32-k)=32 by omega]
 have hlt:2*m+1<2^(32-k):=by
  rw[hm,hp]at hx
  exact Nat.lt_of_mul_lt_mul_left hx
 obtain⟨j,hj⟩: ∃j,32-k=j+1:=⟨31-k,by omega⟩
 rw[hj]at hlt hp
 have hm2:m<2^j:=by rw[Nat.pow_succ]at hlt;omega
 have e1:x=(2*m+1) <<< k:=by rw[Nat.shiftLeft_eq,hm,Nat.mul_comm]
 have e2:4294967296-x=(2*(2^j-(m+1))+1) <<< k:=by
  rw[Nat.shiftLeft_eq,hm,hp,← Nat.mul_sub,Nat.mul_comm]
  congr 1
  rw[Nat.pow_succ];omega
 rw[e2]
 conv=>lhs;lhs;rw[e1]
 rw[← Nat.shiftLeft_and_distrib,Nat.shiftLeft_eq]
 have e3:(2*m+1) &&& (2*(2^j-(m+1))+1)=1:=by
  apply Nat.eq_of_testBit_eq
  intro i
  rw[Nat.testBit_and]
  cases i with
  |zero=>simp
  |succ i=>
   have a1:(2*m+1).testBit (i+1)=m.testBit i:=by rw[Nat.testBit_succ];congr 1;omega
   have a2:(2*(2^j-(m+1))+1).testBit (i+1)=(2^j-(m+1)).testBit i:=by rw[Nat.testBit_succ];congr 1;omega
   rw[a1,a2,Nat.testBit_two_pow_sub_succ hm2]
   cases m.testBit i<;>simp[Nat.testBit_succ]
 rw[e3,Nat.one_mul]
def deB:List Nat:=[0,1,28,2,29,14,24,3,30,22,20,15,25,17,4,8,31,27,13,23,21,19,16,7,26,12,18,6,11,5,10,9]
theorem deB_at{k:Nat}(h:k<32):deB.getD (2^k*125613361%4294967296 / 134217728) 0=k:=by
 have: ∀k,k<32→deB.getD (2^k*125613361%4294967296 / 134217728) 0=k:=by decide
 exact this k h
theorem deB_lt{k:Nat}(h:k<32):2^k*125613361%4294967296 / 134217728<32:=by omega
theorem tz_limbs{a:List Nat}{i:Nat}(ha:Lim 4294967296 a)(hi:i<a.length)(h0:val 4294967296 (a.take i)=0)(hx:0<a.getD i 0):tz (val 4294967296 a)=32*i+tz (a.getD i 0)∧0<val 4294967296 a:=by
 have hxl:=ha.getD (by omega) i
 have hk:=tz_lt (k:=32) hx hxl
 obtain⟨m,hm⟩:=tz_spec _ hx
 have e:=val_split 4294967296 a i (by omega)
 rw[h0,Nat.zero_add,val_drop 4294967296 hi]at e
 generalize a.getD i 0=x at*
 generalize val 4294967296 (a.drop (i+1))=r at*
 generalize tz x=k at*
 obtain⟨j,hj⟩: ∃j,32=k+(j+1):=⟨31-k,by omega⟩
 have e2:val 4294967296 a=2^(32*i+k)*(2*(m+2^j*r)+1):=by
  rw[e,hm,show(4294967296:Nat)=2^32 from rfl,← Nat.pow_mul,Nat.pow_add,Nat.mul_assoc]
  congr 1
  conv=>lhs;rw[hj]
  rw[Nat.pow_add,Nat.pow_succ,Nat.mul_assoc,← Nat.mul_add]
  congr 1
  rw[Nat.mul_add 2,← Nat.mul_assoc 2,Nat.mul_comm 2 (2^j)]
  omega
 exact⟨by rw[e2,tz_eq],by rw[e2];exact Nat.mul_pos (Nat.pow_pos (by omega)) (by omega)⟩
end Go.Proofs.YtmndejlpfmmaiaaGreatDoor.Ma
namespace Go.Proofs.YtmndejlpfmmaiaaGreatDoor.Fw
open Go Go.Proofs.YtmndejlpfmmaiaaGreatDoor.Ma
set_option maxRecDepth 20000
def tabC:List AV:=deB.map fun(n:Nat)=>AV.int .u8 (n:Int)
def TzH(H:AHeap):Prop:=H 0=some (.glob 0 tabC)
theorem TzH.le{H H':AHeap}(h:TzH H)(hl:Le H H'):TzH H':=hl _ _ h
theorem tab_get{i:Nat}(h:i<32):(tabC.drop i).take 1=[.int .u8 ((deB.getD i 0:Nat):Int)]:=by
 have hl:tabC.length=32:=rfl
 rw[List.drop_eq_getElem_cons (by omega),List.take_succ_cons,List.take_zero]
 simp only[tabC,List.getElem_map]
 rw[List.getD_eq_getElem?_getD,List.getElem?_eq_getElem (show i<deB.length from h),Option.getD_some]
theorem gixP_k{g n es i:Nat}{K:AV→Prop}{cells:List AV}(h:i<n):gixP g n es K (i:Int) (some (.glob g cells))=K (.ptr g cells.length (i*es)):=by
 simp[gixP,h]
theorem tz32_run{H:AHeap}{x:Nat}{K:AV→AHeap→Prop}(hH:TzH H)(h0:0<x)(hx:x<4294967296)(k:K (.int .i64 ((tz x:Nat):Int)) H):Run Tryz.prog 225 [.int .u32 (x:Int)] H K:=by
 refine enter225 (by simp) ?_
 have hH':H 0=some (.glob 0 tabC):=hH
 have hk:=tz_lt (k:=32) h0 hx
 have hlt:=deB_lt hk
 have hat:=deB_at hk
 have han:=and_neg h0 hx
 generalize tz x=t at*
 have hne: ¬x=0:=by omega
 have c1: ∀K,unW .neg (.int .u32 (x:Int)) K↔K (.int .u32 ((4294967296-x:Nat):Int)):=fun K=>by
  simp only[unW,wmod_u32];rw[show(0-(x:Int))%4294967296=((4294967296-x:Nat):Int) by omega]
 have c2: ∀K,binW .and (.int .u32 (x:Int)) (.int .u32 ((4294967296-x:Nat):Int)) K↔K (.int .u32 ((2^t:Nat):Int)):=fun K=>by
  rw[bin_and .u32 (by simp[IntKind.bits];omega) (by simp[IntKind.bits];omega),han,wn_u32 (by
   have:2^t<2^32:=Nat.pow_lt_pow_right (by omega) hk
   omega)]
 simp(disch:=first|exact Xe|fail)only[ac225,hne,c1,c2,hH',gixP_k,ldP_glob,↓Xa,Xb,Xc,↓reduceIte,Nat.reduceLT,Nat.reduceEqDiff,Nat.reduceBEq,Nat.reduceLeDiff,Nat.reduceAdd,Nat.reduceMul]
 have e27:(2:Nat)^27=134217728:=by decide
 rw[e27]
 have hl:tabC.length=32:=rfl
 refine⟨by omega,?_⟩
 rw[tab_get hlt,hat]
 simp(disch:=first|exact Xe|fail)only[rs225,↓Xa,Xb,Xc,↓reduceIte,Nat.reduceLT,Nat.reduceEqDiff,Nat.reduceBEq,Nat.reduceLeDiff,Nat.reduceAdd,Nat.reduceMul]
 exact SetR.now k
theorem val_take_zeros{a:List Nat}{i:Nat}(h:val 4294967296 (a.take i)=0)(h0:a.getD i 0=0):val 4294967296 (a.take (i+1))=0:=by
 rw[val_take,h,h0];omega
theorem twos_run{H:AHeap}{a:List Nat}{t:Bool}{K:AV→AHeap→Prop}(hH:TzH H)(ha:Lim 4294967296 a)(hl:a.length≤1099511627776)(k:K (.int .i64 ((tz (val 4294967296 a):Nat):Int)) H):Run Tryz.prog 235 [LS a t] H K:=by
 refine enter235 (by simp) ?_
 simp(disch:=first|exact Xe|fail)only[ac235,↓Xa,Xb,Xc,↓reduceIte,Nat.reduceLT,Nat.reduceEqDiff,Nat.reduceBEq,Nat.reduceLeDiff,Nat.reduceAdd,Nat.reduceMul]
 refine W_loop (fun i:Nat=>⟨[],[(5,LS a t),(6,.int .i64 (a.length:Nat)),(7,.int .i64 (i:Nat))],H⟩) (fun i=>i≤a.length∧val 4294967296 (a.take i)=0) (fun i=>a.length-i) 0 (Settle.now rfl) ⟨by simp,by simp[val]⟩ ?_
 rintro i ⟨h1,h2⟩
 by_cases hi:i<a.length
 ·have hxl:=ha.getD (by omega) i
  by_cases hx:0<a.getD i 0
  ·obtain⟨e1,e2⟩:=tz_limbs ha hi h2 hx
   have hk:=tz_lt (k:=32) hx hxl
   simp(disch:=first|exact Xe|fail)only[hi,hx,↓Xa,Xb,Xc,↓reduceIte,Nat.reduceLT,Nat.reduceEqDiff,Nat.reduceBEq,Nat.reduceLeDiff,Nat.reduceAdd,Nat.reduceMul]
   refine run_call (tz32_run hH hx hxl ?_)
   rw[e1]at k
   simp(disch:=first|exact Xe|fail)only[rs235,↓Xa,Xb,Xc,↓reduceIte,Nat.reduceLT,Nat.reduceEqDiff,Nat.reduceBEq,Nat.reduceLeDiff,Nat.reduceAdd,Nat.reduceMul]
   exact SetR.now k
  ·have hx0:a.getD i 0=0:=by omega
   simp(disch:=first|exact Xe|fail)only[hi,hx,↓Xa,Xb,Xc,↓reduceIte,Nat.reduceLT,Nat.reduceEqDiff,Nat.reduceBEq,Nat.reduceLeDiff,Nat.reduceAdd,Nat.reduceMul]
   exact Settle.now ⟨i+1,by omega,⟨by omega,val_take_zeros h2 hx0⟩,rfl⟩
 ·rw[List.take_of_length_le (by omega)]at h2
  rw[h2,tz_zero]at k
  simp(disch:=first|exact Xe|fail)only[hi,↓Xa,Xb,Xc,↓reduceIte,Nat.reduceLT,Nat.reduceEqDiff,Nat.reduceBEq,Nat.reduceLeDiff,Nat.reduceAdd,Nat.reduceMul]
  refine Settle.now ?_
  simp(disch:=first|exact Xe|fail)only[rs235,↓Xa,Xb,Xc,↓reduceIte,Nat.reduceLT,Nat.reduceEqDiff,Nat.reduceBEq,Nat.reduceLeDiff,Nat.reduceAdd,Nat.reduceMul]
  exact SetR.now k
def twV(x:Int):Int:=if x=0 then -1 else((tz x.natAbs:Nat):Int)
theorem itwos_run{H:AHeap}{Q:AV→AHeap→Prop}{x:Int}{k:Nat}(hH:TzH H)(hx:Bd k x)(hk:k≤1000000)(hq:Q (.int .i64 (twV x)) H):Run Tryz.prog 223 [IntA x] H Q:=by
 have hl:=hx.len
 refine enter223 (by simp) ?_
 simp(disch:=first|exact Xe|fail)only[ac223,cells_IntA,↓Xa,Xb,Xc,↓reduceIte,Nat.reduceLT,Nat.reduceEqDiff,Nat.reduceBEq,Nat.reduceLeDiff,Nat.reduceAdd,Nat.reduceMul]
 refine alloc_i fun p1 hp1=>?_
 have n1:=hp1
 have fin: ∀{v:AV}{a:Option ABlk},Q v H→SetR Q v (H.upd p1 a):=fun h=>SetR.dropTo ((Le.refl H).updB n1) (SetR.now h)
 simp(disch:=first|exact Xe|fail)only[fold_IntA,↓Xa,Xb,Xc,↓reduceIte,Nat.reduceLT,Nat.reduceEqDiff,Nat.reduceBEq,Nat.reduceLeDiff,Nat.reduceAdd,Nat.reduceMul]
 refine(sign_fn hx (by omega)).call ?_
 unfold twV at hq
 by_cases h0:x=0
 ·rw[if_pos h0]at hq
  have e:decide (x=0)=true:=decide_eq_true h0
  simp(disch:=first|exact Xe|fail)only[sgn_eql0,e,rs223,↓Xa,Xb,Xc,↓reduceIte,Nat.reduceLT,Nat.reduceEqDiff,Nat.reduceBEq,Nat.reduceLeDiff,Nat.reduceAdd,Nat.reduceMul]
  exact fin hq
 ·rw[if_neg h0]at hq
  have e:decide (x=0)=false:=decide_eq_false h0
  simp(disch:=first|exact Xe|fail)only[sgn_eql0,e,cell_IntB,cell_IntD,cell_Bool,cell_Dool,↓Xa,Xb,Xc,↓reduceIte,Nat.reduceLT,Nat.reduceEqDiff,Nat.reduceBEq,Nat.reduceLeDiff,Nat.reduceAdd,Nat.reduceMul]
  refine run_call (twos_run (hH.le ((Le.refl H).updB n1)) (lim_digs (by omega) _) (by omega) ?_)
  rw[val_digs (by omega)]
  simp(disch:=first|exact Xe|fail)only[rs223,↓Xa,Xb,Xc,↓reduceIte,Nat.reduceLT,Nat.reduceEqDiff,Nat.reduceBEq,Nat.reduceLeDiff,Nat.reduceAdd,Nat.reduceMul]
  exact fin hq
theorem shl_bd{x:Int}{n k:Nat}(hx:Bd k x)(hn:n≤32*(k+2048))(j:Nat)(hj:n≤32*j):Bd (k+(j+1)) (x*2^n):=by
 refine Bd.mul hx ?_
 unfold Bd
 rw[Int.natAbs_pow,show(4294967296:Nat)=2^32 from rfl,← Nat.pow_mul]
 exact Nat.pow_lt_pow_right (by omega) (by omega)
theorem sg_shl{x:Int}{n:Nat}:sg (decide (x<0)) (x.natAbs*2^n)=x*2^n:=by
 have h:((x.natAbs*2^n:Nat):Int)=(x.natAbs:Int)*2^n:=by push_cast;rfl
 unfold sg
 by_cases hx:x<0
 ·rw[decide_eq_true hx,if_pos rfl,h,← Int.neg_mul];congr 1;omega
 ·rw[decide_eq_false hx,if_neg (by simp),h];congr 1;omega
theorem ishl_fn{x:Int}{n k:Nat}(hx:Bd k x)(hk:k≤1000000)(hn:n≤65536):PFn Tryz.prog 174 [IntA x,.int .i64 (n:Int)] (.tup [IntA (x*2^n),.int .i64 ((0:Nat):Int)]):=by
 intro H Q hq
 have hl:=hx.len
 have hbs:=(shl_bd hx (n:=n) (by omega) 2048 (by omega)).len
 have hbe:(x*2^n).natAbs=x.natAbs*2^n:=by rw[← sg_shl,sg_abs]
 rw[hbe]at hbs
 refine enter174 (by simp) ?_
 simp(disch:=first|exact Xe|fail)only[ac174,cells_IntA,↓Xa,Xb,Xc,↓reduceIte,Nat.reduceLT,Nat.reduceEqDiff,Nat.reduceBEq,Nat.reduceLeDiff,Nat.reduceAdd,Nat.reduceMul]
 refine alloc_i fun p1 hp1=>?_
 have n1:=hp1
 simp(disch:=first|exact Xe|fail)only[↓Xa,Xb,Xc,↓reduceIte,Nat.reduceLT,Nat.reduceEqDiff,Nat.reduceBEq,Nat.reduceLeDiff,Nat.reduceAdd,Nat.reduceMul]
 refine alloc_i fun p2 hp2=>?_
 have n2:=hp2
 simp only[upd_none]at n2
 obtain⟨_,n2⟩:=n2
 have fin: ∀{v:AV}{a b:Option ABlk},Q v H→SetR Q v ((H.upd p1 a).upd p2 b):=fun h=>SetR.dropTo (((Le.refl H).updB n1).updB n2) (SetR.now h)
 simp(disch:=first|exact Xe|fail)only[IntD,IntB,↓Xa,Xb,Xc,↓reduceIte,Nat.reduceLT,Nat.reduceEqDiff,Nat.reduceBEq,Nat.reduceLeDiff,Nat.reduceAdd,Nat.reduceMul]
 refine(shl_fn true (lim_digs (by omega) _) hn (by omega)).call ?_
 rw[val_digs (by omega)]
 simp(disch:=first|exact Xe|fail)only[IntD,IntB,↓Xa,Xb,Xc,↓reduceIte,Nat.reduceLT,Nat.reduceEqDiff,Nat.reduceBEq,Nat.reduceLeDiff,Nat.reduceAdd,Nat.reduceMul]
 refine(made_fn _ _ (by omega)).call ?_
 rw[sg_shl]
 simp(disch:=first|exact Xe|fail)only[cells_IntA,fold_IntA,rs174,↓Xa,Xb,Xc,↓reduceIte,Nat.reduceLT,Nat.reduceEqDiff,Nat.reduceBEq,Nat.reduceLeDiff,Nat.reduceAdd,Nat.reduceMul]
 exact fin hq
theorem sg_shr{x:Int}{n:Nat}(h:(2:Int)^n ∣ x):sg (decide (x<0)) (x.natAbs / 2^n)=x / 2^n:=by
 obtain⟨y,rfl⟩:=h
 have hp:(0:Int)<2^n:=Int.pow_pos (by omega)
 rw[Int.mul_ediv_cancel_left _ (by omega),Int.natAbs_mul,Int.natAbs_pow,show(2:Int).natAbs=2 from rfl,Nat.mul_div_cancel_left _ (Nat.pow_pos (by omega))]
 have:decide (2^n*y<0)=decide (y<0):=decide_eq_decide.2 ⟨fun h=>by
  by_cases h0:y<0
  ·exact h0
  ·exact absurd (Int.mul_nonneg (Int.le_of_lt hp) (by omega:0≤y)) (by omega),fun h=>Int.mul_neg_of_pos_of_neg hp h⟩
 rw[this,sg_self]
theorem dvd_tz{x:Int}{n:Nat}(h0:x≠0):(2:Int)^n ∣ x↔n≤tz x.natAbs:=by
 have hp:0<x.natAbs:=by omega
 rw[show((2:Int)^n ∣ x)↔2^n ∣ x.natAbs by rw[← Int.natAbs_dvd_natAbs,Int.natAbs_pow];rfl]
 obtain⟨m,hm⟩:=tz_spec x.natAbs hp
 constructor
 ·intro h
  apply Nat.le_of_not_lt
  intro hlt
  have h1:2^(tz x.natAbs+1) ∣ x.natAbs:=Nat.dvd_trans (Nat.pow_dvd_pow 2 hlt) h
  rw[hm,tz_eq,Nat.pow_succ]at h1
  have h2:=(Nat.mul_dvd_mul_iff_left (Nat.pow_pos (n:=tz x.natAbs) (show 0<2 by omega))).1 h1
  omega
 ·intro h
  rw[hm]
  exact Nat.dvd_trans (Nat.pow_dvd_pow 2 h) (Nat.dvd_mul_right _ _)
def shrR(x:Int)(n:Int):AV:=
 if n<0 then .tup [IntA 0,.int .i64 ((2:Nat):Int)]else if x=0 then .tup [IntA 0,.int .i64 ((0:Nat):Int)]
 else if twV x<n then .tup [IntA 0,.int .i64 ((20:Nat):Int)]else .tup [IntA (x / 2^n.toNat),.int .i64 ((0:Nat):Int)]
theorem ishr_run{H:AHeap}{Q:AV→AHeap→Prop}{x n:Int}{k:Nat}(hH:TzH H)(hx:Bd k x)(hk:k≤1000000)(hn:n<9223372036854775808)(hq:Q (shrR x n) H):Run Tryz.prog 176 [IntA x,.int .i64 n] H Q:=by
 have hl:=hx.len
 refine enter176 (by simp) ?_
 simp(disch:=first|exact Xe|fail)only[ac176,cells_IntA,↓Xa,Xb,Xc,↓reduceIte,Nat.reduceLT,Nat.reduceEqDiff,Nat.reduceBEq,Nat.reduceLeDiff,Nat.reduceAdd,Nat.reduceMul]
 refine alloc_i fun p1 hp1=>?_
 have n1:=hp1
 simp(disch:=first|exact Xe|fail)only[↓Xa,Xb,Xc,↓reduceIte,Nat.reduceLT,Nat.reduceEqDiff,Nat.reduceBEq,Nat.reduceLeDiff,Nat.reduceAdd,Nat.reduceMul]
 refine alloc_i fun p2 hp2=>?_
 have n2:=hp2
 simp only[upd_none]at n2
 obtain⟨_,n2⟩:=n2
 have fin: ∀{v:AV}{a b:Option ABlk},Q v H→SetR Q v ((H.upd p1 a).upd p2 b):=fun h=>SetR.dropTo (((Le.refl H).updB n1).updB n2) (SetR.now h)
 have hT: ∀a b,TzH ((H.upd p1 a).upd p2 b):=fun a b=>hH.le (((Le.refl H).updB n1).updB n2)
 unfold shrR at hq
 by_cases h1:n<0
 ·rw[if_pos h1]at hq
  have e:decide (n<0)=true:=decide_eq_true h1
  simp(disch:=first|exact Xe|fail)only[lss_neg,e,IntA_0,cells_IntA,fold_IntA,rs176,↓Xa,Xb,Xc,↓reduceIte,Nat.reduceLT,Nat.reduceEqDiff,Nat.reduceBEq,Nat.reduceLeDiff,Nat.reduceAdd,Nat.reduceMul]
  exact fin hq
 rw[if_neg h1]at hq
 have e1:decide (n<0)=false:=decide_eq_false h1
 simp(disch:=first|exact Xe|fail)only[lss_neg,e1,fold_IntA,↓Xa,Xb,Xc,↓reduceIte,Nat.reduceLT,Nat.reduceEqDiff,Nat.reduceBEq,Nat.reduceLeDiff,Nat.reduceAdd,Nat.reduceMul]
 refine(sign_fn hx (by omega)).call ?_
 by_cases h2:x=0
 ·rw[if_pos h2]at hq
  have e:decide (x=0)=true:=decide_eq_true h2
  simp(disch:=first|exact Xe|fail)only[sgn_eql0,e,IntA_0,cells_IntA,fold_IntA,rs176,↓Xa,Xb,Xc,↓reduceIte,Nat.reduceLT,Nat.reduceEqDiff,Nat.reduceBEq,Nat.reduceLeDiff,Nat.reduceAdd,Nat.reduceMul]
  exact fin hq
 rw[if_neg h2]at hq
 have e2:decide (x=0)=false:=decide_eq_false h2
 simp(disch:=first|exact Xe|fail)only[sgn_eql0,e2,fold_IntA,↓Xa,Xb,Xc,↓reduceIte,Nat.reduceLT,Nat.reduceEqDiff,Nat.reduceBEq,Nat.reduceLeDiff,Nat.reduceAdd,Nat.reduceMul]
 refine run_call (itwos_run (hT _ _) hx hk ?_)
 have c3: ∀K,binW .lss (.int .i64 (twV x)) (.int .i64 n) K↔K (.bool (decide (twV x<n))):=fun K=>by
  simp only[binW,binInt,true_and]
 by_cases h3:twV x<n
 ·rw[if_pos h3]at hq
  rw[decide_eq_true h3]at c3
  simp(disch:=first|exact Xe|fail)only[c3,IntA_0,cells_IntA,fold_IntA,rs176,↓Xa,Xb,Xc,↓reduceIte,Nat.reduceLT,Nat.reduceEqDiff,Nat.reduceBEq,Nat.reduceLeDiff,Nat.reduceAdd,Nat.reduceMul]
  exact fin hq
 ·rw[if_neg h3]at hq
  rw[decide_eq_false h3]at c3
  obtain⟨m,rfl⟩: ∃m:Nat,n=(m:Int):=⟨n.toNat,by omega⟩
  have hd:(2:Int)^m ∣ x:=(dvd_tz h2).2 (by unfold twV at h3;rw[if_neg h2]at h3;omega)
  have hle:(digs 4294967296 (x.natAbs / 2^m)).length≤k:=digs_len (by omega) _ _ (Nat.lt_of_le_of_lt (Nat.div_le_self _ _) hx)
  simp(disch:=first|exact Xe|fail)only[c3,IntD,IntB,↓Xa,Xb,Xc,↓reduceIte,Nat.reduceLT,Nat.reduceEqDiff,Nat.reduceBEq,Nat.reduceLeDiff,Nat.reduceAdd,Nat.reduceMul]
  refine(shr_fn true (lim_digs (by omega) _) (by omega) (by omega)).call ?_
  rw[val_digs (by omega)]
  simp(disch:=first|exact Xe|fail)only[IntD,IntB,↓Xa,Xb,Xc,↓reduceIte,Nat.reduceLT,Nat.reduceEqDiff,Nat.reduceBEq,Nat.reduceLeDiff,Nat.reduceAdd,Nat.reduceMul]
  refine(made_fn _ _ (by omega)).call ?_
  rw[sg_shr hd]
  simp(disch:=first|exact Xe|fail)only[cells_IntA,fold_IntA,rs176,↓Xa,Xb,Xc,↓reduceIte,Nat.reduceLT,Nat.reduceEqDiff,Nat.reduceBEq,Nat.reduceLeDiff,Nat.reduceAdd,Nat.reduceMul]
  exact fin hq
theorem isAt_of_good{m:List UInt8}(neg:Bool)(hg:Good m)(h0:neg=true→(m.getD 0 0).toNat≠48):
 iFrom ((if neg then[45]else[])++m)=(if neg then 1 else 0)∧IsAt ((if neg then[45]else[])++m) ((if neg then[45]else[])++m).length∧((if neg then[45]else[])++m).drop (iFrom ((if neg then[45]else[])++m))=m:=by
 obtain⟨g1,g2,g3⟩:=hg
 have hpos:0<m.length:=List.length_pos_iff.2 g1
 have dig: ∀i,i<m.length→48≤(m.getD i 0).toNat∧(m.getD i 0).toNat≤57:=fun i hi=>by
  have:=g2 _ (List.getElem_mem hi)
  rw[List.getD_eq_getElem?_getD,List.getElem?_eq_getElem hi,Option.getD_some];exact this
 have hf:iFrom ((if neg then[45]else[])++m)=(if neg then 1 else 0):=by
  cases neg with
  |true=>simp[iFrom]
  |false=>
   have:=dig 0 hpos
   simp only[iFrom,Bool.false_eq_true,if_false,List.nil_append]
   rw[if_neg (by omega)]
 refine⟨hf,⟨(iFrom_le _).1,Nat.le_refl _,iBad_end _,fun j h1 h2 hb=>?_⟩,?_⟩
 ·rw[hf]at h1
  unfold iBad at hb
  rw[hf]at hb
  cases neg with
  |true=>
   simp only[if_true,List.length_append,List.length_cons,List.length_nil]at h1 h2 hb
   obtain⟨i,rfl⟩: ∃i,j=i+1:=⟨j-1,by omega⟩
   have e:([45]++m).getD (i+1) 0=m.getD i 0:=by simp[List.getD_eq_getElem?_getD]
   have e1:([45]++m).getD 1 0=m.getD 0 0:=by simp[List.getD_eq_getElem?_getD]
   have d:=dig i (by omega)
   have:=h0 rfl
   rw[e,e1]at hb
   rcases hb with hb|hb|⟨hb,_⟩|⟨hb,_,hb2⟩
   ·omega
   ·omega
   ·omega
   ·have:i=0:=by omega
    subst this;omega
  |false=>
   simp only[Bool.false_eq_true,if_false,List.nil_append]at h1 h2 hb
   have d:=dig j h2
   rcases hb with hb|hb|⟨hb,hb2⟩|⟨_,hb,_⟩
   ·omega
   ·omega
   ·rcases g3 with g3|g3
    ·omega
    ·exact g3 hb2
   ·omega
 ·rw[hf];cases neg<;>simp
theorem iText_at(x:Int):IsAt (iText x) (iText x).length∧(iText x).length≠iFrom (iText x)∧iVal (iText x)=x:=by
 have hg:=good_decT x.natAbs
 have hpos:0<(decT x.natAbs).length:=List.length_pos_iff.2 hg.1
 have h0:decide (x<0)=true→((decT x.natAbs).getD 0 0).toNat≠48:=fun h hz=>by
  have h:=of_decide_eq_true h
  rcases hg.2.2 with g|g
  ·have hd:decT x.natAbs=[48]:=by
    match hm:decT x.natAbs,g with
    |[b],_=>
     rw[hm]at hz
     have hz2:b.toNat=48:=by simpa using hz
     have:b=48:=UInt8.toNat_inj.1 hz2
     rw[this]
   have:=decV_decT x.natAbs
   rw[hd]at this
   have e:decV [48]=0:=rfl
   omega
  ·exact g hz
 obtain⟨a,b,c⟩:=isAt_of_good (decide (x<0)) hg h0
 have e:(if decide (x<0)then[45]else[])++decT x.natAbs=iText x:=by simp[iText]
 rw[e]at a b c
 refine⟨b,?_,?_⟩
 ·intro k
  have:=congrArg List.length c
  rw[List.length_drop,← k]at this
  omega
 ·unfold iVal
  rw[c,decV_decT,a]
  by_cases h:x<0<;>simp[h,sg]<;>omega
end Go.Proofs.YtmndejlpfmmaiaaGreatDoor.Fw
namespace Go.Proofs.YtmndejlpfmmaiaaGreatDoor.Fw
open Go
set_option maxRecDepth 100000
def ac7:ACode:=Js [Jo 2 (.box 25 0 (.t 0)),Jo 4 (.mov (.k (.bool false)))] [1,2] (.seq (Js [Jo 18 (Jc 23 []),Jo 19 (.un .not (.t 18))] [1,2,19] (.cond (.t 19) (Js [Jo 4 (.mov (.k (.bool false)))] [4] .ret) .skip)) (.seq (Js [Jo 20 (.load (some 4) (.t 2)),Jm 21 1,Jo 22 (Jc 24 [.t 20,.t 21])] [1,2,22] (.cond (.t 22) (Js [Jo 4 (.mov (.k (.bool true)))] [4] .ret) .skip)) (Js [Jm 23 1,Jo 24 (Jc 25 [.t 23]),Jm 5 24] [2,5] (Js [Jo 26 (.load (some 4) (.t 2)),Jm 27 5,Jo 28 (Jc 26 [.t 26,.t 27]),Jm 25 28,Je 29 25 0,Je 30 25 1,Je 31 25 2,Jm 6 29,Jm 7 30,Jm 8 31] [2,5,6,7,8] (.seq (Js [Jm 32 8,Jo 33 (.bin .neq (.t 32) (Jk 0)),Jm 34 33,⟨some 35,some (34,true),.mov (.t 8)⟩,⟨some 36,some (34,true),.bin .neq (.t 35) (Jk 20)⟩,Jo 37 (.pick (.t 34) (.t 36) (.k (.bool false)))] [2,5,6,7,8,37] (.cond (.t 37) (Js [Jm 38 6,Jv 39 38,Jo 40 (.bin .eql (.t 39) (Jk 0)),Jm 41 40,⟨some 42,some (41,true),.mov (.t 7)⟩,⟨some 43,some (41,true),.bin .eql (.t 42) (Jk 0)⟩,Jo 44 (.pick (.t 41) (.t 43) (.k (.bool false))),Jm 4 44] [4] .ret) .skip)) (Js [Jo 9 (.mov (.k (.int .i64 (-1))))] [2,5,6,7,8,9] (.seq (Js [Jm 45 5,Jo 46 (.idxA 1 (.t 45) (Jk 0)),Jl 47 46,Jv 48 47,Jo 49 (.mov (Jk 0))] [2,5,6,7,8,9,48,49] (.block 0 (.loop (Js [Jb 50 .lss 49 48] [2,5,6,7,8,9,48,49,50] (.seq (.cond (.t 50) .skip (.exit 0)) (.seq (.block 1 (Js [Jm 51 49,Jm 10 51] [2,5,6,7,8,9,10,48,49] (Js [Jo 11 (.mov (.k (.seq 0 [] true)))] [2,5,6,7,8,9,10,11,48,49] (.seq (Js [Jm 52 5,Jv 53 52,Jo 54 (.mov (Jk 0))] [2,5,6,7,8,9,10,11,48,49,52,53,54] (.block 2 (.loop (Js [Jb 55 .lss 54 53] [2,5,6,7,8,9,10,11,48,49,52,53,54,55] (.seq (.cond (.t 55) .skip (.exit 2)) (.seq (.block 3 (Js [Ji 56 1 52 54,Jl 57 56,Jm 13 57] [2,5,6,7,8,9,10,11,13,48,49,52,53,54] (.reg [Jm 58 11,Jm 59 13,Jm 60 10,Ji 61 2 59 60,Jo 62 (.load (some 2) (.t 61)),Jo 63 (.bsl [.bool false,.seq 0 [] true] 1 2 [(0,2,.t 62)]),Jo 64 (.app 48 2 32 (.t 58) (.t 63)),Jm 11 64] [2,5,6,7,8,9,10,11,48,49,52,53,54]))) (.reg [Jo 65 (.bin .add (.t 54) (Jk 1)),Jm 54 65] [2,5,6,7,8,9,10,11,48,49,52,53,54]))))))) (Js [Jo 67 (.load (some 4) (.t 2)),Jm 68 11,Jo 69 (Jc 17 [.t 67,.t 68]),Jm 66 69,Je 70 66 0,Je 71 66 1,Je 72 66 2,Jm 14 70,Jm 15 71,Jm 16 72] [2,5,6,7,8,9,10,14,15,16,48,49] (.seq (Js [Jm 73 16,Jo 74 (.bin .eql (.t 73) (Jk 20))] [2,5,6,7,8,9,10,14,15,16,48,49,74] (.cond (.t 74) (.seq (Js [Jm 75 9,Jo 76 (.bin .lss (.t 75) (Jk 0)),Jm 77 76,⟨some 78,some (77,false),.mov (.t 15)⟩,⟨some 79,some (77,false),.mov (.t 9)⟩,⟨some 80,some (77,false),.bin .lss (.t 78) (.t 79)⟩,Jo 81 (.pick (.t 77) (.k (.bool true)) (.t 80))] [2,5,6,7,8,9,15,48,49,81] (.cond (.t 81) (.reg [Jm 82 15,Jm 9 82] [2,5,6,7,8,9,48,49]) .skip)) (.exit 1)) .skip)) (.seq (Js [Jm 83 16,Jo 84 (.bin .neq (.t 83) (Jk 0))] [2,5,6,7,8,9,10,14,48,49,84] (.cond (.t 84) (Js [Jo 4 (.mov (.k (.bool false)))] [4] .ret) .skip)) (Js [Jm 85 6,Jv 86 85,Jo 87 (.mov (Jk 0))] [2,5,6,7,8,9,10,14,48,49,86,87] (.block 4 (.loop (Js [Jb 88 .lss 87 86] [2,5,6,7,8,9,10,14,48,49,86,87,88] (.seq (.cond (.t 88) .skip (.exit 4)) (.seq (.block 5 (Js [Jm 89 87,Jm 17 89] [2,5,6,7,8,9,10,14,17,48,49,86,87] (.seq (.draw [Jm 90 8,Jo 91 (.bin .eql (.t 90) (Jk 0)),Jm 92 91,⟨some 93,some (92,true),.mov (.t 6)⟩,⟨some 94,some (92,true),.mov (.t 17)⟩,⟨some 95,some (92,true),.idxA 1 (.t 93) (.t 94)⟩,⟨some 96,some (92,true),.load none (.t 95)⟩,⟨some 97,some (92,true),.mov (.t 10)⟩,⟨some 98,some (92,true),.idxA 2 (.t 96) (.t 97)⟩,⟨some 99,some (92,true),.load (some 2) (.t 98)⟩,⟨some 100,some (92,true),.mov (.t 14)⟩,⟨some 101,some (92,true),.mov (.t 17)⟩,⟨some 102,some (92,true),.idxA 2 (.t 100) (.t 101)⟩,⟨some 103,some (92,true),.load (some 2) (.t 102)⟩] [⟨some 104,some (92,true),Jc 46 [.t 99,.t 103]⟩,⟨some 105,some (92,true),.bin .neq (.t 104) (Jk 0)⟩,Jo 106 (.pick (.t 92) (.t 105) (.k (.bool false)))] [0,0,0,0,8,0,0,120,0,0,1016,2040,1016,1016] [2,5,6,7,8,9,10,14,48,49,86,87,106]) (.cond (.t 106) (Js [Jo 4 (.mov (.k (.bool false)))] [4] .ret) .skip)))) (.reg [Jo 107 (.bin .add (.t 87) (Jk 1)),Jm 87 107] [2,5,6,7,8,9,10,14,48,49,86,87])))))))))))))) (.reg [Jo 108 (.bin .add (.t 49) (Jk 1)),Jm 49 108] [2,5,6,7,8,9,48,49]))))))) (.seq (Js [Jm 109 8,Jo 110 (.bin .eql (.t 109) (Jk 20))] [2,6,7,9,110] (.cond (.t 110) (Js [Jm 111 6,Jv 112 111,Jo 113 (.bin .eql (.t 112) (Jk 0)),Jm 114 113,⟨some 115,some (114,true),.mov (.t 7)⟩,⟨some 116,some (114,true),.mov (.t 9)⟩,⟨some 117,some (114,true),.bin .eql (.t 115) (.t 116)⟩,Jo 118 (.pick (.t 114) (.t 117) (.k (.bool false))),Jm 4 118] [4] .ret) .skip)) (Js [Jm 119 9,Jo 120 (.bin .lss (.t 119) (Jk 0)),Jm 121 120,⟨some 122,some (121,true),.mov (.t 7)⟩,⟨some 123,some (121,true),.fldA 2 (.t 2)⟩,⟨some 124,some (121,true),.load none (.t 123)⟩,⟨some 125,some (121,true),.len false (.t 124)⟩,⟨some 126,some (121,true),.bin .eql (.t 122) (.t 125)⟩,Jo 127 (.pick (.t 121) (.t 126) (.k (.bool false))),Jm 128 127,⟨some 129,some (128,true),.mov (.t 6)⟩,⟨some 130,some (128,true),.len false (.t 129)⟩,⟨some 131,some (128,true),.fldA 3 (.t 2)⟩,⟨some 132,some (128,true),.load none (.t 131)⟩,⟨some 133,some (128,true),.len false (.t 132)⟩,⟨some 134,some (128,true),.bin .eql (.t 130) (.t 133)⟩,Jo 135 (.pick (.t 128) (.t 134) (.k (.bool false))),Jm 4 135] [4] .ret)))))))))
def rs7:List RV:=[.t 4]
theorem enter7:EnT Tryz.prog 7 136 ac7 rs7:=Ent pl7 mixed Tryz.func7
end Go.Proofs.YtmndejlpfmmaiaaGreatDoor.Fw
