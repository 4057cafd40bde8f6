/- The texts Gy Ha Gd Ge Gf Gg Gh Gj Hb Hc Hd He Eu Ev Hh Hg Hu Ht, joined. -/
import Derived.Test.YtmndejlpfmmaiaaGreatDoorZ9
set_option linter.unusedSimpArgs false
set_option linter.unusedVariables false
namespace Go.Proofs.YtmndejlpfmmaiaaGreatDoor.Fw
open Go Go.Proofs.YtmndejlpfmmaiaaGreatDoor.Ma
set_option maxRecDepth 20000
def RG(H M:AHeap)(p6 p7 ty es n:Nat)(cells:List AV)(v:AV):Prop:=
 (v=.seq 0 [] true∧n=0∧cells=[])∨(0<n∧cells.length=n*es∧∃b,H b=none∧b≠p6∧b≠p7∧v=.own b (n*es) 0 n false∧M b=some (.row ty es cells))
def zbD(b:Nat)(v:AV):Prop:= ∀L off n t,v≠.own b L off n t
structure PM(H M:AHeap)(p6 p7:Nat)(k regs:Int)(code:List Ins)(outs:List Int)(cv ov:AV):Prop where
 p:M p6=some (.row 25 0 [.int .i64 k,.int .i64 regs,cv,ov])
 f:M p7=some (.row 196 0 [.fn (.func 126) [] [.ptr p6 4 0]])
 c:RG H M p6 p7 76 5 code.length (code.flatMap zDM) cv
 o:RG H M p6 p7 3 1 outs.length (outs.map fun n=>.int .i64 n) ov
 ne: ∀b,zbD b cv∨zbD b ov
 le:Le H M
 h6:H p6=none
 h7:H p7=none
 n67:p6≠p7
theorem RG.cell{H M:AHeap}{p6 p7 ty es n:Nat}{cells:List AV}{v:AV}(h:RG H M p6 p7 ty es n cells v):v.cell=true:=by
 rcases h with⟨rfl,_⟩|⟨_,_,b,_,_,_,rfl,_⟩<;>rfl
theorem RG.fresh{H M:AHeap}{p6 p7 ty es n q:Nat}{cells:List AV}{v:AV}{x:ABlk}(h:RG H M p6 p7 ty es n cells v)(hq:M q=none):RG H (M.upd q (some x)) p6 p7 ty es n cells v:=by
 rcases h with h|⟨h1,h2,b,h3,h4,h5,h6,h7⟩
 ·exact .inl h
 ·exact .inr ⟨h1,h2,b,h3,h4,h5,h6,by rw[zAA _ _ (by rintro rfl;rw[hq]at h7;cases h7)];exact h7⟩
theorem RG.base{H H' M:AHeap}{p6 p7 ty es n:Nat}{cells:List AV}{v:AV}(h:RG H' M p6 p7 ty es n cells v)(hl: ∀b,H' b=none→H b=none):RG H M p6 p7 ty es n cells v:=by
 rcases h with h|⟨h1,h2,b,h3,h4⟩
 ·exact .inl h
 ·exact .inr ⟨h1,h2,b,hl b h3,h4⟩
section
variable {H M:AHeap} {p6 p7:Nat} {k regs:Int} {code:List Ins} {outs:List Int} {cv ov:AV}
theorem PM.fresh{q:Nat}{x:ABlk}(h:PM H M p6 p7 k regs code outs cv ov)(hq:M q=none):PM H (M.upd q (some x)) p6 p7 k regs code outs cv ov:=
 ⟨by rw[zAA _ _ (by rintro rfl;exact absurd h.p (by simp[hq]))];exact h.p,by rw[zAA _ _ (by rintro rfl;exact absurd h.f (by simp[hq]))];exact h.f,h.c.fresh hq,h.o.fresh hq,h.ne,h.le.upd hq,h.h6,h.h7,h.n67⟩
theorem PM.under{q:Nat}{x:ABlk}(h:PM H M p6 p7 k regs code outs cv ov)(hq:M q=none):PM (H.upd q (some x)) (M.upd q (some x)) p6 p7 k regs code outs cv ov:=by
 have q6:p6≠q:=by rintro rfl;exact absurd h.p (by simp[hq])
 have q7:p7≠q:=by rintro rfl;exact absurd h.f (by simp[hq])
 have hf:=h.fresh (x:=x) hq
 have go: ∀{ty es n:Nat}{cells:List AV}{v:AV},RG H M p6 p7 ty es n cells v→RG (H.upd q (some x)) (M.upd q (some x)) p6 p7 ty es n cells v:=fun{ty es n cells v} r=>by
  rcases r with h|⟨h1,h2,b,h3,h4,h5,h6,h7⟩
  ·exact .inl h
  ·have hbq:b≠q:=by rintro rfl;rw[hq]at h7;cases h7
   exact .inr ⟨h1,h2,b,zAB.2 ⟨hbq,h3⟩,h4,h5,h6,by rw[zAA _ _ hbq];exact h7⟩
 refine⟨hf.p,hf.f,go h.c,go h.o,h.ne,fun o y ho=>?_,by rw[zAA _ _ q6];exact h.h6,by rw[zAA _ _ q7];exact h.h7,h.n67⟩
 by_cases e:o=q
 ·subst e;rw[zAC]at ho ⊢; exact ho
 ·rw[zAA _ _ e]at ho ⊢; exact h.le o y ho
theorem PM.drop{H':AHeap}(h:PM H' M p6 p7 k regs code outs cv ov)(hl:Le H H'):PM H M p6 p7 k regs code outs cv ov:=by
 have hn: ∀b,H' b=none→H b=none:=fun b hb=>by
  cases e:H b with
  |none=>rfl
  |some x=>rw[hl b x e]at hb;cases hb
 exact⟨h.p,h.f,h.c.base hn,h.o.base hn,h.ne,fun o x ho=>h.le o x (hl o x ho),hn _ h.h6,hn _ h.h7,h.n67⟩
end
theorem PM.appC{H M:AHeap}{p6 p7:Nat}{k regs:Int}{code:List Ins}{outs:List Int}{cv ov:AV}{i:Ins}{t:Bool}{K:AV→AHeap→Prop}(h:PM H M p6 p7 k regs code outs cv ov)(hb:code.length+1≤1000000)
 (kk: ∀cv' M',M' p6=some (.row 25 0 [.int .i64 k,.int .i64 regs,cv,ov])→cv'.cells=some [cv']→PM H (M'.upd p6 (some (.row 25 0 [.int .i64 k,.int .i64 regs,cv',ov]))) p6 p7 k regs (code++[i]) outs cv' ov→K cv' M'):
 zKG M 76 5 40 cv (.seq 1 (zDM i) t) K:=by
 have hys:(zDM i).length=1*5:=rfl
 have hcs:(zDM i).all AV.cell=true:=rfl
 have el:(code++[i]).length=code.length+1:=by simp
 have ec:(code++[i]).flatMap zDM=code.flatMap zDM++zDM i:=by simp
 have hc5:(code.flatMap zDM).length=code.length*5:=zCf zDs code
 refine .inl ⟨hys,hcs,?_⟩
 rcases h.c with⟨hv,hn,hcl⟩|⟨hn,hl,b,b1,b2,b3,hv,hb'⟩
 ·have hc0:code=[]:=List.length_eq_zero_iff.1 hn
  subst hc0
  rw[hv]
  refine⟨rfl,by simp,by omega,by omega,fun e=>absurd e (by omega),fun _ b hbn=>?_⟩
  have nb6:b≠p6:=by rintro rfl;rw[h.p]at hbn;cases hbn
  have nb7:b≠p7:=by rintro rfl;rw[h.f]at hbn;cases hbn
  have hbH:H b=none:=by
   cases e:H b with
   |none=>rfl
   |some x=>rw[h.le b x e]at hbn;cases hbn
  refine kk _ _ ?_ rfl ⟨zAC _ _ _,?_,.inr ⟨by simp,by simp[zDM],b,hbH,nb6,nb7,rfl,?_⟩,?_,fun c=>?_,?_,h.h6,h.h7,h.n67⟩
  ·rw[zAA _ _ (Ne.symm nb6),h.p,hv]
  ·rw[zAA _ _ (Ne.symm h.n67),zAA _ _ (Ne.symm nb7)];exact h.f
  ·rw[zAA _ _ nb6,zAC];simp
  ·rcases h.o with ho|⟨o1,o2,c,o3,o4,o5,o6,o7⟩
   ·exact .inl ho
   ·refine .inr ⟨o1,o2,c,o3,o4,o5,o6,?_⟩
    rw[zAA _ _ o4,zAA _ _ (by rintro rfl;rw[hbn]at o7;cases o7)];exact o7
  ·by_cases e:c=b
   ·subst e
    right
    rcases h.o with⟨rfl,_⟩|⟨o1,o2,c',o3,o4,o5,rfl,o7⟩
    ·intro L off n t e;cases e
    ·intro L off n t e;injection e with e;subst e;rw[hbn]at o7;cases o7
   ·left;intro L off n t e2;injection e2 with e2;exact e e2.symm
  ·refine fun o x ho=>?_
   have o6:o≠p6:=by rintro rfl;rw[h.h6]at ho;cases ho
   rw[zAA _ _ o6,zAA _ _ (by rintro rfl;rw[hbH]at ho;cases ho)];exact h.le o x ho
 ·rw[hv]
  dsimp only
  rw[hb']
  refine⟨hl,rfl,rfl,rfl,rfl,by omega,by omega,?_⟩
  refine kk _ _ ?_ rfl ⟨zAC _ _ _,?_,.inr ⟨by simp,by rw[el,ec,List.length_append,hc5];simp[zDM];omega,b,b1,b2,b3,by rw[el],?_⟩,?_,fun c=>?_,?_,h.h6,h.h7,h.n67⟩
  ·rw[zAA _ _ (Ne.symm b2),h.p,hv]
  ·rw[zAA _ _ (Ne.symm h.n67),zAA _ _ (Ne.symm b3)];exact h.f
  ·rw[zAA _ _ b2,zAC,ec]
  ·rcases h.o with ho|⟨o1,o2,c,o3,o4,o5,o6,o7⟩
   ·exact .inl ho
   ·refine .inr ⟨o1,o2,c,o3,o4,o5,o6,?_⟩
    have hcb:c≠b:=by
     rintro rfl
     rcases h.ne c with hh|hh
     ·exact hh _ _ _ _ hv
     ·exact hh _ _ _ _ o6
    rw[zAA _ _ o4,zAA _ _ hcb];exact o7
  ·rcases h.ne c with hh|hh
   ·left;intro L off n t e;injection e with e;subst e;exact hh _ _ _ _ hv
   ·exact .inr hh
  ·refine fun o x ho=>?_
   rw[zAA _ _ (by rintro rfl;rw[h.h6]at ho;cases ho),zAA _ _ (by rintro rfl;rw[b1]at ho;cases ho)];exact h.le o x ho
theorem PM.appO{H M:AHeap}{p6 p7:Nat}{k regs:Int}{code:List Ins}{outs:List Int}{cv ov:AV}{i:Int}{t:Bool}{K:AV→AHeap→Prop}(h:PM H M p6 p7 k regs code outs cv ov)(hb:outs.length+1≤1000000)
 (kk: ∀ov' M',M' p6=some (.row 25 0 [.int .i64 k,.int .i64 regs,cv,ov])→ov'.cells=some [ov']→PM H (M'.upd p6 (some (.row 25 0 [.int .i64 k,.int .i64 regs,cv,ov']))) p6 p7 k regs code (outs++[i]) cv ov'→K ov' M'):
 zKG M 3 1 8 ov (.seq 1 [.int .i64 i] t) K:=by
 have el:(outs++[i]).length=outs.length+1:=by simp
 have ec:(outs++[i]).map (fun n=>AV.int .i64 n)=(outs.map fun n=>AV.int .i64 n)++[.int .i64 i]:=by simp
 have hc5:(outs.map fun n=>AV.int .i64 n).length=outs.length*1:=by simp
 refine .inl ⟨rfl,rfl,?_⟩
 rcases h.o with⟨hv,hn,hcl⟩|⟨hn,hl,b,b1,b2,b3,hv,hb'⟩
 ·have hc0:outs=[]:=List.length_eq_zero_iff.1 hn
  subst hc0
  rw[hv]
  refine⟨rfl,by simp,by omega,by omega,fun e=>absurd e (by omega),fun _ b hbn=>?_⟩
  have nb6:b≠p6:=by rintro rfl;rw[h.p]at hbn;cases hbn
  have nb7:b≠p7:=by rintro rfl;rw[h.f]at hbn;cases hbn
  have hbH:H b=none:=by
   cases e:H b with
   |none=>rfl
   |some x=>rw[h.le b x e]at hbn;cases hbn
  refine kk _ _ ?_ rfl ⟨zAC _ _ _,?_,?_,.inr ⟨by simp,by simp,b,hbH,nb6,nb7,rfl,?_⟩,fun c=>?_,?_,h.h6,h.h7,h.n67⟩
  ·rw[zAA _ _ (Ne.symm nb6),h.p,hv]
  ·rw[zAA _ _ (Ne.symm h.n67),zAA _ _ (Ne.symm nb7)];exact h.f
  ·rcases h.c with ho|⟨o1,o2,c,o3,o4,o5,o6,o7⟩
   ·exact .inl ho
   ·refine .inr ⟨o1,o2,c,o3,o4,o5,o6,?_⟩
    rw[zAA _ _ o4,zAA _ _ (by rintro rfl;rw[hbn]at o7;cases o7)];exact o7
  ·rw[zAA _ _ nb6,zAC];simp
  ·by_cases e:c=b
   ·subst e
    left
    rcases h.c with⟨rfl,_⟩|⟨o1,o2,c',o3,o4,o5,rfl,o7⟩
    ·intro L off n t e;cases e
    ·intro L off n t e;injection e with e;subst e;rw[hbn]at o7;cases o7
   ·right;intro L off n t e2;injection e2 with e2;exact e e2.symm
  ·refine fun o x ho=>?_
   have o6:o≠p6:=by rintro rfl;rw[h.h6]at ho;cases ho
   rw[zAA _ _ o6,zAA _ _ (by rintro rfl;rw[hbH]at ho;cases ho)];exact h.le o x ho
 ·rw[hv]
  dsimp only
  rw[hb']
  refine⟨hl,rfl,rfl,rfl,rfl,by omega,by omega,?_⟩
  refine kk _ _ ?_ rfl ⟨zAC _ _ _,?_,?_,.inr ⟨by simp,by rw[el,ec,List.length_append,hc5];simp,b,b1,b2,b3,by rw[el],?_⟩,fun c=>?_,?_,h.h6,h.h7,h.n67⟩
  ·rw[zAA _ _ (Ne.symm b2),h.p,hv]
  ·rw[zAA _ _ (Ne.symm h.n67),zAA _ _ (Ne.symm b3)];exact h.f
  ·rcases h.c with ho|⟨o1,o2,c,o3,o4,o5,o6,o7⟩
   ·exact .inl ho
   ·refine .inr ⟨o1,o2,c,o3,o4,o5,o6,?_⟩
    have hcb:c≠b:=by
     rintro rfl
     rcases h.ne c with hh|hh
     ·exact hh _ _ _ _ o6
     ·exact hh _ _ _ _ hv
    rw[zAA _ _ o4,zAA _ _ hcb];exact o7
  ·rw[zAA _ _ b2,zAC,ec]
  ·rcases h.ne c with hh|hh
   ·exact .inl hh
   ·right;intro L off n t e;injection e with e;subst e;exact hh _ _ _ _ hv
  ·refine fun o x ho=>?_
   rw[zAA _ _ (by rintro rfl;rw[h.h6]at ho;cases ho),zAA _ _ (by rintro rfl;rw[b1]at ho;cases ho)];exact h.le o x ho
theorem zeu{a b c d e:AV}:zB8 [a,b,c,d,e] 5=[a,b,c,d,e]:=by simp[zB8,List.range,List.range.loop]
theorem zCO{H M:AHeap}{Q:AV→AHeap→Prop}{p6 p7:Nat}{k regs:Int}{code:List Ins}{outs:List Int}{cv ov:AV}{i:Ins}(h:PM H M p6 p7 k regs code outs cv ov)(hb:code.length+1≤1000000)
 (hq: ∀M' cv',PM H M' p6 p7 k regs (zH0 code i) outs cv' ov→Q (.tup []) M'):Run Tryz.prog 126 [zIk i,.ptr p6 4 0] M Q:=by
 refine zUT (by simp) ?_
 simp(disch:=first|exact Xe|fail)only[zaK,zA6,↓Xa,Xb,Xc,↓reduceIte,Nat.reduceLT,Nat.reduceEqDiff,Nat.reduceBEq,Nat.reduceLeDiff,Nat.reduceAdd,Nat.reduceMul]
 refine zAD fun p2 n2=>?_
 have h2:=h.fresh (x:=.row 76 0 [.int .i64 i.op,.int .i64 i.to,.int .i64 i.a,.int .i64 i.b,.int .i64 i.c]) n2
 have q6:p6≠p2:=by rintro rfl;exact absurd h.p (by simp[n2])
 generalize hM2:M.upd p2 (some (.row 76 0 [.int .i64 i.op,.int .i64 i.to,.int .i64 i.a,.int .i64 i.b,.int .i64 i.c]))=M2 at*
 have g2:M2 p2=some (.row 76 0 [.int .i64 i.op,.int .i64 i.to,.int .i64 i.a,.int .i64 i.b,.int .i64 i.c]):=by rw[← hM2,zAC]
 by_cases h1:i.op=1∧i.to=i.a
 ·have e1:decide (i.op=((1:Nat):Int))=true:=decide_eq_true h1.1
  have e2:decide (i.to=i.a)=true:=decide_eq_true h1.2
  have e:zH0 code i=code:=if_pos h1
  simp(disch:=first|exact Xe|fail)only[g2,zAU,e1,e2,zT1,↓Xa,Xb,Xc,↓reduceIte,Nat.reduceLT,Nat.reduceEqDiff,Nat.reduceBEq,Nat.reduceLeDiff,Nat.reduceAdd,Nat.reduceMul]
  exact SetR.now (hq _ cv (by rw[e];exact h2))
 have e:zH0 code i=code++[i]:=if_neg h1
 have g6:=h2.p
 by_cases c1:i.op=1
 ·have e1:decide (i.op=((1:Nat):Int))=true:=decide_eq_true c1
  have e2:decide (i.to=i.a)=false:=decide_eq_false fun h=>h1 ⟨c1,h⟩
  simp(disch:=first|exact Xe|fail)only[g2,g6,zAU,e1,e2,zeu,zA0,zA6,↓Xa,Xb,Xc,↓reduceIte,Nat.reduceLT,Nat.reduceEqDiff,Nat.reduceBEq,Nat.reduceLeDiff,Nat.reduceAdd,Nat.reduceMul]
  refine PM.appC (i:=i) h2 hb fun cv' M' m1 m2 m3=>?_
  simp(disch:=first|exact Xe|fail)only[m1,m2,zT1,↓Xa,Xb,Xc,↓reduceIte,Nat.reduceLT,Nat.reduceEqDiff,Nat.reduceBEq,Nat.reduceLeDiff,Nat.reduceAdd,Nat.reduceMul]
  exact SetR.now (hq _ cv' (by rw[e];exact m3))
 ·have e1:decide (i.op=((1:Nat):Int))=false:=decide_eq_false c1
  simp(disch:=first|exact Xe|fail)only[g2,g6,zAU,e1,zeu,zA0,zA6,↓Xa,Xb,Xc,↓reduceIte,Nat.reduceLT,Nat.reduceEqDiff,Nat.reduceBEq,Nat.reduceLeDiff,Nat.reduceAdd,Nat.reduceMul]
  refine PM.appC (i:=i) h2 hb fun cv' M' m1 m2 m3=>?_
  simp(disch:=first|exact Xe|fail)only[m1,m2,zT1,↓Xa,Xb,Xc,↓reduceIte,Nat.reduceLT,Nat.reduceEqDiff,Nat.reduceBEq,Nat.reduceLeDiff,Nat.reduceAdd,Nat.reduceMul]
  exact SetR.now (hq _ cv' (by rw[e];exact m3))
theorem zCW(code:List Ins)(i:Ins):(zH0 code i).length≤code.length+1:=by
 unfold zH0
 split
 ·omega
 ·simp
theorem Tz64H.blk{H M:AHeap}(h:Tz64H H)(hl:Le H M):Tz64H M:=h.le hl
theorem zEn{H:AHeap}{K:AV→List Nat→Option (Nat×ABlk)→Prop}{to a c:Int}(hT:Tz64H H)(h0:c≠0)(h1: -16≤c)(h2:c≤16)(k:K (zIk (zBc to a c)) [1] none){o:Bool}:dcall o Tryz.prog (.fn (.func 128) [] []) [.int .i64 to,.int .i64 a,.int .i64 c] H K:=
 zWb [1] (fun H' K' he hk'=>zAM (zKs ((he _ (by simp)).trans hT) h0 h1 h2 hk')) k
theorem zDS{H M:AHeap}{Q:AV→AHeap→Prop}{p6 p7 n:Nat}{k regs to a c:Int}{code:List Ins}{outs:List Int}{cv ov:AV}(hT:Tz64H H)(h:PM H M p6 p7 k regs code outs cv ov)(h0:c≠0)(h1: -16≤c)(h2:c≤16)(hn:n≤8)(hb:code.length+8≤1000000)
 (hq: ∀M' cv',PM H M' p6 p7 k regs (zFo to c n a code) outs cv' ov→Q (.tup []) M'):Run Tryz.prog 127 [.int .i64 to,.int .i64 a,.int .i64 c,.int .i64 (n:Int),.ptr p7 1 0] M Q:=by
 refine zSW (by simp) ?_
 simp(disch:=first|exact Xe|fail)only[zaI,↓Xa,Xb,Xc,↓reduceIte,Nat.reduceLT,Nat.reduceEqDiff,Nat.reduceBEq,Nat.reduceLeDiff,Nat.reduceAdd,Nat.reduceMul]
 refine zAO (fun s:Nat×Int×List Ins×AV×AHeap=>⟨[],[(0,.int .i64 to),(1,.int .i64 s.2.1),(2,.int .i64 c),(4,.ptr p7 1 0),(9,.int .i64 (n:Int)),(10,.int .i64 s.1)],s.2.2.2.2⟩)
  (fun s=>s.1≤n∧zFo to c (n-s.1) s.2.1 s.2.2.1=zFo to c n a code∧s.2.2.1.length≤code.length+s.1∧PM H s.2.2.2.2 p6 p7 k regs s.2.2.1 outs s.2.2.2.1 ov) (fun s=>n-s.1) (0,a,code,cv,M) (Settle.now rfl) ⟨Nat.zero_le _,rfl,Nat.le_refl _,h⟩ ?_
 rintro⟨s,a',co,cv',M'⟩ ⟨e1,e2,e3,hp⟩
 dsimp only at e1 e2 e3 hp ⊢
 by_cases hs:s<n
 ·have hf:=hp.f
  simp(disch:=first|exact Xe|fail)only[hs,hf,↓Xa,Xb,Xc,↓reduceIte,Nat.reduceLT,Nat.reduceEqDiff,Nat.reduceBEq,Nat.reduceLeDiff,Nat.reduceAdd,Nat.reduceMul]
  refine zEn (hT.le hp.le) h0 h1 h2 ?_
  simp(disch:=first|exact Xe|fail)only[↓Xa,Xb,Xc,↓reduceIte,Nat.reduceLT,Nat.reduceEqDiff,Nat.reduceBEq,Nat.reduceLeDiff,Nat.reduceAdd,Nat.reduceMul]
  refine zAM (zCO hp (by omega) fun M2 cv2 hp2=>?_)
  simp(disch:=first|exact Xe|fail)only[↓Xa,Xb,Xc,↓reduceIte,Nat.reduceLT,Nat.reduceEqDiff,Nat.reduceBEq,Nat.reduceLeDiff,Nat.reduceAdd,Nat.reduceMul]
  refine Settle.now ⟨(s+1,to,zH0 co (zBc to a' c),cv2,M2),by dsimp only;omega,⟨by dsimp only;omega,?_,?_,hp2⟩,rfl⟩
  ·dsimp only
   rw[← e2,show n-s=(n-(s+1))+1 by omega];rfl
  ·dsimp only
   have:=zCW co (zBc to a' c)
   omega
 ·obtain rfl:s=n:=by omega
  rw[Nat.sub_self]at e2
  simp(disch:=first|exact Xe|fail)only[hs,↓Xa,Xb,Xc,↓reduceIte,Nat.reduceLT,Nat.reduceEqDiff,Nat.reduceBEq,Nat.reduceLeDiff,Nat.reduceAdd,Nat.reduceMul]
  refine Settle.now ?_
  simp(disch:=first|exact Xe|fail)only[zZ4,↓Xa,Xb,Xc,↓reduceIte,Nat.reduceLT,Nat.reduceEqDiff,Nat.reduceBEq,Nat.reduceLeDiff,Nat.reduceAdd,Nat.reduceMul]
  exact SetR.now (hq _ cv' (by rw[← e2];exact hp))
def zD4(k:Int)(l:List Pt):Prop:=(1≤k∧k≤8)∧zDv l
instance (k:Int)(l:List Pt):Decidable (zD4 k l):=by unfold zD4;infer_instance
def prA(k:Int)(l:List Pt):PR:=if zD4 k l then zH9 k.toNat l else⟨0,0,[],[]⟩
def prE(k:Int)(l:List Pt):Nat:=if zD4 k l then 0 else 2
theorem zL1{a b:Int}{x y:AV}(hx:x.cell=true)(hy:y.cell=true):(AV.agg [.int .i64 a,.int .i64 b,x,y]).cells=some [.int .i64 a,.int .i64 b,x,y]:=by
 have e:([.int .i64 a,.int .i64 b,x,y]:List AV).all AV.cell=true:=by
  rw[List.all_cons,List.all_cons,List.all_cons,List.all_cons,hx,hy];rfl
 show(if([.int .i64 a,.int .i64 b,x,y]:List AV).all AV.cell=true then _ else _)=_
 rw[if_pos e]
theorem zSk{f:Fn}{a b:List AV}:(AV.fn f a b).cells=some [.fn f a b]:=id rfl
theorem zdm:zB8 [AV.int .i64 ((0:Nat):Int)] 1=[.int .i64 ((0:Nat):Int)]:=by simp[zB8,List.range,List.range.loop]
theorem zF8:AV.cells (.agg [.int .i64 ((0:Nat):Int),.int .i64 ((0:Nat):Int),.seq 0 [] true,.seq 0 [] true])=some [.int .i64 ((0:Nat):Int),.int .i64 ((0:Nat):Int),.seq 0 [] true,.seq 0 [] true]:=id rfl
theorem zNM{k:Int}{l:List Pt}{t:Bool}(hl:l.length<9223372036854775808)(hno: ¬zD4 k l):PFn Tryz.prog 58 [.int .i64 k,zBr l t] (.tup [zEF ⟨0,0,[],[]⟩,.int .i64 ((2:Nat):Int)]):=by
 intro H Q hq
 refine zOy (by simp) ?_
 simp(disch:=first|exact Xe|fail)only[zeO,↓Xa,Xb,Xc,↓reduceIte,Nat.reduceLT,Nat.reduceEqDiff,Nat.reduceBEq,Nat.reduceLeDiff,Nat.reduceAdd,Nat.reduceMul]
 refine zAD fun p4 n4=>?_
 have hle: ∀{x:ABlk},Le H (H.upd p4 (some x)):=(Le.refl H).updB n4
 have fin:SetR Q (.tup [.agg [.int .i64 ((0:Nat):Int),.int .i64 ((0:Nat):Int),.seq 0 [] true,.seq 0 [] true],.int .i64 ((2:Nat):Int)]) H:=by
  refine SetR.mono (SetR.loose (SetR.now hq)) fun _ _ h=>h
 by_cases h1:k<1
 ·have d1:decide (k<((1:Nat):Int))=true:=decide_eq_true (by omega)
  simp(disch:=first|exact Xe|fail)only[zAc,d1,zF8,zbY,↓Xa,Xb,Xc,↓reduceIte,Nat.reduceLT,Nat.reduceEqDiff,Nat.reduceBEq,Nat.reduceLeDiff,Nat.reduceAdd,Nat.reduceMul]
  exact SetR.dropTo hle fin
 have d1:decide (k<((1:Nat):Int))=false:=decide_eq_false (by omega)
 by_cases h2:8<k
 ·have d2:decide (((8:Nat):Int)<k)=true:=decide_eq_true (by omega)
  simp(disch:=first|exact Xe|fail)only[zAc,zAw,d1,d2,zF8,zbY,↓Xa,Xb,Xc,↓reduceIte,Nat.reduceLT,Nat.reduceEqDiff,Nat.reduceBEq,Nat.reduceLeDiff,Nat.reduceAdd,Nat.reduceMul]
  exact SetR.dropTo hle fin
 have d2:decide (((8:Nat):Int)<k)=false:=decide_eq_false (by omega)
 have hp: ¬zDv l:=fun h=>hno ⟨⟨by omega,by omega⟩,h⟩
 simp(disch:=first|exact Xe|fail)only[zAc,zAw,d1,d2,↓Xa,Xb,Xc,↓reduceIte,Nat.reduceLT,Nat.reduceEqDiff,Nat.reduceBEq,Nat.reduceLeDiff,Nat.reduceAdd,Nat.reduceMul]
 refine(zCl hl).call ?_
 simp(disch:=first|exact Xe|fail)only[decide_eq_false hp,zF8,zbY,↓Xa,Xb,Xc,↓reduceIte,Nat.reduceLT,Nat.reduceEqDiff,Nat.reduceBEq,Nat.reduceLeDiff,Nat.reduceAdd,Nat.reduceMul]
 exact SetR.dropTo hle fin
theorem zEX{b n es:Nat}{cells:List AV}(hl:cells.length=n*es):zDw b es cells (.own b (n*es) 0 n false)=.seq n cells false:=by simp[zDw,hl,List.take_of_length_le]
theorem zUC{b c L off n es:Nat}{t:Bool}{cells:List AV}(h:c≠b):zDw b es cells (.own c L off n t)=.own c L off n t:=by simp[zDw,h]
theorem zSE{H M:AHeap}{Q:AV→AHeap→Prop}{p6 p7:Nat}{k regs e:Int}{code:List Ins}{outs:List Int}{cv ov:AV}(h:PM H M p6 p7 k regs code outs cv ov)(hq:Q (.tup [zEF ⟨k,regs,code,outs⟩,.int .i64 e]) H):SetR Q (.tup [.agg [.int .i64 k,.int .i64 regs,cv,ov],.int .i64 e]) M:=by
 have hcl:(code.flatMap zDM).length=code.length*5:=zCf zDs code
 have hle: ∀{M':AHeap}{b:Nat},Le H M'→H b=none→Le H (M'.upd b none):=fun{M' b} hl hb o x ho=>by
  rw[zAA _ _ (by rintro rfl;rw[hb]at ho;cases ho)];exact hl o x ho
 rcases h.c with⟨rfl,hn,hc⟩|⟨hn,hl,b,b1,b2,b3,rfl,hb'⟩
 ·obtain rfl:=List.length_eq_zero_iff.1 hn
  rcases h.o with⟨rfl,hn2,hc2⟩|⟨hn2,hl2,c,c1,c2,c3,rfl,hc'⟩
  ·obtain rfl:=List.length_eq_zero_iff.1 hn2
   exact SetR.loose (SetR.dropTo h.le (SetR.now hq))
  ·refine SetR.loose (SetR.frz c hc' (SetR.dropTo (hle h.le c1) (SetR.now ?_)))
   have e1:=zEX (b:=c) hl2
   simp only[loose,zG9,loose1,frz,zIh,List.map_cons,List.map_nil,e1]
   exact hq
 ·rcases h.o with⟨rfl,hn2,hc2⟩|⟨hn2,hl2,c,c1,c2,c3,rfl,hc'⟩
  ·obtain rfl:=List.length_eq_zero_iff.1 hn2
   refine SetR.loose (SetR.frz b hb' (SetR.dropTo (hle h.le b1) (SetR.now ?_)))
   have e1:=zEX (b:=b) hl
   simp only[loose,zG9,loose1,frz,zIh,List.map_cons,List.map_nil,e1]
   exact hq
  ·have hbc:b≠c:=by
    rintro rfl
    rcases h.ne b with hh|hh
    ·exact hh _ _ _ _ rfl
    ·exact hh _ _ _ _ rfl
   refine SetR.frz b hb' ?_
   have e1:=zEX (b:=b) hl
   have e2:zDw b 5 (code.flatMap zDM) (.own c (outs.length*1) 0 outs.length false)=.own c (outs.length*1) 0 outs.length false:=zUC (Ne.symm hbc)
   have e3:=zEX (b:=c) hl2
   refine SetR.frz c (by rw[zAA _ _ (Ne.symm hbc)];exact hc') (SetR.dropTo (hle (hle h.le b1) c1) (SetR.now ?_))
   simp only[frz,zIh,zDw,List.map_cons,List.map_nil]at e1 e2 e3 ⊢
   simp only[e1,e2,e3]
   exact hq
theorem PM.setO{H M:AHeap}{p6 p7 b i:Nat}{k regs:Int}{code:List Ins}{outs:List Int}{cv ov:AV}{x:Int}(h:PM H M p6 p7 k regs code outs cv ov)(hov:ov=.own b (outs.length*1) 0 outs.length false)(hb:M b=some (.row 3 1 (outs.map fun n=>.int .i64 n)))(b1:H b=none)(b2:b≠p6)(b3:b≠p7)(hn:0<outs.length):
 PM H (M.upd b (some (.row 3 1 ((outs.map fun n=>AV.int .i64 n).set i (.int .i64 x))))) p6 p7 k regs code (outs.set i x) cv ov:=by
 refine⟨by rw[zAA _ _ (Ne.symm b2)];exact h.p,by rw[zAA _ _ (Ne.symm b3)];exact h.f,?_,.inr ⟨by simpa using hn,by simp,b,b1,b2,b3,by rw[List.length_set];exact hov,by rw[zAC,List.map_set]⟩,h.ne,fun o y ho=>?_,h.h6,h.h7,h.n67⟩
 ·rcases h.c with hc|⟨o1,o2,c,o3,o4,o5,o6,o7⟩
  ·exact .inl hc
  ·have hcb:c≠b:=by
    rintro rfl
    rcases h.ne c with hh|hh
    ·exact hh _ _ _ _ o6
    ·exact hh _ _ _ _ hov
   exact .inr ⟨o1,o2,c,o3,o4,o5,o6,by rw[zAA _ _ hcb];exact o7⟩
 ·rw[zAA _ _ (by rintro rfl;rw[b1]at ho;cases ho)];exact h.le o y ho
theorem PM.side{Hb H M:AHeap}{p6 p7 q:Nat}{k regs:Int}{code:List Ins}{outs:List Int}{cv ov:AV}{x y:ABlk}(h:PM Hb M p6 p7 k regs code outs cv ov)(hl:Le H Hb)(hq:H q=none)(hb:Hb q=some y):PM H (M.upd q (some x)) p6 p7 k regs code outs cv ov:=by
 have hd:=h.drop hl
 have go: ∀{ty es n:Nat}{cells:List AV}{v:AV},RG Hb M p6 p7 ty es n cells v→RG H (M.upd q (some x)) p6 p7 ty es n cells v:=fun{ty es n cells v} r=>by
  rcases r with r|⟨h1,h2,b,h3,h4,h5,h6,h7⟩
  ·exact .inl r
  ·have hbq:b≠q:=by rintro rfl;rw[h3]at hb;cases hb
   have hbn:H b=none:=by
    cases e:H b with
    |none=>rfl
    |some z=>rw[hl b z e]at h3;cases h3
   exact .inr ⟨h1,h2,b,hbn,h4,h5,h6,by rw[zAA _ _ hbq];exact h7⟩
 refine⟨?_,?_,go h.c,go h.o,h.ne,fun o z ho=>?_,hd.h6,hd.h7,hd.n67⟩
 ·rw[zAA _ _ (by rintro rfl;rw[h.h6]at hb;cases hb)];exact h.p
 ·rw[zAA _ _ (by rintro rfl;rw[h.h7]at hb;cases hb)];exact h.f
 ·rw[zAA _ _ (by rintro rfl;rw[hq]at ho;cases ho)];exact hd.le o z ho
theorem zEW{to c:Int}: ∀(n:Nat)(a:Int)(code:List Ins),(zFo to c n a code).length≤code.length+n
 |0,a,code=>Nat.le_refl _
 |n+1,a,code=>by
  have h1:=zEW (to:=to) (c:=c) n to (zH0 code (zBc to a c))
  have h2:=zCW code (zBc to a c)
  show(zFo to c n to (zH0 code (zBc to a c))).length≤_
  omega
theorem zKI{H:AHeap}{Q:AV→AHeap→Prop}{k:Nat}{l:List Pt}{t:Bool}(hT:Tz64H H)(hk1:1≤k)(hk8:k≤8)(hp:zDv l)(hq:Q (.tup [zEF (zH9 k l),.int .i64 ((0:Nat):Int)]) H):Run Tryz.prog 58 [.int .i64 (k:Int),zBr l t] H Q:=by
 have hl:l.length<9223372036854775808:=by have:=hp.2.2;omega
 have hl15:=hp.2.2
 refine zOy (by simp) ?_
 simp(disch:=first|exact Xe|fail)only[zeO,↓Xa,Xb,Xc,↓reduceIte,Nat.reduceLT,Nat.reduceEqDiff,Nat.reduceBEq,Nat.reduceLeDiff,Nat.reduceAdd,Nat.reduceMul]
 refine zAD fun p4 n4=>?_
 have d1:decide ((k:Int)<((1:Nat):Int))=false:=decide_eq_false (by omega)
 have d2:decide (((8:Nat):Int)<(k:Int))=false:=decide_eq_false (by omega)
 simp(disch:=first|exact Xe|fail)only[zAc,zAw,d1,d2,↓Xa,Xb,Xc,↓reduceIte,Nat.reduceLT,Nat.reduceEqDiff,Nat.reduceBEq,Nat.reduceLeDiff,Nat.reduceAdd,Nat.reduceMul]
 refine(zCl hl).call ?_
 simp(disch:=first|exact Xe|fail)only[decide_eq_true hp,zAb hl,↓Xa,Xb,Xc,↓reduceIte,Nat.reduceLT,Nat.reduceEqDiff,Nat.reduceBEq,Nat.reduceLeDiff,Nat.reduceAdd,Nat.reduceMul]
 generalize hHb:H.upd p4 (some (.row 25 0 [.int .i64 ((0:Nat):Int),.int .i64 ((0:Nat):Int),.seq 0 [] true,.seq 0 [] true]))=Hb at*
 have hleb:Le H Hb:=hHb▸(Le.refl H).updB n4
 refine zAD fun p6 n6=>?_
 simp(disch:=first|exact Xe|fail)only[zL1 (x:=.seq 0 [] true) (y:=.seq 0 [] true) rfl rfl,↓Xa,Xb,Xc,↓reduceIte,Nat.reduceLT,Nat.reduceEqDiff,Nat.reduceBEq,Nat.reduceLeDiff,Nat.reduceAdd,Nat.reduceMul]
 refine zAD fun p7 n7=>?_
 obtain⟨a76,n7'⟩:=zAB.1 n7
 simp(disch:=first|exact Xe|fail)only[a76,a76.symm,zAb hl,zSk,↓Xa,Xb,Xc,↓reduceIte,Nat.reduceLT,Nat.reduceEqDiff,Nat.reduceBEq,Nat.reduceLeDiff,Nat.reduceAdd,Nat.reduceMul]
 have hp0:PM Hb ((Hb.upd p6 (some (.row 25 0 [.int .i64 (k:Int),.int .i64 ((k+l.length+1:Nat):Int),.seq 0 [] true,.seq 0 [] true]))).upd p7 (some (.row 196 0 [.fn (.func 126) [] [.ptr p6 4 0]]))) p6 p7 k ((k+l.length+1:Nat):Int) [] [] (.seq 0 [] true) (.seq 0 [] true):=
  ⟨by rw[zAA _ _ (show p6≠p7 from a76.symm),zAC],zAC _ _ _,.inl ⟨rfl,rfl,rfl⟩,.inl ⟨rfl,rfl,rfl⟩,fun b=>.inl (fun L off n t e=>by cases e),((Le.refl Hb).updB n6).updB n7',n6,n7',a76.symm⟩
 generalize((Hb.upd p6 (some (.row 25 0 [.int .i64 (k:Int),.int .i64 ((k+l.length+1:Nat):Int),.seq 0 [] true,.seq 0 [] true]))).upd p7 (some (.row 196 0 [.fn (.func 126) [] [.ptr p6 4 0]])))=M0 at*
 have hTb:Tz64H Hb:=hT.le hleb
 refine zAO (fun s:Nat×List Ins×AV×AV×AHeap=>⟨[],[(0,.int .i64 (k:Int)),(4,.ptr p4 4 0),(6,.ptr p6 4 0),(7,.ptr p7 1 0),(8,.int .i64 ((k+l.length:Nat):Int)),(9,.fn (.func 127) [] [.ptr p7 1 0]),(41,zBr l t),(42,.int .i64 (l.length:Int)),(43,.int .i64 s.1)],s.2.2.2.2⟩)
  (fun s=>s.1≤l.length∧zGp k l.length (l.drop s.1) s.1 s.2.1=zGp k l.length l 0 []∧s.2.1.length≤s.1*1000∧PM Hb s.2.2.2.2 p6 p7 k ((k+l.length+1:Nat):Int) s.2.1 ((List.range s.1).map (zJx k)) s.2.2.1 s.2.2.2.1) (fun s=>l.length-s.1) (0,[],.seq 0 [] true,.seq 0 [] true,M0) (Settle.now rfl) ⟨Nat.zero_le _,rfl,Nat.zero_le _,hp0⟩ ?_
 rintro⟨i,co,cv,ov,M⟩ ⟨e1,e2,e3,hp1⟩
 dsimp only at e1 e2 e3 hp1 ⊢
 by_cases hi:i<l.length
 ·have hin:=hp.1 _ (List.getElem_mem hi)
  have hAB: -16≤(l[i]).a∧(l[i]).a≤16∧ -16≤(l[i]).b∧(l[i]).b≤16:=of_decide_eq_true hin
  have hdrop:l.drop i=l[i]::l.drop (i+1):=List.drop_eq_getElem_cons hi
  rw[hdrop]at e2
  simp(disch:=first|exact Xe|fail)only[hi,zBX hi,zBG hi,↓Xa,Xb,Xc,↓reduceIte,Nat.reduceLT,Nat.reduceEqDiff,Nat.reduceBEq,Nat.reduceLeDiff,Nat.reduceAdd,Nat.reduceMul]
  generalize l[i]=q at*
  refine zAD fun p11 n11=>?_
  have hp2:=hp1.under (x:=.row 112 0 [.int .i64 q.a,.int .i64 q.b]) n11
  have g6:=hp2.p
  have g11:(Hb.upd p11 (some (.row 112 0 [.int .i64 q.a,.int .i64 q.b]))) p11=some (.row 112 0 [.int .i64 q.a,.int .i64 q.b]):=zAC _ _ _
  have hTq:Tz64H (Hb.upd p11 (some (.row 112 0 [.int .i64 q.a,.int .i64 q.b]))):=hTb.le ((Le.refl Hb).updB (by
   cases e:Hb p11 with
   |none=>rfl
   |some x=>rw[hp1.le p11 x e]at n11;cases n11))
  have hlq:Le Hb (Hb.upd p11 (some (.row 112 0 [.int .i64 q.a,.int .i64 q.b]))):=(Le.refl Hb).updB (by
   cases e:Hb p11 with
   |none=>rfl
   |some x=>rw[hp1.le p11 x e]at n11;cases n11)
  generalize(Hb.upd p11 (some (.row 112 0 [.int .i64 q.a,.int .i64 q.b])))=Hq at*
  simp(disch:=first|exact Xe|fail)only[zA1,↓Xa,Xb,Xc,↓reduceIte,Nat.reduceLT,Nat.reduceEqDiff,Nat.reduceBEq,Nat.reduceLeDiff,Nat.reduceAdd,Nat.reduceMul]
  generalize(M.upd p11 (some (.row 112 0 [.int .i64 q.a,.int .i64 q.b])))=M1 at*
  simp(disch:=first|exact Xe|fail)only[g6,zdm,↓Xa,Xb,Xc,↓reduceIte,Nat.reduceLT,Nat.reduceEqDiff,Nat.reduceBEq,Nat.reduceLeDiff,Nat.reduceAdd,Nat.reduceMul]
  have hol:((List.range i).map (zJx k)).length=i:=by simp
  refine PM.appO (i:=((k+i:Nat):Int)) hp2 (by omega) fun ov' M2 m1 m2 m3=>?_
  simp(disch:=first|exact Xe|fail)only[m1,m2,↓Xa,Xb,Xc,↓reduceIte,Nat.reduceLT,Nat.reduceEqDiff,Nat.reduceBEq,Nat.reduceLeDiff,Nat.reduceAdd,Nat.reduceMul]
  generalize(M2.upd p6 (some (.row 25 0 [.int .i64 (k:Int),.int .i64 ((k+l.length+1:Nat):Int),cv,ov'])))=M3 at*
  have k6:=m3.p
  by_cases hk:k=1
  ·have dk:decide (k=1)=true:=decide_eq_true hk
   rcases m3.o with⟨_,h0,_⟩|⟨h0,hbl,b,b1,b2,b3,hov,hb'⟩
   ·simp at h0
   have hmap:((((List.range i).map (zJx k))++[((k+i:Nat):Int)]).map fun n=>AV.int .i64 n).length=((List.range i).map (zJx k)).length+1:=by simp
   have hset:=m3.setO (i:=i) (x:=0) hov hb' b1 b2 b3 h0
   have eo:(((List.range i).map (zJx k))++[((k+i:Nat):Int)]).set i 0=(List.range (i+1)).map (zJx k):=by
    rw[List.set_append_right _ _ (by simp),List.range_succ,List.map_append,List.map_singleton]
    simp[zJx,hk]
   rw[eo]at hset
   simp(disch:=first|exact Xe|fail)only[zAK,dk,k6,hov,↓Xa,Xb,Xc,↓reduceIte,Nat.reduceLT,Nat.reduceEqDiff,Nat.reduceBEq,Nat.reduceLeDiff,Nat.reduceAdd,Nat.reduceMul]
   rw[hb']
   refine⟨hmap,(zUU (x:=.int .i64 ((0:Nat):Int)) hmap (by simp)).2 ?_⟩
   simp(disch:=first|exact Xe|fail)only[↓Xa,Xb,Xc,↓reduceIte,Nat.reduceLT,Nat.reduceEqDiff,Nat.reduceBEq,Nat.reduceLeDiff,Nat.reduceAdd,Nat.reduceMul]
   exact Settle.now ⟨(i+1,co,cv,ov',_),by dsimp only;omega,⟨by dsimp only;omega,by dsimp only;rw[← e2,zGp,zD0,if_pos hk],by dsimp only;omega,hset.drop hlq⟩,rfl⟩
  have dk:decide (k=1)=false:=decide_eq_false hk
  have k11:=m3.le _ _ g11
  have eo:((List.range i).map (zJx k))++[((k+i:Nat):Int)]=(List.range (i+1)).map (zJx k):=by
   rw[List.range_succ,List.map_append,List.map_singleton,zJx,if_neg hk]
  rw[eo]at m3
  have next: ∀{co':List Ins}{cv':AV}{M':AHeap},PM Hq M' p6 p7 k ((k+l.length+1:Nat):Int) co' ((List.range (i+1)).map (zJx k)) cv' ov'→zD0 k ((k+l.length:Nat):Int) ((k+i:Nat):Int) q.a q.b co=co'→co'.length≤co.length+1000→
   ∃s:Nat×List Ins×AV×AV×AHeap,l.length-s.1<l.length-i∧(s.1≤l.length∧zGp k l.length (l.drop s.1) s.1 s.2.1=zGp k l.length l 0 []∧s.2.1.length≤s.1*1000∧PM Hb s.2.2.2.2 p6 p7 k ((k+l.length+1:Nat):Int) s.2.1 ((List.range s.1).map (zJx k)) s.2.2.1 s.2.2.2.1)∧
    (⟨[],[(0,.int .i64 (k:Int)),(4,.ptr p4 4 0),(6,.ptr p6 4 0),(7,.ptr p7 1 0),(8,.int .i64 ((k+l.length:Nat):Int)),(9,.fn (.func 127) [] [.ptr p7 1 0]),(41,zBr l t),(42,.int .i64 (l.length:Int)),(43,.int .i64 ((i+1:Nat):Int))],M'⟩:St)=
    ⟨[],[(0,.int .i64 (k:Int)),(4,.ptr p4 4 0),(6,.ptr p6 4 0),(7,.ptr p7 1 0),(8,.int .i64 ((k+l.length:Nat):Int)),(9,.fn (.func 127) [] [.ptr p7 1 0]),(41,zBr l t),(42,.int .i64 (l.length:Int)),(43,.int .i64 s.1)],s.2.2.2.2⟩:=fun{co' cv' M'} hm he hlen=>
   ⟨(i+1,co',cv',ov',M'),by dsimp only;omega,⟨by dsimp only;omega,by dsimp only;rw[← he];exact e2,by dsimp only;omega,hm.drop hlq⟩,rfl⟩
  by_cases hA:q.a=0
  ·have dA:decide (q.a=((0:Nat):Int))=true:=decide_eq_true (by omega)
   by_cases hB:q.b=0
   ·have dB:decide (q.b=((0:Nat):Int))=true:=decide_eq_true (by omega)
    simp(disch:=first|exact Xe|fail)only[zAK,dk,k11,dA,dB,m3.f,↓Xa,Xb,Xc,↓reduceIte,Nat.reduceLT,Nat.reduceEqDiff,Nat.reduceBEq,Nat.reduceLeDiff,Nat.reduceAdd,Nat.reduceMul]
    refine zAM (zCO (i:=⟨((4:Nat):Int),((k+i:Nat):Int),((0:Nat):Int),((0:Nat):Int),((0:Nat):Int)⟩) m3 (by omega) fun M4 cv4 hp4=>?_)
    simp(disch:=first|exact Xe|fail)only[↓Xa,Xb,Xc,↓reduceIte,Nat.reduceLT,Nat.reduceEqDiff,Nat.reduceBEq,Nat.reduceLeDiff,Nat.reduceAdd,Nat.reduceMul]
    exact Settle.now (next hp4 (by rw[zD0,if_neg hk,if_pos ⟨hA,hB⟩];rfl) (by have:=zCW co ⟨((4:Nat):Int),((k+i:Nat):Int),((0:Nat):Int),((0:Nat):Int),((0:Nat):Int)⟩;omega))
   ·have dB:decide (q.b=((0:Nat):Int))=false:=decide_eq_false (by omega)
    simp(disch:=first|exact Xe|fail)only[zAK,dk,k11,dA,dB,m3.f,↓Xa,Xb,Xc,↓reduceIte,Nat.reduceLT,Nat.reduceEqDiff,Nat.reduceBEq,Nat.reduceLeDiff,Nat.reduceAdd,Nat.reduceMul]
    refine zAM (zDS (n:=k-1) hTq m3 hB hAB.2.2.1 hAB.2.2.2 (by omega) (by omega) fun M4 cv4 hp4=>?_)
    simp(disch:=first|exact Xe|fail)only[↓Xa,Xb,Xc,↓reduceIte,Nat.reduceLT,Nat.reduceEqDiff,Nat.reduceBEq,Nat.reduceLeDiff,Nat.reduceAdd,Nat.reduceMul]
    exact Settle.now (next hp4 (by rw[zD0,if_neg hk,if_neg (fun h=>hB h.2),if_pos hA];rfl) (by have:=zEW (to:=((k+i:Nat):Int)) (c:=q.b) (k-1) ((0:Nat):Int) co;omega))
  have dA:decide (q.a=((0:Nat):Int))=false:=decide_eq_false (by omega)
  by_cases hB:q.b=0
  ·have dB:decide (q.b=((0:Nat):Int))=true:=decide_eq_true (by omega)
   simp(disch:=first|exact Xe|fail)only[zAK,dk,k11,dA,dB,m3.f,↓Xa,Xb,Xc,↓reduceIte,Nat.reduceLT,Nat.reduceEqDiff,Nat.reduceBEq,Nat.reduceLeDiff,Nat.reduceAdd,Nat.reduceMul]
   refine zAM (zDS (n:=k-1) hTq m3 hA hAB.1 hAB.2.1 (by omega) (by omega) fun M4 cv4 hp4=>?_)
   simp(disch:=first|exact Xe|fail)only[↓Xa,Xb,Xc,↓reduceIte,Nat.reduceLT,Nat.reduceEqDiff,Nat.reduceBEq,Nat.reduceLeDiff,Nat.reduceAdd,Nat.reduceMul]
   exact Settle.now (next hp4 (by rw[zD0,if_neg hk,if_neg (fun h=>hA h.1),if_neg hA,if_pos hB]) (by have:=zEW (to:=((k+i:Nat):Int)) (c:=q.a) (k-1) ((k-1:Nat):Int) co;omega))
  have dB:decide (q.b=((0:Nat):Int))=false:=decide_eq_false (by omega)
  have hstart:((k-2:Nat):Int)=dn (k-1):=by rw[show k-1=(k-2)+1 by omega,zCj]
  simp(disch:=first|exact Xe|fail)only[zAK,dk,k11,dA,dB,m3.f,↓Xa,Xb,Xc,↓reduceIte,Nat.reduceLT,Nat.reduceEqDiff,Nat.reduceBEq,Nat.reduceLeDiff,Nat.reduceAdd,Nat.reduceMul]
  have hcl3:co.length≤15000:=by omega
  have ept:zD0 k ((k+l.length:Nat):Int) ((k+i:Nat):Int) q.a q.b co=zHo k ((k+i:Nat):Int) ((k+l.length:Nat):Int) q.a q.b (k-1) ((k-1:Nat):Int) co:=by
   rw[zD0,if_neg hk,if_neg (fun h=>hA h.1),if_neg hA,if_neg hB]
  refine zAO (fun s:Nat×Nat×List Ins×AV×AHeap=>⟨[],[(0,.int .i64 (k:Int)),(4,.ptr p4 4 0),(6,.ptr p6 4 0),(7,.ptr p7 1 0),(8,.int .i64 ((k+l.length:Nat):Int)),(9,.fn (.func 127) [] [.ptr p7 1 0]),(11,.ptr p11 2 0),(12,.int .i64 ((k+i:Nat):Int)),(13,.int .i64 (s.2.1:Int)),(14,.int .i64 (dn s.1)),(41,zBr l t),(42,.int .i64 (l.length:Int)),(43,.int .i64 (i:Int))],s.2.2.2.2⟩)
   (fun s=>s.1≤k-1∧zHo k ((k+i:Nat):Int) ((k+l.length:Nat):Int) q.a q.b s.1 s.2.1 s.2.2.1=zHo k ((k+i:Nat):Int) ((k+l.length:Nat):Int) q.a q.b (k-1) ((k-1:Nat):Int) co∧s.2.2.1.length≤co.length+(k-1-s.1)*20∧PM Hq s.2.2.2.2 p6 p7 k ((k+l.length+1:Nat):Int) s.2.2.1 ((List.range (i+1)).map (zJx k)) s.2.2.2.1 ov') (fun s=>s.1) (k-1,k-1,co,cv,M3) (Settle.now (by dsimp only;rw[hstart])) ⟨Nat.le_refl _,rfl,by dsimp only;omega,m3⟩ ?_
  rintro⟨J,fr,c2,cv2,M4⟩ ⟨f1,f2,f3,hp4⟩
  dsimp only at f1 f2 f3 hp4 ⊢
  have j11:=hp4.le _ _ g11
  cases J with
  |zero=>
   have dz:decide (((0:Nat):Int)≤ -1)=false:=by decide
   simp(disch:=first|exact Xe|fail)only[zEt,zCx,dz,↓Xa,Xb,Xc,↓reduceIte,Nat.reduceLT,Nat.reduceEqDiff,Nat.reduceBEq,Nat.reduceLeDiff,Nat.reduceAdd,Nat.reduceMul]
   refine Settle.now ?_
   simp(disch:=first|exact Xe|fail)only[↓Xa,Xb,Xc,↓reduceIte,Nat.reduceLT,Nat.reduceEqDiff,Nat.reduceBEq,Nat.reduceLeDiff,Nat.reduceAdd,Nat.reduceMul]
   exact Settle.now (next hp4 (by rw[ept,← f2];rfl) (by omega))
  |succ J=>
   have dz:decide (((0:Nat):Int)≤(J:Int))=true:=decide_eq_true (by omega)
   have hJ1:J≤k-1:=by omega
   have hJk:J<9223372036854775808:=by omega
   have hl2:c2.length≤16000:=by omega
   simp(disch:=first|exact Xe|fail)only[zCj,zCx,dz,hp4.f,j11,↓Xa,Xb,Xc,↓reduceIte,Nat.reduceLT,Nat.reduceEqDiff,Nat.reduceBEq,Nat.reduceLeDiff,Nat.reduceAdd,Nat.reduceMul]
   refine zEn (hTq.le hp4.le) hA hAB.1 hAB.2.1 ?_
   simp(disch:=first|exact Xe|fail)only[↓Xa,Xb,Xc,↓reduceIte,Nat.reduceLT,Nat.reduceEqDiff,Nat.reduceBEq,Nat.reduceLeDiff,Nat.reduceAdd,Nat.reduceMul]
   refine zAM (zCO hp4 (by omega) fun M5 cv5 hp5=>?_)
   have i11:=hp5.le _ _ g11
   have hl5:=zCW c2 (zBc ((k+i:Nat):Int) (fr:Int) q.a)
   generalize hc5:zH0 c2 (zBc ((k+i:Nat):Int) (fr:Int) q.a)=c5 at*
   have back: ∀{c6:List Ins}{cv6:AV}{M6:AHeap},PM Hq M6 p6 p7 k ((k+l.length+1:Nat):Int) c6 ((List.range (i+1)).map (zJx k)) cv6 ov'→zIl k ((k+i:Nat):Int) ((k+l.length:Nat):Int) q.a q.b (fr:Int) J c2=c6→c6.length≤c5.length+10→
    ∃s:Nat×Nat×List Ins×AV×AHeap,s.1<J+1∧(s.1≤k-1∧zHo k ((k+i:Nat):Int) ((k+l.length:Nat):Int) q.a q.b s.1 s.2.1 s.2.2.1=zHo k ((k+i:Nat):Int) ((k+l.length:Nat):Int) q.a q.b (k-1) ((k-1:Nat):Int) co∧s.2.2.1.length≤co.length+(k-1-s.1)*20∧PM Hq s.2.2.2.2 p6 p7 k ((k+l.length+1:Nat):Int) s.2.2.1 ((List.range (i+1)).map (zJx k)) s.2.2.2.1 ov')∧
     (⟨[],[(0,.int .i64 (k:Int)),(4,.ptr p4 4 0),(6,.ptr p6 4 0),(7,.ptr p7 1 0),(8,.int .i64 ((k+l.length:Nat):Int)),(9,.fn (.func 127) [] [.ptr p7 1 0]),(11,.ptr p11 2 0),(12,.int .i64 ((k+i:Nat):Int)),(13,.int .i64 ((k+i:Nat):Int)),(14,.int .i64 (dn J)),(41,zBr l t),(42,.int .i64 (l.length:Int)),(43,.int .i64 (i:Int))],M6⟩:St)=
     ⟨[],[(0,.int .i64 (k:Int)),(4,.ptr p4 4 0),(6,.ptr p6 4 0),(7,.ptr p7 1 0),(8,.int .i64 ((k+l.length:Nat):Int)),(9,.fn (.func 127) [] [.ptr p7 1 0]),(11,.ptr p11 2 0),(12,.int .i64 ((k+i:Nat):Int)),(13,.int .i64 (s.2.1:Int)),(14,.int .i64 (dn s.1)),(41,zBr l t),(42,.int .i64 (l.length:Int)),(43,.int .i64 (i:Int))],s.2.2.2.2⟩:=fun{c6 cv6 M6} hm he hlen=>
    ⟨(J,k+i,c6,cv6,M6),by dsimp only;omega,⟨by dsimp only;omega,by dsimp only;rw[← f2,zHo,he],by dsimp only;rw[show k-1-J=(k-1-(J+1))+1 by omega];omega,hm⟩,rfl⟩
   by_cases hB1:q.b=1
   ·have dB1:decide (q.b=((1:Nat):Int))=true:=decide_eq_true hB1
    simp(disch:=first|exact Xe|fail)only[zAK,i11,dB1,hp5.f,↓Xa,Xb,Xc,↓reduceIte,Nat.reduceLT,Nat.reduceEqDiff,Nat.reduceBEq,Nat.reduceLeDiff,Nat.reduceAdd,Nat.reduceMul]
    refine zAM (zCO (i:=⟨((3:Nat):Int),((k+i:Nat):Int),((k+i:Nat):Int),(J:Int),((0:Nat):Int)⟩) hp5 (by omega) fun M6 cv6 hp6=>?_)
    simp(disch:=first|exact Xe|fail)only[zC5 hJk,↓Xa,Xb,Xc,↓reduceIte,Nat.reduceLT,Nat.reduceEqDiff,Nat.reduceBEq,Nat.reduceLeDiff,Nat.reduceAdd,Nat.reduceMul]
    exact Settle.now (back hp6 (by rw[zIl,if_pos (.inl hB1),hc5];rfl) (by have:=zCW c5 ⟨((3:Nat):Int),((k+i:Nat):Int),((k+i:Nat):Int),(J:Int),((0:Nat):Int)⟩;omega))
   have dB1:decide (q.b=((1:Nat):Int))=false:=decide_eq_false hB1
   by_cases hBm:q.b= -1
   ·have dBm:decide (q.b= -1)=true:=decide_eq_true hBm
    by_cases hev:(k-1-J)%2=0
    ·simp(disch:=first|exact Xe|fail)only[zAK,i11,dB1,dBm,hp5.f,zIU,hev,↓Xa,Xb,Xc,↓reduceIte,Nat.reduceLT,Nat.reduceEqDiff,Nat.reduceBEq,Nat.reduceLeDiff,Nat.reduceAdd,Nat.reduceMul]
     refine⟨by decide,?_⟩
     refine zAM (zCO (i:=⟨((3:Nat):Int),((k+i:Nat):Int),((k+i:Nat):Int),(J:Int),((0:Nat):Int)⟩) hp5 (by omega) fun M6 cv6 hp6=>?_)
     simp(disch:=first|exact Xe|fail)only[zC5 hJk,↓Xa,Xb,Xc,↓reduceIte,Nat.reduceLT,Nat.reduceEqDiff,Nat.reduceBEq,Nat.reduceLeDiff,Nat.reduceAdd,Nat.reduceMul]
     exact Settle.now (back hp6 (by rw[zIl,if_pos (.inr ⟨hBm,hev⟩),hc5];rfl) (by have:=zCW c5 ⟨((3:Nat):Int),((k+i:Nat):Int),((k+i:Nat):Int),(J:Int),((0:Nat):Int)⟩;omega))
    ·have dev:decide ((((k-1-J)%2:Nat):Int)=((0:Nat):Int))=false:=decide_eq_false (by omega)
     simp(disch:=first|exact Xe|fail)only[zAK,i11,dB1,dBm,hp5.f,zIU,dev,↓Xa,Xb,Xc,↓reduceIte,Nat.reduceLT,Nat.reduceEqDiff,Nat.reduceBEq,Nat.reduceLeDiff,Nat.reduceAdd,Nat.reduceMul]
     refine⟨by decide,?_⟩
     refine zAM (zCO (i:=⟨((4:Nat):Int),((k+i:Nat):Int),((k+i:Nat):Int),(J:Int),((0:Nat):Int)⟩) hp5 (by omega) fun M6 cv6 hp6=>?_)
     simp(disch:=first|exact Xe|fail)only[zC5 hJk,↓Xa,Xb,Xc,↓reduceIte,Nat.reduceLT,Nat.reduceEqDiff,Nat.reduceBEq,Nat.reduceLeDiff,Nat.reduceAdd,Nat.reduceMul]
     exact Settle.now (back hp6 (by rw[zIl,if_neg (fun h=>h.elim hB1 fun h=>hev h.2),if_pos hBm,hc5];rfl) (by have:=zCW c5 ⟨((4:Nat):Int),((k+i:Nat):Int),((k+i:Nat):Int),(J:Int),((0:Nat):Int)⟩;omega))
   have dBm:decide (q.b= -1)=false:=decide_eq_false hBm
   simp(disch:=first|exact Xe|fail)only[zAK,i11,dB1,dBm,hp5.f,↓Xa,Xb,Xc,↓reduceIte,Nat.reduceLT,Nat.reduceEqDiff,Nat.reduceBEq,Nat.reduceLeDiff,Nat.reduceAdd,Nat.reduceMul]
   refine zAM (zDS (n:=k-1-J) hTq hp5 hB hAB.2.2.1 hAB.2.2.2 (by omega) (by omega) fun M6 cv6 hp6=>?_)
   have hl6:=zEW (to:=((k+l.length:Nat):Int)) (c:=q.b) (k-1-J) (J:Int) c5
   simp(disch:=first|exact Xe|fail)only[hp6.f,↓Xa,Xb,Xc,↓reduceIte,Nat.reduceLT,Nat.reduceEqDiff,Nat.reduceBEq,Nat.reduceLeDiff,Nat.reduceAdd,Nat.reduceMul]
   refine zAM (zCO (i:=⟨((3:Nat):Int),((k+i:Nat):Int),((k+i:Nat):Int),((k+l.length:Nat):Int),((0:Nat):Int)⟩) hp6 (by omega) fun M7 cv7 hp7=>?_)
   simp(disch:=first|exact Xe|fail)only[zC5 hJk,↓Xa,Xb,Xc,↓reduceIte,Nat.reduceLT,Nat.reduceEqDiff,Nat.reduceBEq,Nat.reduceLeDiff,Nat.reduceAdd,Nat.reduceMul]
   exact Settle.now (back hp7 (by rw[zIl,if_neg (fun h=>h.elim hB1 fun h=>hBm h.1),if_neg hBm,hc5];rfl) (by have:=zCW (zFo ((k+l.length:Nat):Int) q.b (k-1-J) (J:Int) c5) ⟨((3:Nat):Int),((k+i:Nat):Int),((k+i:Nat):Int),((k+l.length:Nat):Int),((0:Nat):Int)⟩;omega))
 ·obtain rfl:i=l.length:=by omega
  have g6:=hp1.p
  have g4:Hb p4=some (.row 25 0 [.int .i64 ((0:Nat):Int),.int .i64 ((0:Nat):Int),.seq 0 [] true,.seq 0 [] true]):=by rw[← hHb,zAC]
  have g4':=hp1.le _ _ g4
  rw[List.drop_length]at e2
  have e2':co=zGp k l.length l 0 []:=e2
  simp(disch:=first|exact Xe|fail)only[hi,↓Xa,Xb,Xc,↓reduceIte,Nat.reduceLT,Nat.reduceEqDiff,Nat.reduceBEq,Nat.reduceLeDiff,Nat.reduceAdd,Nat.reduceMul]
  refine Settle.now ?_
  simp(disch:=first|exact Xe|fail)only[g6,g4',zL1 hp1.c.cell hp1.o.cell,zbY,↓Xa,Xb,Xc,↓reduceIte,Nat.reduceLT,Nat.reduceEqDiff,Nat.reduceBEq,Nat.reduceLeDiff,Nat.reduceAdd,Nat.reduceMul]
  refine zSE (hp1.side hleb n4 g4) ?_
  rw[e2']
  exact hq
theorem zIY{H:AHeap}{Q:AV→AHeap→Prop}{k:Int}{l:List Pt}{t:Bool}(hT:Tz64H H)(hl:l.length<9223372036854775808)(hq:Q (.tup [zEF (prA k l),.int .i64 ((prE k l:Nat):Int)]) H):Run Tryz.prog 58 [.int .i64 k,zBr l t] H Q:=by
 by_cases h:zD4 k l
 ·obtain⟨n,rfl⟩: ∃n:Nat,k=(n:Int):=⟨k.toNat,by have:=h.1;omega⟩
  rw[prA,prE,if_pos h,if_pos h]at hq
  exact zKI hT (by have:=h.1;omega) (by have:=h.1;omega) h.2 hq
 ·rw[prA,prE,if_neg h,if_neg h]at hq
  exact zNM hl h H Q hq
structure MachIn(H:AHeap)(mb br:Nat)(p:PR)(N n L k:Nat)(regs:List (List Int)):Prop where
 m:H mb=some (.row 161 0 (zWy p (.own br N 0 N false) n))
 b:H br=some (.row 29 1 (GI regs))
 ne:mb≠br
 len:regs.length=N
 pN:p.regs=(N:Int)
 right:zBl p
 good:zEV k L regs
 hk:k≤90000
 hL:L≤100000
 hn:n≤p.code.length
section
variable {H:AHeap} {Q:AV→AHeap→Prop} {mb br N n L k:Nat} {p:PR} {regs:List (List Int)}
theorem MachIn.cells(h:MachIn H mb br p N n L k regs):H mb=some (.row 161 0 [.int .i64 p.ins,.int .i64 p.regs,zBI p.code false,zAr p.outs false,.own br N 0 N false,.int .i64 n]):=h.m
theorem MachIn.lc(h:MachIn H mb br p N n L k regs):p.code.length<9223372036854775808∧p.outs.length<9223372036854775808:=by
 have hh:=h.right.1
 unfold zET at hh
 omega
theorem MachIn.step(h:MachIn H mb br p N n L k regs)(hk:k+3≤90000)(hT: ∀i,i∈p.code→i.op=8→TzH H)
 (hq0:n=p.code.length→Q (.int .i64 ((4:Nat):Int)) H)
 (hq1: ∀hn:n<p.code.length,∀x H',doR p.code[n] (regs.getD (p.code[n]).a.toNat []) (regs.getD (p.code[n]).b.toNat [])=some x→MachIn H' mb br p N (n+1) L (k+3) (regs.set (p.code[n]).to.toNat x)→(∀o v,o≠mb→o≠br→H o=some v→H' o=some v)→Q (.int .i64 ((0:Nat):Int)) H')
 (hq2: ∀hn:n<p.code.length,doR p.code[n] (regs.getD (p.code[n]).a.toNat []) (regs.getD (p.code[n]).b.toNat [])=none→Q (.int .i64 ((20:Nat):Int)) H):
 Run Tryz.prog 33 [.ptr mb 6 0] H Q:=by
 refine zT6 h.m h.b h.ne h.len h.pN h.right h.good h.hk h.hL h.hn hT hq0 (fun hn x hdo hbx hxl=>hq1 hn x _ hdo ⟨zAC _ _ _,by rw[zAA _ _ (Ne.symm h.ne),zAC],h.ne,by rw[List.length_set,h.len],h.pN,h.right,fun r hm=>?_,hk,h.hL,hn⟩ fun o v h1 h2 ho=>by rw[zAA _ _ h1,zAA _ _ h2];exact ho) hq2
 rcases List.mem_or_eq_of_mem_set hm with hm|rfl
 ·exact⟨(h.good r hm).1,(h.good r hm).2.mono (by omega)⟩
 ·exact⟨hxl,hbx⟩
end
section
variable {g:List (List Int)} {t1 t2:Bool}
end
theorem Wk.prog{p:PR}{a b:Bool}:Wk (AV.agg [.int .i64 p.ins,.int .i64 p.regs,zBI p.code a,zAr p.outs b]) (zEF p):=fun c v he=>by
 cases he with
 |agg _ vs hlen hc=>
  refine .agg _ _ hlen fun i hi hi'=>?_
  have:=hc i hi hi'
  match i,hi with
  |0,_=>exact this
  |1,_=>exact this
  |2,_=>exact Wk.l0 _ _ this
  |3,_=>exact Wk.l0 _ _ this
theorem Fr.row{zs:List Int}{H:AHeap}:Lent H (rI zs) (rI zs):=Lent.same
def zgF(a b:List Int):List Int:=zHO (· + ·) a b
def Add3(L N:Nat)(r s u:List (List Int)):Prop:=r.length=N∧s.length=N∧u.length=N∧∀j,j<N→(r.getD j []).length=L∧(s.getD j []).length=L∧u.getD j []=zgF (r.getD j []) (s.getD j [])
theorem Add3.set{L N:Nat}{r s u:List (List Int)}(h:Add3 L N r s u){k:Nat}(hk:k<N){x y:List Int}(lx:x.length=L)(ly:y.length=L):Add3 L N (r.set k x) (s.set k y) (u.set k (zgF x y)):=by
 obtain⟨h1,h2,h3,h4⟩:=h
 refine⟨by rw[List.length_set,h1],by rw[List.length_set,h2],by rw[List.length_set,h3],fun j hj=>?_⟩
 rw[zDd (by omega),zDd (by omega),zDd (by omega)]
 split
 ·exact⟨lx,ly,rfl⟩
 ·exact h4 j hj
theorem zaO{p:PR}{g:List (List Int)}:zDJ p g=0↔((zBl p∧(g.length:Int)=p.ins)∧(∀r,r∈g→r.length=(g.getD 0 []).length)∧(g.getD 0 []).length≤4096):=by
 unfold zDJ
 by_cases c:zBl p∧(g.length:Int)=p.ins
 ·rw[if_pos c]
  by_cases c2:(∀r,r∈g→r.length=(g.getD 0 []).length)∧(g.getD 0 []).length≤4096
  ·rw[if_pos c2];exact⟨fun _=>⟨c,c2⟩,fun _=>rfl⟩
  ·rw[if_neg c2];exact⟨fun h=>absurd h (by decide),fun h=>absurd h.2 c2⟩
 ·have hne:zRw p (g.length:Int)≠0:=by
   unfold zRw
   by_cases c2:zBl p
   ·rw[if_pos c2,if_neg fun e=>c ⟨c2,e⟩];decide
   ·rw[if_neg c2];decide
  rw[if_neg c];exact⟨fun h=>absurd h hne,fun h=>absurd h.1 c⟩
def zVB(p:PR)(g:List (List Int)):Prop:=(80<p.code.length∧p.code.length≤16384)∨(40<p.regs∧p.regs≤128)∨300<zdQ (g.map fun l=>l.length)
instance (p:PR)(g:List (List Int)):Decidable (zVB p g):=by unfold zVB;infer_instance
theorem zP8{N L:Nat}(hL:L≤100000): ∀(code:List Ins)(r:List (List Int))(k:Nat),(∀i,i∈code→zFO (N:Int) i)→r.length=N→zEV k L r→zEV (k+3*code.length) L (zFK doR [] code r).2
 |[],r,k,_,_,h=>h
 |i::l,r,k,hm,hN,h=>by
  have hi:=hm i (by simp)
  have hb:=zLv hi
  have ha:=hi.2.2
  have up:zEV (k+3*(i::l).length) L r:=fun x hx=>⟨(h x hx).1,fun z hz=>((h x hx).2.1 z hz).mono (by omega),(h x hx).2.2⟩
  have at': ∀m:Nat,m<N→(r.getD m []).length=L∧RB4 k (r.getD m []):=fun m hm'=>by
   rw[List.getD_eq_getElem?_getD,List.getElem?_eq_getElem (by omega)];exact h _ (List.getElem_mem _)
  simp only[zFK]
  cases e:doR i (r.getD i.a.toNat []) (r.getD i.b.toNat [])with
  |none=>exact up
  |some x=>
   obtain⟨la,ba⟩:=at' i.a.toNat (by omega)
   obtain⟨lb,bb⟩:=at' i.b.toNat (by omega)
   have lx:=(zKd (by rw[la,lb]) e).trans la
   have hg:zEV (k+3) L (r.set i.to.toNat x):=fun y hy=>by
    rcases List.mem_or_eq_of_mem_set hy with hy|rfl
    ·exact⟨(h y hy).1,fun z hz=>((h y hy).2.1 z hz).mono (by omega),(h y hy).2.2⟩
    ·refine⟨lx,fun z hz=>?_,by omega⟩
     obtain⟨m,hm',rfl⟩:=List.getElem_of_mem hz
     have q:=zOg (by rw[la,lb]) e (k:=m) (by omega)
     have e1:(r.getD i.a.toNat []).getD m 0=(r.getD i.a.toNat [])[m]'(by omega):=by rw[List.getD_eq_getElem?_getD,List.getElem?_eq_getElem (by omega)];rfl
     have e2:(r.getD i.b.toNat []).getD m 0=(r.getD i.b.toNat [])[m]'(by omega):=by rw[List.getD_eq_getElem?_getD,List.getElem?_eq_getElem (by omega)];rfl
     have e3:y.getD m 0=y[m]:=by rw[List.getD_eq_getElem?_getD,List.getElem?_eq_getElem (by omega)];rfl
     rw[e1,e2,e3]at q
     exact zVb hi (ba.1 _ (List.getElem_mem _)) (bb.1 _ (List.getElem_mem _)) q
   have:=zP8 hL l _ (k+3) (fun j hj=>hm j (by simp[hj])) (by simpa using hN) hg
   rw[show k+3*(i::l).length=k+3+3*l.length by simp;omega]
   exact this
def zNS(c:List Ins):Prop:= ∀i,i∈c→i.op≠6∧i.op≠8
instance (c:List Ins):Decidable (zNS c):=by unfold zNS;infer_instance
def zJU(k:Nat)(l:List Pt):List (List Int):=l.map fun q=>zBC q.a q.b k
def evQ(p:PR)(k:Int)(l:List Pt):Prop:=p.ins=k∧p.outs.length=l.length∧zNS p.code∧zEq p (zBu k.toNat) k.toNat=zJU k.toNat l
instance (p:PR)(k:Int)(l:List Pt):Decidable (evQ p k l):=by unfold evQ;infer_instance
def evB(p:PR)(k:Int)(l:List Pt):Bool:=decide (zD4 k l∧zBl p∧evQ p k l)
def evE(p:PR)(k:Int)(l:List Pt):Nat:=if zD4 k l then(if zBl p then 0 else 80)else 2
theorem zDQ{n:Nat}:(zBu n).length=n:=by simp[zBu]
theorem zEL{n:Nat}(hn:n≤8): ∀r,r∈zBu n→r.length=n∧RB4 1 r:=fun r hr=>by
 obtain⟨i,hi,rfl⟩:=List.mem_map.1 hr
 refine⟨by simp,fun z hz=>?_,by simp;omega⟩
 rcases List.mem_or_eq_of_mem_set hz with hz|rfl
 ·rw[(List.mem_replicate.1 hz).2];exact Bd.zero _
 ·unfold Bd;decide
theorem zIB{n:Nat}(h:0<n):((zBu n).getD 0 []).length=n:=by
 have:0<(zBu n).length:=by rw[zDQ];exact h
 rw[List.getD_eq_getElem?_getD,List.getElem?_eq_getElem this];simp[zBu]
theorem zOn{i:Ins}{a b:List Int}(h:i.op≠6∧i.op≠8): ∃x,doR i a b=some x:=by
 unfold doR
 repeat' split
 all_goals first|exact⟨_,rfl⟩|omega
theorem zIu: ∀(c:List Ins)(r:List (List Int)),zNS c→(zFK doR [] c r).1.length=c.length
 |[],_,_=>rfl
 |i::l,r,h=>by
  obtain⟨x,hx⟩:=zOn (a:=r.getD i.a.toNat []) (b:=r.getD i.b.toNat []) (h i (by simp))
  unfold zFK
  rw[hx]
  simp only[List.length_cons]
  rw[zIu l _ fun j hj=>h j (by simp[hj])]
theorem zUN{p:PR}{g:List (List Int)}{k L:Nat}(hr:zBl p)(hlen:(g.length:Int)=p.ins)(hL:L≤4096)(hg: ∀r,r∈g→r.length=L)(hz: ∀r,r∈g→RB4 k r): ∀r,r∈zEq p g L→r.length=L∧RB4 (k+3*p.code.length) r:=fun r hm=>by
 have hh:=hr.1
 unfold zET at hh
 have hN:((p.regs.toNat:Nat):Int)=p.regs:=by omega
 have h1:zEV k L (zBN p g L):=fun x hx=>by
  rcases List.mem_append.1 hx with hx|hx
  ·exact⟨hg x hx,hz x hx⟩
  ·obtain⟨_,rfl⟩:=List.mem_replicate.1 hx
   exact⟨by simp,fun z hz=>by
    obtain⟨_,rfl⟩:=List.mem_replicate.1 hz
    exact Bd.zero _,by simp;omega⟩
 have h2:=zP8 (N:=p.regs.toNat) (by omega) p.code (zBN p g L) k (fun i hi=>by rw[hN];exact hr.2.2 i hi) (by simp[zBN];omega) h1
 obtain⟨n,hn,rfl⟩:=List.mem_map.1 hm
 have hn2:=hr.2.1 n hn
 have hlen:(zFK doR [] p.code (zBN p g L)).2.length=p.regs.toNat:=by rw[zJ5];simp[zBN];omega
 have e:(zFK doR [] p.code (zBN p g L)).2.getD n.toNat []=(zFK doR [] p.code (zBN p g L)).2[n.toNat]'(by omega):=by rw[List.getD_eq_getElem?_getD,List.getElem?_eq_getElem (by omega)];rfl
 rw[e]
 exact h2 _ (List.getElem_mem (by omega:n.toNat<(zFK doR [] p.code (zBN p g L)).2.length))
theorem zSt{p:PR}{k:Nat}(hk1:1≤k)(hk8:k≤8)(hr:zBl p)(hi:p.ins=(k:Int))(hd:zNS p.code):zR1 p (zBu k)=(zEq p (zBu k) k,0,0):=by
 have h0:zDJ p (zBu k)=0:=zaO.2 ⟨⟨hr,by rw[zDQ,hi]⟩,fun r hm=>by rw[zIB (by omega)];exact(zEL hk8 r hm).1,by rw[zIB (by omega)];omega⟩
 rw[zR1,if_pos h0,zIB (by omega),if_neg]
 have:=zIu p.code (zBN p (zBu k) k) hd
 unfold zFl;omega
theorem zTr{A B:Int}{k:Nat}(hk:k≤16)(hin:zEs A B=true):RB4 6 (zBC A B k):=by
 have hb: -16≤A∧A≤16∧ -16≤B∧B≤16:=of_decide_eq_true hin
 refine⟨fun z hz=>?_,by simp[zBC];omega⟩
 obtain⟨i,hi,rfl⟩:=List.mem_map.1 hz
 have:=List.mem_range.1 hi
 exact(zEy (by omega) hb.1 hb.2.1).mul (zEy (by omega) hb.2.2.1 hb.2.2.2)
theorem zDz{p:PR}{k:Int}{l:List Pt}{t:Bool}(hp:p.ok)(hl:l.length<9223372036854775808):PFn Tryz.prog 63 [zEF p,.int .i64 k,zBr l t] (.tup [.bool (evB p k l),.int .i64 ((evE p k l:Nat):Int)]):=by
 intro H Q hq
 have hpc:=hp.2.2.2.1
 have hpo:=hp.2.2.2.2.2
 have lc:p.code.length<9223372036854775808:=by omega
 have lo:p.outs.length<9223372036854775808:=by omega
 refine zW6 (by simp) ?_
 simp(disch:=first|exact Xe|fail)only[zfb,zBj,↓Xa,Xb,Xc,↓reduceIte,Nat.reduceLT,Nat.reduceEqDiff,Nat.reduceBEq,Nat.reduceLeDiff,Nat.reduceAdd,Nat.reduceMul]
 refine zAD fun p3 n3=>?_
 have G3:(H.upd p3 (some (.row 25 0 [.int .i64 p.ins,.int .i64 p.regs,zBI p.code false,zAr p.outs false]))) p3=some (.row 25 0 [.int .i64 p.ins,.int .i64 p.regs,zBI p.code false,zAr p.outs false]):=zAC _ _ _
 have hHG:Le H (H.upd p3 (some (.row 25 0 [.int .i64 p.ins,.int .i64 p.regs,zBI p.code false,zAr p.outs false]))):=(Le.refl H).updB n3
 generalize(H.upd p3 (some (.row 25 0 [.int .i64 p.ins,.int .i64 p.regs,zBI p.code false,zAr p.outs false])))=G at*
 have fin: ∀{b:Bool}{e:Nat}{M:AHeap},evB p k l=b→evE p k l=e→Le G M→SetR Q (.tup [.bool b,.int .i64 ((e:Nat):Int)]) M:=fun{b e M} h1 h2 hm=>by
  rw[h1,h2]at hq
  exact SetR.dropTo (hHG.trans hm) (SetR.now hq)
 have noK: ¬zD4 k l→evB p k l=false∧evE p k l=2:=fun h=>⟨decide_eq_false fun g=>h g.1,if_neg h⟩
 by_cases h1:k<1
 ·have d1:decide (k<((1:Nat):Int))=true:=decide_eq_true (by omega)
  obtain⟨f1,f2⟩:=noK fun h=>by have:=h.1;omega
  simp(disch:=first|exact Xe|fail)only[zAc,d1,zPm,↓Xa,Xb,Xc,↓reduceIte,Nat.reduceLT,Nat.reduceEqDiff,Nat.reduceBEq,Nat.reduceLeDiff,Nat.reduceAdd,Nat.reduceMul]
  exact fin f1 f2 (Le.refl _)
 have d1:decide (k<((1:Nat):Int))=false:=decide_eq_false (by omega)
 by_cases h2:8<k
 ·have d2:decide (((8:Nat):Int)<k)=true:=decide_eq_true (by omega)
  obtain⟨f1,f2⟩:=noK fun h=>by have:=h.1;omega
  simp(disch:=first|exact Xe|fail)only[zAc,zAw,d1,d2,zPm,↓Xa,Xb,Xc,↓reduceIte,Nat.reduceLT,Nat.reduceEqDiff,Nat.reduceBEq,Nat.reduceLeDiff,Nat.reduceAdd,Nat.reduceMul]
  exact fin f1 f2 (Le.refl _)
 have d2:decide (((8:Nat):Int)<k)=false:=decide_eq_false (by omega)
 obtain⟨n,rfl⟩: ∃n:Nat,k=(n:Int):=⟨k.toNat,by omega⟩
 have hn1:1≤n:=by omega
 have hn8:n≤8:=by omega
 simp(disch:=first|exact Xe|fail)only[zAc,zAw,d1,d2,↓Xa,Xb,Xc,↓reduceIte,Nat.reduceLT,Nat.reduceEqDiff,Nat.reduceBEq,Nat.reduceLeDiff,Nat.reduceAdd,Nat.reduceMul]
 refine(zCl hl).call ?_
 by_cases hpt:zDv l
 rotate_right
 ·obtain⟨f1,f2⟩:=noK fun h=>hpt h.2
  simp(disch:=first|exact Xe|fail)only[decide_eq_false hpt,zPm,↓Xa,Xb,Xc,↓reduceIte,Nat.reduceLT,Nat.reduceEqDiff,Nat.reduceBEq,Nat.reduceLeDiff,Nat.reduceAdd,Nat.reduceMul]
  exact fin f1 f2 (Le.refl _)
 have hK:zD4 ((n:Nat):Int) l:=⟨⟨by omega,by omega⟩,hpt⟩
 have h15:=hpt.2.2
 simp(disch:=first|exact Xe|fail)only[decide_eq_true hpt,G3,zCM,↓Xa,Xb,Xc,↓reduceIte,Nat.reduceLT,Nat.reduceEqDiff,Nat.reduceBEq,Nat.reduceLeDiff,Nat.reduceAdd,Nat.reduceMul]
 obtain⟨kk,hck⟩:=zMP p hp
 refine hck.call ?_
 by_cases hr:zBl p
 rotate_right
 ·rw[if_neg hr]
  have d0:decide (((80:Nat):Int)=((0:Nat):Int))=false:=rfl
  simp(disch:=first|exact Xe|fail)only[zAU,d0,zPm,↓Xa,Xb,Xc,↓reduceIte,Nat.reduceLT,Nat.reduceEqDiff,Nat.reduceBEq,Nat.reduceLeDiff,Nat.reduceAdd,Nat.reduceMul]
  exact fin (decide_eq_false fun g=>hr g.2.1) (by rw[evE,if_pos hK,if_neg hr]) (Le.refl _)
 rw[if_pos hr]
 have d0:decide (((0:Nat):Int)=((0:Nat):Int))=true:=rfl
 have he0:evE p ((n:Nat):Int) l=0:=by rw[evE,if_pos hK,if_pos hr]
 have no: ¬evQ p ((n:Nat):Int) l→evB p ((n:Nat):Int) l=false:=fun h=>decide_eq_false fun g=>h g.2.2
 by_cases hin:p.ins=((n:Nat):Int)
 rotate_right
 ·have d3:decide (p.ins=((n:Nat):Int))=false:=decide_eq_false hin
  simp(disch:=first|exact Xe|fail)only[zAU,d0,d3,G3,zPm,↓Xa,Xb,Xc,↓reduceIte,Nat.reduceLT,Nat.reduceEqDiff,Nat.reduceBEq,Nat.reduceLeDiff,Nat.reduceAdd,Nat.reduceMul]
  exact fin (no fun g=>hin g.1) he0 (Le.refl _)
 have d3:decide (p.ins=((n:Nat):Int))=true:=decide_eq_true hin
 by_cases hol:p.outs.length=l.length
 rotate_right
 ·have d4:decide (((p.outs.length:Nat):Int)=((l.length:Nat):Int))=false:=decide_eq_false (by omega)
  simp(disch:=first|exact Xe|fail)only[zAU,d0,d3,d4,G3,zAm lo,zAb hl,zPm,↓Xa,Xb,Xc,↓reduceIte,Nat.reduceLT,Nat.reduceEqDiff,Nat.reduceBEq,Nat.reduceLeDiff,Nat.reduceAdd,Nat.reduceMul]
  exact fin (no fun g=>hol g.2.1) he0 (Le.refl _)
 have d4:decide (((p.outs.length:Nat):Int)=((l.length:Nat):Int))=true:=decide_eq_true (by omega)
 simp(disch:=first|exact Xe|fail)only[zAU,d0,d3,d4,G3,zAm lo,zAb hl,zBf lc,↓Xa,Xb,Xc,↓reduceIte,Nat.reduceLT,Nat.reduceEqDiff,Nat.reduceBEq,Nat.reduceLeDiff,Nat.reduceAdd,Nat.reduceMul]
 refine zAO (fun s:Nat=>⟨[],[(1,.int .i64 (n:Int)),(2,zBr l t),(3,.ptr p3 4 0),(52,zBI p.code false),(53,.int .i64 (p.code.length:Int)),(54,.int .i64 s)],G⟩) (fun s=>s≤p.code.length∧zNS (p.code.take s)) (fun s=>p.code.length-s) 0 (Settle.now rfl) ⟨Nat.zero_le _,fun i hi=>by simp at hi⟩ ?_
 rintro s ⟨s1,s2⟩
 by_cases hs:s<p.code.length
 ·simp(disch:=first|exact Xe|fail)only[hs,zDb hs,zCw hs,↓Xa,Xb,Xc,↓reduceIte,Nat.reduceLT,Nat.reduceEqDiff,Nat.reduceBEq,Nat.reduceLeDiff,Nat.reduceAdd,Nat.reduceMul]
  refine zAD fun p11 n11=>?_
  simp(disch:=first|exact Xe|fail)only[zA6,↓Xa,Xb,Xc,↓reduceIte,Nat.reduceLT,Nat.reduceEqDiff,Nat.reduceBEq,Nat.reduceLeDiff,Nat.reduceAdd,Nat.reduceMul]
  by_cases o6:(p.code[s]).op=6
  ·have e6:decide ((p.code[s]).op=((6:Nat):Int))=true:=decide_eq_true o6
   simp(disch:=first|exact Xe|fail)only[zAK,e6,zPm,↓Xa,Xb,Xc,↓reduceIte,Nat.reduceLT,Nat.reduceEqDiff,Nat.reduceBEq,Nat.reduceLeDiff,Nat.reduceAdd,Nat.reduceMul]
   exact fin (no fun g=>(g.2.2.1 _ (List.getElem_mem hs)).1 o6) he0 ((Le.refl G).updB n11)
  have e6:decide ((p.code[s]).op=((6:Nat):Int))=false:=decide_eq_false o6
  by_cases o8:(p.code[s]).op=8
  ·have e8:decide ((p.code[s]).op=((8:Nat):Int))=true:=decide_eq_true o8
   simp(disch:=first|exact Xe|fail)only[zAK,e6,e8,zPm,↓Xa,Xb,Xc,↓reduceIte,Nat.reduceLT,Nat.reduceEqDiff,Nat.reduceBEq,Nat.reduceLeDiff,Nat.reduceAdd,Nat.reduceMul]
   exact fin (no fun g=>(g.2.2.1 _ (List.getElem_mem hs)).2 o8) he0 ((Le.refl G).updB n11)
  have e8:decide ((p.code[s]).op=((8:Nat):Int))=false:=decide_eq_false o8
  simp(disch:=first|exact Xe|fail)only[zAK,e6,e8,↓Xa,Xb,Xc,↓reduceIte,Nat.reduceLT,Nat.reduceEqDiff,Nat.reduceBEq,Nat.reduceLeDiff,Nat.reduceAdd,Nat.reduceMul]
  refine Settle.dropTo ((Le.refl G).updB n11) (Settle.now ⟨s+1,by omega,⟨by omega,fun i hi=>?_⟩,rfl⟩)
  rw[List.take_succ_eq_append_getElem hs]at hi
  rcases List.mem_append.1 hi with hi|hi
  ·exact s2 i hi
  ·rw[List.mem_singleton.1 hi];exact⟨o6,o8⟩
 obtain rfl:s=p.code.length:=by omega
 rw[List.take_length]at s2
 have hans:=zSt hn1 hn8 hr hin s2
 have hh:=hr.1
 unfold zET at hh
 simp(disch:=first|exact Xe|fail)only[hs,↓Xa,Xb,Xc,↓reduceIte,Nat.reduceLT,Nat.reduceEqDiff,Nat.reduceBEq,Nat.reduceLeDiff,Nat.reduceAdd,Nat.reduceMul]
 refine Settle.now ?_
 simp(disch:=first|exact Xe|fail)only[G3,zCM,↓Xa,Xb,Xc,↓reduceIte,Nat.reduceLT,Nat.reduceEqDiff,Nat.reduceBEq,Nat.reduceLeDiff,Nat.reduceAdd,Nat.reduceMul]
 have hU:=zSP hn8
 have eU:AV.seq n (GI (zBu n)) false=GIA (zBu n) false:=by show _=AV.seq (zBu n).length _ _;rw[zDQ]
 rw[eU]at hU
 refine PFn.dcall hU ?_
 simp(disch:=first|exact Xe|fail)only[↓Xa,Xb,Xc,↓reduceIte,Nat.reduceLT,Nat.reduceEqDiff,Nat.reduceBEq,Nat.reduceLeDiff,Nat.reduceAdd,Nat.reduceMul]
 refine zAM (zKJ (grid:=zBu n) (t:=false) (k0:=1) hp (by rw[zIB hn1];omega) (fun r hm=>(zEL hn8 r hm).2) (by rw[zDQ];omega) (fun _=>by omega) fun y M hy=>?_)
 rw[hans]at hy ⊢
 dsimp only at hy ⊢
 have hRl:(zEq p (zBu n) n).length=l.length:=by simp[zEq,hol]
 have hRb:=zUN hr (by rw[zDQ,hin]) (by omega) (fun r hm=>(zEL hn8 r hm).1) (fun r hm=>(zEL hn8 r hm).2)
 have hev:evQ p ((n:Nat):Int) l↔zEq p (zBu n) n=zJU n l:=⟨fun g=>g.2.2.2,fun g=>⟨hin,hol,s2,g⟩⟩
 generalize zEq p (zBu n) n=R at*
 have hwl:(zJU n l).length=l.length:=by simp[zJU]
 simp(disch:=first|exact Xe|fail)only[zAU,d0,zAb hl,↓Xa,Xb,Xc,↓reduceIte,Nat.reduceLT,Nat.reduceEqDiff,Nat.reduceBEq,Nat.reduceLeDiff,Nat.reduceAdd,Nat.reduceMul]
 refine zAO (fun s:Nat=>⟨[],[(1,.int .i64 (n:Int)),(12,GIA R false),(77,zBr l t),(78,.int .i64 (l.length:Int)),(79,.int .i64 s)],G⟩) (fun s=>s≤l.length∧R.take s=(zJU n l).take s) (fun s=>l.length-s) 0 (Settle.grownC 12 rfl hy (Settle.now rfl)) ⟨Nat.zero_le _,rfl⟩ ?_
 rintro s ⟨f1,f2⟩
 by_cases hs2:s<l.length
 ·have hq2:=hpt.1 _ (List.getElem_mem hs2)
  have hsR:s<R.length:=by omega
  have hix: ∀{k:IntKind}{K:AV→Prop},zBg 1 (GIA R false) (.int k (s:Int)) K=K (.cptr ((GI R).drop s)):=fun{k K}=>by
   have:=zQy (f:=rI) (l:=R) (t:=false) (k:=k) (K:=K) (i:=s) hsR
   rw[Nat.mul_one]at this;exact this
  have hld: ∀{M:AHeap}{K:AV→Prop},zA9 M none (.cptr ((GI R).drop s)) K=K (rI (R[s])):=fun{M K}=>zMQ hsR
  obtain⟨rl,rb⟩:=hRb _ (List.getElem_mem hsR)
  have ew:(zJU n l)[s]'(by omega)=zBC (l[s]).a (l[s]).b n:=by simp[zJU]
  have bw:=zTr (k:=n) (by omega) hq2
  have lw:(zBC (l[s]).a (l[s]).b n).length=n:=by simp[zBC]
  simp(disch:=first|exact Xe|fail)only[hs2,zBX hs2,zBG hs2,↓Xa,Xb,Xc,↓reduceIte,Nat.reduceLT,Nat.reduceEqDiff,Nat.reduceBEq,Nat.reduceLeDiff,Nat.reduceAdd,Nat.reduceMul]
  refine zAD fun p15 n15=>?_
  simp(disch:=first|exact Xe|fail)only[zA1,zBA,↓Xa,Xb,Xc,↓reduceIte,Nat.reduceLT,Nat.reduceEqDiff,Nat.reduceBEq,Nat.reduceLeDiff,Nat.reduceAdd,Nat.reduceMul]
  refine(zJT (n:=n) (by omega) hq2).call ?_
  have stepR:R[s]=zBC (l[s]).a (l[s]).b n→R.take (s+1)=(zJU n l).take (s+1):=fun h=>by
   rw[List.take_succ_eq_append_getElem hsR,List.take_succ_eq_append_getElem (by omega),f2,ew,h]
  have noR:R[s]≠zBC (l[s]).a (l[s]).b n→¬evQ p ((n:Nat):Int) l:=fun h g=>by
   rw[hev]at g
   apply h
   rw[← ew]
   simp only[g]
  have rl':(R[s]).length<9223372036854775808:=by omega
  simp(disch:=first|exact Xe|fail)only[hix,hld,zBE,rl',↓Xa,Xb,Xc,↓reduceIte,Nat.reduceLT,Nat.reduceEqDiff,Nat.reduceBEq,Nat.reduceLeDiff,Nat.reduceAdd,Nat.reduceMul]
  generalize hwr:zBC (l[s]).a (l[s]).b n=w at*
  generalize hrr:R[s]=r at*
  refine zAO (fun j:Nat=>⟨[],[(1,.int .i64 (n:Int)),(12,GIA R false),(16,zBk w true),(77,zBr l t),(78,.int .i64 (l.length:Int)),(79,.int .i64 s),(93,rI r),(94,.int .i64 (r.length:Int)),(95,.int .i64 j)],G⟩) (fun j=>j≤n∧r.take j=w.take j) (fun j=>n-j) 0 (Settle.dropTo ((Le.refl G).updB n15) (Settle.now rfl)) ⟨Nat.zero_le _,rfl⟩ ?_
  rintro j ⟨j1,j2⟩
  by_cases hj:j<n
  ·have hjr:j<r.length:=by omega
   have hjw:j<w.length:=by omega
   simp(disch:=first|exact Xe|fail)only[hjr,zDy,zCi,↓Xa,Xb,Xc,↓reduceIte,Nat.reduceLT,Nat.reduceEqDiff,Nat.reduceBEq,Nat.reduceLeDiff,Nat.reduceAdd,Nat.reduceMul]
   refine zAD fun p19 n19=>?_
   simp(disch:=first|exact Xe|fail)only[hjr,hjw,zAE,zAF,zDy,zCi,↓Xa,Xb,Xc,↓reduceIte,Nat.reduceLT,Nat.reduceEqDiff,Nat.reduceBEq,Nat.reduceLeDiff,Nat.reduceAdd,Nat.reduceMul]
   refine(zYm (rb.at hjr) (by omega) (bw.at hjw) (by omega)).call ?_
   by_cases he:r[j]=w[j]
   ·have ec:decide (zOQ (r[j]) (w[j])=((0:Nat):Int))=true:=decide_eq_true (by rw[he];simp[zOQ])
    simp(disch:=first|exact Xe|fail)only[zAU,ec,↓Xa,Xb,Xc,↓reduceIte,Nat.reduceLT,Nat.reduceEqDiff,Nat.reduceBEq,Nat.reduceLeDiff,Nat.reduceAdd,Nat.reduceMul]
    refine Settle.dropTo ((Le.refl G).updB n19) (Settle.now ⟨j+1,by omega,⟨by omega,?_⟩,rfl⟩)
    rw[List.take_succ_eq_append_getElem hjr,List.take_succ_eq_append_getElem hjw,j2,he]
   ·have ec:decide (zOQ (r[j]) (w[j])=((0:Nat):Int))=false:=decide_eq_false (by
     unfold zOQ
     repeat' split
     all_goals omega)
    simp(disch:=first|exact Xe|fail)only[zAU,ec,zPm,↓Xa,Xb,Xc,↓reduceIte,Nat.reduceLT,Nat.reduceEqDiff,Nat.reduceBEq,Nat.reduceLeDiff,Nat.reduceAdd,Nat.reduceMul]
    exact fin (no (noR fun h=>he (by simp only[h]))) he0 ((Le.refl G).updB n19)
  ·obtain rfl:j=n:=by omega
   have hjr: ¬j<r.length:=by omega
   simp(disch:=first|exact Xe|fail)only[hjr,↓Xa,Xb,Xc,↓reduceIte,Nat.reduceLT,Nat.reduceEqDiff,Nat.reduceBEq,Nat.reduceLeDiff,Nat.reduceAdd,Nat.reduceMul]
   refine Settle.now ?_
   simp(disch:=first|exact Xe|fail)only[↓Xa,Xb,Xc,↓reduceIte,Nat.reduceLT,Nat.reduceEqDiff,Nat.reduceBEq,Nat.reduceLeDiff,Nat.reduceAdd,Nat.reduceMul]
   exact Settle.now ⟨s+1,by omega,⟨by omega,stepR (by
    rw[List.take_of_length_le (by omega),List.take_of_length_le (by omega)]at j2;exact j2)⟩,rfl⟩
 ·obtain rfl:s=l.length:=by omega
  rw[List.take_of_length_le (by omega),List.take_of_length_le (by omega)]at f2
  simp(disch:=first|exact Xe|fail)only[hs2,↓Xa,Xb,Xc,↓reduceIte,Nat.reduceLT,Nat.reduceEqDiff,Nat.reduceBEq,Nat.reduceLeDiff,Nat.reduceAdd,Nat.reduceMul]
  refine Settle.now ?_
  simp(disch:=first|exact Xe|fail)only[zPm,↓Xa,Xb,Xc,↓reduceIte,Nat.reduceLT,Nat.reduceEqDiff,Nat.reduceBEq,Nat.reduceLeDiff,Nat.reduceAdd,Nat.reduceMul]
  exact fin (decide_eq_true ⟨hK,hr,hev.2 f2⟩) he0 (Le.refl _)
def exE:PR:=⟨2,3,[⟨3,2,0,1,0⟩],[0,2,1]⟩
theorem zb6:exE.ok:=by
 refine⟨by unfold I64;decide,by unfold I64;decide,fun i hi=>?_,by decide,fun n hn=>?_,by decide⟩
 ·simp only[exE,List.mem_cons,List.not_mem_nil,or_false]at hi
  rcases hi with rfl;(unfold Ins.ok I64;decide)
 ·simp only[exE,List.mem_cons,List.not_mem_nil,or_false]at hn
  rcases hn with rfl|rfl|rfl<;>(unfold I64;decide)
theorem zJP:PFn Tryz.prog 123 [] (zEF exE):=by
 refine PFn.weak (r:=AV.agg [.int .i64 exE.ins,.int .i64 exE.regs,zBI exE.code true,zAr exE.outs true]) (fun H Q hq=>?_) Wk.prog
 refine zSR (by simp) ?_
 simp(disch:=first|exact Xe|fail)only[zbr,↓Xa,Xb,Xc,↓reduceIte,Nat.reduceLT,Nat.reduceEqDiff,Nat.reduceBEq,Nat.reduceLeDiff,Nat.reduceAdd,Nat.reduceMul]
 refine zAD fun p0 n0=>?_
 simp(disch:=first|exact Xe|fail)only[zeu,↓Xa,Xb,Xc,↓reduceIte,Nat.reduceLT,Nat.reduceEqDiff,Nat.reduceBEq,Nat.reduceLeDiff,Nat.reduceAdd,Nat.reduceMul]
 have eR:List.drop 3 (zB8 [AV.int .i64 ((0:Nat):Int)] 3)=[]:=rfl
 simp(disch:=first|exact Xe|fail)only[zad,↓Xa,Xb,Xc,↓reduceIte,Nat.reduceLT,Nat.reduceEqDiff,Nat.reduceBEq,Nat.reduceLeDiff,Nat.reduceAdd,Nat.reduceMul]
 exact SetR.dropTo ((Le.refl H).updB n0) (SetR.now hq)
def zeg:List Int:=[((0:Nat):Int),((1:Nat):Int),((1:Nat):Int),((1:Nat):Int),((1:Nat):Int),((0:Nat):Int)]
def zC1:List Pt:=[⟨0,1⟩,⟨1,1⟩,⟨1,0⟩]
theorem zN0:zB2 zeg=zC1:=by simp[zB2,zeg,zC1,List.range,List.range.loop]
theorem zX3{k:Int}{l:List Pt}(hl:l.length≤140737488355328):(prA k l).ok:=by
 unfold prA
 split
 ·rename_i h
  obtain⟨n,rfl⟩: ∃n:Nat,k=(n:Int):=⟨k.toNat,by have:=h.1;omega⟩
  have hr:=zLA (k:=n) (by have:=h.1;omega) (by have:=h.1;omega) h.2.2.1 h.2.2.2 h.2.1
  obtain⟨h1,h2,h3⟩:=hr
  unfold zET at h1
  rw[Int.toNat_natCast]
  refine⟨by unfold I64;omega,by unfold I64;omega,fun i hi=>?_,by omega,fun m hm=>by have:=h2 m hm;unfold I64;omega,by omega⟩
  have hm:=h3 i hi
  have hb:=zLv hm
  have hc: -512≤i.c∧i.c≤512:=by
   obtain⟨_,_,_,_,_,_,h⟩:=hm
   repeat' split at h
   all_goals omega
  unfold zFO at hm
  unfold Ins.ok I64
  omega
 ·exact⟨by unfold I64;decide,by unfold I64;decide,fun i hi=>(by cases hi),by decide,fun i hi=>(by cases hi),by decide⟩
theorem zRl:evB exE 2 zC1=true∧evE exE 2 zC1=0:=by decide
theorem zLI:prE 2 zC1=0∧evB (prA 2 zC1) 2 zC1=true∧evE (prA 2 zC1) 2 zC1=0:=by decide
theorem zQw:zEC [((1:Nat):Int),((2:Nat):Int),((3:Nat):Int)] 1 2=11∧zQU [((1:Nat):Int),((2:Nat):Int),((3:Nat):Int)] 1 2=0:=by decide
theorem zYa:zFP 11=[49,49]:=by simp[zFP,zIw,dec,digs,chr]
theorem zKc{H:AHeap}{Q:AV→AHeap→Prop}(hT:Tz64H H)(hq:Q (.bool true) H):Run Tryz.prog 57 [] H Q:=by
 refine zXx (by simp) ?_
 simp(disch:=first|exact Xe|fail)only[zfX,↓Xa,Xb,Xc,↓reduceIte,Nat.reduceLT,Nat.reduceEqDiff,Nat.reduceBEq,Nat.reduceLeDiff,Nat.reduceAdd,Nat.reduceMul]
 have hl3: ∀n,n∈[((1:Nat):Int),((2:Nat):Int),((3:Nat):Int)]→I64 n:=fun n hn=>by
  simp only[List.mem_cons,List.not_mem_nil,or_false]at hn
  rcases hn with rfl|rfl|rfl<;>(unfold I64;decide)
 refine(zCq (l:=[((1:Nat):Int),((2:Nat):Int),((3:Nat):Int)]) (t:=true) (by decide) hl3).call ?_
 simp(disch:=first|exact Xe|fail)only[↓Xa,Xb,Xc,↓reduceIte,Nat.reduceLT,Nat.reduceEqDiff,Nat.reduceBEq,Nat.reduceLeDiff,Nat.reduceAdd,Nat.reduceMul]
 have hv:=zCK (A:=((1:Nat):Int)) (B:=((2:Nat):Int)) (xs:=[((1:Nat):Int),((2:Nat):Int),((3:Nat):Int)]) (t:=false) (k0:=2) (by decide) (fun z hz=>Bd.i64 (by have:=hl3 z hz;unfold I64 at this;omega)) (by decide)
 refine hv.call ?_
 have w1:zEC [((1:Nat):Int),((2:Nat):Int),((3:Nat):Int)] ((1:Nat):Int) ((2:Nat):Int)=11:=zQw.1
 have w2:zQU [((1:Nat):Int),((2:Nat):Int),((3:Nat):Int)] ((1:Nat):Int) ((2:Nat):Int)=0:=zQw.2
 rw[w1,w2]
 simp(disch:=first|exact Xe|fail)only[↓Xa,Xb,Xc,↓reduceIte,Nat.reduceLT,Nat.reduceEqDiff,Nat.reduceBEq,Nat.reduceLeDiff,Nat.reduceAdd,Nat.reduceMul]
 refine zAD fun p1 n1=>?_
 simp(disch:=first|exact Xe|fail)only[zAE,↓Xa,Xb,Xc,↓reduceIte,Nat.reduceLT,Nat.reduceEqDiff,Nat.reduceBEq,Nat.reduceLeDiff,Nat.reduceAdd,Nat.reduceMul]
 generalize hM1:H.upd p1 (some (.row 48 0 [zBO 11,zBU 11]))=M1 at*
 have h1:M1 p1=some (.row 48 0 [zBO 11,zBU 11]):=by rw[← hM1,zAC]
 have hl1:Le H M1:=hM1▸(Le.refl H).updB n1
 refine zJP.call ?_
 have hpts:=zLK (l:=zeg) (t:=true) (by decide)
 rw[zN0]at hpts
 simp(disch:=first|exact Xe|fail)only[↓Xa,Xb,Xc,↓reduceIte,Nat.reduceLT,Nat.reduceEqDiff,Nat.reduceBEq,Nat.reduceLeDiff,Nat.reduceAdd,Nat.reduceMul]
 refine hpts.call ?_
 simp(disch:=first|exact Xe|fail)only[↓Xa,Xb,Xc,↓reduceIte,Nat.reduceLT,Nat.reduceEqDiff,Nat.reduceBEq,Nat.reduceLeDiff,Nat.reduceAdd,Nat.reduceMul]
 refine(zDz (p:=exE) (k:=((2:Nat):Int)) (l:=zC1) (t:=false) zb6 (by decide)).call ?_
 have w3:evB exE ((2:Nat):Int) zC1=true:=zRl.1
 have w4:evE exE ((2:Nat):Int) zC1=0:=zRl.2
 rw[w3,w4]
 simp(disch:=first|exact Xe|fail)only[↓Xa,Xb,Xc,↓reduceIte,Nat.reduceLT,Nat.reduceEqDiff,Nat.reduceBEq,Nat.reduceLeDiff,Nat.reduceAdd,Nat.reduceMul]
 refine hpts.call ?_
 simp(disch:=first|exact Xe|fail)only[↓Xa,Xb,Xc,↓reduceIte,Nat.reduceLT,Nat.reduceEqDiff,Nat.reduceBEq,Nat.reduceLeDiff,Nat.reduceAdd,Nat.reduceMul]
 refine zAM (zIY (hT.le hl1) (by decide) ?_)
 have w5:prE ((2:Nat):Int) zC1=0:=zLI.1
 rw[w5]
 simp(disch:=first|exact Xe|fail)only[↓Xa,Xb,Xc,↓reduceIte,Nat.reduceLT,Nat.reduceEqDiff,Nat.reduceBEq,Nat.reduceLeDiff,Nat.reduceAdd,Nat.reduceMul]
 refine zAD fun p5 n5=>?_
 have a51:p5≠p1:=by rintro rfl;rw[h1]at n5;cases n5
 simp(disch:=first|exact Xe|fail)only[zBj,↓Xa,Xb,Xc,↓reduceIte,Nat.reduceLT,Nat.reduceEqDiff,Nat.reduceBEq,Nat.reduceLeDiff,Nat.reduceAdd,Nat.reduceMul]
 have G5:(M1.upd p5 (some (.row 25 0 [.int .i64 (prA ((2:Nat):Int) zC1).ins,.int .i64 (prA ((2:Nat):Int) zC1).regs,zBI (prA ((2:Nat):Int) zC1).code false,zAr (prA ((2:Nat):Int) zC1).outs false]))) p5=some (.row 25 0 [.int .i64 (prA ((2:Nat):Int) zC1).ins,.int .i64 (prA ((2:Nat):Int) zC1).regs,zBI (prA ((2:Nat):Int) zC1).code false,zAr (prA ((2:Nat):Int) zC1).outs false]):=zAC _ _ _
 have h15:(M1.upd p5 (some (.row 25 0 [.int .i64 (prA ((2:Nat):Int) zC1).ins,.int .i64 (prA ((2:Nat):Int) zC1).regs,zBI (prA ((2:Nat):Int) zC1).code false,zAr (prA ((2:Nat):Int) zC1).outs false]))) p1=some (.row 48 0 [zBO 11,zBU 11]):=by rw[zAA _ _ (Ne.symm a51),h1]
 have hl5:Le H (M1.upd p5 (some (.row 25 0 [.int .i64 (prA ((2:Nat):Int) zC1).ins,.int .i64 (prA ((2:Nat):Int) zC1).regs,zBI (prA ((2:Nat):Int) zC1).code false,zAr (prA ((2:Nat):Int) zC1).outs false]))):=hl1.upd n5
 generalize(M1.upd p5 (some (.row 25 0 [.int .i64 (prA ((2:Nat):Int) zC1).ins,.int .i64 (prA ((2:Nat):Int) zC1).regs,zBI (prA ((2:Nat):Int) zC1).code false,zAr (prA ((2:Nat):Int) zC1).outs false])))=M5 at*
 simp(disch:=first|exact Xe|fail)only[G5,zCM,↓Xa,Xb,Xc,↓reduceIte,Nat.reduceLT,Nat.reduceEqDiff,Nat.reduceBEq,Nat.reduceLeDiff,Nat.reduceAdd,Nat.reduceMul]
 refine PFn.dcall hpts ?_
 simp(disch:=first|exact Xe|fail)only[↓Xa,Xb,Xc,↓reduceIte,Nat.reduceLT,Nat.reduceEqDiff,Nat.reduceBEq,Nat.reduceLeDiff,Nat.reduceAdd,Nat.reduceMul]
 refine(zDz (p:=prA ((2:Nat):Int) zC1) (k:=((2:Nat):Int)) (l:=zC1) (t:=false) (zX3 (by decide)) (by decide)).call ?_
 have w6:evB (prA ((2:Nat):Int) zC1) ((2:Nat):Int) zC1=true:=zLI.2.1
 have w7:evE (prA ((2:Nat):Int) zC1) ((2:Nat):Int) zC1=0:=zLI.2.2
 rw[w6,w7]
 have d0:decide (((0:Nat):Int)=((0:Nat):Int))=true:=rfl
 simp(disch:=first|exact Xe|fail)only[zAK,d0,h15,zAF,↓Xa,Xb,Xc,↓reduceIte,Nat.reduceLT,Nat.reduceEqDiff,Nat.reduceBEq,Nat.reduceLeDiff,Nat.reduceAdd,Nat.reduceMul]
 refine(zFd (x:=11) (k:=1) (by unfold Bd;decide) (by decide)).call ?_
 have s1:AV.str ⟨#[49,49]⟩=Sx [49,49]:=rfl
 simp(disch:=first|exact Xe|fail)only[s1,zYa,zPk,zfl,↓Xa,Xb,Xc,↓reduceIte,Nat.reduceLT,Nat.reduceEqDiff,Nat.reduceBEq,Nat.reduceLeDiff,Nat.reduceAdd,Nat.reduceMul]
 exact SetR.dropTo hl5 (SetR.now hq)
theorem zII{A B:Int}:PFn Tryz.prog 72 [PtV A B] (.bool (zEs A B)):=by
 intro H Q hq
 refine zX1 (by simp) ?_
 simp(disch:=first|exact Xe|fail)only[zf8,zA1,↓Xa,Xb,Xc,↓reduceIte,Nat.reduceLT,Nat.reduceEqDiff,Nat.reduceBEq,Nat.reduceLeDiff,Nat.reduceAdd,Nat.reduceMul]
 refine zAD fun p1 n1=>?_
 have hle: ∀{x:ABlk},Le H (H.upd p1 (some x)):=(Le.refl H).updB n1
 by_cases h1: -16≤A
 ·have e1:decide (-16≤A)=true:=decide_eq_true h1
  by_cases h2:A≤16
  ·have e2:decide (A≤((16:Nat):Int))=true:=decide_eq_true h2
   by_cases h3: -16≤B
   ·have e3:decide (-16≤B)=true:=decide_eq_true h3
    by_cases h4:B≤16
    ·have e4:decide (B≤((16:Nat):Int))=true:=decide_eq_true h4
     rw[show zEs A B=true from decide_eq_true ⟨h1,h2,h3,h4⟩]at hq
     simp(disch:=first|exact Xe|fail)only[zCx,zE0,e1,e2,e3,e4,zY5,↓Xa,Xb,Xc,↓reduceIte,Nat.reduceLT,Nat.reduceEqDiff,Nat.reduceBEq,Nat.reduceLeDiff,Nat.reduceAdd,Nat.reduceMul]
     exact SetR.dropTo hle (SetR.now hq)
    ·have e4:decide (B≤((16:Nat):Int))=false:=decide_eq_false h4
     rw[show zEs A B=false from decide_eq_false fun h=>h4 h.2.2.2]at hq
     simp(disch:=first|exact Xe|fail)only[zCx,zE0,e1,e2,e3,e4,zY5,↓Xa,Xb,Xc,↓reduceIte,Nat.reduceLT,Nat.reduceEqDiff,Nat.reduceBEq,Nat.reduceLeDiff,Nat.reduceAdd,Nat.reduceMul]
     exact SetR.dropTo hle (SetR.now hq)
   ·have e3:decide (-16≤B)=false:=decide_eq_false h3
    rw[show zEs A B=false from decide_eq_false fun h=>h3 h.2.2.1]at hq
    simp(disch:=first|exact Xe|fail)only[zCx,zE0,e1,e2,e3,zY5,↓Xa,Xb,Xc,↓reduceIte,Nat.reduceLT,Nat.reduceEqDiff,Nat.reduceBEq,Nat.reduceLeDiff,Nat.reduceAdd,Nat.reduceMul]
    exact SetR.dropTo hle (SetR.now hq)
  ·have e2:decide (A≤((16:Nat):Int))=false:=decide_eq_false h2
   rw[show zEs A B=false from decide_eq_false fun h=>h2 h.2.1]at hq
   simp(disch:=first|exact Xe|fail)only[zCx,zE0,e1,e2,zY5,↓Xa,Xb,Xc,↓reduceIte,Nat.reduceLT,Nat.reduceEqDiff,Nat.reduceBEq,Nat.reduceLeDiff,Nat.reduceAdd,Nat.reduceMul]
   exact SetR.dropTo hle (SetR.now hq)
 ·have e1:decide (-16≤A)=false:=decide_eq_false h1
  rw[show zEs A B=false from decide_eq_false fun h=>h1 h.1]at hq
  simp(disch:=first|exact Xe|fail)only[zCx,zE0,e1,zY5,↓Xa,Xb,Xc,↓reduceIte,Nat.reduceLT,Nat.reduceEqDiff,Nat.reduceBEq,Nat.reduceLeDiff,Nat.reduceAdd,Nat.reduceMul]
  exact SetR.dropTo hle (SetR.now hq)
theorem zNf{l:List Pt}{t:Bool}(hl:l.length<9223372036854775808):PFn Tryz.prog 66 [zBr l t] (.bool (decide (zDv l))):=by
 intro H Q hq
 refine zXa (by simp) ?_
 simp(disch:=first|exact Xe|fail)only[zgA,↓Xa,Xb,Xc,↓reduceIte,Nat.reduceLT,Nat.reduceEqDiff,Nat.reduceBEq,Nat.reduceLeDiff,Nat.reduceAdd,Nat.reduceMul]
 refine zAO (fun s:Nat=>⟨[],[(0,zBr l t),(3,.int .i64 s)],H⟩) (fun s=>s≤l.length∧zOx (l.take s)) (fun s=>l.length-s) 0 (Settle.now rfl) ⟨Nat.zero_le _,fun q hq=>by simp at hq⟩ ?_
 rintro i ⟨h1,h2⟩
 by_cases hi:i<l.length
 ·simp(disch:=first|exact Xe|fail)only[hi,zAb hl,zBX hi,zBG hi,↓Xa,Xb,Xc,↓reduceIte,Nat.reduceLT,Nat.reduceEqDiff,Nat.reduceBEq,Nat.reduceLeDiff,Nat.reduceAdd,Nat.reduceMul]
  refine zII.call ?_
  cases hin:zEs (l[i]).a (l[i]).b with
  |false=>
   have: ¬zDv l:=fun h=>by have:=h.1 _ (List.getElem_mem hi);rw[hin]at this;cases this
   rw[decide_eq_false this]at hq
   simp(disch:=first|exact Xe|fail)only[zbL,↓Xa,Xb,Xc,↓reduceIte,Nat.reduceLT,Nat.reduceEqDiff,Nat.reduceBEq,Nat.reduceLeDiff,Nat.reduceAdd,Nat.reduceMul]
   exact SetR.now hq
  |true=>
   simp(disch:=first|exact Xe|fail)only[↓Xa,Xb,Xc,↓reduceIte,Nat.reduceLT,Nat.reduceEqDiff,Nat.reduceBEq,Nat.reduceLeDiff,Nat.reduceAdd,Nat.reduceMul]
   refine Settle.now ⟨i+1,by omega,⟨by omega,fun q hq=>?_⟩,rfl⟩
   rw[List.take_succ_eq_append_getElem hi]at hq
   rcases List.mem_append.1 hq with hq|hq
   ·exact h2 q hq
   ·rw[List.mem_singleton.1 hq];exact hin
 ·obtain rfl:i=l.length:=by omega
  rw[List.take_length]at h2
  simp(disch:=first|exact Xe|fail)only[hi,zAb hl,↓Xa,Xb,Xc,↓reduceIte,Nat.reduceLT,Nat.reduceEqDiff,Nat.reduceBEq,Nat.reduceLeDiff,Nat.reduceAdd,Nat.reduceMul]
  refine Settle.now ?_
  by_cases g1:1≤l.length
  ·have e1:decide (((1:Nat):Int)≤((l.length:Nat):Int))=true:=decide_eq_true (by omega)
   by_cases g2:l.length≤15
   ·have e2:decide (((l.length:Nat):Int)≤((15:Nat):Int))=true:=decide_eq_true (by omega)
    rw[decide_eq_true (show zDv l from⟨h2,g1,g2⟩)]at hq
    simp(disch:=first|exact Xe|fail)only[zAb hl,zCx,zE0,e1,e2,zbL,↓Xa,Xb,Xc,↓reduceIte,Nat.reduceLT,Nat.reduceEqDiff,Nat.reduceBEq,Nat.reduceLeDiff,Nat.reduceAdd,Nat.reduceMul]
    exact SetR.now hq
   ·have e2:decide (((l.length:Nat):Int)≤((15:Nat):Int))=false:=decide_eq_false (by omega)
    rw[decide_eq_false (fun h=>g2 h.2.2)]at hq
    simp(disch:=first|exact Xe|fail)only[zAb hl,zCx,zE0,e1,e2,zbL,↓Xa,Xb,Xc,↓reduceIte,Nat.reduceLT,Nat.reduceEqDiff,Nat.reduceBEq,Nat.reduceLeDiff,Nat.reduceAdd,Nat.reduceMul]
    exact SetR.now hq
  ·have e1:decide (((1:Nat):Int)≤((l.length:Nat):Int))=false:=decide_eq_false (by omega)
   rw[decide_eq_false (fun h=>g1 h.2.1)]at hq
   simp(disch:=first|exact Xe|fail)only[zAb hl,zCx,zE0,e1,zbL,↓Xa,Xb,Xc,↓reduceIte,Nat.reduceLT,Nat.reduceEqDiff,Nat.reduceBEq,Nat.reduceLeDiff,Nat.reduceAdd,Nat.reduceMul]
   exact SetR.now hq
theorem zOG{A B:Int}{n:Nat}(hn:n≤16)(hin:zEs A B=true):PFn Tryz.prog 130 [PtV A B,.int .i64 (n:Int)] (rR (zBC A B n)):=by
 have hpl:(zBC A B n).length=n:=by simp[zBC]
 have hb: -16≤A∧A≤16∧ -16≤B∧B≤16:=of_decide_eq_true hin
 have er:rR (zBC A B n)=.seq n (RC (zBC A B n)) false:=by simp[rR,hpl]
 rw[er]
 refine PFn.frozen (ty:=44) (es:=2) fun H Q hq=>?_
 refine zTM (by simp) ?_
 simp(disch:=first|exact Xe|fail)only[zcm,zA1,↓Xa,Xb,Xc,↓reduceIte,Nat.reduceLT,Nat.reduceEqDiff,Nat.reduceBEq,Nat.reduceLeDiff,Nat.reduceAdd,Nat.reduceMul]
 refine zAD fun p2 n2=>?_
 simp(disch:=first|exact Xe|fail)only[↓Xa,Xb,Xc,↓reduceIte,Nat.reduceLT,Nat.reduceEqDiff,Nat.reduceBEq,Nat.reduceLeDiff,Nat.reduceAdd,Nat.reduceMul]
 generalize hG:H.upd p2 (some (.row 112 0 [.int .i64 A,.int .i64 B]))=G at*
 have g2:G p2=some (.row 112 0 [.int .i64 A,.int .i64 B]):=by rw[← hG,zAC]
 have hle:Le H G:=hG▸(Le.refl H).updB n2
 refine zAO (fun s:Nat×AV×AHeap=>⟨[],[(1,.int .i64 (n:Int)),(2,.ptr p2 2 0),(5,s.2.1),(6,.int .i64 s.1)],s.2.2⟩) (fun s=>s.1≤n∧zA7 G 44 2 s.1 (RC ((zBC A B n).take s.1)) s.2.1 s.2.2) (fun s=>n-s.1) (0,.seq 0 [] true,G) (Settle.now rfl) ⟨Nat.zero_le _,zAl⟩ ?_
 rintro⟨i,y,M⟩ ⟨h1,hg⟩
 dsimp only at h1 hg ⊢
 by_cases hi:i<n
 ·have hM:=zGS hg g2
  simp(disch:=first|exact Xe|fail)only[hi,hM,↓Xa,Xb,Xc,↓reduceIte,Nat.reduceLT,Nat.reduceEqDiff,Nat.reduceBEq,Nat.reduceLeDiff,Nat.reduceAdd,Nat.reduceMul]
  refine PFn.dcall (zL5 (n:=A) (by omega)) ?_
  simp(disch:=first|exact Xe|fail)only[↓Xa,Xb,Xc,↓reduceIte,Nat.reduceLT,Nat.reduceEqDiff,Nat.reduceBEq,Nat.reduceLeDiff,Nat.reduceAdd,Nat.reduceMul]
  have bdA:Bd 1 A:=by unfold Bd;omega
  have bdB:Bd 1 B:=by unfold Bd;omega
  refine PFn.dcall (zPN (n:=i) false bdA (by omega) (by omega)) ?_
  simp(disch:=first|exact Xe|fail)only[hM,↓Xa,Xb,Xc,↓reduceIte,Nat.reduceLT,Nat.reduceEqDiff,Nat.reduceBEq,Nat.reduceLeDiff,Nat.reduceAdd,Nat.reduceMul]
  refine PFn.dcall (zL5 (n:=B) (by omega)) ?_
  simp(disch:=first|exact Xe|fail)only[↓Xa,Xb,Xc,↓reduceIte,Nat.reduceLT,Nat.reduceEqDiff,Nat.reduceBEq,Nat.reduceLeDiff,Nat.reduceAdd,Nat.reduceMul]
  refine PFn.dcall (zPN (n:=n-1-i) false bdB (by omega) (by omega)) ?_
  simp(disch:=first|exact Xe|fail)only[↓Xa,Xb,Xc,↓reduceIte,Nat.reduceLT,Nat.reduceEqDiff,Nat.reduceBEq,Nat.reduceLeDiff,Nat.reduceAdd,Nat.reduceMul]
  refine PFn.dcall (zIO false false (zEy (show i≤16 by omega) hb.1 hb.2.1) (by omega) (zEy (show n-1-i≤16 by omega) hb.2.2.1 hb.2.2.2) (by omega)) ?_
  simp(disch:=first|exact Xe|fail)only[zG6,zGw,↓Xa,Xb,Xc,↓reduceIte,Nat.reduceLT,Nat.reduceEqDiff,Nat.reduceBEq,Nat.reduceLeDiff,Nat.reduceAdd,Nat.reduceMul]
  refine zFB (m:=1) hg rfl rfl (by omega) (by omega) (by omega) fun y' M2 hg4=>?_
  have hil:i<(zBC A B n).length:=by omega
  have et:RC ((zBC A B n).take i)++[zG8 (A^i*B^(n-1-i)),zRy (A^i*B^(n-1-i))]=RC ((zBC A B n).take (i+1)):=by
   rw[zQa hil];simp[zBC]
  rw[et]at hg4
  simp(disch:=first|exact Xe|fail)only[↓Xa,Xb,Xc,↓reduceIte,Nat.reduceLT,Nat.reduceEqDiff,Nat.reduceBEq,Nat.reduceLeDiff,Nat.reduceAdd,Nat.reduceMul]
  exact Settle.now ⟨(i+1,y',M2),by dsimp only;omega,⟨by dsimp only;omega,hg4⟩,rfl⟩
 ·obtain rfl:i=n:=by omega
  rw[List.take_of_length_le (by omega)]at hg
  simp(disch:=first|exact Xe|fail)only[hi,↓Xa,Xb,Xc,↓reduceIte,Nat.reduceLT,Nat.reduceEqDiff,Nat.reduceBEq,Nat.reduceLeDiff,Nat.reduceAdd,Nat.reduceMul]
  refine Settle.now ?_
  simp(disch:=first|exact Xe|fail)only[zZj,↓Xa,Xb,Xc,↓reduceIte,Nat.reduceLT,Nat.reduceEqDiff,Nat.reduceBEq,Nat.reduceLeDiff,Nat.reduceAdd,Nat.reduceMul]
  obtain⟨M2,hg2,hl2⟩:=zBp hg hle
  exact SetR.dropTo hl2 (SetR.now (hq _ _ hg2))
theorem zHR{z:Int}{t:Bool}:(zDg z t).cells=some [zG8 z,LS (digs 65536 z.natAbs) t]:=id rfl
theorem zYs:([.bool false,.seq 0 [] true]:List AV)=[zG8 0,LS (digs 65536 (0:Int).natAbs) true]:=by
 have h1:=zdM 1
 rw[show 1*2=2 from rfl,zGw,zgV]at h1
 exact h1
theorem zF4{A B:Int}{xs:List Int}{k0:Nat}(hx: ∀z,z∈xs→Bd k0 z)(hk:k0≤1000)(hl0:1≤xs.length)(hl:xs.length≤16)(hin:zEs A B=true):PFn Tryz.prog 69 [rR xs,PtV A B] (zDg (zJR A B xs xs.length) false):=by
 intro H Q hq
 have hb: -16≤A∧A≤16∧ -16≤B∧B≤16:=of_decide_eq_true hin
 have hn:xs.length<9223372036854775808:=by omega
 have hpl:(zBC A B xs.length).length=xs.length:=by simp[zBC]
 refine zYY (by simp) ?_
 simp(disch:=first|exact Xe|fail)only[zf1,zA1,↓Xa,Xb,Xc,↓reduceIte,Nat.reduceLT,Nat.reduceEqDiff,Nat.reduceBEq,Nat.reduceLeDiff,Nat.reduceAdd,Nat.reduceMul]
 refine zAD fun p3 n3=>?_
 simp(disch:=first|exact Xe|fail)only[↓Xa,Xb,Xc,↓reduceIte,Nat.reduceLT,Nat.reduceEqDiff,Nat.reduceBEq,Nat.reduceLeDiff,Nat.reduceAdd,Nat.reduceMul]
 refine zAD fun p4 n4=>?_
 obtain⟨a43,n4'⟩:=zAB.1 n4
 simp(disch:=first|exact Xe|fail)only[a43,a43.symm,zBA,zBE,hn,↓Xa,Xb,Xc,↓reduceIte,Nat.reduceLT,Nat.reduceEqDiff,Nat.reduceBEq,Nat.reduceLeDiff,Nat.reduceAdd,Nat.reduceMul]
 refine(zOG (n:=xs.length) hl hin).call ?_
 simp(disch:=first|exact Xe|fail)only[↓Xa,Xb,Xc,↓reduceIte,Nat.reduceLT,Nat.reduceEqDiff,Nat.reduceBEq,Nat.reduceLeDiff,Nat.reduceAdd,Nat.reduceMul]
 refine zAD fun p6 n6=>?_
 obtain⟨a64,n6'⟩:=zAB.1 n6
 rw[zYs]at n6 ⊢
 generalize hG:(H.upd p3 (some (.row 112 0 [.int .i64 A,.int .i64 B]))).upd p4 (some (.row 44 0 [zG8 0,LS (digs 65536 (0:Int).natAbs) true]))=G at*
 have hHG:Le H G:=hG▸(((Le.refl H).updB n3).updB n4')
 have g4:G p4=some (.row 44 0 [zG8 0,LS (digs 65536 (0:Int).natAbs) true]):=by rw[← hG,zAC]
 simp(disch:=first|exact Xe|fail)only[zNN,↓Xa,Xb,Xc,↓reduceIte,Nat.reduceLT,Nat.reduceEqDiff,Nat.reduceBEq,Nat.reduceLeDiff,Nat.reduceAdd,Nat.reduceMul]
 refine zAO (fun s:Nat×Bool=>⟨[],[(0,rR xs),(4,.ptr p4 2 0),(5,rR (zBC A B xs.length)),(6,.ptr p6 2 0),(7,.int .i64 s.1)],G.upd p6 (some (.row 44 0 [zG8 (zJR A B xs s.1),LS (digs 65536 (zJR A B xs s.1).natAbs) s.2]))⟩) (fun s=>s.1≤xs.length∧s.2=decide (s.1=0)) (fun s=>xs.length-s.1) (0,true) (Settle.now rfl) ⟨Nat.zero_le _,rfl⟩ ?_
 rintro⟨i,tt⟩ ⟨hi0,htt⟩
 dsimp only at hi0 htt ⊢
 by_cases hi:i<xs.length
 ·have hip:i<(zBC A B xs.length).length:=by omega
  have epi:(zBC A B xs.length)[i]=A^i*B^(xs.length-1-i):=by simp[zBC]
  have hixp: ∀{k:IntKind}{K:AV→Prop},zBg 2 (rR (zBC A B xs.length)) (.int k (i:Int)) K=K (.cptr ((RC (zBC A B xs.length)).drop (i*2))):=fun{k K}=>zVV (t:=false) hip
  have hixx: ∀{k:IntKind}{K:AV→Prop},zBg 2 (rR xs) (.int k (i:Int)) K=K (.cptr ((RC xs).drop (i*2))):=fun{k K}=>zVV (t:=false) hi
  have b1:=hx _ (List.getElem_mem hi)
  have b2:=(zEy (A:=A) (show i≤16 by omega) hb.1 hb.2.1).mul (zEy (A:=B) (show xs.length-1-i≤16 by omega) hb.2.2.1 hb.2.2.2)
  have b3:=zFC hx hb hl i (by omega)
  simp(disch:=first|exact Xe|fail)only[hi,zBE,hn,hixx,hixp,zPL hi,zPL hip,epi,zJS,↓Xa,Xb,Xc,↓reduceIte,Nat.reduceLT,Nat.reduceEqDiff,Nat.reduceBEq,Nat.reduceLeDiff,Nat.reduceAdd,Nat.reduceMul]
  refine PFn.dcall (zIO false false b1 (by omega) b2 (by omega)) ?_
  simp(disch:=first|exact Xe|fail)only[↓Xa,Xb,Xc,↓reduceIte,Nat.reduceLT,Nat.reduceEqDiff,Nat.reduceBEq,Nat.reduceLeDiff,Nat.reduceAdd,Nat.reduceMul]
  refine(zUR tt false b3 (by omega) (b1.mul b2) (by omega)).call ?_
  have ev:zJR A B xs (i+1)=zJR A B xs i+xs[i]*(A^i*B^(xs.length-1-i)):=by
   rw[zJR,List.getD_eq_getElem?_getD,List.getElem?_eq_getElem hi];rfl
  simp(disch:=first|exact Xe|fail)only[zHR,↓Xa,Xb,Xc,↓reduceIte,Nat.reduceLT,Nat.reduceEqDiff,Nat.reduceBEq,Nat.reduceLeDiff,Nat.reduceAdd,Nat.reduceMul]
  rw[← ev]
  exact Settle.now ⟨(i+1,false),by dsimp only;omega,⟨by dsimp only;omega,by simp⟩,rfl⟩
 ·obtain rfl:i=xs.length:=by omega
  have ht:tt=false:=by rw[htt];exact decide_eq_false (by omega)
  subst ht
  simp(disch:=first|exact Xe|fail)only[hi,zBE,hn,↓Xa,Xb,Xc,↓reduceIte,Nat.reduceLT,Nat.reduceEqDiff,Nat.reduceBEq,Nat.reduceLeDiff,Nat.reduceAdd,Nat.reduceMul]
  refine Settle.now ?_
  simp(disch:=first|exact Xe|fail)only[zJS,a64,a64.symm,g4,zHR,zgI,↓Xa,Xb,Xc,↓reduceIte,Nat.reduceLT,Nat.reduceEqDiff,Nat.reduceBEq,Nat.reduceLeDiff,Nat.reduceAdd,Nat.reduceMul]
  exact SetR.dropTo ((hHG.updB (zAB.1 n6').2).updB n4') (SetR.now hq)
def WkL(a b:List AV):Prop:=a.length=b.length∧∀i(h1:i<a.length)(h2:i<b.length),Wk (a[i]) (b[i])
theorem WkL.app{a b c d:List AV}(h:WkL a b)(k:WkL c d):WkL (a++c) (b++d):=by
 refine⟨by simp[h.1,k.1],fun i h1 h2=>?_⟩
 by_cases hi:i<a.length
 ·rw[List.getElem_append_left hi,List.getElem_append_left (by rw[← h.1];exact hi)];exact h.2 i _ _
 ·have hb:=h.1
  rw[List.getElem_append_right (by omega),List.getElem_append_right (by omega)]
  have e:i-a.length=i-b.length:=by omega
  simp only[e]
  exact k.2 _ (by simp at h1;omega) _
theorem WkL.rfl{a:List AV}:WkL a a:=⟨Eq.refl _,fun _ _ _=>Wk.refl⟩
theorem zbb{H:AHeap}{ty es bytes m:Nat}{ys:List AV}{t:Bool}{K:AV→AHeap→Prop}(hy:ys.length=m*es)(hc:ys.all AV.cell=true)(hm:0<m)(hb:m*bytes≤281474976710656)(hb2:m≤70368744177664)
 (k: ∀x' H',zA7 H ty es m ys x' H'→K x' H'):zKG H ty es bytes (.seq 0 [] true) (.seq m ys t) K:=by
 refine .inr (.inr (.inr (.inr ⟨hy,hc,?_⟩)))
 refine⟨rfl,by simp,.inl ⟨rfl,hb⟩,by omega,fun e=>absurd e (by omega),fun _ b hb'=>?_⟩
 simp only[Nat.zero_add,List.nil_append]
 exact k _ _ (.inr ⟨hm,hy,b,hb',rfl,rfl⟩)
def WS(P:Program):Nat→ACode→(Exit→St→Prop)→St→Prop
 |0,.seq a b,Q,s=>W P a (zDK (fun s'=>Settle (fun s''=>W P b Q s'') s') Q) s
 |n+1,.seq a b,Q,s=>W P a (zDK (fun s'=>WS P n b Q s') Q) s
 |_,c,Q,s=>W P c Q s
theorem zfN{P:Program}{n:Nat}{c:ACode}(h: ∀a b,c≠.seq a b){Q:Exit→St→Prop}{s:St}:WS P n c Q s=W P c Q s:=by
 cases c with
 |seq a b=>exact absurd rfl (h a b)
 |_=>cases n<;>rfl
theorem zNi{P:Program}{N:Nat}{pl:Plan}{top:Bool}: ∀(c:Code){ac:ACode},(∀a b,c≠.seq a b)→comp P N pl top c=some ac→∀x y,ac≠.seq x y:=by
 intro c ac hns h x y e
 subst e
 cases c with
 |seq a b=>exact absurd rfl (hns a b)
 |region rid ops draw=>
  cases draw<;>simp only[comp]at h
  ·split at h
   ·cases h
   ·obtain⟨_,_,h⟩:=zAY h;cases h
  ·split at h
   ·split at h<;>cases h
   ·cases h
 |rangeFunc g ps a b=>
  simp only[comp]at h
  split at h
  ·split at h<;>cases h
  ·cases h
 |scope c=>
  obtain⟨z,_,h⟩:=zAY h
  unfold zKh at h
  split at h
  ·split at h<;>cases h
  ·cases h
 |cond c a b=>
  simp only[comp]at h
  split at h<;>cases h
 |block n c=>obtain⟨_,_,h⟩:=zAY h;cases h
 |loop c=>obtain⟨_,_,h⟩:=zAY h;cases h
 |_=>simp[comp]at h
theorem zUJ{P:Program}{N:Nat}{pl:Plan}(hm:P.follows .mixedOrders=true): ∀(c:Code){rr top:Bool}(_:top=true→rr=false)(ac:ACode),comp P N pl top c=some ac→∀(n:Nat)(Q:Exit→St→Prop)(s:St),WS P n ac Q s→AW P rr N c Q s:=by
 intro c
 induction c with
 |seq a b iha ihb=>
  intro rr top htop ac h n Q s hw
  simp only[comp]at h
  split at h
  ·rename_i x y hx hy
   injection h with h;subst h
   cases n with
   |zero=>
    refine zQ1 (AW.unsettle (AW.mono ((zCQ hm a).1 htop x hx _ s hw) fun e s' h=>?_))
    cases e with
    |normal=>exact Settle.mono h fun s'' h2=>(zCQ hm b).1 htop y hy Q s'' h2
    |_=>exact Settle.now h
   |succ n=>
    refine zQ1 (AW.mono ((zCQ hm a).1 htop x hx _ s hw) fun e s' h=>?_)
    cases e with
    |normal=>exact ihb htop y hy n Q s' h
    |_=>exact h
  ·cases h
 |_=>
  intro rr top htop ac h n Q s hw
  rw[zfN (zNi _ (fun a b e=>by cases e) h)]at hw
  exact(zCQ hm _).1 htop ac h Q s hw
theorem zYX{P:Program}{f:FuncId}{fn:Func}{pl:Plan}{ac:ACode}{rs:List RV}(hm:P.follows .mixedOrders=true)(hf:P.funcs[f]? =some fn)(hname:(fn.name=="runtime.NumGoroutine")=false)(hc:zJl P fn pl=some (ac,rs)){n:Nat}(hN:fn.ntmps=n)
 {args:List AV} {H:AHeap} {Q:AV→AHeap→Prop} (hn:args.length≤n) (m:Nat) (h:WS P m ac (zFF rs Q) ⟨[],zEl args 0,H⟩):Run P f args H Q:=by
 unfold zJl at hc
 split at hc
 ·rename_i c hb
  split at hc
  ·rename_i ac' rs' h1 h2
   injection hc with hc
   injection hc with e1 e2
   subst e1;subst e2
   refine Run.settle (zWO hf hname hb h2 (by omega) (AW.mono (zUJ hm c (rr:=false) (fun _=>rfl) ac' h1 m (zFF rs' Q) ⟨[],zEl args 0,H⟩ h) fun e s hs=>?_))
   cases e with
   |normal=>exact Settle.now hs
   |ret=>exact Settle.now hs
   |_=>exact hs.elim
  ·cases hc
 ·cases hc
theorem zgb{P:Program}{Q:Exit→St→Prop}{s:St}{a b:ACode}:WS P 0 (.seq a b) Q s=W P a (zDK (fun s'=>Settle (fun s''=>W P b Q s'') s') Q) s:=rfl
theorem zgd{P:Program}{Q:Exit→St→Prop}{s:St}{n:Nat}{a b:ACode}:WS P (n+1) (.seq a b) Q s=W P a (zDK (fun s'=>WS P n b Q s') Q) s:=rfl
theorem zIs{l:List Pt}{t:Bool}(hbig:l.length≤8796093021952){H:AHeap}{Q:AV→AHeap→Prop}(hq: ∀y M,zA7 H 112 2 l.length (l.flatMap ptC) y M→Q y M):Run Tryz.prog 59 [zBr l t] H Q:=by
 have hl:(l.flatMap ptC).length=l.length*2:=by rw[zCf (es:=2) (fun _=>rfl)]
 have hc:(l.flatMap ptC).all AV.cell=true:=by
  refine List.all_eq_true.2 fun x hx=>?_
  simp only[List.mem_flatMap,ptC,List.mem_cons,List.not_mem_nil,or_false]at hx
  obtain⟨i,-,rfl|rfl⟩:=hx<;>rfl
 refine zXw (by simp) ?_
 rcases Nat.eq_zero_or_pos l.length with h0|h0
 ·obtain rfl:=List.length_eq_zero_iff.1 h0
  have hn: ∀{g:Bool}{K:AV→Prop},zOR g (zBr [] t) K↔(K (.bool true)∧K (.bool false)):=fun{g K}=>by simp[zOR]
  simp(disch:=first|exact Xe|fail)only[zfC,hn,↓Xa,Xb,Xc,↓reduceIte,Nat.reduceLT,Nat.reduceEqDiff,Nat.reduceBEq,Nat.reduceLeDiff,Nat.reduceAdd,Nat.reduceMul]
  refine⟨?_,?_⟩
  ·simp(disch:=first|exact Xe|fail)only[zdK,↓Xa,Xb,Xc,↓reduceIte,Nat.reduceLT,Nat.reduceEqDiff,Nat.reduceBEq,Nat.reduceLeDiff,Nat.reduceAdd,Nat.reduceMul]
   exact SetR.now (hq _ _ zAl)
  ·refine .inl ⟨rfl,rfl,?_⟩
   refine⟨rfl,rfl,by simp,by simp,fun _=>?_,fun e=>absurd e (by simp)⟩
   simp(disch:=first|exact Xe|fail)only[zdK,↓Xa,Xb,Xc,↓reduceIte,Nat.reduceLT,Nat.reduceEqDiff,Nat.reduceBEq,Nat.reduceLeDiff,Nat.reduceAdd,Nat.reduceMul]
   exact SetR.now (hq _ _ zAl)
 ·have hn: ∀{g:Bool}{K:AV→Prop},zOR g (zBr l t) K↔K (.bool g):=fun{g K}=>by
   cases l with
   |nil=>simp at h0
   |cons x l=>simp[zOR]
  simp(disch:=first|exact Xe|fail)only[zfC,hn,↓Xa,Xb,Xc,↓reduceIte,Nat.reduceLT,Nat.reduceEqDiff,Nat.reduceBEq,Nat.reduceLeDiff,Nat.reduceAdd,Nat.reduceMul]
  refine zbb hl hc h0 (by omega) (by omega) fun y M hg=>?_
  simp(disch:=first|exact Xe|fail)only[zdK,↓Xa,Xb,Xc,↓reduceIte,Nat.reduceLT,Nat.reduceEqDiff,Nat.reduceBEq,Nat.reduceLeDiff,Nat.reduceAdd,Nat.reduceMul]
  exact SetR.now (hq y M hg)
theorem zaq{H0 H:AHeap}{ty es bytes n:Nat}{cells ys:List AV}{x:AV}{t:Bool}{K:AV→AHeap→Prop}(h:zA7 H0 ty es n cells x H)(hy:ys.length=1*es)(hc:ys.all AV.cell=true)(hb:(2*n+1)*bytes≤281474976710656)(hb2:n+1≤70368744177664)
 (k: ∀b,H0 b=none→K (.own b ((n+1)*es) 0 (n+1) false) (H0.upd b (some (.row ty es (cells++ys))))):zKG H ty es bytes x (.seq 1 ys t) K:=by
 refine .inr (.inr (.inr (.inr ⟨hy,hc,?_⟩)))
 rcases h with⟨rfl,rfl,rfl,rfl⟩|⟨hn,hl,b,hb',rfl,rfl⟩
 ·exact⟨rfl,by simp,.inr ⟨rfl,hb⟩,hb2,fun e=>absurd e (by decide),fun _ b hb'=>k b hb'⟩
 ·dsimp only
  rw[zAC]
  refine⟨hl,rfl,rfl,rfl,rfl,⟨rfl,hb⟩,hb2,?_⟩
  rw[zAR]
  exact k b hb'
theorem zIL{l:List Int}{t:Bool}(hb: ∀n,n∈l→ -9223372036854775808≤n∧n<9223372036854775808)(hbig:l.length≤1000000):PFn Tryz.prog 70 [zAr l t] (zfu l false):=by
 refine PFn.frozen (ty:=44) (es:=2) fun H Q hq=>?_
 refine zYA (by simp) ?_
 have lo:l.length<9223372036854775808:=by omega
 simp(disch:=first|exact Xe|fail)only[zfa,zAm lo,↓Xa,Xb,Xc,↓reduceIte,Nat.reduceLT,Nat.reduceEqDiff,Nat.reduceBEq,Nat.reduceLeDiff,Nat.reduceAdd,Nat.reduceMul]
 refine zAO (fun s:Nat×AV×AHeap=>⟨[],[(3,s.2.1),(6,zAr l t),(7,.int .i64 (l.length:Int)),(8,.int .i64 s.1)],s.2.2⟩) (fun s=>s.1≤l.length∧zA7 H 44 2 s.1 (RC (l.take s.1)) s.2.1 s.2.2) (fun s=>l.length-s.1) (0,.seq 0 [] true,H) (Settle.now rfl) ⟨Nat.zero_le _,zAl⟩ ?_
 rintro⟨i,y,M⟩ ⟨h3,hg⟩
 dsimp only at h3 hg ⊢
 by_cases hi:i<l.length
 ·simp(disch:=first|exact Xe|fail)only[hi,zBq hi,zBb hi,↓Xa,Xb,Xc,↓reduceIte,Nat.reduceLT,Nat.reduceEqDiff,Nat.reduceBEq,Nat.reduceLeDiff,Nat.reduceAdd,Nat.reduceMul]
  refine(zL5 (hb _ (List.getElem_mem hi))).call ?_
  simp(disch:=first|exact Xe|fail)only[zGw,zG6,↓Xa,Xb,Xc,↓reduceIte,Nat.reduceLT,Nat.reduceEqDiff,Nat.reduceBEq,Nat.reduceLeDiff,Nat.reduceAdd,Nat.reduceMul]
  refine zFB (m:=1) hg rfl zdq (by omega) (by omega) (by omega) fun y' M2 hg3=>?_
  rw[← zQa]at hg3
  simp(disch:=first|exact Xe|fail)only[↓Xa,Xb,Xc,↓reduceIte,Nat.reduceLT,Nat.reduceEqDiff,Nat.reduceBEq,Nat.reduceLeDiff,Nat.reduceAdd,Nat.reduceMul]
  exact Settle.now ⟨(i+1,y',M2),by dsimp only;omega,⟨by dsimp only;omega,hg3⟩,rfl⟩
 ·obtain rfl:i=l.length:=by omega
  rw[List.take_of_length_le (by omega)]at hg
  simp(disch:=first|exact Xe|fail)only[hi,↓Xa,Xb,Xc,↓reduceIte,Nat.reduceLT,Nat.reduceEqDiff,Nat.reduceBEq,Nat.reduceLeDiff,Nat.reduceAdd,Nat.reduceMul]
  refine Settle.now ?_
  simp(disch:=first|exact Xe|fail)only[zfy,↓Xa,Xb,Xc,↓reduceIte,Nat.reduceLT,Nat.reduceEqDiff,Nat.reduceBEq,Nat.reduceLeDiff,Nat.reduceAdd,Nat.reduceMul]
  exact SetR.now (hq y M hg)
theorem zZn{ng:Bool}{p q:Pt}{K:AV→Prop}:zNw ng (PtV p.a p.b) (PtV q.a q.b) K↔K (.bool (ng !=(decide (p.a=q.a)&&decide (p.b=q.b)))):=by simp[zNw,PtV]
theorem zDt{l:List Pt}{t t':Bool}(hl:l.length<9223372036854775808):PFn Tryz.prog 73 [zBr l t,zBr l t'] (.bool true):=by
 intro H Q hq
 refine zXm (by simp) ?_
 have d1:decide (((l.length:Nat):Int)=((l.length:Nat):Int))=true:=decide_eq_true rfl
 simp(disch:=first|exact Xe|fail)only[zgH,zAb hl,zAU,d1,↓Xa,Xb,Xc,↓reduceIte,Nat.reduceLT,Nat.reduceEqDiff,Nat.reduceBEq,Nat.reduceLeDiff,Nat.reduceAdd,Nat.reduceMul]
 refine zAO (fun s:Nat=>⟨[],[(0,zBr l t),(1,zBr l t'),(12,.int .i64 (l.length:Int)),(13,.int .i64 s)],H⟩) (fun s=>s≤l.length) (fun s=>l.length-s) 0 (Settle.now rfl) (Nat.zero_le _) ?_
 intro s hs0
 by_cases hs:s<l.length
 ·have e2: ∀{K:AV→Prop},zNw true (PtV (l[s]).a (l[s]).b) (PtV (l[s]).a (l[s]).b) K↔K (.bool false):=fun{K}=>by rw[zZn];simp
  simp(disch:=first|exact Xe|fail)only[hs,zBX hs,zBG hs,zP9,e2,↓Xa,Xb,Xc,↓reduceIte,Nat.reduceLT,Nat.reduceEqDiff,Nat.reduceBEq,Nat.reduceLeDiff,Nat.reduceAdd,Nat.reduceMul]
  exact Settle.now ⟨s+1,by omega,by omega,rfl⟩
 obtain rfl:s=l.length:=by omega
 simp(disch:=first|exact Xe|fail)only[hs,↓Xa,Xb,Xc,↓reduceIte,Nat.reduceLT,Nat.reduceEqDiff,Nat.reduceBEq,Nat.reduceLeDiff,Nat.reduceAdd,Nat.reduceMul]
 refine Settle.now ?_
 simp(disch:=first|exact Xe|fail)only[zf7,↓Xa,Xb,Xc,↓reduceIte,Nat.reduceLT,Nat.reduceEqDiff,Nat.reduceBEq,Nat.reduceLeDiff,Nat.reduceAdd,Nat.reduceMul]
 exact SetR.now hq
theorem zK7{l:List Pt}:(l.flatMap ptC).length=l.length*2:=by rw[zCf (es:=2) (fun _=>rfl)]
theorem zLT: ∀(l:List Pt)(m:Nat),(l.flatMap ptC).take (m*2)=(l.take m).flatMap ptC
 |[],m=>by simp
 |q::l,0=>by simp
 |q::l,m+1=>by
  rw[Nat.add_mul,Nat.one_mul,List.take_succ_cons,List.flatMap_cons,List.flatMap_cons,← zLT l m]
  rfl
theorem zFU{l:List Pt}{m:Nat}{K:AV→Prop}(h:m≤l.length):zDU 2 (zBr l false) none (some (.int .i64 ((m:Nat):Int))) none K↔K (zBr (l.take m) false):=by
 have e:=zLT l m
 have e2:(l.take m).length=m:=by rw[List.length_take];omega
 simp only[zDU,zC9,zBr,e2,Int.toNat_zero,Nat.zero_mul,List.drop_zero]
 simp only[Option.isSome,Int.sub_zero,Int.toNat_natCast,e,zK7]
 simp[h]
theorem zID{n m:Nat}{K:AV→Prop}:zT0 false (.int .i64 ((n:Nat):Int)) (.int .i64 ((m:Nat):Int)) K↔K (.int .i64 ((min n m:Nat):Int)):=by
 by_cases h:m<n
 ·have e:min n m=m:=by omega
  simp[zT0,e,h]
 ·have e:min n m=n:=by omega
  simp[zT0,e,h]
theorem zGt(c:List Int)(l:List Pt)(mc: ∀n,n∈c→ -9223372036854775808≤n∧n<9223372036854775808)(ml: ∀n,n∈l→n.ok)(lc:c.length<9223372036854775808)(ll:l.length≤8796093021952){H:AHeap}{Q:AV→AHeap→Prop}(hT:Tz64H H)(hq:Q (.bool true) H):
 Run Tryz.prog 12 [zAr c false,zBr l false] H Q:=by
 have hl:l.length<9223372036854775808:=by omega
 refine zYX zAN Tryz.func12 (by kernel_rfl) (show zJl Tryz.prog Tryz.f12 zgs=some (zgn,zc4) from by kernel_rfl) (n:=130) (by kernel_rfl) (by simp) 3 ?_
 simp(disch:=first|exact Xe|fail)only[zgn,zgd,zgb,↓Xa,Xb,Xc,↓reduceIte,Nat.reduceLT,Nat.reduceEqDiff,Nat.reduceBEq,Nat.reduceLeDiff,Nat.reduceAdd,Nat.reduceMul]
 refine zAM (zKc hT ?_)
 by_cases h64:64<c.length
 ·have d1:decide (((64:Nat):Int)<((c.length:Nat):Int))=true:=decide_eq_true (by omega)
  simp(disch:=first|exact Xe|fail)only[zAm lc,zAw,d1,zc4,↓Xa,Xb,Xc,↓reduceIte,Nat.reduceLT,Nat.reduceEqDiff,Nat.reduceBEq,Nat.reduceLeDiff,Nat.reduceAdd,Nat.reduceMul]
  exact SetR.now hq
 have d1:decide (((64:Nat):Int)<((c.length:Nat):Int))=false:=decide_eq_false (by omega)
 simp(disch:=first|exact Xe|fail)only[zAm lc,zAw,d1,↓Xa,Xb,Xc,↓reduceIte,Nat.reduceLT,Nat.reduceEqDiff,Nat.reduceBEq,Nat.reduceLeDiff,Nat.reduceAdd,Nat.reduceMul]
 refine zAM (zIs ll fun y M hg=>?_)
 simp(disch:=first|exact Xe|fail)only[↓Xa,Xb,Xc,↓reduceIte,Nat.reduceLT,Nat.reduceEqDiff,Nat.reduceBEq,Nat.reduceLeDiff,Nat.reduceAdd,Nat.reduceMul]
 have eR:List.drop 2 (zB8 [AV.int .i64 ((0:Nat):Int),.int .i64 ((0:Nat):Int)] 2)=[]:=rfl
 rw[eR]
 refine zaq hg rfl (by decide) (by omega) (by omega) fun b hb=>?_
 have hbl:((l.flatMap ptC)++[AV.int .i64 ((99:Nat):Int),.int .i64 ((0:Nat):Int)]).length=(l.length+1)*2:=by rw[List.length_append,zK7];simp only[List.length_cons,List.length_nil];omega
 have sl: ∀{K:AV→Prop},zDU 2 (.own b ((l.length+1)*2) 0 (l.length+1) false) none (some (.int .i64 ((l.length:Nat):Int))) none K↔K (.own b ((l.length+1)*2) 0 l.length false):=fun{K}=>by
  simp[zDU,zC9];omega
 have lv:zDD 2 (H.upd b (some (.row 112 2 ((l.flatMap ptC)++[AV.int .i64 ((99:Nat):Int),.int .i64 ((0:Nat):Int)])))) (.own b ((l.length+1)*2) 0 (l.length+1) false):=by
  simp only[zDD,zAC]
  exact⟨hbl,by trivial⟩
 simp(disch:=first|exact Xe|fail)only[zAb hl,sl,lv,↓Xa,Xb,Xc,↓reduceIte,Nat.reduceLT,Nat.reduceEqDiff,Nat.reduceBEq,Nat.reduceLeDiff,Nat.reduceAdd,Nat.reduceMul]
 refine Settle.frz b (zAC _ _ _) (Settle.now ?_)
 rw[zAR,zAZ _ hb]
 have ef:frz b 2 ((l.flatMap ptC)++[AV.int .i64 ((99:Nat):Int),.int .i64 ((0:Nat):Int)]) (.own b ((l.length+1)*2) 0 l.length false)=zBr l false:=by
  have e1:((l.flatMap ptC)++[AV.int .i64 ((99:Nat):Int),.int .i64 ((0:Nat):Int)]).take (l.length*2)=l.flatMap ptC:=by rw[← zK7 (l:=l),List.take_left'];rfl
  simp only[frz,zIh,zDw,hbl,if_true,List.drop_zero,e1,true_and]
  rw[if_pos (.inr (by omega))]
 have eE:Env.map (frz b 2 ((l.flatMap ptC)++[AV.int .i64 ((99:Nat):Int),.int .i64 ((0:Nat):Int)])) [(0,zAr c false),(1,zBr l false),(5,AV.own b ((l.length+1)*2) 0 l.length false)]=[(0,zAr c false),(1,zBr l false),(5,zBr l false)]:=by
  simp only[Env.map,List.map_cons,List.map_nil,ef]
  rfl
 rw[eE]
 have bdc: ∀z,z∈c→Bd 2 z:=fun z hz=>Bd.i64 (by have:=mc z hz;omega)
 simp(disch:=first|exact Xe|fail)only[↓Xa,Xb,Xc,↓reduceIte,Nat.reduceLT,Nat.reduceEqDiff,Nat.reduceBEq,Nat.reduceLeDiff,Nat.reduceAdd,Nat.reduceMul]
 refine(zCq (l:=c) (t:=false) (by omega) mc).call ?_
 simp(disch:=first|exact Xe|fail)only[↓Xa,Xb,Xc,↓reduceIte,Nat.reduceLT,Nat.reduceEqDiff,Nat.reduceBEq,Nat.reduceLeDiff,Nat.reduceAdd,Nat.reduceMul]
 refine(zKU (xs:=c) (l:=l) (t:=false) (t':=false) lc hl bdc (by omega)).call ?_
 obtain⟨m,hm,hml⟩: ∃m:Nat,m=min l.length 20∧m≤l.length:=⟨_,rfl,by omega⟩
 have ltm:(l.take m).length=m:=by rw[List.length_take];omega
 have hlt:(l.take m).length<9223372036854775808:=by omega
 by_cases hgood:1≤c.length∧c.length≤16
 ·have q1:decide (((1:Nat):Int)≤((c.length:Nat):Int))=true:=decide_eq_true (by omega)
  have q2:decide (((c.length:Nat):Int)≤((16:Nat):Int))=true:=decide_eq_true (by omega)
  simp(disch:=first|exact Xe|fail)only[zAm lc,zCx,zE0,q1,q2,↓Xa,Xb,Xc,↓reduceIte,Nat.reduceLT,Nat.reduceEqDiff,Nat.reduceBEq,Nat.reduceLeDiff,Nat.reduceAdd,Nat.reduceMul]
  refine(zNf (l:=l) (t:=false) hl).call ?_
  by_cases hp:zDv l
  ·have ev:zKg c l=l.map (zCh c):=if_pos ⟨hp,hgood⟩
   have ee:zKx c l=0:=if_pos ⟨hp,hgood⟩
   have hvl:(l.map (zCh c)).length<9223372036854775808:=by rw[List.length_map];omega
   simp(disch:=first|exact Xe|fail)only[decide_eq_true hp,ev,ee,zAU,zAb hl,zBE hvl,List.length_map,↓Xa,Xb,Xc,↓reduceIte,Nat.reduceLT,Nat.reduceEqDiff,Nat.reduceBEq,Nat.reduceLeDiff,Nat.reduceAdd,Nat.reduceMul]
   refine zAO (fun s:Nat=>⟨[],[(0,zAr c false),(1,zBr l false),(5,zBr l false),(6,zBk (l.map (zCh c)) false),(8,.bool true),(57,.int .i64 (l.length:Int)),(58,.int .i64 s)],H⟩) (fun s=>s≤l.length) (fun s=>l.length-s) 0 (Settle.now (by simp only[zBk,List.length_map])) (Nat.zero_le _) ?_
   intro s hs0
   by_cases hs:s<l.length
   ·have hs1:s<(l.map (zCh c)).length:=by rw[List.length_map];exact hs
    have gm:(l.map (zCh c))[s]=zCh c l[s]:=by rw[List.getElem_map]
    have hin:=hp.1 _ (List.getElem_mem hs)
    simp(disch:=first|exact Xe|fail)only[hs,zDy,zCi,hs1,gm,zBX hs,zBG hs,↓Xa,Xb,Xc,↓reduceIte,Nat.reduceLT,Nat.reduceEqDiff,Nat.reduceBEq,Nat.reduceLeDiff,Nat.reduceAdd,Nat.reduceMul]
    have bq:Bd (2+6+c.length) (zCh c l[s]):=zFC bdc (of_decide_eq_true hin) hgood.2 c.length (Nat.le_refl _)
    refine PFn.dcall (zFd bq (by omega)) ?_
    simp(disch:=first|exact Xe|fail)only[↓Xa,Xb,Xc,↓reduceIte,Nat.reduceLT,Nat.reduceEqDiff,Nat.reduceBEq,Nat.reduceLeDiff,Nat.reduceAdd,Nat.reduceMul]
    refine PFn.dcall (zIL mc (by omega)) ?_
    simp(disch:=first|exact Xe|fail)only[hs,zBX hs,zBG hs,↓Xa,Xb,Xc,↓reduceIte,Nat.reduceLT,Nat.reduceEqDiff,Nat.reduceBEq,Nat.reduceLeDiff,Nat.reduceAdd,Nat.reduceMul]
    refine(zF4 (xs:=c) bdc (by omega) hgood.1 hgood.2 hin).call ?_
    simp(disch:=first|exact Xe|fail)only[↓Xa,Xb,Xc,↓reduceIte,Nat.reduceLT,Nat.reduceEqDiff,Nat.reduceBEq,Nat.reduceLeDiff,Nat.reduceAdd,Nat.reduceMul]
    refine(zIK false bq (by omega)).call ?_
    simp(disch:=first|exact Xe|fail)only[zPU,decide_true,↓Xa,Xb,Xc,↓reduceIte,Nat.reduceLT,Nat.reduceEqDiff,Nat.reduceBEq,Nat.reduceLeDiff,Nat.reduceAdd,Nat.reduceMul]
    exact Settle.now ⟨s+1,by omega,by omega,rfl⟩
   ·obtain rfl:s=l.length:=by omega
    simp(disch:=first|exact Xe|fail)only[hs,↓Xa,Xb,Xc,↓reduceIte,Nat.reduceLT,Nat.reduceEqDiff,Nat.reduceBEq,Nat.reduceLeDiff,Nat.reduceAdd,Nat.reduceMul]
    refine Settle.now ?_
    simp(disch:=first|exact Xe|fail)only[zAb hl,zID,← hm,zFU hml,zAb hlt,ltm,↓Xa,Xb,Xc,↓reduceIte,Nat.reduceLT,Nat.reduceEqDiff,Nat.reduceBEq,Nat.reduceLeDiff,Nat.reduceAdd,Nat.reduceMul]
    refine zAO (fun s:Nat=>⟨[],[(0,zAr c false),(1,zBr l false),(5,zBr l false),(8,.bool true),(87,zBr (l.take m) false),(88,.int .i64 (m:Int)),(89,.int .i64 s)],H⟩) (fun s=>s≤m) (fun s=>m-s) 0 (Settle.now rfl) (Nat.zero_le _) ?_
    intro s hs0
    by_cases hs:s<m
    ·have hs':s<(l.take m).length:=by omega
     simp(disch:=first|exact Xe|fail)only[hs,zBX hs',zBG hs',↓Xa,Xb,Xc,↓reduceIte,Nat.reduceLT,Nat.reduceEqDiff,Nat.reduceBEq,Nat.reduceLeDiff,Nat.reduceAdd,Nat.reduceMul]
     refine zAD fun p11 n11=>?_
     simp(disch:=first|exact Xe|fail)only[zA1,↓Xa,Xb,Xc,↓reduceIte,Nat.reduceLT,Nat.reduceEqDiff,Nat.reduceBEq,Nat.reduceLeDiff,Nat.reduceAdd,Nat.reduceMul]
     generalize(l.take m)[s]=q at*
     have g11:(H.upd p11 (some (.row 112 0 [.int .i64 q.a,.int .i64 q.b]))) p11=some (.row 112 0 [.int .i64 q.a,.int .i64 q.b]):=zAC _ _ _
     have l11:Le H (H.upd p11 (some (.row 112 0 [.int .i64 q.a,.int .i64 q.b]))):=(Le.refl H).updB n11
     generalize(H.upd p11 (some (.row 112 0 [.int .i64 q.a,.int .i64 q.b])))=M1 at*
     refine PFn.dcall (zCq (l:=c) (t:=false) (by omega) mc) ?_
     simp(disch:=first|exact Xe|fail)only[g11,zBA,↓Xa,Xb,Xc,↓reduceIte,Nat.reduceLT,Nat.reduceEqDiff,Nat.reduceBEq,Nat.reduceLeDiff,Nat.reduceAdd,Nat.reduceMul]
     refine PFn.dcall (zCK (A:=q.a) (B:=q.b) (xs:=c) (t:=false) lc bdc (by omega)) ?_
     simp(disch:=first|exact Xe|fail)only[↓Xa,Xb,Xc,↓reduceIte,Nat.reduceLT,Nat.reduceEqDiff,Nat.reduceBEq,Nat.reduceLeDiff,Nat.reduceAdd,Nat.reduceMul]
     refine zCd fun p12 n12=>?_
     have a12:=zAS g11 n12
     have k11:(M1.upd p12 (some (.row 48 0 [zBO (zEC c q.a q.b),zBU (zEC c q.a q.b)]))) p11=some (.row 112 0 [.int .i64 q.a,.int .i64 q.b]):=by rw[zAA _ _ (Ne.symm a12),g11]
     simp(disch:=first|exact Xe|fail)only[zAE,k11,zBA,↓Xa,Xb,Xc,↓reduceIte,Nat.reduceLT,Nat.reduceEqDiff,Nat.reduceBEq,Nat.reduceLeDiff,Nat.reduceAdd,Nat.reduceMul]
     have k12:(M1.upd p12 (some (.row 48 0 [zBO (zEC c q.a q.b),zBU (zEC c q.a q.b)]))) p12=some (.row 48 0 [zBO (zEC c q.a q.b),zBU (zEC c q.a q.b)]):=zAC _ _ _
     have l12:Le H (M1.upd p12 (some (.row 48 0 [zBO (zEC c q.a q.b),zBU (zEC c q.a q.b)]))):=l11.upd n12
     generalize(M1.upd p12 (some (.row 48 0 [zBO (zEC c q.a q.b),zBU (zEC c q.a q.b)])))=M2 at*
     refine zII.call ?_
     cases hin:zEs q.a q.b with
     |false=>
      have e1:zEC c q.a q.b=0:=if_neg fun h=>by have:=h.2.2;rw[hin]at this;cases this
      have e2:zQU c q.a q.b=2:=if_neg fun h=>by have:=h.2.2;rw[hin]at this;cases this
      rw[e1]at k12
      rw[e2]
      simp(disch:=first|exact Xe|fail)only[k12,zAF,↓Xa,Xb,Xc,↓reduceIte,Nat.reduceLT,Nat.reduceEqDiff,Nat.reduceBEq,Nat.reduceLeDiff,Nat.reduceAdd,Nat.reduceMul]
      refine(zC2 (Bd.zero 1) (by omega)).call ?_
      have s0:decide (zGl 0=((0:Nat):Int))=true:=by decide
      have d2:decide (((2:Nat):Int)=((2:Nat):Int))=true:=rfl
      simp(disch:=first|exact Xe|fail)only[zAU,s0,d2,↓Xa,Xb,Xc,↓reduceIte,Nat.reduceLT,Nat.reduceEqDiff,Nat.reduceBEq,Nat.reduceLeDiff,Nat.reduceAdd,Nat.reduceMul]
      exact Settle.dropTo l12 (Settle.now ⟨s+1,by omega,by omega,rfl⟩)
     |true=>
      obtain⟨e1,e2⟩:=zKQ hgood.1 hgood.2 hin
      rw[e1]at k12
      rw[e2]
      have bq:Bd (2+6+c.length) (zCh c q):=zFC bdc (of_decide_eq_true hin) hgood.2 c.length (Nat.le_refl _)
      have d0:decide (((0:Nat):Int)=((0:Nat):Int))=true:=rfl
      simp(disch:=first|exact Xe|fail)only[zAU,d0,k12,zAF,↓Xa,Xb,Xc,↓reduceIte,Nat.reduceLT,Nat.reduceEqDiff,Nat.reduceBEq,Nat.reduceLeDiff,Nat.reduceAdd,Nat.reduceMul]
      refine PFn.dcall (zFd bq (by omega)) ?_
      simp(disch:=first|exact Xe|fail)only[↓Xa,Xb,Xc,↓reduceIte,Nat.reduceLT,Nat.reduceEqDiff,Nat.reduceBEq,Nat.reduceLeDiff,Nat.reduceAdd,Nat.reduceMul]
      refine PFn.dcall (zIL mc (by omega)) ?_
      simp(disch:=first|exact Xe|fail)only[k11,zBA,↓Xa,Xb,Xc,↓reduceIte,Nat.reduceLT,Nat.reduceEqDiff,Nat.reduceBEq,Nat.reduceLeDiff,Nat.reduceAdd,Nat.reduceMul]
      refine(zF4 (xs:=c) bdc (by omega) hgood.1 hgood.2 hin).call ?_
      simp(disch:=first|exact Xe|fail)only[↓Xa,Xb,Xc,↓reduceIte,Nat.reduceLT,Nat.reduceEqDiff,Nat.reduceBEq,Nat.reduceLeDiff,Nat.reduceAdd,Nat.reduceMul]
      refine(zIK false bq (by omega)).call ?_
      simp(disch:=first|exact Xe|fail)only[zPU,decide_true,↓Xa,Xb,Xc,↓reduceIte,Nat.reduceLT,Nat.reduceEqDiff,Nat.reduceBEq,Nat.reduceLeDiff,Nat.reduceAdd,Nat.reduceMul]
      exact Settle.dropTo l12 (Settle.now ⟨s+1,by omega,by omega,rfl⟩)
    ·obtain rfl:s=m:=by omega
     simp(disch:=first|exact Xe|fail)only[hs,↓Xa,Xb,Xc,↓reduceIte,Nat.reduceLT,Nat.reduceEqDiff,Nat.reduceBEq,Nat.reduceLeDiff,Nat.reduceAdd,Nat.reduceMul]
     refine Settle.now ?_
     simp(disch:=first|exact Xe|fail)only[↓Xa,Xb,Xc,↓reduceIte,Nat.reduceLT,Nat.reduceEqDiff,Nat.reduceBEq,Nat.reduceLeDiff,Nat.reduceAdd,Nat.reduceMul]
     refine(zDt hl).call ?_
     simp(disch:=first|exact Xe|fail)only[zc4,↓Xa,Xb,Xc,↓reduceIte,Nat.reduceLT,Nat.reduceEqDiff,Nat.reduceBEq,Nat.reduceLeDiff,Nat.reduceAdd,Nat.reduceMul]
     exact SetR.now hq
  ·have ev:zKg c l=[]:=if_neg fun h=>hp h.1
   have ee:zKx c l=2:=if_neg fun h=>hp h.1
   have hv0:([]:List Int).length<9223372036854775808:=by decide
   simp(disch:=first|exact Xe|fail)only[decide_eq_false hp,ev,ee,zAU,zBE hv0,zAb hl,zID,← hm,zFU hml,zAb hlt,ltm,↓Xa,Xb,Xc,↓reduceIte,Nat.reduceLT,Nat.reduceEqDiff,Nat.reduceBEq,Nat.reduceLeDiff,Nat.reduceAdd,Nat.reduceMul]
   refine zAO (fun s:Nat=>⟨[],[(0,zAr c false),(1,zBr l false),(5,zBr l false),(8,.bool true),(87,zBr (l.take m) false),(88,.int .i64 (m:Int)),(89,.int .i64 s)],H⟩) (fun s=>s≤m) (fun s=>m-s) 0 (Settle.now rfl) (Nat.zero_le _) ?_
   intro s hs0
   by_cases hs:s<m
   ·have hs':s<(l.take m).length:=by omega
    simp(disch:=first|exact Xe|fail)only[hs,zBX hs',zBG hs',↓Xa,Xb,Xc,↓reduceIte,Nat.reduceLT,Nat.reduceEqDiff,Nat.reduceBEq,Nat.reduceLeDiff,Nat.reduceAdd,Nat.reduceMul]
    refine zAD fun p11 n11=>?_
    simp(disch:=first|exact Xe|fail)only[zA1,↓Xa,Xb,Xc,↓reduceIte,Nat.reduceLT,Nat.reduceEqDiff,Nat.reduceBEq,Nat.reduceLeDiff,Nat.reduceAdd,Nat.reduceMul]
    generalize(l.take m)[s]=q at*
    have g11:(H.upd p11 (some (.row 112 0 [.int .i64 q.a,.int .i64 q.b]))) p11=some (.row 112 0 [.int .i64 q.a,.int .i64 q.b]):=zAC _ _ _
    have l11:Le H (H.upd p11 (some (.row 112 0 [.int .i64 q.a,.int .i64 q.b]))):=(Le.refl H).updB n11
    generalize(H.upd p11 (some (.row 112 0 [.int .i64 q.a,.int .i64 q.b])))=M1 at*
    refine PFn.dcall (zCq (l:=c) (t:=false) (by omega) mc) ?_
    simp(disch:=first|exact Xe|fail)only[g11,zBA,↓Xa,Xb,Xc,↓reduceIte,Nat.reduceLT,Nat.reduceEqDiff,Nat.reduceBEq,Nat.reduceLeDiff,Nat.reduceAdd,Nat.reduceMul]
    refine PFn.dcall (zCK (A:=q.a) (B:=q.b) (xs:=c) (t:=false) lc bdc (by omega)) ?_
    simp(disch:=first|exact Xe|fail)only[↓Xa,Xb,Xc,↓reduceIte,Nat.reduceLT,Nat.reduceEqDiff,Nat.reduceBEq,Nat.reduceLeDiff,Nat.reduceAdd,Nat.reduceMul]
    refine zCd fun p12 n12=>?_
    have a12:=zAS g11 n12
    have k11:(M1.upd p12 (some (.row 48 0 [zBO (zEC c q.a q.b),zBU (zEC c q.a q.b)]))) p11=some (.row 112 0 [.int .i64 q.a,.int .i64 q.b]):=by rw[zAA _ _ (Ne.symm a12),g11]
    simp(disch:=first|exact Xe|fail)only[zAE,k11,zBA,↓Xa,Xb,Xc,↓reduceIte,Nat.reduceLT,Nat.reduceEqDiff,Nat.reduceBEq,Nat.reduceLeDiff,Nat.reduceAdd,Nat.reduceMul]
    have k12:(M1.upd p12 (some (.row 48 0 [zBO (zEC c q.a q.b),zBU (zEC c q.a q.b)]))) p12=some (.row 48 0 [zBO (zEC c q.a q.b),zBU (zEC c q.a q.b)]):=zAC _ _ _
    have l12:Le H (M1.upd p12 (some (.row 48 0 [zBO (zEC c q.a q.b),zBU (zEC c q.a q.b)]))):=l11.upd n12
    generalize(M1.upd p12 (some (.row 48 0 [zBO (zEC c q.a q.b),zBU (zEC c q.a q.b)])))=M2 at*
    refine zII.call ?_
    cases hin:zEs q.a q.b with
    |false=>
     have e1:zEC c q.a q.b=0:=if_neg fun h=>by have:=h.2.2;rw[hin]at this;cases this
     have e2:zQU c q.a q.b=2:=if_neg fun h=>by have:=h.2.2;rw[hin]at this;cases this
     rw[e1]at k12
     rw[e2]
     simp(disch:=first|exact Xe|fail)only[k12,zAF,↓Xa,Xb,Xc,↓reduceIte,Nat.reduceLT,Nat.reduceEqDiff,Nat.reduceBEq,Nat.reduceLeDiff,Nat.reduceAdd,Nat.reduceMul]
     refine(zC2 (Bd.zero 1) (by omega)).call ?_
     have s0:decide (zGl 0=((0:Nat):Int))=true:=by decide
     have d2:decide (((2:Nat):Int)=((2:Nat):Int))=true:=rfl
     simp(disch:=first|exact Xe|fail)only[zAU,s0,d2,↓Xa,Xb,Xc,↓reduceIte,Nat.reduceLT,Nat.reduceEqDiff,Nat.reduceBEq,Nat.reduceLeDiff,Nat.reduceAdd,Nat.reduceMul]
     exact Settle.dropTo l12 (Settle.now ⟨s+1,by omega,by omega,rfl⟩)
    |true=>
     obtain⟨e1,e2⟩:=zKQ hgood.1 hgood.2 hin
     rw[e1]at k12
     rw[e2]
     have bq:Bd (2+6+c.length) (zCh c q):=zFC bdc (of_decide_eq_true hin) hgood.2 c.length (Nat.le_refl _)
     have d0:decide (((0:Nat):Int)=((0:Nat):Int))=true:=rfl
     simp(disch:=first|exact Xe|fail)only[zAU,d0,k12,zAF,↓Xa,Xb,Xc,↓reduceIte,Nat.reduceLT,Nat.reduceEqDiff,Nat.reduceBEq,Nat.reduceLeDiff,Nat.reduceAdd,Nat.reduceMul]
     refine PFn.dcall (zFd bq (by omega)) ?_
     simp(disch:=first|exact Xe|fail)only[↓Xa,Xb,Xc,↓reduceIte,Nat.reduceLT,Nat.reduceEqDiff,Nat.reduceBEq,Nat.reduceLeDiff,Nat.reduceAdd,Nat.reduceMul]
     refine PFn.dcall (zIL mc (by omega)) ?_
     simp(disch:=first|exact Xe|fail)only[k11,zBA,↓Xa,Xb,Xc,↓reduceIte,Nat.reduceLT,Nat.reduceEqDiff,Nat.reduceBEq,Nat.reduceLeDiff,Nat.reduceAdd,Nat.reduceMul]
     refine(zF4 (xs:=c) bdc (by omega) hgood.1 hgood.2 hin).call ?_
     simp(disch:=first|exact Xe|fail)only[↓Xa,Xb,Xc,↓reduceIte,Nat.reduceLT,Nat.reduceEqDiff,Nat.reduceBEq,Nat.reduceLeDiff,Nat.reduceAdd,Nat.reduceMul]
     refine(zIK false bq (by omega)).call ?_
     simp(disch:=first|exact Xe|fail)only[zPU,decide_true,↓Xa,Xb,Xc,↓reduceIte,Nat.reduceLT,Nat.reduceEqDiff,Nat.reduceBEq,Nat.reduceLeDiff,Nat.reduceAdd,Nat.reduceMul]
     exact Settle.dropTo l12 (Settle.now ⟨s+1,by omega,by omega,rfl⟩)
   ·obtain rfl:s=m:=by omega
    simp(disch:=first|exact Xe|fail)only[hs,↓Xa,Xb,Xc,↓reduceIte,Nat.reduceLT,Nat.reduceEqDiff,Nat.reduceBEq,Nat.reduceLeDiff,Nat.reduceAdd,Nat.reduceMul]
    refine Settle.now ?_
    simp(disch:=first|exact Xe|fail)only[↓Xa,Xb,Xc,↓reduceIte,Nat.reduceLT,Nat.reduceEqDiff,Nat.reduceBEq,Nat.reduceLeDiff,Nat.reduceAdd,Nat.reduceMul]
    refine(zDt hl).call ?_
    simp(disch:=first|exact Xe|fail)only[zc4,↓Xa,Xb,Xc,↓reduceIte,Nat.reduceLT,Nat.reduceEqDiff,Nat.reduceBEq,Nat.reduceLeDiff,Nat.reduceAdd,Nat.reduceMul]
    exact SetR.now hq
 ·have ev:zKg c l=[]:=if_neg fun h=>hgood h.2
  have ee:zKx c l=2:=if_neg fun h=>hgood h.2
  have hv0:([]:List Int).length<9223372036854775808:=by decide
  rw[ev,ee]
  by_cases h0:1≤c.length
  ·have q1:decide (((1:Nat):Int)≤((c.length:Nat):Int))=true:=decide_eq_true (by omega)
   have q2:decide (((c.length:Nat):Int)≤((16:Nat):Int))=false:=decide_eq_false (by omega)
   simp(disch:=first|exact Xe|fail)only[zAm lc,zCx,zE0,q1,q2,zAU,zBE hv0,zAb hl,zID,← hm,zFU hml,zAb hlt,ltm,↓Xa,Xb,Xc,↓reduceIte,Nat.reduceLT,Nat.reduceEqDiff,Nat.reduceBEq,Nat.reduceLeDiff,Nat.reduceAdd,Nat.reduceMul]
   refine zAO (fun s:Nat=>⟨[],[(0,zAr c false),(1,zBr l false),(5,zBr l false),(8,.bool false),(87,zBr (l.take m) false),(88,.int .i64 (m:Int)),(89,.int .i64 s)],H⟩) (fun s=>s≤m) (fun s=>m-s) 0 (Settle.now rfl) (Nat.zero_le _) ?_
   intro s hs0
   by_cases hs:s<m
   ·have hs':s<(l.take m).length:=by omega
    simp(disch:=first|exact Xe|fail)only[hs,zBX hs',zBG hs',↓Xa,Xb,Xc,↓reduceIte,Nat.reduceLT,Nat.reduceEqDiff,Nat.reduceBEq,Nat.reduceLeDiff,Nat.reduceAdd,Nat.reduceMul]
    refine zAD fun p11 n11=>?_
    simp(disch:=first|exact Xe|fail)only[zA1,↓Xa,Xb,Xc,↓reduceIte,Nat.reduceLT,Nat.reduceEqDiff,Nat.reduceBEq,Nat.reduceLeDiff,Nat.reduceAdd,Nat.reduceMul]
    generalize(l.take m)[s]=q at*
    have g11:(H.upd p11 (some (.row 112 0 [.int .i64 q.a,.int .i64 q.b]))) p11=some (.row 112 0 [.int .i64 q.a,.int .i64 q.b]):=zAC _ _ _
    have l11:Le H (H.upd p11 (some (.row 112 0 [.int .i64 q.a,.int .i64 q.b]))):=(Le.refl H).updB n11
    generalize(H.upd p11 (some (.row 112 0 [.int .i64 q.a,.int .i64 q.b])))=M1 at*
    refine PFn.dcall (zCq (l:=c) (t:=false) (by omega) mc) ?_
    simp(disch:=first|exact Xe|fail)only[g11,zBA,↓Xa,Xb,Xc,↓reduceIte,Nat.reduceLT,Nat.reduceEqDiff,Nat.reduceBEq,Nat.reduceLeDiff,Nat.reduceAdd,Nat.reduceMul]
    have v11:=zCK (A:=q.a) (B:=q.b) (xs:=c) (t:=false) lc bdc (by omega)
    have e1:zEC c q.a q.b=0:=if_neg fun h=>hgood ⟨h.1,h.2.1⟩
    have e2:zQU c q.a q.b=2:=if_neg fun h=>hgood ⟨h.1,h.2.1⟩
    rw[e1,e2]at v11
    refine PFn.dcall v11 ?_
    simp(disch:=first|exact Xe|fail)only[↓Xa,Xb,Xc,↓reduceIte,Nat.reduceLT,Nat.reduceEqDiff,Nat.reduceBEq,Nat.reduceLeDiff,Nat.reduceAdd,Nat.reduceMul]
    refine zCd fun p12 n12=>?_
    have a12:=zAS g11 n12
    have k12:(M1.upd p12 (some (.row 48 0 [zBO 0,zBU 0]))) p12=some (.row 48 0 [zBO 0,zBU 0]):=zAC _ _ _
    have l12:Le H (M1.upd p12 (some (.row 48 0 [zBO 0,zBU 0]))):=l11.upd n12
    simp(disch:=first|exact Xe|fail)only[zAE,zAF,↓Xa,Xb,Xc,↓reduceIte,Nat.reduceLT,Nat.reduceEqDiff,Nat.reduceBEq,Nat.reduceLeDiff,Nat.reduceAdd,Nat.reduceMul]
    refine(zC2 (Bd.zero 1) (by omega)).call ?_
    have s0:decide (zGl 0=((0:Nat):Int))=true:=by decide
    have d2:decide (((2:Nat):Int)=((2:Nat):Int))=true:=rfl
    simp(disch:=first|exact Xe|fail)only[zAU,s0,d2,↓Xa,Xb,Xc,↓reduceIte,Nat.reduceLT,Nat.reduceEqDiff,Nat.reduceBEq,Nat.reduceLeDiff,Nat.reduceAdd,Nat.reduceMul]
    exact Settle.dropTo l12 (Settle.now ⟨s+1,by omega,by omega,rfl⟩)
   ·obtain rfl:s=m:=by omega
    simp(disch:=first|exact Xe|fail)only[hs,↓Xa,Xb,Xc,↓reduceIte,Nat.reduceLT,Nat.reduceEqDiff,Nat.reduceBEq,Nat.reduceLeDiff,Nat.reduceAdd,Nat.reduceMul]
    refine Settle.now ?_
    simp(disch:=first|exact Xe|fail)only[↓Xa,Xb,Xc,↓reduceIte,Nat.reduceLT,Nat.reduceEqDiff,Nat.reduceBEq,Nat.reduceLeDiff,Nat.reduceAdd,Nat.reduceMul]
    refine(zDt hl).call ?_
    simp(disch:=first|exact Xe|fail)only[zc4,↓Xa,Xb,Xc,↓reduceIte,Nat.reduceLT,Nat.reduceEqDiff,Nat.reduceBEq,Nat.reduceLeDiff,Nat.reduceAdd,Nat.reduceMul]
    exact SetR.now hq
  ·have q1:decide (((1:Nat):Int)≤((c.length:Nat):Int))=false:=decide_eq_false (by omega)
   simp(disch:=first|exact Xe|fail)only[zAm lc,zCx,zE0,q1,zAU,zBE hv0,zAb hl,zID,← hm,zFU hml,zAb hlt,ltm,↓Xa,Xb,Xc,↓reduceIte,Nat.reduceLT,Nat.reduceEqDiff,Nat.reduceBEq,Nat.reduceLeDiff,Nat.reduceAdd,Nat.reduceMul]
   refine zAO (fun s:Nat=>⟨[],[(0,zAr c false),(1,zBr l false),(5,zBr l false),(8,.bool false),(87,zBr (l.take m) false),(88,.int .i64 (m:Int)),(89,.int .i64 s)],H⟩) (fun s=>s≤m) (fun s=>m-s) 0 (Settle.now rfl) (Nat.zero_le _) ?_
   intro s hs0
   by_cases hs:s<m
   ·have hs':s<(l.take m).length:=by omega
    simp(disch:=first|exact Xe|fail)only[hs,zBX hs',zBG hs',↓Xa,Xb,Xc,↓reduceIte,Nat.reduceLT,Nat.reduceEqDiff,Nat.reduceBEq,Nat.reduceLeDiff,Nat.reduceAdd,Nat.reduceMul]
    refine zAD fun p11 n11=>?_
    simp(disch:=first|exact Xe|fail)only[zA1,↓Xa,Xb,Xc,↓reduceIte,Nat.reduceLT,Nat.reduceEqDiff,Nat.reduceBEq,Nat.reduceLeDiff,Nat.reduceAdd,Nat.reduceMul]
    generalize(l.take m)[s]=q at*
    have g11:(H.upd p11 (some (.row 112 0 [.int .i64 q.a,.int .i64 q.b]))) p11=some (.row 112 0 [.int .i64 q.a,.int .i64 q.b]):=zAC _ _ _
    have l11:Le H (H.upd p11 (some (.row 112 0 [.int .i64 q.a,.int .i64 q.b]))):=(Le.refl H).updB n11
    generalize(H.upd p11 (some (.row 112 0 [.int .i64 q.a,.int .i64 q.b])))=M1 at*
    refine PFn.dcall (zCq (l:=c) (t:=false) (by omega) mc) ?_
    simp(disch:=first|exact Xe|fail)only[g11,zBA,↓Xa,Xb,Xc,↓reduceIte,Nat.reduceLT,Nat.reduceEqDiff,Nat.reduceBEq,Nat.reduceLeDiff,Nat.reduceAdd,Nat.reduceMul]
    have v11:=zCK (A:=q.a) (B:=q.b) (xs:=c) (t:=false) lc bdc (by omega)
    have e1:zEC c q.a q.b=0:=if_neg fun h=>hgood ⟨h.1,h.2.1⟩
    have e2:zQU c q.a q.b=2:=if_neg fun h=>hgood ⟨h.1,h.2.1⟩
    rw[e1,e2]at v11
    refine PFn.dcall v11 ?_
    simp(disch:=first|exact Xe|fail)only[↓Xa,Xb,Xc,↓reduceIte,Nat.reduceLT,Nat.reduceEqDiff,Nat.reduceBEq,Nat.reduceLeDiff,Nat.reduceAdd,Nat.reduceMul]
    refine zCd fun p12 n12=>?_
    have a12:=zAS g11 n12
    have k12:(M1.upd p12 (some (.row 48 0 [zBO 0,zBU 0]))) p12=some (.row 48 0 [zBO 0,zBU 0]):=zAC _ _ _
    have l12:Le H (M1.upd p12 (some (.row 48 0 [zBO 0,zBU 0]))):=l11.upd n12
    simp(disch:=first|exact Xe|fail)only[zAE,zAF,↓Xa,Xb,Xc,↓reduceIte,Nat.reduceLT,Nat.reduceEqDiff,Nat.reduceBEq,Nat.reduceLeDiff,Nat.reduceAdd,Nat.reduceMul]
    refine(zC2 (Bd.zero 1) (by omega)).call ?_
    have s0:decide (zGl 0=((0:Nat):Int))=true:=by decide
    have d2:decide (((2:Nat):Int)=((2:Nat):Int))=true:=rfl
    simp(disch:=first|exact Xe|fail)only[zAU,s0,d2,↓Xa,Xb,Xc,↓reduceIte,Nat.reduceLT,Nat.reduceEqDiff,Nat.reduceBEq,Nat.reduceLeDiff,Nat.reduceAdd,Nat.reduceMul]
    exact Settle.dropTo l12 (Settle.now ⟨s+1,by omega,by omega,rfl⟩)
   ·obtain rfl:s=m:=by omega
    simp(disch:=first|exact Xe|fail)only[hs,↓Xa,Xb,Xc,↓reduceIte,Nat.reduceLT,Nat.reduceEqDiff,Nat.reduceBEq,Nat.reduceLeDiff,Nat.reduceAdd,Nat.reduceMul]
    refine Settle.now ?_
    simp(disch:=first|exact Xe|fail)only[↓Xa,Xb,Xc,↓reduceIte,Nat.reduceLT,Nat.reduceEqDiff,Nat.reduceBEq,Nat.reduceLeDiff,Nat.reduceAdd,Nat.reduceMul]
    refine(zDt hl).call ?_
    simp(disch:=first|exact Xe|fail)only[zc4,↓Xa,Xb,Xc,↓reduceIte,Nat.reduceLT,Nat.reduceEqDiff,Nat.reduceBEq,Nat.reduceLeDiff,Nat.reduceAdd,Nat.reduceMul]
    exact SetR.now hq
end Go.Proofs.YtmndejlpfmmaiaaGreatDoor.Fw
