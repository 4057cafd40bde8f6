/- The texts Gc Gx Gy Ha Gd Ge Gf Gg Gh Gj Hb Hc Hd He Hf, joined. -/
import Derived.Test.YtmndejlpfmmaiaaGreatDoorZ9
set_option linter.unusedSimpArgs false
set_option linter.unusedVariables false
namespace Go.Proofs.YtmndejlpfmmaiaaGreatDoor.Fw
open Go Go.Proofs.YtmndejlpfmmaiaaGreatDoor.Ma
set_option maxRecDepth 20000
theorem SetR.frzC{Q:AV→AHeap→Prop}{v:AV}{H:AHeap}(r b:Nat){ty es ty' es':Nat}{cells cs:List AV}(cs':List AV)(hl:cs'.length=cs.length)(hw: ∀i(h:i<cs.length)(h':i<cs'.length),Wk (zCv b es cells (cs[i])) (cs'[i]))(hb:H b=some (.row ty es cells))(hr:H r=some (.row ty' es' cs))(hne:r≠b)
 (h:SetR Q (Fw.frz b es cells v) ((H.upd b none).upd r (some (.row ty' es' cs')))):SetR Q v H:=by
 refine SetR.join fun c u hc hok he=>?_
 have hb':c.H b=some (.row ty es cells):=hc▸hb
 have ok1:=Ctx.drop_ok hok b
 have hH1:(c.drop b).H r=some (.row ty' es' cs):=by
  show(c.H.upd b none) r=_
  rw[zAA _ _ hne,hc];exact hr
 obtain⟨arr,k1,k2,k3⟩:=hok.blk r _ (hc▸hr)
 have l2:Later (c.drop b) ((c.drop b).put r (.row ty' es' cs') arr):=Ctx.put_later ok1 hH1 k1 (by omega) rfl
 have ok2:Ok ((c.drop b).put r (.row ty' es' cs') arr):=Ctx.put_ok ok1 hH1 k1 (by omega) rfl (by omega) fun i hi hi'=>hw i (by omega) hi _ _ (zFc hok hb' _ _ (k3 i (by omega) hi'))
 have hw2:((c.drop b).put r (.row ty' es' cs') arr).w=c.w:=setRow_self _ _ _ _ _ k1
 refine⟨_,_,hw2,ok2,(c.drop_later b).trans l2,(zIM hok hb' _ _ he).later l2,?_⟩
 show SetR Q _ ((c.H.upd b none).upd r _)
 rw[hc];exact h
def zXV(p:PR)(y:AV)(n:Nat):List AV:=[.int .i64 p.ins,.int .i64 p.regs,zAw p.code false,zAj p.outs false,y,.int .i64 n]
theorem zbM{i:Ins}{a b x:List Int}(h:a.length=b.length)(hx:x.length=a.length)(hd: ∀j,j<a.length→doZ i (a.getD j 0) (b.getD j 0)=some (x.getD j 0)):doR i a b=some x:=by
 cases e:doR i a b with
 |none=>
  obtain⟨k,hk,hn⟩:=zbp e
  have:=hd k hk
  rw[hn]at this;cases this
 |some r=>
  have hl:=zIq h e
  congr 1
  refine List.ext_getElem (by omega) fun j h1 h2=>?_
  have h3:=zOt h e (k:=j) (by omega)
  rw[hd j (by omega)]at h3
  injection h3 with h3
  simp only[List.getD_eq_getElem?_getD,List.getElem?_eq_getElem h1,List.getElem?_eq_getElem h2,Option.getD_some]at h3
  exact h3.symm
theorem zTd{i:Ins}{a b:List Int}(h:a.length=b.length){j:Nat}(hj:j<a.length)(hd:doZ i (a.getD j 0) (b.getD j 0)=none):doR i a b=none:=by
 cases e:doR i a b with
 |none=>rfl
 |some r=>have:=zOt h e hj;rw[hd]at this;cases this
theorem zWD{P:Program}{H:AHeap}{K:AV→List Nat→Option (Nat×ABlk)→Prop}{fv:AV}{args:List AV}{r:AV}(rd:List Nat)(h: ∀(H':AHeap)(K':AV→AHeap→Prop),(∀q,q∈rd→H' q=H q)→K' r H'→zBu P fv args H' K')(k:K r rd none){o:Bool}:dcall o P fv args H K:=
 .inl ⟨r,rd,fun H' e=>h H' _ e ⟨rfl,rfl⟩,k⟩
theorem zTh{H:AHeap}{Q:AV→AHeap→Prop}{mb br N n k L:Nat}{tm:Bool}{p:PR}{regs:List (List Int)}(hm:H mb=some (.row 161 0 (zXV p (.own br N 0 N tm) n)))(hb:H br=some (.row 29 1 (GI regs)))(hne:mb≠br)(hN:regs.length=N)(hpN:p.regs=(N:Int))(hr:zBS p)
 (hz:zDW k L regs) (hk:k≤90000) (hL:L≤100000) (hn:n≤p.code.length) (hT: ∀i,i∈p.code→i.op=8→TzH H)
 (hq0:n=p.code.length→Q (.int .i64 ((4:Nat):Int)) H)
 (hq1: ∀h:n<p.code.length,∀x,doR p.code[n] (regs.getD (p.code[n]).a.toNat []) (regs.getD (p.code[n]).b.toNat [])=some x→RB4 (k+3) x→x.length=L→Q (.int .i64 ((0:Nat):Int)) ((H.upd br (some (.row 29 1 (GI (regs.set (p.code[n]).to.toNat x))))).upd mb (some (.row 161 0 (zXV p (.own br N 0 N tm) (n+1))))))
 (hq2: ∀h:n<p.code.length,doR p.code[n] (regs.getD (p.code[n]).a.toNat []) (regs.getD (p.code[n]).b.toNat [])=none→Q (.int .i64 ((20:Nat):Int)) H):
 Run Tryz.prog 33 [.ptr mb 6 0] H Q:=by
 have hh:=hr.1
 unfold zDD at hh
 have lc:p.code.length<9223372036854775808:=by omega
 have hm':H mb=some (.row 161 0 [.int .i64 p.ins,.int .i64 p.regs,zAw p.code false,zAj p.outs false,.own br N 0 N tm,.int .i64 n]):=hm
 refine zYI (by simp) ?_
 by_cases hnc:n=p.code.length
 ·have d1:decide (n=p.code.length)=true:=decide_eq_true hnc
  simp(disch:=first|exact Xe|fail)only[zft,hm',zRj lc,zAF,Int.natCast_inj,d1,zeN,↓Xa,Xb,Xc,↓reduceIte,Nat.reduceLT,Nat.reduceEqDiff,Nat.reduceBEq,Nat.reduceLeDiff,Nat.reduceAdd,Nat.reduceMul]
  exact SetR.now (hq0 hnc)
 have hn':n<p.code.length:=by omega
 have d1:decide (n=p.code.length)=false:=decide_eq_false hnc
 simp(disch:=first|exact Xe|fail)only[zft,hm',zRj lc,zAF,Int.natCast_inj,d1,zBX hn',zBt hn',↓Xa,Xb,Xc,↓reduceIte,Nat.reduceLT,Nat.reduceEqDiff,Nat.reduceBEq,Nat.reduceLeDiff,Nat.reduceAdd,Nat.reduceMul]
 refine zCi fun p3 n3=>?_
 have m3:=zAW hm n3
 have b3:=zAW hb n3
 simp(disch:=first|exact Xe|fail)only[zAv,zA7,↓Xa,Xb,Xc,↓reduceIte,Nat.reduceLT,Nat.reduceEqDiff,Nat.reduceBEq,Nat.reduceLeDiff,Nat.reduceAdd,Nat.reduceMul]
 have hmi:zCc (N:Int) p.code[n]:=by rw[← hpN];exact hr.2.2 _ (List.getElem_mem hn')
 have hq1':=hq1 hn'
 have hq2':=hq2 hn'
 have hT':=hT _ (List.getElem_mem hn')
 generalize p.code[n]=i at*
 refine zXj.call ?_
 have hmb:=zJO hmi
 have hma:=hmi.2.2
 obtain⟨a,ha⟩: ∃a:Nat,i.a=(a:Int):=⟨i.a.toNat,by omega⟩
 obtain⟨c,hc⟩: ∃c:Nat,i.b=(c:Int):=⟨i.b.toNat,by omega⟩
 obtain⟨w,hw⟩: ∃w:Nat,i.to=(w:Int):=⟨i.to.toNat,by omega⟩
 have haN:a<regs.length:=by omega
 have hcN:c<regs.length:=by omega
 have haN':a<N:=by omega
 have hcN':c<N:=by omega
 have hwN:w<N:=by omega
 have ga:regs.getD i.a.toNat []=regs[a]:=by rw[ha,Int.toNat_natCast,List.getD_eq_getElem?_getD,List.getElem?_eq_getElem haN];rfl
 have gc:regs.getD i.b.toNat []=regs[c]:=by rw[hc,Int.toNat_natCast,List.getD_eq_getElem?_getD,List.getElem?_eq_getElem hcN];rfl
 have gw:i.to.toNat=w:=by omega
 rw[ga,gc]at hq1' hq2'
 rw[gw]at hq1'
 obtain⟨lx,bx⟩:=hz _ (List.getElem_mem haN)
 obtain⟨ly,by'⟩:=hz _ (List.getElem_mem hcN)
 have hl:(GI regs).length=N:=by rw[zGZ,hN]
 have lx9:(regs[a]).length<9223372036854775808:=by omega
 simp(disch:=first|exact Xe|fail)only[ha,hc,hm',hb,m3,b3,zA5,hl,haN',hcN',zKK hN haN,zKK hN hcN,zBI,lx9,lx,↓Xa,Xb,Xc,↓reduceIte,Nat.reduceLT,Nat.reduceEqDiff,Nat.reduceBEq,Nat.reduceLeDiff,Nat.reduceAdd,Nat.reduceMul]
 generalize regs[a]=x at*
 generalize regs[c]=y at*
 rw[zNV (by omega)]
 intro o ho
 have o3:=(zAB.1 ho).1
 have oH:=(zAB.1 ho).2
 have om:=zAW hm oH
 have ob:=zAW hb oH
 generalize hX:(ABlk.row 76 0 [.int .i64 i.op,.int .i64 i.to,.int .i64 (a:Int),.int .i64 (c:Int),.int .i64 i.c])=X at*
 have hX':X=.row 76 0 [.int .i64 i.op,.int .i64 (w:Int),.int .i64 (a:Int),.int .i64 (c:Int),.int .i64 i.c]:=by rw[← hX,hw]
 have lL:L<9223372036854775808:=by omega
 simp(disch:=first|exact Xe|fail)only[zMk lL,↓Xa,Xb,Xc,↓reduceIte,Nat.reduceLT,Nat.reduceEqDiff,Nat.reduceBEq,Nat.reduceLeDiff,Nat.reduceAdd,Nat.reduceMul]
 refine zAP (fun s:Nat×List Int=>⟨[],[(0,.ptr mb 6 0),(3,.ptr p3 5 0),(4,vmF i),(5,rI x),(6,rI y),(7,.own o (L*2) 0 L true),(59,.int .i64 L),(60,.int .i64 s.1)],(H.upd p3 (some X)).upd o (some (.row 48 2 (IC (s.2++List.replicate (L-s.1) 0))))⟩)
  (fun s=>s.1≤L∧s.2.length=s.1∧(∀z,z∈s.2→Bd (k+3) z)∧∀j,j<s.1→doZ i (x.getD j 0) (y.getD j 0)=some (s.2.getD j 0)) (fun s=>L-s.1) (0,[]) (Settle.now (by simp)) ⟨Nat.zero_le _,rfl,fun z h=>by simp at h,fun j h=>absurd h (Nat.not_lt_zero j)⟩ ?_
 rintro⟨j,xs⟩ ⟨h1,h2,h3,h4⟩
 dsimp only at h1 h2 h3 h4 ⊢
 have hcell:(xs++List.replicate (L-j) 0).length=L:=by simp;omega
 by_cases hj:j<L
 ·have hjx:j<x.length:=by omega
  have hjy:j<y.length:=by omega
  have ex:x.getD j 0=x[j]:=by rw[List.getD_eq_getElem?_getD,List.getElem?_eq_getElem hjx];rfl
  have ey:y.getD j 0=y[j]:=by rw[List.getD_eq_getElem?_getD,List.getElem?_eq_getElem hjy];rfl
  obtain⟨z,ok,hbz,hz1,hz2,hcall⟩:=zTE hmi (bx.at hjx) (by'.at hjy) (by omega)
  have hdn:=h4
  obtain⟨qd,vq,hqd,hcall2⟩: ∃qd vq,H qd=some vq∧∀(H':AHeap)(K:AV→AHeap→Prop),H' qd=H qd→K (.tup [zAi z,.bool ok]) H'→zBu Tryz.prog (vmF i) [zAi x[j],zAi y[j]] H' K:=by
   by_cases o8:i.op=8
   ·exact⟨_,_,hT' o8,fun H' K he hk=>hcall H' K (fun _=>he.trans (hT' o8)) hk⟩
   ·exact⟨mb,_,hm,fun H' K _ hk=>hcall H' K (fun e=>absurd e o8) hk⟩
  have q3:=zAW hqd n3
  have qo:=zAW hqd oH
  simp(disch:=first|exact Xe|fail)only[hj,zEz hjx,zDA hjx,zEz hjy,zDA hjy,↓Xa,Xb,Xc,↓reduceIte,Nat.reduceLT,Nat.reduceEqDiff,Nat.reduceBEq,Nat.reduceLeDiff,Nat.reduceAdd,Nat.reduceMul]
  refine zWD [qd] (fun H' K he hk=>hcall2 H' K ((he qd (by simp)).trans (by rw[zAA _ _ (Ne.symm qo),zAA _ _ (Ne.symm q3)])) hk) ?_
  simp(disch:=first|exact Xe|fail)only[↓Xa,Xb,Xc,↓reduceIte,Nat.reduceLT,Nat.reduceEqDiff,Nat.reduceBEq,Nat.reduceLeDiff,Nat.reduceAdd,Nat.reduceMul]
  refine zCi fun q9 hq9=>?_
  have q93:=(zAB.1 (zAB.1 hq9).2).1
  have q9H:=(zAB.1 (zAB.1 hq9).2).2
  have q9o:=(zAB.1 hq9).1
  have q9d:=zAW hqd q9H
  simp(disch:=first|exact Xe|fail)only[zAE,↓Xa,Xb,Xc,↓reduceIte,Nat.reduceLT,Nat.reduceEqDiff,Nat.reduceBEq,Nat.reduceLeDiff,Nat.reduceAdd,Nat.reduceMul]
  cases ok with
  |false=>
   simp(disch:=first|exact Xe|fail)only[zeN,↓Xa,Xb,Xc,↓reduceIte,Nat.reduceLT,Nat.reduceEqDiff,Nat.reduceBEq,Nat.reduceLeDiff,Nat.reduceAdd,Nat.reduceMul]
   refine SetR.dropTo ((((Le.refl H).updB n3).updB oH).updB q9H) (SetR.now (hq2' (zTd (j:=j) (by omega) hjx ?_)))
   rw[ex,ey];exact hz2 rfl
  |true=>
   have hdz:=hz1 rfl
   have eset:(xs++List.replicate (L-j) 0).set j z=(xs++[z])++List.replicate (L-(j+1)) 0:=by
    rw[List.set_append_right _ _ (by omega),h2,Nat.sub_self,show L-j=(L-(j+1))+1 by omega,List.replicate_succ,List.set_cons_zero,List.append_assoc];rfl
   have mo: ∀v w:ABlk,(((H.upd p3 (some X)).upd o (some v)).upd q9 (some w)) o=some v:=fun v w=>by rw[zAA _ _ (Ne.symm q9o),zAC]
   have hlo:(IC (xs++List.replicate (L-j) 0)).length=L*2:=by rw[zBP,hcell]
   simp(disch:=first|exact Xe|fail)only[zAE,zAI,mo,zPE,hlo,hj,↓Xa,Xb,Xc,↓reduceIte,Nat.reduceLT,Nat.reduceEqDiff,Nat.reduceBEq,Nat.reduceLeDiff,Nat.reduceAdd,Nat.reduceMul]
   refine(zMI hcell hj).2 ?_
   rw[eset,zAt _ _ _ (show q9≠o from q9o),zAO]
   simp(disch:=first|exact Xe|fail)only[↓Xa,Xb,Xc,↓reduceIte,Nat.reduceLT,Nat.reduceEqDiff,Nat.reduceBEq,Nat.reduceLeDiff,Nat.reduceAdd,Nat.reduceMul]
   refine Settle.dropTo ((Le.refl _).updB (zAB.2 ⟨q9o,zAB.2 ⟨q93,q9H⟩⟩)) (Settle.now ⟨(j+1,xs++[z]),by dsimp only;omega,⟨by dsimp only;omega,by dsimp only;simp[h2],fun u hu=>?_,fun i2 hi2=>?_⟩,rfl⟩)
   ·rcases List.mem_append.1 hu with hu|hu
    ·exact h3 u hu
    ·simp at hu;rw[hu];exact hbz
   ·dsimp only at hi2 ⊢
    by_cases e:i2=j
    ·subst e
     have e2:(xs++[z]).getD i2 0=z:=by rw[List.getD_eq_getElem?_getD,List.getElem?_append_right (by omega),h2,Nat.sub_self];rfl
     rw[e2,ex,ey];exact hdz
    ·have e2:(xs++[z]).getD i2 0=xs.getD i2 0:=by rw[List.getD_eq_getElem?_getD,List.getElem?_append_left (by omega),List.getD_eq_getElem?_getD]
     rw[e2];exact h4 i2 (by omega)
 ·obtain rfl:j=L:=by omega
  have hdo:doR i x y=some xs:=zbM (by omega) (by omega) fun i2 hi2=>h4 i2 (by omega)
  have hlen0:xs.length<4611686018427387904:=by omega
  have eI:IC (xs++List.replicate (j-j) 0)=IC xs:=by simp
  rw[eI]
  simp(disch:=first|exact Xe|fail)only[hj,↓Xa,Xb,Xc,↓reduceIte,Nat.reduceLT,Nat.reduceEqDiff,Nat.reduceBEq,Nat.reduceLeDiff,Nat.reduceAdd,Nat.reduceMul]
  refine Settle.now ?_
  have w3: ∀v:ABlk,((H.upd p3 (some X)).upd o (some v)) p3=some (.row 76 0 [.int .i64 i.op,.int .i64 (w:Int),.int .i64 (a:Int),.int .i64 (c:Int),.int .i64 i.c]):=fun v=>by rw[zAA _ _ (Ne.symm o3),zAC,hX']
  have wm: ∀v:ABlk,((H.upd p3 (some X)).upd o (some v)) mb=some (.row 161 0 [.int .i64 p.ins,.int .i64 p.regs,zAw p.code false,zAj p.outs false,.own br N 0 N tm,.int .i64 n]):=fun v=>by rw[zAA _ _ (Ne.symm om),zAA _ _ (Ne.symm m3)];exact hm'
  have wb: ∀v:ABlk,((H.upd p3 (some X)).upd o (some v)) br=some (.row 29 1 (GI regs)):=fun v=>by rw[zAA _ _ (Ne.symm ob),zAA _ _ (Ne.symm b3)];exact hb
  simp(disch:=first|exact Xe|fail)only[w3,wm,wb,zA5,hl,hwN,↓Xa,Xb,Xc,↓reduceIte,Nat.reduceLT,Nat.reduceEqDiff,Nat.reduceBEq,Nat.reduceLeDiff,Nat.reduceAdd,Nat.reduceMul]
  refine(zJL (x:=.own o (j*2) 0 j true) hl hwN).2 ?_
  have wm2: ∀v u:ABlk,(((H.upd p3 (some X)).upd o (some v)).upd br (some u)) mb=some (.row 161 0 [.int .i64 p.ins,.int .i64 p.regs,zAw p.code false,zAj p.outs false,.own br N 0 N tm,.int .i64 n]):=fun v u=>by rw[zAA _ _ hne];exact wm v
  simp(disch:=first|exact Xe|fail)only[wm2,zeN,↓Xa,Xb,Xc,↓reduceIte,Nat.reduceLT,Nat.reduceEqDiff,Nat.reduceBEq,Nat.reduceLeDiff,Nat.reduceAdd,Nat.reduceMul]
  have hgl:(GI (regs.set w xs)).length=((GI regs).set w (.own o (j*2) 0 j true)).length:=by rw[zGZ,List.length_set,List.length_set,zGZ]
  have hHf: ∀(u v:ABlk),((((H.upd p3 (some X)).upd o (some (.row 48 2 (IC xs)))).upd br (some u)).upd mb (some v)) o=some (.row 48 2 (IC xs)):=fun u v=>by rw[zAA _ _ om,zAA _ _ ob,zAC]
  have hHb: ∀(u v:ABlk),((((H.upd p3 (some X)).upd o (some (.row 48 2 (IC xs)))).upd br (some u)).upd mb (some v)) br=some u:=fun u v=>by rw[zAA _ _ (Ne.symm hne),zAC]
  refine SetR.frzC br o (GI (regs.set w xs)) hgl (fun i2 q1 q2=>?_) (hHf _ _) (hHb _ _) (Ne.symm ob) ?_
  ·simp only[GI,List.map_set,List.getElem_set]
   by_cases e:w=i2
   ·rw[if_pos e,if_pos e]
    have e1:zCv o 2 (IC xs) (.own o (j*2) 0 j true)=.seq j (IC xs) true:=by
     simp[zCv,zBP,h2];rw[List.take_of_length_le (by rw[zBP];omega)]
    have e2:rI xs=.seq j (IC xs) false:=by rw[rI,zB2,h2]
    rw[e1,e2];exact Wk.l0
   ·rw[if_neg e,if_neg e]
    simp only[List.getElem_map]
    exact Wk.refl
  ·have e1:Fw.frz o 2 (IC xs) (.int .i64 ((0:Nat):Int))=.int .i64 ((0:Nat):Int):=rfl
   rw[e1]
   refine SetR.dropTo ?_ (SetR.now (hq1' xs hdo ⟨h3,hlen0⟩ (by omega)))
   intro q v hq
   by_cases eb:q=br
   ·subst eb
    rw[zAA _ _ (Ne.symm hne),zAC]at hq
    rw[zAC];exact hq
   by_cases em:q=mb
   ·subst em
    rw[zAC]at hq
    rw[zAA _ _ eb,zAA _ _ (Ne.symm om),zAC];exact hq
   ·rw[zAA _ _ em,zAA _ _ eb]at hq
    have eo:q≠o:=by rintro rfl;rw[oH]at hq;cases hq
    have e3:q≠p3:=by rintro rfl;rw[n3]at hq;cases hq
    rw[zAA _ _ eb,zAA _ _ eo,zAA _ _ em,zAA _ _ eb,zAA _ _ eo,zAA _ _ e3];exact hq
def zG1:List Nat:=[0,1,56,2,57,49,28,3,61,58,42,50,38,29,17,4,62,47,59,36,45,43,51,22,53,39,33,30,24,18,12,5,63,55,48,27,60,41,37,16,46,35,44,21,52,32,23,11,54,26,40,15,34,20,31,10,25,14,19,9,13,8,7,6]
def zDQ:List AV:=zG1.map fun(n:Nat)=>AV.int .u8 (n:Int)
def Tz64H(H:AHeap):Prop:=H 1=some (.glob 1 zDQ)
theorem Tz64H.le{H H':AHeap}(h:Tz64H H)(hl:Le H H'):Tz64H H':=hl _ _ h
theorem zOg{i:Nat}(h:i<64):(zDQ.drop i).take 1=[.int .u8 ((zG1.getD i 0:Nat):Int)]:=by
 have hl:zDQ.length=64:=rfl
 rw[List.drop_eq_getElem_cons (by omega),List.take_succ_cons,List.take_zero]
 simp only[zDQ,List.getElem_map]
 rw[List.getD_eq_getElem?_getD,List.getElem?_eq_getElem (show i<zG1.length from h),Option.getD_some]
theorem zFb{H:AHeap}{x v n:Nat}{K:AV→AHeap→Prop}(hH:Tz64H H)(h0:0<x)(hx:x<65536)(ha:x &&& (18446744073709551616-x)=x)(hv:x*285870213051353865%18446744073709551616=v)(hi:v / 288230376151711744<64)(ht:zG1.getD (v / 288230376151711744) 0=n)(hn:n<256)(k:K (.int .i64 ((n:Nat):Int)) H):
 Run Tryz.prog 226 [.int .u64 (x:Int)] H K:=by
 refine zTW (by simp) ?_
 have hH':H 1=some (.glob 1 zDQ):=hH
 have hne: ¬x=0:=by omega
 have c1: ∀K,unW .neg (.int .u64 (x:Int)) K↔K (.int .u64 ((18446744073709551616-x:Nat):Int)):=fun K=>by
  simp only[unW,zB6];rw[show(0-(x:Int))%18446744073709551616=((18446744073709551616-x:Nat):Int) by omega]
 have c2: ∀K,zAx .and (.int .u64 (x:Int)) (.int .u64 ((18446744073709551616-x:Nat):Int)) K↔K (.int .u64 ((x:Nat):Int)):=fun K=>by
  rw[zGm .u64 (by simp[IntKind.bits];omega) (by simp[IntKind.bits];omega),ha,zDc (by omega)]
 have c3: ∀K,zAx .mul (.int .u64 (x:Int)) (.int .u64 ((285870213051353865:Nat):Int)) K↔K (.int .u64 ((v:Nat):Int)):=fun K=>by
  simp only[zAx,zAf,zB6]
  rw[show(x:Int)*((285870213051353865:Nat):Int)%18446744073709551616=((v:Nat):Int) by rw[← hv];omega]
  simp
 simp(disch:=first|exact Xe|fail)only[zdY,hne,c1,c2,c3,hH',zWs,zM5,↓Xa,Xb,Xc,↓reduceIte,Nat.reduceLT,Nat.reduceEqDiff,Nat.reduceBEq,Nat.reduceLeDiff,Nat.reduceAdd,Nat.reduceMul]
 have e58:(2:Nat)^58=288230376151711744:=by decide
 rw[e58]
 have hl:zDQ.length=64:=rfl
 refine⟨by omega,?_⟩
 rw[zOg hi,ht]
 have hw:IntKind.i64.wrap ((n:Nat):Int)=((n:Nat):Int):=zCN (by omega) (by omega)
 simp(disch:=first|exact Xe|fail)only[hw,zcr,↓Xa,Xb,Xc,↓reduceIte,Nat.reduceLT,Nat.reduceEqDiff,Nat.reduceBEq,Nat.reduceLeDiff,Nat.reduceAdd,Nat.reduceMul]
 exact SetR.now k
def zfb(c:Int)(n:Nat):Prop:=(c=2∧n=1)∨(c=4∧n=2)∨(c=8∧n=3)∨(c=16∧n=4)
theorem zdM{H:AHeap}{c:Int}{n:Nat}{K:AV→AHeap→Prop}(hH:Tz64H H)(hc:zfb c n)(k:K (.int .i64 ((n:Nat):Int)) H):Run Tryz.prog 195 [.int .u64 c] H K:=by
 refine zU0 (by simp) ?_
 simp(disch:=first|exact Xe|fail)only[zda,↓Xa,Xb,Xc,↓reduceIte,Nat.reduceLT,Nat.reduceEqDiff,Nat.reduceBEq,Nat.reduceLeDiff,Nat.reduceAdd,Nat.reduceMul]
 rcases hc with⟨rfl,rfl⟩|⟨rfl,rfl⟩|⟨rfl,rfl⟩|⟨rfl,rfl⟩
 ·refine zAM (zFb (x:=2) (n:=1) hH (by decide) (by decide) (by decide) rfl (by decide) (by decide) (by decide) ?_)
  simp(disch:=first|exact Xe|fail)only[zP0,↓Xa,Xb,Xc,↓reduceIte,Nat.reduceLT,Nat.reduceEqDiff,Nat.reduceBEq,Nat.reduceLeDiff,Nat.reduceAdd,Nat.reduceMul]
  exact SetR.now k
 ·refine zAM (zFb (x:=4) (n:=2) hH (by decide) (by decide) (by decide) rfl (by decide) (by decide) (by decide) ?_)
  simp(disch:=first|exact Xe|fail)only[zP0,↓Xa,Xb,Xc,↓reduceIte,Nat.reduceLT,Nat.reduceEqDiff,Nat.reduceBEq,Nat.reduceLeDiff,Nat.reduceAdd,Nat.reduceMul]
  exact SetR.now k
 ·refine zAM (zFb (x:=8) (n:=3) hH (by decide) (by decide) (by decide) rfl (by decide) (by decide) (by decide) ?_)
  simp(disch:=first|exact Xe|fail)only[zP0,↓Xa,Xb,Xc,↓reduceIte,Nat.reduceLT,Nat.reduceEqDiff,Nat.reduceBEq,Nat.reduceLeDiff,Nat.reduceAdd,Nat.reduceMul]
  exact SetR.now k
 ·refine zAM (zFb (x:=16) (n:=4) hH (by decide) (by decide) (by decide) rfl (by decide) (by decide) (by decide) ?_)
  simp(disch:=first|exact Xe|fail)only[zP0,↓Xa,Xb,Xc,↓reduceIte,Nat.reduceLT,Nat.reduceEqDiff,Nat.reduceBEq,Nat.reduceLeDiff,Nat.reduceAdd,Nat.reduceMul]
  exact SetR.now k
def zZj(c:Int):Int:=IntKind.i64.wrap (BitVec.ofInt 64 c &&& BitVec.ofInt 64 (c-1)).toNat
theorem zZX{c:Int}{n:Nat}(hc:zfb c n):zZj c=0:=by
 rcases hc with⟨rfl,rfl⟩|⟨rfl,rfl⟩|⟨rfl,rfl⟩|⟨rfl,rfl⟩<;>decide
theorem zXd{c:Int}(h1:3≤c)(h2:c≤15)(h4:c≠4)(h8:c≠8):zZj c≠0:=by
 have:c=3∨c=5∨c=6∨c=7∨c=9∨c=10∨c=11∨c=12∨c=13∨c=14∨c=15:=by omega
 rcases this with rfl|rfl|rfl|rfl|rfl|rfl|rfl|rfl|rfl|rfl|rfl<;>decide
theorem zQX{c:Int}{K:AV→Prop}:zAx .and (.int .i64 c) (.int .i64 (c-1)) K↔K (.int .i64 (zZj c)):=by
 simp only[zAx,zAf,zZj,IntKind.bits,true_and]
 exact Iff.rfl
theorem zLR{c:Int}{K:AV→Prop}(h1: -16≤c)(h2:c≤1000):zAx .sub (.int .i64 c) (.int .i64 ((1:Nat):Int)) K↔K (.int .i64 (c-1)):=by
 simp only[zAx,zAf,true_and]
 rw[show c-((1:Nat):Int)=c-1 from rfl,zCN (by omega) (by omega)]
theorem zKv{H:AHeap}{Q:AV→AHeap→Prop}{to a c:Int}(hT:Tz64H H)(h0:c≠0)(h1: -16≤c)(h2:c≤16)(hq:Q (zGw (zBj to a c)) H):Run Tryz.prog 128 [.int .i64 to,.int .i64 a,.int .i64 c] H Q:=by
 refine zUR (by simp) ?_
 simp(disch:=first|exact Xe|fail)only[zZ1,↓Xa,Xb,Xc,↓reduceIte,Nat.reduceLT,Nat.reduceEqDiff,Nat.reduceBEq,Nat.reduceLeDiff,Nat.reduceAdd,Nat.reduceMul]
 refine zAD fun p6 n6=>?_
 have hle: ∀{x:ABlk},Le H (H.upd p6 (some x)):=(Le.refl H).updB n6
 have t0: ∀{b:Bool},b=true→b=true:=fun h=>h
 by_cases c1:c=1
 ·have e1:decide (c=((1:Nat):Int))=true:=decide_eq_true (by omega)
  have e:zGw (zBj to a c)=.agg [.int .i64 ((1:Nat):Int),.int .i64 to,.int .i64 a,.int .i64 ((0:Nat):Int),.int .i64 ((0:Nat):Int)]:=by rw[zBj,if_pos c1];rfl
  rw[e]at hq
  simp(disch:=first|exact Xe|fail)only[zAF,e1,AV.cells,zNX,↓Xa,Xb,Xc,↓reduceIte,Nat.reduceLT,Nat.reduceEqDiff,Nat.reduceBEq,Nat.reduceLeDiff,Nat.reduceAdd,Nat.reduceMul]
  exact SetR.dropTo hle (SetR.now hq)
 have d1:decide (c=((1:Nat):Int))=false:=decide_eq_false (by omega)
 by_cases c2:c= -1
 ·have e1:decide (c= -1)=true:=decide_eq_true (by omega)
  have e:zGw (zBj to a c)=.agg [.int .i64 ((2:Nat):Int),.int .i64 to,.int .i64 a,.int .i64 ((0:Nat):Int),.int .i64 ((0:Nat):Int)]:=by rw[zBj,if_neg c1,if_pos c2];rfl
  rw[e]at hq
  simp(disch:=first|exact Xe|fail)only[zAF,d1,e1,AV.cells,zNX,↓Xa,Xb,Xc,↓reduceIte,Nat.reduceLT,Nat.reduceEqDiff,Nat.reduceBEq,Nat.reduceLeDiff,Nat.reduceAdd,Nat.reduceMul]
  exact SetR.dropTo hle (SetR.now hq)
 have d2:decide (c= -1)=false:=decide_eq_false (by omega)
 by_cases hp: ∃n,zfb c n
 ·obtain⟨n,hp⟩:=hp
  have h0:0<c:=by rcases hp with⟨rfl,_⟩|⟨rfl,_⟩|⟨rfl,_⟩|⟨rfl,_⟩<;>decide
  have e0:decide (((0:Nat):Int)<c)=true:=decide_eq_true (by omega)
  have ea:decide (zZj c=((0:Nat):Int))=true:=decide_eq_true (zZX hp)
  have e:zGw (zBj to a c)=.agg [.int .i64 ((7:Nat):Int),.int .i64 to,.int .i64 a,.int .i64 ((0:Nat):Int),.int .i64 ((n:Nat):Int)]:=by
   rcases hp with⟨rfl,rfl⟩|⟨rfl,rfl⟩|⟨rfl,rfl⟩|⟨rfl,rfl⟩<;>rfl
  rw[e]at hq
  have ec: ∀{K:AV→Prop},zEm .u64 (.int .i64 c) K↔K (.int .u64 c):=fun{K}=>by
   simp only[zEm,zB6];rw[Int.emod_eq_of_lt (by omega) (by omega)]
  simp(disch:=first|exact Xe|fail)only[zAF,zAX,d1,d2,e0,zLR h1 (show c≤1000 by omega),zQX,ea,ec,↓Xa,Xb,Xc,↓reduceIte,Nat.reduceLT,Nat.reduceEqDiff,Nat.reduceBEq,Nat.reduceLeDiff,Nat.reduceAdd,Nat.reduceMul]
  refine zAM (zdM (hT.le hle) hp ?_)
  simp(disch:=first|exact Xe|fail)only[AV.cells,zNX,↓Xa,Xb,Xc,↓reduceIte,Nat.reduceLT,Nat.reduceEqDiff,Nat.reduceBEq,Nat.reduceLeDiff,Nat.reduceAdd,Nat.reduceMul]
  exact SetR.dropTo hle (SetR.now hq)
 ·have e:zGw (zBj to a c)=.agg [.int .i64 ((5:Nat):Int),.int .i64 to,.int .i64 a,.int .i64 ((0:Nat):Int),.int .i64 c]:=by
   rw[zBj,if_neg c1,if_neg c2,if_neg (fun h=>hp ⟨1,.inl ⟨h,rfl⟩⟩),if_neg (fun h=>hp ⟨2,.inr (.inl ⟨h,rfl⟩)⟩),if_neg (fun h=>hp ⟨3,.inr (.inr (.inl ⟨h,rfl⟩))⟩),if_neg (fun h=>hp ⟨4,.inr (.inr (.inr ⟨h,rfl⟩))⟩)];rfl
  rw[e]at hq
  by_cases h0:0<c
  ·have e0:decide (((0:Nat):Int)<c)=true:=decide_eq_true (by omega)
   have hn:=zXd (c:=c) (by
    have n2:c≠2:=fun h=>hp ⟨1,.inl ⟨h,rfl⟩⟩
    omega) (by
    have n16:c≠16:=fun h=>hp ⟨4,.inr (.inr (.inr ⟨h,rfl⟩))⟩
    omega) (fun h=>hp ⟨2,.inr (.inl ⟨h,rfl⟩)⟩) (fun h=>hp ⟨3,.inr (.inr (.inl ⟨h,rfl⟩))⟩)
   have ea:decide (zZj c=((0:Nat):Int))=false:=decide_eq_false hn
   simp(disch:=first|exact Xe|fail)only[zAF,zAX,d1,d2,e0,zLR h1 (show c≤1000 by omega),zQX,ea,AV.cells,zNX,↓Xa,Xb,Xc,↓reduceIte,Nat.reduceLT,Nat.reduceEqDiff,Nat.reduceBEq,Nat.reduceLeDiff,Nat.reduceAdd,Nat.reduceMul]
   exact SetR.dropTo hle (SetR.now hq)
  ·have e0:decide (((0:Nat):Int)<c)=false:=decide_eq_false (by omega)
   simp(disch:=first|exact Xe|fail)only[zAF,zAX,d1,d2,e0,AV.cells,zNX,↓Xa,Xb,Xc,↓reduceIte,Nat.reduceLT,Nat.reduceEqDiff,Nat.reduceBEq,Nat.reduceLeDiff,Nat.reduceAdd,Nat.reduceMul]
   exact SetR.dropTo hle (SetR.now hq)
def RG(H M:AHeap)(p6 p7 ty es n:Nat)(cells:List AV)(v:AV):Prop:=
 (v=.seq 0 [] true∧n=0∧cells=[])∨(0<n∧cells.length=n*es∧∃b,H b=none∧b≠p6∧b≠p7∧v=.own b (n*es) 0 n false∧M b=some (.row ty es cells))
def zd8(b:Nat)(v:AV):Prop:= ∀L off n t,v≠.own b L off n t
structure PM(H M:AHeap)(p6 p7:Nat)(k regs:Int)(code:List Ins)(outs:List Int)(cv ov:AV):Prop where
 p:M p6=some (.row 25 0 [.int .i64 k,.int .i64 regs,cv,ov])
 f:M p7=some (.row 196 0 [.fn (.func 126) [] [.ptr p6 4 0]])
 c:RG H M p6 p7 76 5 code.length (code.flatMap zC0) cv
 o:RG H M p6 p7 3 1 outs.length (outs.map fun n=>.int .i64 n) ov
 ne: ∀b,zd8 b cv∨zd8 b ov
 le:Le H M
 h6:H p6=none
 h7:H p7=none
 n67:p6≠p7
theorem RG.cell{H M:AHeap}{p6 p7 ty es n:Nat}{cells:List AV}{v:AV}(h:RG H M p6 p7 ty es n cells v):v.cell=true:=by
 rcases h with⟨rfl,_⟩|⟨_,_,b,_,_,_,rfl,_⟩<;>rfl
theorem RG.fresh{H M:AHeap}{p6 p7 ty es n q:Nat}{cells:List AV}{v:AV}{x:ABlk}(h:RG H M p6 p7 ty es n cells v)(hq:M q=none):RG H (M.upd q (some x)) p6 p7 ty es n cells v:=by
 rcases h with h|⟨h1,h2,b,h3,h4,h5,h6,h7⟩
 ·exact .inl h
 ·exact .inr ⟨h1,h2,b,h3,h4,h5,h6,by rw[zAA _ _ (by rintro rfl;rw[hq]at h7;cases h7)];exact h7⟩
theorem RG.base{H H' M:AHeap}{p6 p7 ty es n:Nat}{cells:List AV}{v:AV}(h:RG H' M p6 p7 ty es n cells v)(hl: ∀b,H' b=none→H b=none):RG H M p6 p7 ty es n cells v:=by
 rcases h with h|⟨h1,h2,b,h3,h4⟩
 ·exact .inl h
 ·exact .inr ⟨h1,h2,b,hl b h3,h4⟩
section
variable {H M:AHeap} {p6 p7:Nat} {k regs:Int} {code:List Ins} {outs:List Int} {cv ov:AV}
theorem PM.fresh{q:Nat}{x:ABlk}(h:PM H M p6 p7 k regs code outs cv ov)(hq:M q=none):PM H (M.upd q (some x)) p6 p7 k regs code outs cv ov:=
 ⟨by rw[zAA _ _ (by rintro rfl;exact absurd h.p (by simp[hq]))];exact h.p,by rw[zAA _ _ (by rintro rfl;exact absurd h.f (by simp[hq]))];exact h.f,h.c.fresh hq,h.o.fresh hq,h.ne,h.le.upd hq,h.h6,h.h7,h.n67⟩
theorem PM.under{q:Nat}{x:ABlk}(h:PM H M p6 p7 k regs code outs cv ov)(hq:M q=none):PM (H.upd q (some x)) (M.upd q (some x)) p6 p7 k regs code outs cv ov:=by
 have q6:p6≠q:=by rintro rfl;exact absurd h.p (by simp[hq])
 have q7:p7≠q:=by rintro rfl;exact absurd h.f (by simp[hq])
 have hf:=h.fresh (x:=x) hq
 have go: ∀{ty es n:Nat}{cells:List AV}{v:AV},RG H M p6 p7 ty es n cells v→RG (H.upd q (some x)) (M.upd q (some x)) p6 p7 ty es n cells v:=fun{ty es n cells v} r=>by
  rcases r with h|⟨h1,h2,b,h3,h4,h5,h6,h7⟩
  ·exact .inl h
  ·have hbq:b≠q:=by rintro rfl;rw[hq]at h7;cases h7
   exact .inr ⟨h1,h2,b,zAB.2 ⟨hbq,h3⟩,h4,h5,h6,by rw[zAA _ _ hbq];exact h7⟩
 refine⟨hf.p,hf.f,go h.c,go h.o,h.ne,fun o y ho=>?_,by rw[zAA _ _ q6];exact h.h6,by rw[zAA _ _ q7];exact h.h7,h.n67⟩
 by_cases e:o=q
 ·subst e;rw[zAC]at ho ⊢; exact ho
 ·rw[zAA _ _ e]at ho ⊢; exact h.le o y ho
theorem PM.drop{H':AHeap}(h:PM H' M p6 p7 k regs code outs cv ov)(hl:Le H H'):PM H M p6 p7 k regs code outs cv ov:=by
 have hn: ∀b,H' b=none→H b=none:=fun b hb=>by
  cases e:H b with
  |none=>rfl
  |some x=>rw[hl b x e]at hb;cases hb
 exact⟨h.p,h.f,h.c.base hn,h.o.base hn,h.ne,fun o x ho=>h.le o x (hl o x ho),hn _ h.h6,hn _ h.h7,h.n67⟩
end
theorem PM.appC{H M:AHeap}{p6 p7:Nat}{k regs:Int}{code:List Ins}{outs:List Int}{cv ov:AV}{i:Ins}{t:Bool}{K:AV→AHeap→Prop}(h:PM H M p6 p7 k regs code outs cv ov)(hb:code.length+1≤1000000)
 (kk: ∀cv' M',M' p6=some (.row 25 0 [.int .i64 k,.int .i64 regs,cv,ov])→cv'.cells=some [cv']→PM H (M'.upd p6 (some (.row 25 0 [.int .i64 k,.int .i64 regs,cv',ov]))) p6 p7 k regs (code++[i]) outs cv' ov→K cv' M'):
 zM3 M 76 5 40 cv (.seq 1 (zC0 i) t) K:=by
 have hys:(zC0 i).length=1*5:=rfl
 have hcs:(zC0 i).all AV.cell=true:=rfl
 have el:(code++[i]).length=code.length+1:=by simp
 have ec:(code++[i]).flatMap zC0=code.flatMap zC0++zC0 i:=by simp
 have hc5:(code.flatMap zC0).length=code.length*5:=zD3 zCP code
 refine .inl ⟨hys,hcs,?_⟩
 rcases h.c with⟨hv,hn,hcl⟩|⟨hn,hl,b,b1,b2,b3,hv,hb'⟩
 ·have hc0:code=[]:=List.length_eq_zero_iff.1 hn
  subst hc0
  rw[hv]
  refine⟨rfl,by simp,by omega,by omega,fun e=>absurd e (by omega),fun _ b hbn=>?_⟩
  have nb6:b≠p6:=by rintro rfl;rw[h.p]at hbn;cases hbn
  have nb7:b≠p7:=by rintro rfl;rw[h.f]at hbn;cases hbn
  have hbH:H b=none:=by
   cases e:H b with
   |none=>rfl
   |some x=>rw[h.le b x e]at hbn;cases hbn
  refine kk _ _ ?_ rfl ⟨zAC _ _ _,?_,.inr ⟨by simp,by simp[zC0],b,hbH,nb6,nb7,rfl,?_⟩,?_,fun c=>?_,?_,h.h6,h.h7,h.n67⟩
  ·rw[zAA _ _ (Ne.symm nb6),h.p,hv]
  ·rw[zAA _ _ (Ne.symm h.n67),zAA _ _ (Ne.symm nb7)];exact h.f
  ·rw[zAA _ _ nb6,zAC];simp
  ·rcases h.o with ho|⟨o1,o2,c,o3,o4,o5,o6,o7⟩
   ·exact .inl ho
   ·refine .inr ⟨o1,o2,c,o3,o4,o5,o6,?_⟩
    rw[zAA _ _ o4,zAA _ _ (by rintro rfl;rw[hbn]at o7;cases o7)];exact o7
  ·by_cases e:c=b
   ·subst e
    right
    rcases h.o with⟨rfl,_⟩|⟨o1,o2,c',o3,o4,o5,rfl,o7⟩
    ·intro L off n t e;cases e
    ·intro L off n t e;injection e with e;subst e;rw[hbn]at o7;cases o7
   ·left;intro L off n t e2;injection e2 with e2;exact e e2.symm
  ·refine fun o x ho=>?_
   have o6:o≠p6:=by rintro rfl;rw[h.h6]at ho;cases ho
   rw[zAA _ _ o6,zAA _ _ (by rintro rfl;rw[hbH]at ho;cases ho)];exact h.le o x ho
 ·rw[hv]
  dsimp only
  rw[hb']
  refine⟨hl,rfl,rfl,rfl,rfl,by omega,by omega,?_⟩
  refine kk _ _ ?_ rfl ⟨zAC _ _ _,?_,.inr ⟨by simp,by rw[el,ec,List.length_append,hc5];simp[zC0];omega,b,b1,b2,b3,by rw[el],?_⟩,?_,fun c=>?_,?_,h.h6,h.h7,h.n67⟩
  ·rw[zAA _ _ (Ne.symm b2),h.p,hv]
  ·rw[zAA _ _ (Ne.symm h.n67),zAA _ _ (Ne.symm b3)];exact h.f
  ·rw[zAA _ _ b2,zAC,ec]
  ·rcases h.o with ho|⟨o1,o2,c,o3,o4,o5,o6,o7⟩
   ·exact .inl ho
   ·refine .inr ⟨o1,o2,c,o3,o4,o5,o6,?_⟩
    have hcb:c≠b:=by
     rintro rfl
     rcases h.ne c with hh|hh
     ·exact hh _ _ _ _ hv
     ·exact hh _ _ _ _ o6
    rw[zAA _ _ o4,zAA _ _ hcb];exact o7
  ·rcases h.ne c with hh|hh
   ·left;intro L off n t e;injection e with e;subst e;exact hh _ _ _ _ hv
   ·exact .inr hh
  ·refine fun o x ho=>?_
   rw[zAA _ _ (by rintro rfl;rw[h.h6]at ho;cases ho),zAA _ _ (by rintro rfl;rw[b1]at ho;cases ho)];exact h.le o x ho
theorem PM.appO{H M:AHeap}{p6 p7:Nat}{k regs:Int}{code:List Ins}{outs:List Int}{cv ov:AV}{i:Int}{t:Bool}{K:AV→AHeap→Prop}(h:PM H M p6 p7 k regs code outs cv ov)(hb:outs.length+1≤1000000)
 (kk: ∀ov' M',M' p6=some (.row 25 0 [.int .i64 k,.int .i64 regs,cv,ov])→ov'.cells=some [ov']→PM H (M'.upd p6 (some (.row 25 0 [.int .i64 k,.int .i64 regs,cv,ov']))) p6 p7 k regs code (outs++[i]) cv ov'→K ov' M'):
 zM3 M 3 1 8 ov (.seq 1 [.int .i64 i] t) K:=by
 have el:(outs++[i]).length=outs.length+1:=by simp
 have ec:(outs++[i]).map (fun n=>AV.int .i64 n)=(outs.map fun n=>AV.int .i64 n)++[.int .i64 i]:=by simp
 have hc5:(outs.map fun n=>AV.int .i64 n).length=outs.length*1:=by simp
 refine .inl ⟨rfl,rfl,?_⟩
 rcases h.o with⟨hv,hn,hcl⟩|⟨hn,hl,b,b1,b2,b3,hv,hb'⟩
 ·have hc0:outs=[]:=List.length_eq_zero_iff.1 hn
  subst hc0
  rw[hv]
  refine⟨rfl,by simp,by omega,by omega,fun e=>absurd e (by omega),fun _ b hbn=>?_⟩
  have nb6:b≠p6:=by rintro rfl;rw[h.p]at hbn;cases hbn
  have nb7:b≠p7:=by rintro rfl;rw[h.f]at hbn;cases hbn
  have hbH:H b=none:=by
   cases e:H b with
   |none=>rfl
   |some x=>rw[h.le b x e]at hbn;cases hbn
  refine kk _ _ ?_ rfl ⟨zAC _ _ _,?_,?_,.inr ⟨by simp,by simp,b,hbH,nb6,nb7,rfl,?_⟩,fun c=>?_,?_,h.h6,h.h7,h.n67⟩
  ·rw[zAA _ _ (Ne.symm nb6),h.p,hv]
  ·rw[zAA _ _ (Ne.symm h.n67),zAA _ _ (Ne.symm nb7)];exact h.f
  ·rcases h.c with ho|⟨o1,o2,c,o3,o4,o5,o6,o7⟩
   ·exact .inl ho
   ·refine .inr ⟨o1,o2,c,o3,o4,o5,o6,?_⟩
    rw[zAA _ _ o4,zAA _ _ (by rintro rfl;rw[hbn]at o7;cases o7)];exact o7
  ·rw[zAA _ _ nb6,zAC];simp
  ·by_cases e:c=b
   ·subst e
    left
    rcases h.c with⟨rfl,_⟩|⟨o1,o2,c',o3,o4,o5,rfl,o7⟩
    ·intro L off n t e;cases e
    ·intro L off n t e;injection e with e;subst e;rw[hbn]at o7;cases o7
   ·right;intro L off n t e2;injection e2 with e2;exact e e2.symm
  ·refine fun o x ho=>?_
   have o6:o≠p6:=by rintro rfl;rw[h.h6]at ho;cases ho
   rw[zAA _ _ o6,zAA _ _ (by rintro rfl;rw[hbH]at ho;cases ho)];exact h.le o x ho
 ·rw[hv]
  dsimp only
  rw[hb']
  refine⟨hl,rfl,rfl,rfl,rfl,by omega,by omega,?_⟩
  refine kk _ _ ?_ rfl ⟨zAC _ _ _,?_,?_,.inr ⟨by simp,by rw[el,ec,List.length_append,hc5];simp,b,b1,b2,b3,by rw[el],?_⟩,fun c=>?_,?_,h.h6,h.h7,h.n67⟩
  ·rw[zAA _ _ (Ne.symm b2),h.p,hv]
  ·rw[zAA _ _ (Ne.symm h.n67),zAA _ _ (Ne.symm b3)];exact h.f
  ·rcases h.c with ho|⟨o1,o2,c,o3,o4,o5,o6,o7⟩
   ·exact .inl ho
   ·refine .inr ⟨o1,o2,c,o3,o4,o5,o6,?_⟩
    have hcb:c≠b:=by
     rintro rfl
     rcases h.ne c with hh|hh
     ·exact hh _ _ _ _ o6
     ·exact hh _ _ _ _ hv
    rw[zAA _ _ o4,zAA _ _ hcb];exact o7
  ·rw[zAA _ _ b2,zAC,ec]
  ·rcases h.ne c with hh|hh
   ·exact .inl hh
   ·right;intro L off n t e;injection e with e;subst e;exact hh _ _ _ _ hv
  ·refine fun o x ho=>?_
   rw[zAA _ _ (by rintro rfl;rw[h.h6]at ho;cases ho),zAA _ _ (by rintro rfl;rw[b1]at ho;cases ho)];exact h.le o x ho
theorem zgS{a b c d e:AV}:zCK [a,b,c,d,e] 5=[a,b,c,d,e]:=by simp[zCK,List.range,List.range.loop]
theorem zCU{H M:AHeap}{Q:AV→AHeap→Prop}{p6 p7:Nat}{k regs:Int}{code:List Ins}{outs:List Int}{cv ov:AV}{i:Ins}(h:PM H M p6 p7 k regs code outs cv ov)(hb:code.length+1≤1000000)
 (hq: ∀M' cv',PM H M' p6 p7 k regs (zIG code i) outs cv' ov→Q (.tup []) M'):Run Tryz.prog 126 [zGw i,.ptr p6 4 0] M Q:=by
 refine zUP (by simp) ?_
 simp(disch:=first|exact Xe|fail)only[za9,zAv,↓Xa,Xb,Xc,↓reduceIte,Nat.reduceLT,Nat.reduceEqDiff,Nat.reduceBEq,Nat.reduceLeDiff,Nat.reduceAdd,Nat.reduceMul]
 refine zAD fun p2 n2=>?_
 have h2:=h.fresh (x:=.row 76 0 [.int .i64 i.op,.int .i64 i.to,.int .i64 i.a,.int .i64 i.b,.int .i64 i.c]) n2
 have q6:p6≠p2:=by rintro rfl;exact absurd h.p (by simp[n2])
 generalize hM2:M.upd p2 (some (.row 76 0 [.int .i64 i.op,.int .i64 i.to,.int .i64 i.a,.int .i64 i.b,.int .i64 i.c]))=M2 at*
 have g2:M2 p2=some (.row 76 0 [.int .i64 i.op,.int .i64 i.to,.int .i64 i.a,.int .i64 i.b,.int .i64 i.c]):=by rw[← hM2,zAC]
 by_cases h1:i.op=1∧i.to=i.a
 ·have e1:decide (i.op=((1:Nat):Int))=true:=decide_eq_true h1.1
  have e2:decide (i.to=i.a)=true:=decide_eq_true h1.2
  have e:zIG code i=code:=if_pos h1
  simp(disch:=first|exact Xe|fail)only[g2,zAZ,e1,e2,zTk,↓Xa,Xb,Xc,↓reduceIte,Nat.reduceLT,Nat.reduceEqDiff,Nat.reduceBEq,Nat.reduceLeDiff,Nat.reduceAdd,Nat.reduceMul]
  exact SetR.now (hq _ cv (by rw[e];exact h2))
 have e:zIG code i=code++[i]:=if_neg h1
 have g6:=h2.p
 by_cases c1:i.op=1
 ·have e1:decide (i.op=((1:Nat):Int))=true:=decide_eq_true c1
  have e2:decide (i.to=i.a)=false:=decide_eq_false fun h=>h1 ⟨c1,h⟩
  simp(disch:=first|exact Xe|fail)only[g2,g6,zAZ,e1,e2,zgS,zA7,zAv,↓Xa,Xb,Xc,↓reduceIte,Nat.reduceLT,Nat.reduceEqDiff,Nat.reduceBEq,Nat.reduceLeDiff,Nat.reduceAdd,Nat.reduceMul]
  refine PM.appC (i:=i) h2 hb fun cv' M' m1 m2 m3=>?_
  simp(disch:=first|exact Xe|fail)only[m1,m2,zTk,↓Xa,Xb,Xc,↓reduceIte,Nat.reduceLT,Nat.reduceEqDiff,Nat.reduceBEq,Nat.reduceLeDiff,Nat.reduceAdd,Nat.reduceMul]
  exact SetR.now (hq _ cv' (by rw[e];exact m3))
 ·have e1:decide (i.op=((1:Nat):Int))=false:=decide_eq_false c1
  simp(disch:=first|exact Xe|fail)only[g2,g6,zAZ,e1,zgS,zA7,zAv,↓Xa,Xb,Xc,↓reduceIte,Nat.reduceLT,Nat.reduceEqDiff,Nat.reduceBEq,Nat.reduceLeDiff,Nat.reduceAdd,Nat.reduceMul]
  refine PM.appC (i:=i) h2 hb fun cv' M' m1 m2 m3=>?_
  simp(disch:=first|exact Xe|fail)only[m1,m2,zTk,↓Xa,Xb,Xc,↓reduceIte,Nat.reduceLT,Nat.reduceEqDiff,Nat.reduceBEq,Nat.reduceLeDiff,Nat.reduceAdd,Nat.reduceMul]
  exact SetR.now (hq _ cv' (by rw[e];exact m3))
theorem zCl(code:List Ins)(i:Ins):(zIG code i).length≤code.length+1:=by
 unfold zIG
 split
 ·omega
 ·simp
theorem Tz64H.blk{H M:AHeap}(h:Tz64H H)(hl:Le H M):Tz64H M:=h.le hl
theorem zEo{H:AHeap}{K:AV→List Nat→Option (Nat×ABlk)→Prop}{to a c:Int}(hT:Tz64H H)(h0:c≠0)(h1: -16≤c)(h2:c≤16)(k:K (zGw (zBj to a c)) [1] none){o:Bool}:dcall o Tryz.prog (.fn (.func 128) [] []) [.int .i64 to,.int .i64 a,.int .i64 c] H K:=
 zWD [1] (fun H' K' he hk'=>zAM (zKv ((he _ (by simp)).trans hT) h0 h1 h2 hk')) k
theorem zDf{H M:AHeap}{Q:AV→AHeap→Prop}{p6 p7 n:Nat}{k regs to a c:Int}{code:List Ins}{outs:List Int}{cv ov:AV}(hT:Tz64H H)(h:PM H M p6 p7 k regs code outs cv ov)(h0:c≠0)(h1: -16≤c)(h2:c≤16)(hn:n≤8)(hb:code.length+8≤1000000)
 (hq: ∀M' cv',PM H M' p6 p7 k regs (zGK to c n a code) outs cv' ov→Q (.tup []) M'):Run Tryz.prog 127 [.int .i64 to,.int .i64 a,.int .i64 c,.int .i64 (n:Int),.ptr p7 1 0] M Q:=by
 refine zUu (by simp) ?_
 simp(disch:=first|exact Xe|fail)only[zaB,↓Xa,Xb,Xc,↓reduceIte,Nat.reduceLT,Nat.reduceEqDiff,Nat.reduceBEq,Nat.reduceLeDiff,Nat.reduceAdd,Nat.reduceMul]
 refine zAP (fun s:Nat×Int×List Ins×AV×AHeap=>⟨[],[(0,.int .i64 to),(1,.int .i64 s.2.1),(2,.int .i64 c),(4,.ptr p7 1 0),(9,.int .i64 (n:Int)),(10,.int .i64 s.1)],s.2.2.2.2⟩)
  (fun s=>s.1≤n∧zGK to c (n-s.1) s.2.1 s.2.2.1=zGK to c n a code∧s.2.2.1.length≤code.length+s.1∧PM H s.2.2.2.2 p6 p7 k regs s.2.2.1 outs s.2.2.2.1 ov) (fun s=>n-s.1) (0,a,code,cv,M) (Settle.now rfl) ⟨Nat.zero_le _,rfl,Nat.le_refl _,h⟩ ?_
 rintro⟨s,a',co,cv',M'⟩ ⟨e1,e2,e3,hp⟩
 dsimp only at e1 e2 e3 hp ⊢
 by_cases hs:s<n
 ·have hf:=hp.f
  simp(disch:=first|exact Xe|fail)only[hs,hf,↓Xa,Xb,Xc,↓reduceIte,Nat.reduceLT,Nat.reduceEqDiff,Nat.reduceBEq,Nat.reduceLeDiff,Nat.reduceAdd,Nat.reduceMul]
  refine zEo (hT.le hp.le) h0 h1 h2 ?_
  simp(disch:=first|exact Xe|fail)only[↓Xa,Xb,Xc,↓reduceIte,Nat.reduceLT,Nat.reduceEqDiff,Nat.reduceBEq,Nat.reduceLeDiff,Nat.reduceAdd,Nat.reduceMul]
  refine zAM (zCU hp (by omega) fun M2 cv2 hp2=>?_)
  simp(disch:=first|exact Xe|fail)only[↓Xa,Xb,Xc,↓reduceIte,Nat.reduceLT,Nat.reduceEqDiff,Nat.reduceBEq,Nat.reduceLeDiff,Nat.reduceAdd,Nat.reduceMul]
  refine Settle.now ⟨(s+1,to,zIG co (zBj to a' c),cv2,M2),by dsimp only;omega,⟨by dsimp only;omega,?_,?_,hp2⟩,rfl⟩
  ·dsimp only
   rw[← e2,show n-s=(n-(s+1))+1 by omega];rfl
  ·dsimp only
   have:=zCl co (zBj to a' c)
   omega
 ·obtain rfl:s=n:=by omega
  rw[Nat.sub_self]at e2
  simp(disch:=first|exact Xe|fail)only[hs,↓Xa,Xb,Xc,↓reduceIte,Nat.reduceLT,Nat.reduceEqDiff,Nat.reduceBEq,Nat.reduceLeDiff,Nat.reduceAdd,Nat.reduceMul]
  refine Settle.now ?_
  simp(disch:=first|exact Xe|fail)only[zbH,↓Xa,Xb,Xc,↓reduceIte,Nat.reduceLT,Nat.reduceEqDiff,Nat.reduceBEq,Nat.reduceLeDiff,Nat.reduceAdd,Nat.reduceMul]
  exact SetR.now (hq _ cv' (by rw[← e2];exact hp))
def zCx(k:Int)(l:List Pt):Prop:=(1≤k∧k≤8)∧zEW l
instance (k:Int)(l:List Pt):Decidable (zCx k l):=by unfold zCx;infer_instance
def prA(k:Int)(l:List Pt):PR:=if zCx k l then zIW k.toNat l else⟨0,0,[],[]⟩
def prE(k:Int)(l:List Pt):Nat:=if zCx k l then 0 else 2
theorem zMN{a b:Int}{x y:AV}(hx:x.cell=true)(hy:y.cell=true):(AV.agg [.int .i64 a,.int .i64 b,x,y]).cells=some [.int .i64 a,.int .i64 b,x,y]:=by
 have e:([.int .i64 a,.int .i64 b,x,y]:List AV).all AV.cell=true:=by
  rw[List.all_cons,List.all_cons,List.all_cons,List.all_cons,hx,hy];rfl
 show(if([.int .i64 a,.int .i64 b,x,y]:List AV).all AV.cell=true then _ else _)=_
 rw[if_pos e]
theorem zVL{f:Fn}{a b:List AV}:(AV.fn f a b).cells=some [.fn f a b]:=id rfl
theorem zfa:zCK [AV.int .i64 ((0:Nat):Int)] 1=[.int .i64 ((0:Nat):Int)]:=by simp[zCK,List.range,List.range.loop]
theorem zF8:AV.cells (.agg [.int .i64 ((0:Nat):Int),.int .i64 ((0:Nat):Int),.seq 0 [] true,.seq 0 [] true])=some [.int .i64 ((0:Nat):Int),.int .i64 ((0:Nat):Int),.seq 0 [] true,.seq 0 [] true]:=id rfl
theorem zOA{k:Int}{l:List Pt}{t:Bool}(hl:l.length<9223372036854775808)(hno: ¬zCx k l):PFn Tryz.prog 58 [.int .i64 k,zES l t] (.tup [zCT ⟨0,0,[],[]⟩,.int .i64 ((2:Nat):Int)]):=by
 intro H Q hq
 refine zRM (by simp) ?_
 simp(disch:=first|exact Xe|fail)only[zeg,↓Xa,Xb,Xc,↓reduceIte,Nat.reduceLT,Nat.reduceEqDiff,Nat.reduceBEq,Nat.reduceLeDiff,Nat.reduceAdd,Nat.reduceMul]
 refine zAD fun p4 n4=>?_
 have hle: ∀{x:ABlk},Le H (H.upd p4 (some x)):=(Le.refl H).updB n4
 have fin:SetR Q (.tup [.agg [.int .i64 ((0:Nat):Int),.int .i64 ((0:Nat):Int),.seq 0 [] true,.seq 0 [] true],.int .i64 ((2:Nat):Int)]) H:=by
  refine SetR.mono (SetR.loose (SetR.now hq)) fun _ _ h=>h
 by_cases h1:k<1
 ·have d1:decide (k<((1:Nat):Int))=true:=decide_eq_true (by omega)
  simp(disch:=first|exact Xe|fail)only[zAN,d1,zF8,zcl,↓Xa,Xb,Xc,↓reduceIte,Nat.reduceLT,Nat.reduceEqDiff,Nat.reduceBEq,Nat.reduceLeDiff,Nat.reduceAdd,Nat.reduceMul]
  exact SetR.dropTo hle fin
 have d1:decide (k<((1:Nat):Int))=false:=decide_eq_false (by omega)
 by_cases h2:8<k
 ·have d2:decide (((8:Nat):Int)<k)=true:=decide_eq_true (by omega)
  simp(disch:=first|exact Xe|fail)only[zAN,zAX,d1,d2,zF8,zcl,↓Xa,Xb,Xc,↓reduceIte,Nat.reduceLT,Nat.reduceEqDiff,Nat.reduceBEq,Nat.reduceLeDiff,Nat.reduceAdd,Nat.reduceMul]
  exact SetR.dropTo hle fin
 have d2:decide (((8:Nat):Int)<k)=false:=decide_eq_false (by omega)
 have hp: ¬zEW l:=fun h=>hno ⟨⟨by omega,by omega⟩,h⟩
 simp(disch:=first|exact Xe|fail)only[zAN,zAX,d1,d2,↓Xa,Xb,Xc,↓reduceIte,Nat.reduceLT,Nat.reduceEqDiff,Nat.reduceBEq,Nat.reduceLeDiff,Nat.reduceAdd,Nat.reduceMul]
 refine(zGV hl).call ?_
 simp(disch:=first|exact Xe|fail)only[decide_eq_false hp,zF8,zcl,↓Xa,Xb,Xc,↓reduceIte,Nat.reduceLT,Nat.reduceEqDiff,Nat.reduceBEq,Nat.reduceLeDiff,Nat.reduceAdd,Nat.reduceMul]
 exact SetR.dropTo hle fin
theorem zEv{b n es:Nat}{cells:List AV}(hl:cells.length=n*es):zCv b es cells (.own b (n*es) 0 n false)=.seq n cells false:=by simp[zCv,hl,List.take_of_length_le]
theorem zUi{b c L off n es:Nat}{t:Bool}{cells:List AV}(h:c≠b):zCv b es cells (.own c L off n t)=.own c L off n t:=by simp[zCv,h]
theorem zTY{H M:AHeap}{Q:AV→AHeap→Prop}{p6 p7:Nat}{k regs e:Int}{code:List Ins}{outs:List Int}{cv ov:AV}(h:PM H M p6 p7 k regs code outs cv ov)(hq:Q (.tup [zCT ⟨k,regs,code,outs⟩,.int .i64 e]) H):SetR Q (.tup [.agg [.int .i64 k,.int .i64 regs,cv,ov],.int .i64 e]) M:=by
 have hcl:(code.flatMap zC0).length=code.length*5:=zD3 zCP code
 have hle: ∀{M':AHeap}{b:Nat},Le H M'→H b=none→Le H (M'.upd b none):=fun{M' b} hl hb o x ho=>by
  rw[zAA _ _ (by rintro rfl;rw[hb]at ho;cases ho)];exact hl o x ho
 rcases h.c with⟨rfl,hn,hc⟩|⟨hn,hl,b,b1,b2,b3,rfl,hb'⟩
 ·obtain rfl:=List.length_eq_zero_iff.1 hn
  rcases h.o with⟨rfl,hn2,hc2⟩|⟨hn2,hl2,c,c1,c2,c3,rfl,hc'⟩
  ·obtain rfl:=List.length_eq_zero_iff.1 hn2
   exact SetR.loose (SetR.dropTo h.le (SetR.now hq))
  ·refine SetR.loose (SetR.frz c hc' (SetR.dropTo (hle h.le c1) (SetR.now ?_)))
   have e1:=zEv (b:=c) hl2
   simp only[loose,zFS,loose1,frz,zFj,List.map_cons,List.map_nil,e1]
   exact hq
 ·rcases h.o with⟨rfl,hn2,hc2⟩|⟨hn2,hl2,c,c1,c2,c3,rfl,hc'⟩
  ·obtain rfl:=List.length_eq_zero_iff.1 hn2
   refine SetR.loose (SetR.frz b hb' (SetR.dropTo (hle h.le b1) (SetR.now ?_)))
   have e1:=zEv (b:=b) hl
   simp only[loose,zFS,loose1,frz,zFj,List.map_cons,List.map_nil,e1]
   exact hq
  ·have hbc:b≠c:=by
    rintro rfl
    rcases h.ne b with hh|hh
    ·exact hh _ _ _ _ rfl
    ·exact hh _ _ _ _ rfl
   refine SetR.frz b hb' ?_
   have e1:=zEv (b:=b) hl
   have e2:zCv b 5 (code.flatMap zC0) (.own c (outs.length*1) 0 outs.length false)=.own c (outs.length*1) 0 outs.length false:=zUi (Ne.symm hbc)
   have e3:=zEv (b:=c) hl2
   refine SetR.frz c (by rw[zAA _ _ (Ne.symm hbc)];exact hc') (SetR.dropTo (hle (hle h.le b1) c1) (SetR.now ?_))
   simp only[frz,zFj,zCv,List.map_cons,List.map_nil]at e1 e2 e3 ⊢
   simp only[e1,e2,e3]
   exact hq
theorem PM.setO{H M:AHeap}{p6 p7 b i:Nat}{k regs:Int}{code:List Ins}{outs:List Int}{cv ov:AV}{x:Int}(h:PM H M p6 p7 k regs code outs cv ov)(hov:ov=.own b (outs.length*1) 0 outs.length false)(hb:M b=some (.row 3 1 (outs.map fun n=>.int .i64 n)))(b1:H b=none)(b2:b≠p6)(b3:b≠p7)(hn:0<outs.length):
 PM H (M.upd b (some (.row 3 1 ((outs.map fun n=>AV.int .i64 n).set i (.int .i64 x))))) p6 p7 k regs code (outs.set i x) cv ov:=by
 refine⟨by rw[zAA _ _ (Ne.symm b2)];exact h.p,by rw[zAA _ _ (Ne.symm b3)];exact h.f,?_,.inr ⟨by simpa using hn,by simp,b,b1,b2,b3,by rw[List.length_set];exact hov,by rw[zAC,List.map_set]⟩,h.ne,fun o y ho=>?_,h.h6,h.h7,h.n67⟩
 ·rcases h.c with hc|⟨o1,o2,c,o3,o4,o5,o6,o7⟩
  ·exact .inl hc
  ·have hcb:c≠b:=by
    rintro rfl
    rcases h.ne c with hh|hh
    ·exact hh _ _ _ _ o6
    ·exact hh _ _ _ _ hov
   exact .inr ⟨o1,o2,c,o3,o4,o5,o6,by rw[zAA _ _ hcb];exact o7⟩
 ·rw[zAA _ _ (by rintro rfl;rw[b1]at ho;cases ho)];exact h.le o y ho
theorem PM.side{Hb H M:AHeap}{p6 p7 q:Nat}{k regs:Int}{code:List Ins}{outs:List Int}{cv ov:AV}{x y:ABlk}(h:PM Hb M p6 p7 k regs code outs cv ov)(hl:Le H Hb)(hq:H q=none)(hb:Hb q=some y):PM H (M.upd q (some x)) p6 p7 k regs code outs cv ov:=by
 have hd:=h.drop hl
 have go: ∀{ty es n:Nat}{cells:List AV}{v:AV},RG Hb M p6 p7 ty es n cells v→RG H (M.upd q (some x)) p6 p7 ty es n cells v:=fun{ty es n cells v} r=>by
  rcases r with r|⟨h1,h2,b,h3,h4,h5,h6,h7⟩
  ·exact .inl r
  ·have hbq:b≠q:=by rintro rfl;rw[h3]at hb;cases hb
   have hbn:H b=none:=by
    cases e:H b with
    |none=>rfl
    |some z=>rw[hl b z e]at h3;cases h3
   exact .inr ⟨h1,h2,b,hbn,h4,h5,h6,by rw[zAA _ _ hbq];exact h7⟩
 refine⟨?_,?_,go h.c,go h.o,h.ne,fun o z ho=>?_,hd.h6,hd.h7,hd.n67⟩
 ·rw[zAA _ _ (by rintro rfl;rw[h.h6]at hb;cases hb)];exact h.p
 ·rw[zAA _ _ (by rintro rfl;rw[h.h7]at hb;cases hb)];exact h.f
 ·rw[zAA _ _ (by rintro rfl;rw[hq]at ho;cases ho)];exact hd.le o z ho
theorem zEl{to c:Int}: ∀(n:Nat)(a:Int)(code:List Ins),(zGK to c n a code).length≤code.length+n
 |0,a,code=>Nat.le_refl _
 |n+1,a,code=>by
  have h1:=zEl (to:=to) (c:=c) n to (zIG code (zBj to a c))
  have h2:=zCl code (zBj to a c)
  show(zGK to c n to (zIG code (zBj to a c))).length≤_
  omega
theorem zKX{H:AHeap}{Q:AV→AHeap→Prop}{k:Nat}{l:List Pt}{t:Bool}(hT:Tz64H H)(hk1:1≤k)(hk8:k≤8)(hp:zEW l)(hq:Q (.tup [zCT (zIW k l),.int .i64 ((0:Nat):Int)]) H):Run Tryz.prog 58 [.int .i64 (k:Int),zES l t] H Q:=by
 have hl:l.length<9223372036854775808:=by have:=hp.2.2;omega
 have hl15:=hp.2.2
 refine zRM (by simp) ?_
 simp(disch:=first|exact Xe|fail)only[zeg,↓Xa,Xb,Xc,↓reduceIte,Nat.reduceLT,Nat.reduceEqDiff,Nat.reduceBEq,Nat.reduceLeDiff,Nat.reduceAdd,Nat.reduceMul]
 refine zAD fun p4 n4=>?_
 have d1:decide ((k:Int)<((1:Nat):Int))=false:=decide_eq_false (by omega)
 have d2:decide (((8:Nat):Int)<(k:Int))=false:=decide_eq_false (by omega)
 simp(disch:=first|exact Xe|fail)only[zAN,zAX,d1,d2,↓Xa,Xb,Xc,↓reduceIte,Nat.reduceLT,Nat.reduceEqDiff,Nat.reduceBEq,Nat.reduceLeDiff,Nat.reduceAdd,Nat.reduceMul]
 refine(zGV hl).call ?_
 simp(disch:=first|exact Xe|fail)only[decide_eq_true hp,zBG hl,↓Xa,Xb,Xc,↓reduceIte,Nat.reduceLT,Nat.reduceEqDiff,Nat.reduceBEq,Nat.reduceLeDiff,Nat.reduceAdd,Nat.reduceMul]
 generalize hHb:H.upd p4 (some (.row 25 0 [.int .i64 ((0:Nat):Int),.int .i64 ((0:Nat):Int),.seq 0 [] true,.seq 0 [] true]))=Hb at*
 have hleb:Le H Hb:=hHb▸(Le.refl H).updB n4
 refine zAD fun p6 n6=>?_
 simp(disch:=first|exact Xe|fail)only[zMN (x:=.seq 0 [] true) (y:=.seq 0 [] true) rfl rfl,↓Xa,Xb,Xc,↓reduceIte,Nat.reduceLT,Nat.reduceEqDiff,Nat.reduceBEq,Nat.reduceLeDiff,Nat.reduceAdd,Nat.reduceMul]
 refine zAD fun p7 n7=>?_
 obtain⟨a76,n7'⟩:=zAB.1 n7
 simp(disch:=first|exact Xe|fail)only[a76,a76.symm,zBG hl,zVL,↓Xa,Xb,Xc,↓reduceIte,Nat.reduceLT,Nat.reduceEqDiff,Nat.reduceBEq,Nat.reduceLeDiff,Nat.reduceAdd,Nat.reduceMul]
 have hp0:PM Hb ((Hb.upd p6 (some (.row 25 0 [.int .i64 (k:Int),.int .i64 ((k+l.length+1:Nat):Int),.seq 0 [] true,.seq 0 [] true]))).upd p7 (some (.row 196 0 [.fn (.func 126) [] [.ptr p6 4 0]]))) p6 p7 k ((k+l.length+1:Nat):Int) [] [] (.seq 0 [] true) (.seq 0 [] true):=
  ⟨by rw[zAA _ _ (show p6≠p7 from a76.symm),zAC],zAC _ _ _,.inl ⟨rfl,rfl,rfl⟩,.inl ⟨rfl,rfl,rfl⟩,fun b=>.inl (fun L off n t e=>by cases e),((Le.refl Hb).updB n6).updB n7',n6,n7',a76.symm⟩
 generalize((Hb.upd p6 (some (.row 25 0 [.int .i64 (k:Int),.int .i64 ((k+l.length+1:Nat):Int),.seq 0 [] true,.seq 0 [] true]))).upd p7 (some (.row 196 0 [.fn (.func 126) [] [.ptr p6 4 0]])))=M0 at*
 have hTb:Tz64H Hb:=hT.le hleb
 refine zAP (fun s:Nat×List Ins×AV×AV×AHeap=>⟨[],[(0,.int .i64 (k:Int)),(4,.ptr p4 4 0),(6,.ptr p6 4 0),(7,.ptr p7 1 0),(8,.int .i64 ((k+l.length:Nat):Int)),(9,.fn (.func 127) [] [.ptr p7 1 0]),(41,zES l t),(42,.int .i64 (l.length:Int)),(43,.int .i64 s.1)],s.2.2.2.2⟩)
  (fun s=>s.1≤l.length∧zG3 k l.length (l.drop s.1) s.1 s.2.1=zG3 k l.length l 0 []∧s.2.1.length≤s.1*1000∧PM Hb s.2.2.2.2 p6 p7 k ((k+l.length+1:Nat):Int) s.2.1 ((List.range s.1).map (zJi k)) s.2.2.1 s.2.2.2.1) (fun s=>l.length-s.1) (0,[],.seq 0 [] true,.seq 0 [] true,M0) (Settle.now rfl) ⟨Nat.zero_le _,rfl,Nat.zero_le _,hp0⟩ ?_
 rintro⟨i,co,cv,ov,M⟩ ⟨e1,e2,e3,hp1⟩
 dsimp only at e1 e2 e3 hp1 ⊢
 by_cases hi:i<l.length
 ·have hin:=hp.1 _ (List.getElem_mem hi)
  have hAB: -16≤(l[i]).a∧(l[i]).a≤16∧ -16≤(l[i]).b∧(l[i]).b≤16:=of_decide_eq_true hin
  have hdrop:l.drop i=l[i]::l.drop (i+1):=List.drop_eq_getElem_cons hi
  rw[hdrop]at e2
  simp(disch:=first|exact Xe|fail)only[hi,zEn hi,zDn hi,↓Xa,Xb,Xc,↓reduceIte,Nat.reduceLT,Nat.reduceEqDiff,Nat.reduceBEq,Nat.reduceLeDiff,Nat.reduceAdd,Nat.reduceMul]
  generalize l[i]=q at*
  refine zAD fun p11 n11=>?_
  have hp2:=hp1.under (x:=.row 112 0 [.int .i64 q.a,.int .i64 q.b]) n11
  have g6:=hp2.p
  have g11:(Hb.upd p11 (some (.row 112 0 [.int .i64 q.a,.int .i64 q.b]))) p11=some (.row 112 0 [.int .i64 q.a,.int .i64 q.b]):=zAC _ _ _
  have hTq:Tz64H (Hb.upd p11 (some (.row 112 0 [.int .i64 q.a,.int .i64 q.b]))):=hTb.le ((Le.refl Hb).updB (by
   cases e:Hb p11 with
   |none=>rfl
   |some x=>rw[hp1.le p11 x e]at n11;cases n11))
  have hlq:Le Hb (Hb.upd p11 (some (.row 112 0 [.int .i64 q.a,.int .i64 q.b]))):=(Le.refl Hb).updB (by
   cases e:Hb p11 with
   |none=>rfl
   |some x=>rw[hp1.le p11 x e]at n11;cases n11)
  generalize(Hb.upd p11 (some (.row 112 0 [.int .i64 q.a,.int .i64 q.b])))=Hq at*
  simp(disch:=first|exact Xe|fail)only[zBm,↓Xa,Xb,Xc,↓reduceIte,Nat.reduceLT,Nat.reduceEqDiff,Nat.reduceBEq,Nat.reduceLeDiff,Nat.reduceAdd,Nat.reduceMul]
  generalize(M.upd p11 (some (.row 112 0 [.int .i64 q.a,.int .i64 q.b])))=M1 at*
  simp(disch:=first|exact Xe|fail)only[g6,zfa,↓Xa,Xb,Xc,↓reduceIte,Nat.reduceLT,Nat.reduceEqDiff,Nat.reduceBEq,Nat.reduceLeDiff,Nat.reduceAdd,Nat.reduceMul]
  have hol:((List.range i).map (zJi k)).length=i:=by simp
  refine PM.appO (i:=((k+i:Nat):Int)) hp2 (by omega) fun ov' M2 m1 m2 m3=>?_
  simp(disch:=first|exact Xe|fail)only[m1,m2,↓Xa,Xb,Xc,↓reduceIte,Nat.reduceLT,Nat.reduceEqDiff,Nat.reduceBEq,Nat.reduceLeDiff,Nat.reduceAdd,Nat.reduceMul]
  generalize(M2.upd p6 (some (.row 25 0 [.int .i64 (k:Int),.int .i64 ((k+l.length+1:Nat):Int),cv,ov'])))=M3 at*
  have k6:=m3.p
  by_cases hk:k=1
  ·have dk:decide (k=1)=true:=decide_eq_true hk
   rcases m3.o with⟨_,h0,_⟩|⟨h0,hbl,b,b1,b2,b3,hov,hb'⟩
   ·simp at h0
   have hmap:((((List.range i).map (zJi k))++[((k+i:Nat):Int)]).map fun n=>AV.int .i64 n).length=((List.range i).map (zJi k)).length+1:=by simp
   have hset:=m3.setO (i:=i) (x:=0) hov hb' b1 b2 b3 h0
   have eo:(((List.range i).map (zJi k))++[((k+i:Nat):Int)]).set i 0=(List.range (i+1)).map (zJi k):=by
    rw[List.set_append_right _ _ (by simp),List.range_succ,List.map_append,List.map_singleton]
    simp[zJi,hk]
   rw[eo]at hset
   simp(disch:=first|exact Xe|fail)only[zAF,dk,k6,hov,↓Xa,Xb,Xc,↓reduceIte,Nat.reduceLT,Nat.reduceEqDiff,Nat.reduceBEq,Nat.reduceLeDiff,Nat.reduceAdd,Nat.reduceMul]
   rw[hb']
   refine⟨hmap,(zJL (x:=.int .i64 ((0:Nat):Int)) hmap (by simp)).2 ?_⟩
   simp(disch:=first|exact Xe|fail)only[↓Xa,Xb,Xc,↓reduceIte,Nat.reduceLT,Nat.reduceEqDiff,Nat.reduceBEq,Nat.reduceLeDiff,Nat.reduceAdd,Nat.reduceMul]
   exact Settle.now ⟨(i+1,co,cv,ov',_),by dsimp only;omega,⟨by dsimp only;omega,by dsimp only;rw[← e2,zG3,zEB,if_pos hk],by dsimp only;omega,hset.drop hlq⟩,rfl⟩
  have dk:decide (k=1)=false:=decide_eq_false hk
  have k11:=m3.le _ _ g11
  have eo:((List.range i).map (zJi k))++[((k+i:Nat):Int)]=(List.range (i+1)).map (zJi k):=by
   rw[List.range_succ,List.map_append,List.map_singleton,zJi,if_neg hk]
  rw[eo]at m3
  have next: ∀{co':List Ins}{cv':AV}{M':AHeap},PM Hq M' p6 p7 k ((k+l.length+1:Nat):Int) co' ((List.range (i+1)).map (zJi k)) cv' ov'→zEB k ((k+l.length:Nat):Int) ((k+i:Nat):Int) q.a q.b co=co'→co'.length≤co.length+1000→
   ∃s:Nat×List Ins×AV×AV×AHeap,l.length-s.1<l.length-i∧(s.1≤l.length∧zG3 k l.length (l.drop s.1) s.1 s.2.1=zG3 k l.length l 0 []∧s.2.1.length≤s.1*1000∧PM Hb s.2.2.2.2 p6 p7 k ((k+l.length+1:Nat):Int) s.2.1 ((List.range s.1).map (zJi k)) s.2.2.1 s.2.2.2.1)∧
    (⟨[],[(0,.int .i64 (k:Int)),(4,.ptr p4 4 0),(6,.ptr p6 4 0),(7,.ptr p7 1 0),(8,.int .i64 ((k+l.length:Nat):Int)),(9,.fn (.func 127) [] [.ptr p7 1 0]),(41,zES l t),(42,.int .i64 (l.length:Int)),(43,.int .i64 ((i+1:Nat):Int))],M'⟩:St)=
    ⟨[],[(0,.int .i64 (k:Int)),(4,.ptr p4 4 0),(6,.ptr p6 4 0),(7,.ptr p7 1 0),(8,.int .i64 ((k+l.length:Nat):Int)),(9,.fn (.func 127) [] [.ptr p7 1 0]),(41,zES l t),(42,.int .i64 (l.length:Int)),(43,.int .i64 s.1)],s.2.2.2.2⟩:=fun{co' cv' M'} hm he hlen=>
   ⟨(i+1,co',cv',ov',M'),by dsimp only;omega,⟨by dsimp only;omega,by dsimp only;rw[← he];exact e2,by dsimp only;omega,hm.drop hlq⟩,rfl⟩
  by_cases hA:q.a=0
  ·have dA:decide (q.a=((0:Nat):Int))=true:=decide_eq_true (by omega)
   by_cases hB:q.b=0
   ·have dB:decide (q.b=((0:Nat):Int))=true:=decide_eq_true (by omega)
    simp(disch:=first|exact Xe|fail)only[zAF,dk,k11,dA,dB,m3.f,↓Xa,Xb,Xc,↓reduceIte,Nat.reduceLT,Nat.reduceEqDiff,Nat.reduceBEq,Nat.reduceLeDiff,Nat.reduceAdd,Nat.reduceMul]
    refine zAM (zCU (i:=⟨((4:Nat):Int),((k+i:Nat):Int),((0:Nat):Int),((0:Nat):Int),((0:Nat):Int)⟩) m3 (by omega) fun M4 cv4 hp4=>?_)
    simp(disch:=first|exact Xe|fail)only[↓Xa,Xb,Xc,↓reduceIte,Nat.reduceLT,Nat.reduceEqDiff,Nat.reduceBEq,Nat.reduceLeDiff,Nat.reduceAdd,Nat.reduceMul]
    exact Settle.now (next hp4 (by rw[zEB,if_neg hk,if_pos ⟨hA,hB⟩];rfl) (by have:=zCl co ⟨((4:Nat):Int),((k+i:Nat):Int),((0:Nat):Int),((0:Nat):Int),((0:Nat):Int)⟩;omega))
   ·have dB:decide (q.b=((0:Nat):Int))=false:=decide_eq_false (by omega)
    simp(disch:=first|exact Xe|fail)only[zAF,dk,k11,dA,dB,m3.f,↓Xa,Xb,Xc,↓reduceIte,Nat.reduceLT,Nat.reduceEqDiff,Nat.reduceBEq,Nat.reduceLeDiff,Nat.reduceAdd,Nat.reduceMul]
    refine zAM (zDf (n:=k-1) hTq m3 hB hAB.2.2.1 hAB.2.2.2 (by omega) (by omega) fun M4 cv4 hp4=>?_)
    simp(disch:=first|exact Xe|fail)only[↓Xa,Xb,Xc,↓reduceIte,Nat.reduceLT,Nat.reduceEqDiff,Nat.reduceBEq,Nat.reduceLeDiff,Nat.reduceAdd,Nat.reduceMul]
    exact Settle.now (next hp4 (by rw[zEB,if_neg hk,if_neg (fun h=>hB h.2),if_pos hA];rfl) (by have:=zEl (to:=((k+i:Nat):Int)) (c:=q.b) (k-1) ((0:Nat):Int) co;omega))
  have dA:decide (q.a=((0:Nat):Int))=false:=decide_eq_false (by omega)
  by_cases hB:q.b=0
  ·have dB:decide (q.b=((0:Nat):Int))=true:=decide_eq_true (by omega)
   simp(disch:=first|exact Xe|fail)only[zAF,dk,k11,dA,dB,m3.f,↓Xa,Xb,Xc,↓reduceIte,Nat.reduceLT,Nat.reduceEqDiff,Nat.reduceBEq,Nat.reduceLeDiff,Nat.reduceAdd,Nat.reduceMul]
   refine zAM (zDf (n:=k-1) hTq m3 hA hAB.1 hAB.2.1 (by omega) (by omega) fun M4 cv4 hp4=>?_)
   simp(disch:=first|exact Xe|fail)only[↓Xa,Xb,Xc,↓reduceIte,Nat.reduceLT,Nat.reduceEqDiff,Nat.reduceBEq,Nat.reduceLeDiff,Nat.reduceAdd,Nat.reduceMul]
   exact Settle.now (next hp4 (by rw[zEB,if_neg hk,if_neg (fun h=>hA h.1),if_neg hA,if_pos hB]) (by have:=zEl (to:=((k+i:Nat):Int)) (c:=q.a) (k-1) ((k-1:Nat):Int) co;omega))
  have dB:decide (q.b=((0:Nat):Int))=false:=decide_eq_false (by omega)
  have hstart:((k-2:Nat):Int)=dn (k-1):=by rw[show k-1=(k-2)+1 by omega,zCo]
  simp(disch:=first|exact Xe|fail)only[zAF,dk,k11,dA,dB,m3.f,↓Xa,Xb,Xc,↓reduceIte,Nat.reduceLT,Nat.reduceEqDiff,Nat.reduceBEq,Nat.reduceLeDiff,Nat.reduceAdd,Nat.reduceMul]
  have hcl3:co.length≤15000:=by omega
  have ept:zEB k ((k+l.length:Nat):Int) ((k+i:Nat):Int) q.a q.b co=zIm k ((k+i:Nat):Int) ((k+l.length:Nat):Int) q.a q.b (k-1) ((k-1:Nat):Int) co:=by
   rw[zEB,if_neg hk,if_neg (fun h=>hA h.1),if_neg hA,if_neg hB]
  refine zAP (fun s:Nat×Nat×List Ins×AV×AHeap=>⟨[],[(0,.int .i64 (k:Int)),(4,.ptr p4 4 0),(6,.ptr p6 4 0),(7,.ptr p7 1 0),(8,.int .i64 ((k+l.length:Nat):Int)),(9,.fn (.func 127) [] [.ptr p7 1 0]),(11,.ptr p11 2 0),(12,.int .i64 ((k+i:Nat):Int)),(13,.int .i64 (s.2.1:Int)),(14,.int .i64 (dn s.1)),(41,zES l t),(42,.int .i64 (l.length:Int)),(43,.int .i64 (i:Int))],s.2.2.2.2⟩)
   (fun s=>s.1≤k-1∧zIm k ((k+i:Nat):Int) ((k+l.length:Nat):Int) q.a q.b s.1 s.2.1 s.2.2.1=zIm k ((k+i:Nat):Int) ((k+l.length:Nat):Int) q.a q.b (k-1) ((k-1:Nat):Int) co∧s.2.2.1.length≤co.length+(k-1-s.1)*20∧PM Hq s.2.2.2.2 p6 p7 k ((k+l.length+1:Nat):Int) s.2.2.1 ((List.range (i+1)).map (zJi k)) s.2.2.2.1 ov') (fun s=>s.1) (k-1,k-1,co,cv,M3) (Settle.now (by dsimp only;rw[hstart])) ⟨Nat.le_refl _,rfl,by dsimp only;omega,m3⟩ ?_
  rintro⟨J,fr,c2,cv2,M4⟩ ⟨f1,f2,f3,hp4⟩
  dsimp only at f1 f2 f3 hp4 ⊢
  have j11:=hp4.le _ _ g11
  cases J with
  |zero=>
   have dz:decide (((0:Nat):Int)≤ -1)=false:=by decide
   simp(disch:=first|exact Xe|fail)only[zFG,zBq,dz,↓Xa,Xb,Xc,↓reduceIte,Nat.reduceLT,Nat.reduceEqDiff,Nat.reduceBEq,Nat.reduceLeDiff,Nat.reduceAdd,Nat.reduceMul]
   refine Settle.now ?_
   simp(disch:=first|exact Xe|fail)only[↓Xa,Xb,Xc,↓reduceIte,Nat.reduceLT,Nat.reduceEqDiff,Nat.reduceBEq,Nat.reduceLeDiff,Nat.reduceAdd,Nat.reduceMul]
   exact Settle.now (next hp4 (by rw[ept,← f2];rfl) (by omega))
  |succ J=>
   have dz:decide (((0:Nat):Int)≤(J:Int))=true:=decide_eq_true (by omega)
   have hJ1:J≤k-1:=by omega
   have hJk:J<9223372036854775808:=by omega
   have hl2:c2.length≤16000:=by omega
   simp(disch:=first|exact Xe|fail)only[zCo,zBq,dz,hp4.f,j11,↓Xa,Xb,Xc,↓reduceIte,Nat.reduceLT,Nat.reduceEqDiff,Nat.reduceBEq,Nat.reduceLeDiff,Nat.reduceAdd,Nat.reduceMul]
   refine zEo (hTq.le hp4.le) hA hAB.1 hAB.2.1 ?_
   simp(disch:=first|exact Xe|fail)only[↓Xa,Xb,Xc,↓reduceIte,Nat.reduceLT,Nat.reduceEqDiff,Nat.reduceBEq,Nat.reduceLeDiff,Nat.reduceAdd,Nat.reduceMul]
   refine zAM (zCU hp4 (by omega) fun M5 cv5 hp5=>?_)
   have i11:=hp5.le _ _ g11
   have hl5:=zCl c2 (zBj ((k+i:Nat):Int) (fr:Int) q.a)
   generalize hc5:zIG c2 (zBj ((k+i:Nat):Int) (fr:Int) q.a)=c5 at*
   have back: ∀{c6:List Ins}{cv6:AV}{M6:AHeap},PM Hq M6 p6 p7 k ((k+l.length+1:Nat):Int) c6 ((List.range (i+1)).map (zJi k)) cv6 ov'→zKM k ((k+i:Nat):Int) ((k+l.length:Nat):Int) q.a q.b (fr:Int) J c2=c6→c6.length≤c5.length+10→
    ∃s:Nat×Nat×List Ins×AV×AHeap,s.1<J+1∧(s.1≤k-1∧zIm k ((k+i:Nat):Int) ((k+l.length:Nat):Int) q.a q.b s.1 s.2.1 s.2.2.1=zIm k ((k+i:Nat):Int) ((k+l.length:Nat):Int) q.a q.b (k-1) ((k-1:Nat):Int) co∧s.2.2.1.length≤co.length+(k-1-s.1)*20∧PM Hq s.2.2.2.2 p6 p7 k ((k+l.length+1:Nat):Int) s.2.2.1 ((List.range (i+1)).map (zJi k)) s.2.2.2.1 ov')∧
     (⟨[],[(0,.int .i64 (k:Int)),(4,.ptr p4 4 0),(6,.ptr p6 4 0),(7,.ptr p7 1 0),(8,.int .i64 ((k+l.length:Nat):Int)),(9,.fn (.func 127) [] [.ptr p7 1 0]),(11,.ptr p11 2 0),(12,.int .i64 ((k+i:Nat):Int)),(13,.int .i64 ((k+i:Nat):Int)),(14,.int .i64 (dn J)),(41,zES l t),(42,.int .i64 (l.length:Int)),(43,.int .i64 (i:Int))],M6⟩:St)=
     ⟨[],[(0,.int .i64 (k:Int)),(4,.ptr p4 4 0),(6,.ptr p6 4 0),(7,.ptr p7 1 0),(8,.int .i64 ((k+l.length:Nat):Int)),(9,.fn (.func 127) [] [.ptr p7 1 0]),(11,.ptr p11 2 0),(12,.int .i64 ((k+i:Nat):Int)),(13,.int .i64 (s.2.1:Int)),(14,.int .i64 (dn s.1)),(41,zES l t),(42,.int .i64 (l.length:Int)),(43,.int .i64 (i:Int))],s.2.2.2.2⟩:=fun{c6 cv6 M6} hm he hlen=>
    ⟨(J,k+i,c6,cv6,M6),by dsimp only;omega,⟨by dsimp only;omega,by dsimp only;rw[← f2,zIm,he],by dsimp only;rw[show k-1-J=(k-1-(J+1))+1 by omega];omega,hm⟩,rfl⟩
   by_cases hB1:q.b=1
   ·have dB1:decide (q.b=((1:Nat):Int))=true:=decide_eq_true hB1
    simp(disch:=first|exact Xe|fail)only[zAF,i11,dB1,hp5.f,↓Xa,Xb,Xc,↓reduceIte,Nat.reduceLT,Nat.reduceEqDiff,Nat.reduceBEq,Nat.reduceLeDiff,Nat.reduceAdd,Nat.reduceMul]
    refine zAM (zCU (i:=⟨((3:Nat):Int),((k+i:Nat):Int),((k+i:Nat):Int),(J:Int),((0:Nat):Int)⟩) hp5 (by omega) fun M6 cv6 hp6=>?_)
    simp(disch:=first|exact Xe|fail)only[zDG hJk,↓Xa,Xb,Xc,↓reduceIte,Nat.reduceLT,Nat.reduceEqDiff,Nat.reduceBEq,Nat.reduceLeDiff,Nat.reduceAdd,Nat.reduceMul]
    exact Settle.now (back hp6 (by rw[zKM,if_pos (.inl hB1),hc5];rfl) (by have:=zCl c5 ⟨((3:Nat):Int),((k+i:Nat):Int),((k+i:Nat):Int),(J:Int),((0:Nat):Int)⟩;omega))
   have dB1:decide (q.b=((1:Nat):Int))=false:=decide_eq_false hB1
   by_cases hBm:q.b= -1
   ·have dBm:decide (q.b= -1)=true:=decide_eq_true hBm
    by_cases hev:(k-1-J)%2=0
    ·simp(disch:=first|exact Xe|fail)only[zAF,i11,dB1,dBm,hp5.f,zHz,hev,↓Xa,Xb,Xc,↓reduceIte,Nat.reduceLT,Nat.reduceEqDiff,Nat.reduceBEq,Nat.reduceLeDiff,Nat.reduceAdd,Nat.reduceMul]
     refine⟨by decide,?_⟩
     refine zAM (zCU (i:=⟨((3:Nat):Int),((k+i:Nat):Int),((k+i:Nat):Int),(J:Int),((0:Nat):Int)⟩) hp5 (by omega) fun M6 cv6 hp6=>?_)
     simp(disch:=first|exact Xe|fail)only[zDG hJk,↓Xa,Xb,Xc,↓reduceIte,Nat.reduceLT,Nat.reduceEqDiff,Nat.reduceBEq,Nat.reduceLeDiff,Nat.reduceAdd,Nat.reduceMul]
     exact Settle.now (back hp6 (by rw[zKM,if_pos (.inr ⟨hBm,hev⟩),hc5];rfl) (by have:=zCl c5 ⟨((3:Nat):Int),((k+i:Nat):Int),((k+i:Nat):Int),(J:Int),((0:Nat):Int)⟩;omega))
    ·have dev:decide ((((k-1-J)%2:Nat):Int)=((0:Nat):Int))=false:=decide_eq_false (by omega)
     simp(disch:=first|exact Xe|fail)only[zAF,i11,dB1,dBm,hp5.f,zHz,dev,↓Xa,Xb,Xc,↓reduceIte,Nat.reduceLT,Nat.reduceEqDiff,Nat.reduceBEq,Nat.reduceLeDiff,Nat.reduceAdd,Nat.reduceMul]
     refine⟨by decide,?_⟩
     refine zAM (zCU (i:=⟨((4:Nat):Int),((k+i:Nat):Int),((k+i:Nat):Int),(J:Int),((0:Nat):Int)⟩) hp5 (by omega) fun M6 cv6 hp6=>?_)
     simp(disch:=first|exact Xe|fail)only[zDG hJk,↓Xa,Xb,Xc,↓reduceIte,Nat.reduceLT,Nat.reduceEqDiff,Nat.reduceBEq,Nat.reduceLeDiff,Nat.reduceAdd,Nat.reduceMul]
     exact Settle.now (back hp6 (by rw[zKM,if_neg (fun h=>h.elim hB1 fun h=>hev h.2),if_pos hBm,hc5];rfl) (by have:=zCl c5 ⟨((4:Nat):Int),((k+i:Nat):Int),((k+i:Nat):Int),(J:Int),((0:Nat):Int)⟩;omega))
   have dBm:decide (q.b= -1)=false:=decide_eq_false hBm
   simp(disch:=first|exact Xe|fail)only[zAF,i11,dB1,dBm,hp5.f,↓Xa,Xb,Xc,↓reduceIte,Nat.reduceLT,Nat.reduceEqDiff,Nat.reduceBEq,Nat.reduceLeDiff,Nat.reduceAdd,Nat.reduceMul]
   refine zAM (zDf (n:=k-1-J) hTq hp5 hB hAB.2.2.1 hAB.2.2.2 (by omega) (by omega) fun M6 cv6 hp6=>?_)
   have hl6:=zEl (to:=((k+l.length:Nat):Int)) (c:=q.b) (k-1-J) (J:Int) c5
   simp(disch:=first|exact Xe|fail)only[hp6.f,↓Xa,Xb,Xc,↓reduceIte,Nat.reduceLT,Nat.reduceEqDiff,Nat.reduceBEq,Nat.reduceLeDiff,Nat.reduceAdd,Nat.reduceMul]
   refine zAM (zCU (i:=⟨((3:Nat):Int),((k+i:Nat):Int),((k+i:Nat):Int),((k+l.length:Nat):Int),((0:Nat):Int)⟩) hp6 (by omega) fun M7 cv7 hp7=>?_)
   simp(disch:=first|exact Xe|fail)only[zDG hJk,↓Xa,Xb,Xc,↓reduceIte,Nat.reduceLT,Nat.reduceEqDiff,Nat.reduceBEq,Nat.reduceLeDiff,Nat.reduceAdd,Nat.reduceMul]
   exact Settle.now (back hp7 (by rw[zKM,if_neg (fun h=>h.elim hB1 fun h=>hBm h.1),if_neg hBm,hc5];rfl) (by have:=zCl (zGK ((k+l.length:Nat):Int) q.b (k-1-J) (J:Int) c5) ⟨((3:Nat):Int),((k+i:Nat):Int),((k+i:Nat):Int),((k+l.length:Nat):Int),((0:Nat):Int)⟩;omega))
 ·obtain rfl:i=l.length:=by omega
  have g6:=hp1.p
  have g4:Hb p4=some (.row 25 0 [.int .i64 ((0:Nat):Int),.int .i64 ((0:Nat):Int),.seq 0 [] true,.seq 0 [] true]):=by rw[← hHb,zAC]
  have g4':=hp1.le _ _ g4
  rw[List.drop_length]at e2
  have e2':co=zG3 k l.length l 0 []:=e2
  simp(disch:=first|exact Xe|fail)only[hi,↓Xa,Xb,Xc,↓reduceIte,Nat.reduceLT,Nat.reduceEqDiff,Nat.reduceBEq,Nat.reduceLeDiff,Nat.reduceAdd,Nat.reduceMul]
  refine Settle.now ?_
  simp(disch:=first|exact Xe|fail)only[g6,g4',zMN hp1.c.cell hp1.o.cell,zcl,↓Xa,Xb,Xc,↓reduceIte,Nat.reduceLT,Nat.reduceEqDiff,Nat.reduceBEq,Nat.reduceLeDiff,Nat.reduceAdd,Nat.reduceMul]
  refine zTY (hp1.side hleb n4 g4) ?_
  rw[e2']
  exact hq
theorem zIi{H:AHeap}{Q:AV→AHeap→Prop}{k:Int}{l:List Pt}{t:Bool}(hT:Tz64H H)(hl:l.length<9223372036854775808)(hq:Q (.tup [zCT (prA k l),.int .i64 ((prE k l:Nat):Int)]) H):Run Tryz.prog 58 [.int .i64 k,zES l t] H Q:=by
 by_cases h:zCx k l
 ·obtain⟨n,rfl⟩: ∃n:Nat,k=(n:Int):=⟨k.toNat,by have:=h.1;omega⟩
  rw[prA,prE,if_pos h,if_pos h]at hq
  exact zKX hT (by have:=h.1;omega) (by have:=h.1;omega) h.2 hq
 ·rw[prA,prE,if_neg h,if_neg h]at hq
  exact zOA hl h H Q hq
structure MachIn(H:AHeap)(mb br:Nat)(p:PR)(N n L k:Nat)(regs:List (List Int)):Prop where
 m:H mb=some (.row 161 0 (zXV p (.own br N 0 N false) n))
 b:H br=some (.row 29 1 (GI regs))
 ne:mb≠br
 len:regs.length=N
 pN:p.regs=(N:Int)
 right:zBS p
 good:zDW k L regs
 hk:k≤90000
 hL:L≤100000
 hn:n≤p.code.length
section
variable {H:AHeap} {Q:AV→AHeap→Prop} {mb br N n L k:Nat} {p:PR} {regs:List (List Int)}
theorem MachIn.cells(h:MachIn H mb br p N n L k regs):H mb=some (.row 161 0 [.int .i64 p.ins,.int .i64 p.regs,zAw p.code false,zAj p.outs false,.own br N 0 N false,.int .i64 n]):=h.m
theorem MachIn.lc(h:MachIn H mb br p N n L k regs):p.code.length<9223372036854775808∧p.outs.length<9223372036854775808:=by
 have hh:=h.right.1
 unfold zDD at hh
 omega
theorem MachIn.step(h:MachIn H mb br p N n L k regs)(hk:k+3≤90000)(hT: ∀i,i∈p.code→i.op=8→TzH H)
 (hq0:n=p.code.length→Q (.int .i64 ((4:Nat):Int)) H)
 (hq1: ∀hn:n<p.code.length,∀x H',doR p.code[n] (regs.getD (p.code[n]).a.toNat []) (regs.getD (p.code[n]).b.toNat [])=some x→MachIn H' mb br p N (n+1) L (k+3) (regs.set (p.code[n]).to.toNat x)→(∀o v,o≠mb→o≠br→H o=some v→H' o=some v)→Q (.int .i64 ((0:Nat):Int)) H')
 (hq2: ∀hn:n<p.code.length,doR p.code[n] (regs.getD (p.code[n]).a.toNat []) (regs.getD (p.code[n]).b.toNat [])=none→Q (.int .i64 ((20:Nat):Int)) H):
 Run Tryz.prog 33 [.ptr mb 6 0] H Q:=by
 refine zTh h.m h.b h.ne h.len h.pN h.right h.good h.hk h.hL h.hn hT hq0 (fun hn x hdo hbx hxl=>hq1 hn x _ hdo ⟨zAC _ _ _,by rw[zAA _ _ (Ne.symm h.ne),zAC],h.ne,by rw[List.length_set,h.len],h.pN,h.right,fun r hm=>?_,hk,h.hL,hn⟩ fun o v h1 h2 ho=>by rw[zAA _ _ h1,zAA _ _ h2];exact ho) hq2
 rcases List.mem_or_eq_of_mem_set hm with hm|rfl
 ·exact⟨(h.good r hm).1,(h.good r hm).2.mono (by omega)⟩
 ·exact⟨hxl,hbx⟩
end
section
variable {g:List (List Int)} {t1 t2:Bool}
end
theorem Wk.prog{p:PR}{a b:Bool}:Wk (AV.agg [.int .i64 p.ins,.int .i64 p.regs,zAw p.code a,zAj p.outs b]) (zCT p):=fun c v he=>by
 cases he with
 |agg _ vs hlen hc=>
  refine .agg _ _ hlen fun i hi hi'=>?_
  have:=hc i hi hi'
  match i,hi with
  |0,_=>exact this
  |1,_=>exact this
  |2,_=>exact Wk.l0 _ _ this
  |3,_=>exact Wk.l0 _ _ this
theorem Fr.row{zs:List Int}{H:AHeap}:Lent H (rI zs) (rI zs):=Lent.same
def zg5(a b:List Int):List Int:=zDY (· + ·) a b
def Add3(L N:Nat)(r s u:List (List Int)):Prop:=r.length=N∧s.length=N∧u.length=N∧∀j,j<N→(r.getD j []).length=L∧(s.getD j []).length=L∧u.getD j []=zg5 (r.getD j []) (s.getD j [])
theorem Add3.set{L N:Nat}{r s u:List (List Int)}(h:Add3 L N r s u){k:Nat}(hk:k<N){x y:List Int}(lx:x.length=L)(ly:y.length=L):Add3 L N (r.set k x) (s.set k y) (u.set k (zg5 x y)):=by
 obtain⟨h1,h2,h3,h4⟩:=h
 refine⟨by rw[List.length_set,h1],by rw[List.length_set,h2],by rw[List.length_set,h3],fun j hj=>?_⟩
 rw[zDk (by omega),zDk (by omega),zDk (by omega)]
 split
 ·exact⟨lx,ly,rfl⟩
 ·exact h4 j hj
theorem zaN{p:PR}{g:List (List Int)}:zDV p g=0↔((zBS p∧(g.length:Int)=p.ins)∧(∀r,r∈g→r.length=(g.getD 0 []).length)∧(g.getD 0 []).length≤4096):=by
 unfold zDV
 by_cases c:zBS p∧(g.length:Int)=p.ins
 ·rw[if_pos c]
  by_cases c2:(∀r,r∈g→r.length=(g.getD 0 []).length)∧(g.getD 0 []).length≤4096
  ·rw[if_pos c2];exact⟨fun _=>⟨c,c2⟩,fun _=>rfl⟩
  ·rw[if_neg c2];exact⟨fun h=>absurd h (by decide),fun h=>absurd h.2 c2⟩
 ·have hne:zRu p (g.length:Int)≠0:=by
   unfold zRu
   by_cases c2:zBS p
   ·rw[if_pos c2,if_neg fun e=>c ⟨c2,e⟩];decide
   ·rw[if_neg c2];decide
  rw[if_neg c];exact⟨fun h=>absurd h hne,fun h=>absurd h.1 c⟩
def zVz(p:PR)(g:List (List Int)):Prop:=(80<p.code.length∧p.code.length≤16384)∨(40<p.regs∧p.regs≤128)∨300<zeI (g.map fun l=>l.length)
instance (p:PR)(g:List (List Int)):Decidable (zVz p g):=by unfold zVz;infer_instance
theorem zQJ{N L:Nat}(hL:L≤100000): ∀(code:List Ins)(r:List (List Int))(k:Nat),(∀i,i∈code→zCc (N:Int) i)→r.length=N→zDW k L r→zDW (k+3*code.length) L (zD7 doR [] code r).2
 |[],r,k,_,_,h=>h
 |i::l,r,k,hm,hN,h=>by
  have hi:=hm i (by simp)
  have hb:=zJO hi
  have ha:=hi.2.2
  have up:zDW (k+3*(i::l).length) L r:=fun x hx=>⟨(h x hx).1,fun z hz=>((h x hx).2.1 z hz).mono (by omega),(h x hx).2.2⟩
  have at': ∀m:Nat,m<N→(r.getD m []).length=L∧RB4 k (r.getD m []):=fun m hm'=>by
   rw[List.getD_eq_getElem?_getD,List.getElem?_eq_getElem (by omega)];exact h _ (List.getElem_mem _)
  simp only[zD7]
  cases e:doR i (r.getD i.a.toNat []) (r.getD i.b.toNat [])with
  |none=>exact up
  |some x=>
   obtain⟨la,ba⟩:=at' i.a.toNat (by omega)
   obtain⟨lb,bb⟩:=at' i.b.toNat (by omega)
   have lx:=(zIq (by rw[la,lb]) e).trans la
   have hg:zDW (k+3) L (r.set i.to.toNat x):=fun y hy=>by
    rcases List.mem_or_eq_of_mem_set hy with hy|rfl
    ·exact⟨(h y hy).1,fun z hz=>((h y hy).2.1 z hz).mono (by omega),(h y hy).2.2⟩
    ·refine⟨lx,fun z hz=>?_,by omega⟩
     obtain⟨m,hm',rfl⟩:=List.getElem_of_mem hz
     have q:=zOt (by rw[la,lb]) e (k:=m) (by omega)
     have e1:(r.getD i.a.toNat []).getD m 0=(r.getD i.a.toNat [])[m]'(by omega):=by rw[List.getD_eq_getElem?_getD,List.getElem?_eq_getElem (by omega)];rfl
     have e2:(r.getD i.b.toNat []).getD m 0=(r.getD i.b.toNat [])[m]'(by omega):=by rw[List.getD_eq_getElem?_getD,List.getElem?_eq_getElem (by omega)];rfl
     have e3:y.getD m 0=y[m]:=by rw[List.getD_eq_getElem?_getD,List.getElem?_eq_getElem (by omega)];rfl
     rw[e1,e2,e3]at q
     exact zVy hi (ba.1 _ (List.getElem_mem _)) (bb.1 _ (List.getElem_mem _)) q
   have:=zQJ hL l _ (k+3) (fun j hj=>hm j (by simp[hj])) (by simpa using hN) hg
   rw[show k+3*(i::l).length=k+3+3*l.length by simp;omega]
   exact this
def zKS(c:List Ins):Prop:= ∀i,i∈c→i.op≠6∧i.op≠8
instance (c:List Ins):Decidable (zKS c):=by unfold zKS;infer_instance
def zEH(k:Nat)(l:List Pt):List (List Int):=l.map fun q=>zBR q.a q.b k
def evQ(p:PR)(k:Int)(l:List Pt):Prop:=p.ins=k∧p.outs.length=l.length∧zKS p.code∧zCG p (zBL k.toNat) k.toNat=zEH k.toNat l
instance (p:PR)(k:Int)(l:List Pt):Decidable (evQ p k l):=by unfold evQ;infer_instance
def evB(p:PR)(k:Int)(l:List Pt):Bool:=decide (zCx k l∧zBS p∧evQ p k l)
def evE(p:PR)(k:Int)(l:List Pt):Nat:=if zCx k l then(if zBS p then 0 else 80)else 2
theorem zCD{n:Nat}:(zBL n).length=n:=by simp[zBL]
theorem zCV{n:Nat}(hn:n≤8): ∀r,r∈zBL n→r.length=n∧RB4 1 r:=fun r hr=>by
 obtain⟨i,hi,rfl⟩:=List.mem_map.1 hr
 refine⟨by simp,fun z hz=>?_,by simp;omega⟩
 rcases List.mem_or_eq_of_mem_set hz with hz|rfl
 ·rw[(List.mem_replicate.1 hz).2];exact Bd.zero _
 ·unfold Bd;decide
theorem zIQ{n:Nat}(h:0<n):((zBL n).getD 0 []).length=n:=by
 have:0<(zBL n).length:=by rw[zCD];exact h
 rw[List.getD_eq_getElem?_getD,List.getElem?_eq_getElem this];simp[zBL]
theorem zRK{i:Ins}{a b:List Int}(h:i.op≠6∧i.op≠8): ∃x,doR i a b=some x:=by
 unfold doR
 repeat' split
 all_goals first|exact⟨_,rfl⟩|omega
theorem zGj: ∀(c:List Ins)(r:List (List Int)),zKS c→(zD7 doR [] c r).1.length=c.length
 |[],_,_=>rfl
 |i::l,r,h=>by
  obtain⟨x,hx⟩:=zRK (a:=r.getD i.a.toNat []) (b:=r.getD i.b.toNat []) (h i (by simp))
  unfold zD7
  rw[hx]
  simp only[List.length_cons]
  rw[zGj l _ fun j hj=>h j (by simp[hj])]
theorem zLz{p:PR}{g:List (List Int)}{k L:Nat}(hr:zBS p)(hlen:(g.length:Int)=p.ins)(hL:L≤4096)(hg: ∀r,r∈g→r.length=L)(hz: ∀r,r∈g→RB4 k r): ∀r,r∈zCG p g L→r.length=L∧RB4 (k+3*p.code.length) r:=fun r hm=>by
 have hh:=hr.1
 unfold zDD at hh
 have hN:((p.regs.toNat:Nat):Int)=p.regs:=by omega
 have h1:zDW k L (zA2 p g L):=fun x hx=>by
  rcases List.mem_append.1 hx with hx|hx
  ·exact⟨hg x hx,hz x hx⟩
  ·obtain⟨_,rfl⟩:=List.mem_replicate.1 hx
   exact⟨by simp,fun z hz=>by
    obtain⟨_,rfl⟩:=List.mem_replicate.1 hz
    exact Bd.zero _,by simp;omega⟩
 have h2:=zQJ (N:=p.regs.toNat) (by omega) p.code (zA2 p g L) k (fun i hi=>by rw[hN];exact hr.2.2 i hi) (by simp[zA2];omega) h1
 obtain⟨n,hn,rfl⟩:=List.mem_map.1 hm
 have hn2:=hr.2.1 n hn
 have hlen:(zD7 doR [] p.code (zA2 p g L)).2.length=p.regs.toNat:=by rw[zI5];simp[zA2];omega
 have e:(zD7 doR [] p.code (zA2 p g L)).2.getD n.toNat []=(zD7 doR [] p.code (zA2 p g L)).2[n.toNat]'(by omega):=by rw[List.getD_eq_getElem?_getD,List.getElem?_eq_getElem (by omega)];rfl
 rw[e]
 exact h2 _ (List.getElem_mem (by omega:n.toNat<(zD7 doR [] p.code (zA2 p g L)).2.length))
theorem zUc{p:PR}{k:Nat}(hk1:1≤k)(hk8:k≤8)(hr:zBS p)(hi:p.ins=(k:Int))(hd:zKS p.code):zR0 p (zBL k)=(zCG p (zBL k) k,0,0):=by
 have h0:zDV p (zBL k)=0:=zaN.2 ⟨⟨hr,by rw[zCD,hi]⟩,fun r hm=>by rw[zIQ (by omega)];exact(zCV hk8 r hm).1,by rw[zIQ (by omega)];omega⟩
 rw[zR0,if_pos h0,zIQ (by omega),if_neg]
 have:=zGj p.code (zA2 p (zBL k) k) hd
 unfold zC4;omega
theorem zMu{A B:Int}{k:Nat}(hk:k≤16)(hin:zFh A B=true):RB4 6 (zBR A B k):=by
 have hb: -16≤A∧A≤16∧ -16≤B∧B≤16:=of_decide_eq_true hin
 refine⟨fun z hz=>?_,by simp[zBR];omega⟩
 obtain⟨i,hi,rfl⟩:=List.mem_map.1 hz
 have:=List.mem_range.1 hi
 exact(zFw (by omega) hb.1 hb.2.1).mul (zFw (by omega) hb.2.2.1 hb.2.2.2)
theorem zCq{p:PR}{k:Int}{l:List Pt}{t:Bool}(hp:p.ok)(hl:l.length<9223372036854775808):PFn Tryz.prog 63 [zCT p,.int .i64 k,zES l t] (.tup [.bool (evB p k l),.int .i64 ((evE p k l:Nat):Int)]):=by
 intro H Q hq
 have hpc:=hp.2.2.2.1
 have hpo:=hp.2.2.2.2.2
 have lc:p.code.length<9223372036854775808:=by omega
 have lo:p.outs.length<9223372036854775808:=by omega
 refine zY5 (by simp) ?_
 simp(disch:=first|exact Xe|fail)only[zhR,zA1,↓Xa,Xb,Xc,↓reduceIte,Nat.reduceLT,Nat.reduceEqDiff,Nat.reduceBEq,Nat.reduceLeDiff,Nat.reduceAdd,Nat.reduceMul]
 refine zAD fun p3 n3=>?_
 have G3:(H.upd p3 (some (.row 25 0 [.int .i64 p.ins,.int .i64 p.regs,zAw p.code false,zAj p.outs false]))) p3=some (.row 25 0 [.int .i64 p.ins,.int .i64 p.regs,zAw p.code false,zAj p.outs false]):=zAC _ _ _
 have hHG:Le H (H.upd p3 (some (.row 25 0 [.int .i64 p.ins,.int .i64 p.regs,zAw p.code false,zAj p.outs false]))):=(Le.refl H).updB n3
 generalize(H.upd p3 (some (.row 25 0 [.int .i64 p.ins,.int .i64 p.regs,zAw p.code false,zAj p.outs false])))=G at*
 have fin: ∀{b:Bool}{e:Nat}{M:AHeap},evB p k l=b→evE p k l=e→Le G M→SetR Q (.tup [.bool b,.int .i64 ((e:Nat):Int)]) M:=fun{b e M} h1 h2 hm=>by
  rw[h1,h2]at hq
  exact SetR.dropTo (hHG.trans hm) (SetR.now hq)
 have noK: ¬zCx k l→evB p k l=false∧evE p k l=2:=fun h=>⟨decide_eq_false fun g=>h g.1,if_neg h⟩
 by_cases h1:k<1
 ·have d1:decide (k<((1:Nat):Int))=true:=decide_eq_true (by omega)
  obtain⟨f1,f2⟩:=noK fun h=>by have:=h.1;omega
  simp(disch:=first|exact Xe|fail)only[zAN,d1,zQw,↓Xa,Xb,Xc,↓reduceIte,Nat.reduceLT,Nat.reduceEqDiff,Nat.reduceBEq,Nat.reduceLeDiff,Nat.reduceAdd,Nat.reduceMul]
  exact fin f1 f2 (Le.refl _)
 have d1:decide (k<((1:Nat):Int))=false:=decide_eq_false (by omega)
 by_cases h2:8<k
 ·have d2:decide (((8:Nat):Int)<k)=true:=decide_eq_true (by omega)
  obtain⟨f1,f2⟩:=noK fun h=>by have:=h.1;omega
  simp(disch:=first|exact Xe|fail)only[zAN,zAX,d1,d2,zQw,↓Xa,Xb,Xc,↓reduceIte,Nat.reduceLT,Nat.reduceEqDiff,Nat.reduceBEq,Nat.reduceLeDiff,Nat.reduceAdd,Nat.reduceMul]
  exact fin f1 f2 (Le.refl _)
 have d2:decide (((8:Nat):Int)<k)=false:=decide_eq_false (by omega)
 obtain⟨n,rfl⟩: ∃n:Nat,k=(n:Int):=⟨k.toNat,by omega⟩
 have hn1:1≤n:=by omega
 have hn8:n≤8:=by omega
 simp(disch:=first|exact Xe|fail)only[zAN,zAX,d1,d2,↓Xa,Xb,Xc,↓reduceIte,Nat.reduceLT,Nat.reduceEqDiff,Nat.reduceBEq,Nat.reduceLeDiff,Nat.reduceAdd,Nat.reduceMul]
 refine(zGV hl).call ?_
 by_cases hpt:zEW l
 rotate_right
 ·obtain⟨f1,f2⟩:=noK fun h=>hpt h.2
  simp(disch:=first|exact Xe|fail)only[decide_eq_false hpt,zQw,↓Xa,Xb,Xc,↓reduceIte,Nat.reduceLT,Nat.reduceEqDiff,Nat.reduceBEq,Nat.reduceLeDiff,Nat.reduceAdd,Nat.reduceMul]
  exact fin f1 f2 (Le.refl _)
 have hK:zCx ((n:Nat):Int) l:=⟨⟨by omega,by omega⟩,hpt⟩
 have h15:=hpt.2.2
 simp(disch:=first|exact Xe|fail)only[decide_eq_true hpt,G3,zAu,↓Xa,Xb,Xc,↓reduceIte,Nat.reduceLT,Nat.reduceEqDiff,Nat.reduceBEq,Nat.reduceLeDiff,Nat.reduceAdd,Nat.reduceMul]
 obtain⟨kk,hck⟩:=zMy p hp
 refine hck.call ?_
 by_cases hr:zBS p
 rotate_right
 ·rw[if_neg hr]
  have d0:decide (((80:Nat):Int)=((0:Nat):Int))=false:=rfl
  simp(disch:=first|exact Xe|fail)only[zAZ,d0,zQw,↓Xa,Xb,Xc,↓reduceIte,Nat.reduceLT,Nat.reduceEqDiff,Nat.reduceBEq,Nat.reduceLeDiff,Nat.reduceAdd,Nat.reduceMul]
  exact fin (decide_eq_false fun g=>hr g.2.1) (by rw[evE,if_pos hK,if_neg hr]) (Le.refl _)
 rw[if_pos hr]
 have d0:decide (((0:Nat):Int)=((0:Nat):Int))=true:=rfl
 have he0:evE p ((n:Nat):Int) l=0:=by rw[evE,if_pos hK,if_pos hr]
 have no: ¬evQ p ((n:Nat):Int) l→evB p ((n:Nat):Int) l=false:=fun h=>decide_eq_false fun g=>h g.2.2
 by_cases hin:p.ins=((n:Nat):Int)
 rotate_right
 ·have d3:decide (p.ins=((n:Nat):Int))=false:=decide_eq_false hin
  simp(disch:=first|exact Xe|fail)only[zAZ,d0,d3,G3,zQw,↓Xa,Xb,Xc,↓reduceIte,Nat.reduceLT,Nat.reduceEqDiff,Nat.reduceBEq,Nat.reduceLeDiff,Nat.reduceAdd,Nat.reduceMul]
  exact fin (no fun g=>hin g.1) he0 (Le.refl _)
 have d3:decide (p.ins=((n:Nat):Int))=true:=decide_eq_true hin
 by_cases hol:p.outs.length=l.length
 rotate_right
 ·have d4:decide (((p.outs.length:Nat):Int)=((l.length:Nat):Int))=false:=decide_eq_false (by omega)
  simp(disch:=first|exact Xe|fail)only[zAZ,d0,d3,d4,G3,zAc lo,zBG hl,zQw,↓Xa,Xb,Xc,↓reduceIte,Nat.reduceLT,Nat.reduceEqDiff,Nat.reduceBEq,Nat.reduceLeDiff,Nat.reduceAdd,Nat.reduceMul]
  exact fin (no fun g=>hol g.2.1) he0 (Le.refl _)
 have d4:decide (((p.outs.length:Nat):Int)=((l.length:Nat):Int))=true:=decide_eq_true (by omega)
 simp(disch:=first|exact Xe|fail)only[zAZ,d0,d3,d4,G3,zAc lo,zBG hl,zAU lc,↓Xa,Xb,Xc,↓reduceIte,Nat.reduceLT,Nat.reduceEqDiff,Nat.reduceBEq,Nat.reduceLeDiff,Nat.reduceAdd,Nat.reduceMul]
 refine zAP (fun s:Nat=>⟨[],[(1,.int .i64 (n:Int)),(2,zES l t),(3,.ptr p3 4 0),(52,zAw p.code false),(53,.int .i64 (p.code.length:Int)),(54,.int .i64 s)],G⟩) (fun s=>s≤p.code.length∧zKS (p.code.take s)) (fun s=>p.code.length-s) 0 (Settle.now rfl) ⟨Nat.zero_le _,fun i hi=>by simp at hi⟩ ?_
 rintro s ⟨s1,s2⟩
 by_cases hs:s<p.code.length
 ·simp(disch:=first|exact Xe|fail)only[hs,zBX hs,zBt hs,↓Xa,Xb,Xc,↓reduceIte,Nat.reduceLT,Nat.reduceEqDiff,Nat.reduceBEq,Nat.reduceLeDiff,Nat.reduceAdd,Nat.reduceMul]
  refine zAD fun p11 n11=>?_
  simp(disch:=first|exact Xe|fail)only[zAv,↓Xa,Xb,Xc,↓reduceIte,Nat.reduceLT,Nat.reduceEqDiff,Nat.reduceBEq,Nat.reduceLeDiff,Nat.reduceAdd,Nat.reduceMul]
  by_cases o6:(p.code[s]).op=6
  ·have e6:decide ((p.code[s]).op=((6:Nat):Int))=true:=decide_eq_true o6
   simp(disch:=first|exact Xe|fail)only[zAF,e6,zQw,↓Xa,Xb,Xc,↓reduceIte,Nat.reduceLT,Nat.reduceEqDiff,Nat.reduceBEq,Nat.reduceLeDiff,Nat.reduceAdd,Nat.reduceMul]
   exact fin (no fun g=>(g.2.2.1 _ (List.getElem_mem hs)).1 o6) he0 ((Le.refl G).updB n11)
  have e6:decide ((p.code[s]).op=((6:Nat):Int))=false:=decide_eq_false o6
  by_cases o8:(p.code[s]).op=8
  ·have e8:decide ((p.code[s]).op=((8:Nat):Int))=true:=decide_eq_true o8
   simp(disch:=first|exact Xe|fail)only[zAF,e6,e8,zQw,↓Xa,Xb,Xc,↓reduceIte,Nat.reduceLT,Nat.reduceEqDiff,Nat.reduceBEq,Nat.reduceLeDiff,Nat.reduceAdd,Nat.reduceMul]
   exact fin (no fun g=>(g.2.2.1 _ (List.getElem_mem hs)).2 o8) he0 ((Le.refl G).updB n11)
  have e8:decide ((p.code[s]).op=((8:Nat):Int))=false:=decide_eq_false o8
  simp(disch:=first|exact Xe|fail)only[zAF,e6,e8,↓Xa,Xb,Xc,↓reduceIte,Nat.reduceLT,Nat.reduceEqDiff,Nat.reduceBEq,Nat.reduceLeDiff,Nat.reduceAdd,Nat.reduceMul]
  refine Settle.dropTo ((Le.refl G).updB n11) (Settle.now ⟨s+1,by omega,⟨by omega,fun i hi=>?_⟩,rfl⟩)
  rw[List.take_succ_eq_append_getElem hs]at hi
  rcases List.mem_append.1 hi with hi|hi
  ·exact s2 i hi
  ·rw[List.mem_singleton.1 hi];exact⟨o6,o8⟩
 obtain rfl:s=p.code.length:=by omega
 rw[List.take_length]at s2
 have hans:=zUc hn1 hn8 hr hin s2
 have hh:=hr.1
 unfold zDD at hh
 simp(disch:=first|exact Xe|fail)only[hs,↓Xa,Xb,Xc,↓reduceIte,Nat.reduceLT,Nat.reduceEqDiff,Nat.reduceBEq,Nat.reduceLeDiff,Nat.reduceAdd,Nat.reduceMul]
 refine Settle.now ?_
 simp(disch:=first|exact Xe|fail)only[G3,zAu,↓Xa,Xb,Xc,↓reduceIte,Nat.reduceLT,Nat.reduceEqDiff,Nat.reduceBEq,Nat.reduceLeDiff,Nat.reduceAdd,Nat.reduceMul]
 have hU:=zTq hn8
 have eU:AV.seq n (GI (zBL n)) false=GIA (zBL n) false:=by show _=AV.seq (zBL n).length _ _;rw[zCD]
 rw[eU]at hU
 refine PFn.dcall hU ?_
 simp(disch:=first|exact Xe|fail)only[↓Xa,Xb,Xc,↓reduceIte,Nat.reduceLT,Nat.reduceEqDiff,Nat.reduceBEq,Nat.reduceLeDiff,Nat.reduceAdd,Nat.reduceMul]
 refine zAM (zKg (grid:=zBL n) (t:=false) (k0:=1) hp (by rw[zIQ hn1];omega) (fun r hm=>(zCV hn8 r hm).2) (by rw[zCD];omega) (fun _=>by omega) fun y M hy=>?_)
 rw[hans]at hy ⊢
 dsimp only at hy ⊢
 have hRl:(zCG p (zBL n) n).length=l.length:=by simp[zCG,hol]
 have hRb:=zLz hr (by rw[zCD,hin]) (by omega) (fun r hm=>(zCV hn8 r hm).1) (fun r hm=>(zCV hn8 r hm).2)
 have hev:evQ p ((n:Nat):Int) l↔zCG p (zBL n) n=zEH n l:=⟨fun g=>g.2.2.2,fun g=>⟨hin,hol,s2,g⟩⟩
 generalize zCG p (zBL n) n=R at*
 have hwl:(zEH n l).length=l.length:=by simp[zEH]
 simp(disch:=first|exact Xe|fail)only[zAZ,d0,zBG hl,↓Xa,Xb,Xc,↓reduceIte,Nat.reduceLT,Nat.reduceEqDiff,Nat.reduceBEq,Nat.reduceLeDiff,Nat.reduceAdd,Nat.reduceMul]
 refine zAP (fun s:Nat=>⟨[],[(1,.int .i64 (n:Int)),(12,GIA R false),(77,zES l t),(78,.int .i64 (l.length:Int)),(79,.int .i64 s)],G⟩) (fun s=>s≤l.length∧R.take s=(zEH n l).take s) (fun s=>l.length-s) 0 (Settle.grownC 12 rfl hy (Settle.now rfl)) ⟨Nat.zero_le _,rfl⟩ ?_
 rintro s ⟨f1,f2⟩
 by_cases hs2:s<l.length
 ·have hq2:=hpt.1 _ (List.getElem_mem hs2)
  have hsR:s<R.length:=by omega
  have hix: ∀{k:IntKind}{K:AV→Prop},zBf 1 (GIA R false) (.int k (s:Int)) K=K (.cptr ((GI R).drop s)):=fun{k K}=>by
   have:=zIL (f:=rI) (l:=R) (t:=false) (k:=k) (K:=K) (i:=s) hsR
   rw[Nat.mul_one]at this;exact this
  have hld: ∀{M:AHeap}{K:AV→Prop},zBB M none (.cptr ((GI R).drop s)) K=K (rI (R[s])):=fun{M K}=>zFg hsR
  obtain⟨rl,rb⟩:=hRb _ (List.getElem_mem hsR)
  have ew:(zEH n l)[s]'(by omega)=zBR (l[s]).a (l[s]).b n:=by simp[zEH]
  have bw:=zMu (k:=n) (by omega) hq2
  have lw:(zBR (l[s]).a (l[s]).b n).length=n:=by simp[zBR]
  simp(disch:=first|exact Xe|fail)only[hs2,zEn hs2,zDn hs2,↓Xa,Xb,Xc,↓reduceIte,Nat.reduceLT,Nat.reduceEqDiff,Nat.reduceBEq,Nat.reduceLeDiff,Nat.reduceAdd,Nat.reduceMul]
  refine zAD fun p15 n15=>?_
  simp(disch:=first|exact Xe|fail)only[zBm,zDJ,↓Xa,Xb,Xc,↓reduceIte,Nat.reduceLT,Nat.reduceEqDiff,Nat.reduceBEq,Nat.reduceLeDiff,Nat.reduceAdd,Nat.reduceMul]
  refine(zJZ (n:=n) (by omega) hq2).call ?_
  have stepR:R[s]=zBR (l[s]).a (l[s]).b n→R.take (s+1)=(zEH n l).take (s+1):=fun h=>by
   rw[List.take_succ_eq_append_getElem hsR,List.take_succ_eq_append_getElem (by omega),f2,ew,h]
  have noR:R[s]≠zBR (l[s]).a (l[s]).b n→¬evQ p ((n:Nat):Int) l:=fun h g=>by
   rw[hev]at g
   apply h
   rw[← ew]
   simp only[g]
  have rl':(R[s]).length<9223372036854775808:=by omega
  simp(disch:=first|exact Xe|fail)only[hix,hld,zBI,rl',↓Xa,Xb,Xc,↓reduceIte,Nat.reduceLT,Nat.reduceEqDiff,Nat.reduceBEq,Nat.reduceLeDiff,Nat.reduceAdd,Nat.reduceMul]
  generalize hwr:zBR (l[s]).a (l[s]).b n=w at*
  generalize hrr:R[s]=r at*
  refine zAP (fun j:Nat=>⟨[],[(1,.int .i64 (n:Int)),(12,GIA R false),(16,zB2 w true),(77,zES l t),(78,.int .i64 (l.length:Int)),(79,.int .i64 s),(93,rI r),(94,.int .i64 (r.length:Int)),(95,.int .i64 j)],G⟩) (fun j=>j≤n∧r.take j=w.take j) (fun j=>n-j) 0 (Settle.dropTo ((Le.refl G).updB n15) (Settle.now rfl)) ⟨Nat.zero_le _,rfl⟩ ?_
  rintro j ⟨j1,j2⟩
  by_cases hj:j<n
  ·have hjr:j<r.length:=by omega
   have hjw:j<w.length:=by omega
   simp(disch:=first|exact Xe|fail)only[hjr,zEz,zDA,↓Xa,Xb,Xc,↓reduceIte,Nat.reduceLT,Nat.reduceEqDiff,Nat.reduceBEq,Nat.reduceLeDiff,Nat.reduceAdd,Nat.reduceMul]
   refine zAD fun p19 n19=>?_
   simp(disch:=first|exact Xe|fail)only[hjr,hjw,zAE,zAI,zEz,zDA,↓Xa,Xb,Xc,↓reduceIte,Nat.reduceLT,Nat.reduceEqDiff,Nat.reduceBEq,Nat.reduceLeDiff,Nat.reduceAdd,Nat.reduceMul]
   refine(zXm (rb.at hjr) (by omega) (bw.at hjw) (by omega)).call ?_
   by_cases he:r[j]=w[j]
   ·have ec:decide (zFd (r[j]) (w[j])=((0:Nat):Int))=true:=decide_eq_true (by rw[he];simp[zFd])
    simp(disch:=first|exact Xe|fail)only[zAZ,ec,↓Xa,Xb,Xc,↓reduceIte,Nat.reduceLT,Nat.reduceEqDiff,Nat.reduceBEq,Nat.reduceLeDiff,Nat.reduceAdd,Nat.reduceMul]
    refine Settle.dropTo ((Le.refl G).updB n19) (Settle.now ⟨j+1,by omega,⟨by omega,?_⟩,rfl⟩)
    rw[List.take_succ_eq_append_getElem hjr,List.take_succ_eq_append_getElem hjw,j2,he]
   ·have ec:decide (zFd (r[j]) (w[j])=((0:Nat):Int))=false:=decide_eq_false (by
     unfold zFd
     repeat' split
     all_goals omega)
    simp(disch:=first|exact Xe|fail)only[zAZ,ec,zQw,↓Xa,Xb,Xc,↓reduceIte,Nat.reduceLT,Nat.reduceEqDiff,Nat.reduceBEq,Nat.reduceLeDiff,Nat.reduceAdd,Nat.reduceMul]
    exact fin (no (noR fun h=>he (by simp only[h]))) he0 ((Le.refl G).updB n19)
  ·obtain rfl:j=n:=by omega
   have hjr: ¬j<r.length:=by omega
   simp(disch:=first|exact Xe|fail)only[hjr,↓Xa,Xb,Xc,↓reduceIte,Nat.reduceLT,Nat.reduceEqDiff,Nat.reduceBEq,Nat.reduceLeDiff,Nat.reduceAdd,Nat.reduceMul]
   refine Settle.now ?_
   simp(disch:=first|exact Xe|fail)only[↓Xa,Xb,Xc,↓reduceIte,Nat.reduceLT,Nat.reduceEqDiff,Nat.reduceBEq,Nat.reduceLeDiff,Nat.reduceAdd,Nat.reduceMul]
   exact Settle.now ⟨s+1,by omega,⟨by omega,stepR (by
    rw[List.take_of_length_le (by omega),List.take_of_length_le (by omega)]at j2;exact j2)⟩,rfl⟩
 ·obtain rfl:s=l.length:=by omega
  rw[List.take_of_length_le (by omega),List.take_of_length_le (by omega)]at f2
  simp(disch:=first|exact Xe|fail)only[hs2,↓Xa,Xb,Xc,↓reduceIte,Nat.reduceLT,Nat.reduceEqDiff,Nat.reduceBEq,Nat.reduceLeDiff,Nat.reduceAdd,Nat.reduceMul]
  refine Settle.now ?_
  simp(disch:=first|exact Xe|fail)only[zQw,↓Xa,Xb,Xc,↓reduceIte,Nat.reduceLT,Nat.reduceEqDiff,Nat.reduceBEq,Nat.reduceLeDiff,Nat.reduceAdd,Nat.reduceMul]
  exact fin (decide_eq_true ⟨hK,hr,hev.2 f2⟩) he0 (Le.refl _)
def exE:PR:=⟨2,3,[⟨3,2,0,1,0⟩],[0,2,1]⟩
theorem zZn:exE.ok:=by
 refine⟨by unfold I64;decide,by unfold I64;decide,fun i hi=>?_,by decide,fun n hn=>?_,by decide⟩
 ·simp only[exE,List.mem_cons,List.not_mem_nil,or_false]at hi
  rcases hi with rfl;(unfold Ins.ok I64;decide)
 ·simp only[exE,List.mem_cons,List.not_mem_nil,or_false]at hn
  rcases hn with rfl|rfl|rfl<;>(unfold I64;decide)
theorem zJg:PFn Tryz.prog 123 [] (zCT exE):=by
 refine PFn.weak (r:=AV.agg [.int .i64 exE.ins,.int .i64 exE.regs,zAw exE.code true,zAj exE.outs true]) (fun H Q hq=>?_) Wk.prog
 refine zT4 (by simp) ?_
 simp(disch:=first|exact Xe|fail)only[zdy,↓Xa,Xb,Xc,↓reduceIte,Nat.reduceLT,Nat.reduceEqDiff,Nat.reduceBEq,Nat.reduceLeDiff,Nat.reduceAdd,Nat.reduceMul]
 refine zAD fun p0 n0=>?_
 simp(disch:=first|exact Xe|fail)only[zgS,↓Xa,Xb,Xc,↓reduceIte,Nat.reduceLT,Nat.reduceEqDiff,Nat.reduceBEq,Nat.reduceLeDiff,Nat.reduceAdd,Nat.reduceMul]
 have eR:List.drop 3 (zCK [AV.int .i64 ((0:Nat):Int)] 3)=[]:=rfl
 simp(disch:=first|exact Xe|fail)only[zaS,↓Xa,Xb,Xc,↓reduceIte,Nat.reduceLT,Nat.reduceEqDiff,Nat.reduceBEq,Nat.reduceLeDiff,Nat.reduceAdd,Nat.reduceMul]
 exact SetR.dropTo ((Le.refl H).updB n0) (SetR.now hq)
def zgP:List Int:=[((0:Nat):Int),((1:Nat):Int),((1:Nat):Int),((1:Nat):Int),((1:Nat):Int),((0:Nat):Int)]
def zDF:List Pt:=[⟨0,1⟩,⟨1,1⟩,⟨1,0⟩]
theorem zNm:zB7 zgP=zDF:=by simp[zB7,zgP,zDF,List.range,List.range.loop]
theorem zZP{k:Int}{l:List Pt}(hl:l.length≤140737488355328):(prA k l).ok:=by
 unfold prA
 split
 ·rename_i h
  obtain⟨n,rfl⟩: ∃n:Nat,k=(n:Int):=⟨k.toNat,by have:=h.1;omega⟩
  have hr:=zKY (k:=n) (by have:=h.1;omega) (by have:=h.1;omega) h.2.2.1 h.2.2.2 h.2.1
  obtain⟨h1,h2,h3⟩:=hr
  unfold zDD at h1
  rw[Int.toNat_natCast]
  refine⟨by unfold I64;omega,by unfold I64;omega,fun i hi=>?_,by omega,fun m hm=>by have:=h2 m hm;unfold I64;omega,by omega⟩
  have hm:=h3 i hi
  have hb:=zJO hm
  have hc: -512≤i.c∧i.c≤512:=by
   obtain⟨_,_,_,_,_,_,h⟩:=hm
   repeat' split at h
   all_goals omega
  unfold zCc at hm
  unfold Ins.ok I64
  omega
 ·exact⟨by unfold I64;decide,by unfold I64;decide,fun i hi=>(by cases hi),by decide,fun i hi=>(by cases hi),by decide⟩
theorem zPx:evB exE 2 zDF=true∧evE exE 2 zDF=0:=by decide
theorem zK6:prE 2 zDF=0∧evB (prA 2 zDF) 2 zDF=true∧evE (prA 2 zDF) 2 zDF=0:=by decide
theorem zRF:zax [((1:Nat):Int),((2:Nat):Int),((3:Nat):Int)] 1 2=11∧zcN [((1:Nat):Int),((2:Nat):Int),((3:Nat):Int)] 1 2=0:=by decide
theorem zZI:zNK 11=[49,49]:=by simp[zNK,zMx,dec,digs,chr]
theorem zKj{H:AHeap}{Q:AV→AHeap→Prop}(hT:Tz64H H)(hq:Q (.bool true) H):Run Tryz.prog 57 [] H Q:=by
 refine zYK (by simp) ?_
 simp(disch:=first|exact Xe|fail)only[zhX,↓Xa,Xb,Xc,↓reduceIte,Nat.reduceLT,Nat.reduceEqDiff,Nat.reduceBEq,Nat.reduceLeDiff,Nat.reduceAdd,Nat.reduceMul]
 have hl3: ∀n,n∈[((1:Nat):Int),((2:Nat):Int),((3:Nat):Int)]→I64 n:=fun n hn=>by
  simp only[List.mem_cons,List.not_mem_nil,or_false]at hn
  rcases hn with rfl|rfl|rfl<;>(unfold I64;decide)
 refine(zRE (l:=[((1:Nat):Int),((2:Nat):Int),((3:Nat):Int)]) (t:=true) (by decide) hl3).call ?_
 simp(disch:=first|exact Xe|fail)only[↓Xa,Xb,Xc,↓reduceIte,Nat.reduceLT,Nat.reduceEqDiff,Nat.reduceBEq,Nat.reduceLeDiff,Nat.reduceAdd,Nat.reduceMul]
 have hv:=zN1 (A:=((1:Nat):Int)) (B:=((2:Nat):Int)) (xs:=[((1:Nat):Int),((2:Nat):Int),((3:Nat):Int)]) (t:=false) (k0:=2) (by decide) (fun z hz=>Bd.i64 (by have:=hl3 z hz;unfold I64 at this;omega)) (by decide)
 refine hv.call ?_
 have w1:zax [((1:Nat):Int),((2:Nat):Int),((3:Nat):Int)] ((1:Nat):Int) ((2:Nat):Int)=11:=zRF.1
 have w2:zcN [((1:Nat):Int),((2:Nat):Int),((3:Nat):Int)] ((1:Nat):Int) ((2:Nat):Int)=0:=zRF.2
 rw[w1,w2]
 simp(disch:=first|exact Xe|fail)only[↓Xa,Xb,Xc,↓reduceIte,Nat.reduceLT,Nat.reduceEqDiff,Nat.reduceBEq,Nat.reduceLeDiff,Nat.reduceAdd,Nat.reduceMul]
 refine zAD fun p1 n1=>?_
 simp(disch:=first|exact Xe|fail)only[zAE,↓Xa,Xb,Xc,↓reduceIte,Nat.reduceLT,Nat.reduceEqDiff,Nat.reduceBEq,Nat.reduceLeDiff,Nat.reduceAdd,Nat.reduceMul]
 generalize hM1:H.upd p1 (some (.row 48 0 [zBx 11,zBy 11]))=M1 at*
 have h1:M1 p1=some (.row 48 0 [zBx 11,zBy 11]):=by rw[← hM1,zAC]
 have hl1:Le H M1:=hM1▸(Le.refl H).updB n1
 refine zJg.call ?_
 have hpts:=zKt (l:=zgP) (t:=true) (by decide)
 rw[zNm]at hpts
 simp(disch:=first|exact Xe|fail)only[↓Xa,Xb,Xc,↓reduceIte,Nat.reduceLT,Nat.reduceEqDiff,Nat.reduceBEq,Nat.reduceLeDiff,Nat.reduceAdd,Nat.reduceMul]
 refine hpts.call ?_
 simp(disch:=first|exact Xe|fail)only[↓Xa,Xb,Xc,↓reduceIte,Nat.reduceLT,Nat.reduceEqDiff,Nat.reduceBEq,Nat.reduceLeDiff,Nat.reduceAdd,Nat.reduceMul]
 refine(zCq (p:=exE) (k:=((2:Nat):Int)) (l:=zDF) (t:=false) zZn (by decide)).call ?_
 have w3:evB exE ((2:Nat):Int) zDF=true:=zPx.1
 have w4:evE exE ((2:Nat):Int) zDF=0:=zPx.2
 rw[w3,w4]
 simp(disch:=first|exact Xe|fail)only[↓Xa,Xb,Xc,↓reduceIte,Nat.reduceLT,Nat.reduceEqDiff,Nat.reduceBEq,Nat.reduceLeDiff,Nat.reduceAdd,Nat.reduceMul]
 refine hpts.call ?_
 simp(disch:=first|exact Xe|fail)only[↓Xa,Xb,Xc,↓reduceIte,Nat.reduceLT,Nat.reduceEqDiff,Nat.reduceBEq,Nat.reduceLeDiff,Nat.reduceAdd,Nat.reduceMul]
 refine zAM (zIi (hT.le hl1) (by decide) ?_)
 have w5:prE ((2:Nat):Int) zDF=0:=zK6.1
 rw[w5]
 simp(disch:=first|exact Xe|fail)only[↓Xa,Xb,Xc,↓reduceIte,Nat.reduceLT,Nat.reduceEqDiff,Nat.reduceBEq,Nat.reduceLeDiff,Nat.reduceAdd,Nat.reduceMul]
 refine zAD fun p5 n5=>?_
 have a51:p5≠p1:=by rintro rfl;rw[h1]at n5;cases n5
 simp(disch:=first|exact Xe|fail)only[zA1,↓Xa,Xb,Xc,↓reduceIte,Nat.reduceLT,Nat.reduceEqDiff,Nat.reduceBEq,Nat.reduceLeDiff,Nat.reduceAdd,Nat.reduceMul]
 have G5:(M1.upd p5 (some (.row 25 0 [.int .i64 (prA ((2:Nat):Int) zDF).ins,.int .i64 (prA ((2:Nat):Int) zDF).regs,zAw (prA ((2:Nat):Int) zDF).code false,zAj (prA ((2:Nat):Int) zDF).outs false]))) p5=some (.row 25 0 [.int .i64 (prA ((2:Nat):Int) zDF).ins,.int .i64 (prA ((2:Nat):Int) zDF).regs,zAw (prA ((2:Nat):Int) zDF).code false,zAj (prA ((2:Nat):Int) zDF).outs false]):=zAC _ _ _
 have h15:(M1.upd p5 (some (.row 25 0 [.int .i64 (prA ((2:Nat):Int) zDF).ins,.int .i64 (prA ((2:Nat):Int) zDF).regs,zAw (prA ((2:Nat):Int) zDF).code false,zAj (prA ((2:Nat):Int) zDF).outs false]))) p1=some (.row 48 0 [zBx 11,zBy 11]):=by rw[zAA _ _ (Ne.symm a51),h1]
 have hl5:Le H (M1.upd p5 (some (.row 25 0 [.int .i64 (prA ((2:Nat):Int) zDF).ins,.int .i64 (prA ((2:Nat):Int) zDF).regs,zAw (prA ((2:Nat):Int) zDF).code false,zAj (prA ((2:Nat):Int) zDF).outs false]))):=hl1.upd n5
 generalize(M1.upd p5 (some (.row 25 0 [.int .i64 (prA ((2:Nat):Int) zDF).ins,.int .i64 (prA ((2:Nat):Int) zDF).regs,zAw (prA ((2:Nat):Int) zDF).code false,zAj (prA ((2:Nat):Int) zDF).outs false])))=M5 at*
 simp(disch:=first|exact Xe|fail)only[G5,zAu,↓Xa,Xb,Xc,↓reduceIte,Nat.reduceLT,Nat.reduceEqDiff,Nat.reduceBEq,Nat.reduceLeDiff,Nat.reduceAdd,Nat.reduceMul]
 refine PFn.dcall hpts ?_
 simp(disch:=first|exact Xe|fail)only[↓Xa,Xb,Xc,↓reduceIte,Nat.reduceLT,Nat.reduceEqDiff,Nat.reduceBEq,Nat.reduceLeDiff,Nat.reduceAdd,Nat.reduceMul]
 refine(zCq (p:=prA ((2:Nat):Int) zDF) (k:=((2:Nat):Int)) (l:=zDF) (t:=false) (zZP (by decide)) (by decide)).call ?_
 have w6:evB (prA ((2:Nat):Int) zDF) ((2:Nat):Int) zDF=true:=zK6.2.1
 have w7:evE (prA ((2:Nat):Int) zDF) ((2:Nat):Int) zDF=0:=zK6.2.2
 rw[w6,w7]
 have d0:decide (((0:Nat):Int)=((0:Nat):Int))=true:=rfl
 simp(disch:=first|exact Xe|fail)only[zAF,d0,h15,zAI,↓Xa,Xb,Xc,↓reduceIte,Nat.reduceLT,Nat.reduceEqDiff,Nat.reduceBEq,Nat.reduceLeDiff,Nat.reduceAdd,Nat.reduceMul]
 refine(zTc (x:=11) (k:=1) (by unfold Bd;decide) (by decide)).call ?_
 have s1:AV.str ⟨#[49,49]⟩=Sx [49,49]:=rfl
 simp(disch:=first|exact Xe|fail)only[s1,zZI,zOY,zg0,↓Xa,Xb,Xc,↓reduceIte,Nat.reduceLT,Nat.reduceEqDiff,Nat.reduceBEq,Nat.reduceLeDiff,Nat.reduceAdd,Nat.reduceMul]
 exact SetR.dropTo hl5 (SetR.now hq)
theorem zTH{A B:Int}:PFn Tryz.prog 72 [PtV A B] (.bool (zFh A B)):=by
 intro H Q hq
 refine zY1 (by simp) ?_
 simp(disch:=first|exact Xe|fail)only[zhD,zBm,↓Xa,Xb,Xc,↓reduceIte,Nat.reduceLT,Nat.reduceEqDiff,Nat.reduceBEq,Nat.reduceLeDiff,Nat.reduceAdd,Nat.reduceMul]
 refine zAD fun p1 n1=>?_
 have hle: ∀{x:ABlk},Le H (H.upd p1 (some x)):=(Le.refl H).updB n1
 by_cases h1: -16≤A
 ·have e1:decide (-16≤A)=true:=decide_eq_true h1
  by_cases h2:A≤16
  ·have e2:decide (A≤((16:Nat):Int))=true:=decide_eq_true h2
   by_cases h3: -16≤B
   ·have e3:decide (-16≤B)=true:=decide_eq_true h3
    by_cases h4:B≤16
    ·have e4:decide (B≤((16:Nat):Int))=true:=decide_eq_true h4
     rw[show zFh A B=true from decide_eq_true ⟨h1,h2,h3,h4⟩]at hq
     simp(disch:=first|exact Xe|fail)only[zBq,zCj,e1,e2,e3,e4,zZh,↓Xa,Xb,Xc,↓reduceIte,Nat.reduceLT,Nat.reduceEqDiff,Nat.reduceBEq,Nat.reduceLeDiff,Nat.reduceAdd,Nat.reduceMul]
     exact SetR.dropTo hle (SetR.now hq)
    ·have e4:decide (B≤((16:Nat):Int))=false:=decide_eq_false h4
     rw[show zFh A B=false from decide_eq_false fun h=>h4 h.2.2.2]at hq
     simp(disch:=first|exact Xe|fail)only[zBq,zCj,e1,e2,e3,e4,zZh,↓Xa,Xb,Xc,↓reduceIte,Nat.reduceLT,Nat.reduceEqDiff,Nat.reduceBEq,Nat.reduceLeDiff,Nat.reduceAdd,Nat.reduceMul]
     exact SetR.dropTo hle (SetR.now hq)
   ·have e3:decide (-16≤B)=false:=decide_eq_false h3
    rw[show zFh A B=false from decide_eq_false fun h=>h3 h.2.2.1]at hq
    simp(disch:=first|exact Xe|fail)only[zBq,zCj,e1,e2,e3,zZh,↓Xa,Xb,Xc,↓reduceIte,Nat.reduceLT,Nat.reduceEqDiff,Nat.reduceBEq,Nat.reduceLeDiff,Nat.reduceAdd,Nat.reduceMul]
    exact SetR.dropTo hle (SetR.now hq)
  ·have e2:decide (A≤((16:Nat):Int))=false:=decide_eq_false h2
   rw[show zFh A B=false from decide_eq_false fun h=>h2 h.2.1]at hq
   simp(disch:=first|exact Xe|fail)only[zBq,zCj,e1,e2,zZh,↓Xa,Xb,Xc,↓reduceIte,Nat.reduceLT,Nat.reduceEqDiff,Nat.reduceBEq,Nat.reduceLeDiff,Nat.reduceAdd,Nat.reduceMul]
   exact SetR.dropTo hle (SetR.now hq)
 ·have e1:decide (-16≤A)=false:=decide_eq_false h1
  rw[show zFh A B=false from decide_eq_false fun h=>h1 h.1]at hq
  simp(disch:=first|exact Xe|fail)only[zBq,zCj,e1,zZh,↓Xa,Xb,Xc,↓reduceIte,Nat.reduceLT,Nat.reduceEqDiff,Nat.reduceBEq,Nat.reduceLeDiff,Nat.reduceAdd,Nat.reduceMul]
  exact SetR.dropTo hle (SetR.now hq)
theorem zNO{l:List Pt}{t:Bool}(hl:l.length<9223372036854775808):PFn Tryz.prog 66 [zES l t] (.bool (decide (zEW l))):=by
 intro H Q hq
 refine zYQ (by simp) ?_
 simp(disch:=first|exact Xe|fail)only[zhS,↓Xa,Xb,Xc,↓reduceIte,Nat.reduceLT,Nat.reduceEqDiff,Nat.reduceBEq,Nat.reduceLeDiff,Nat.reduceAdd,Nat.reduceMul]
 refine zAP (fun s:Nat=>⟨[],[(0,zES l t),(3,.int .i64 s)],H⟩) (fun s=>s≤l.length∧zPX (l.take s)) (fun s=>l.length-s) 0 (Settle.now rfl) ⟨Nat.zero_le _,fun q hq=>by simp at hq⟩ ?_
 rintro i ⟨h1,h2⟩
 by_cases hi:i<l.length
 ·simp(disch:=first|exact Xe|fail)only[hi,zBG hl,zEn hi,zDn hi,↓Xa,Xb,Xc,↓reduceIte,Nat.reduceLT,Nat.reduceEqDiff,Nat.reduceBEq,Nat.reduceLeDiff,Nat.reduceAdd,Nat.reduceMul]
  refine zTH.call ?_
  cases hin:zFh (l[i]).a (l[i]).b with
  |false=>
   have: ¬zEW l:=fun h=>by have:=h.1 _ (List.getElem_mem hi);rw[hin]at this;cases this
   rw[decide_eq_false this]at hq
   simp(disch:=first|exact Xe|fail)only[zb3,↓Xa,Xb,Xc,↓reduceIte,Nat.reduceLT,Nat.reduceEqDiff,Nat.reduceBEq,Nat.reduceLeDiff,Nat.reduceAdd,Nat.reduceMul]
   exact SetR.now hq
  |true=>
   simp(disch:=first|exact Xe|fail)only[↓Xa,Xb,Xc,↓reduceIte,Nat.reduceLT,Nat.reduceEqDiff,Nat.reduceBEq,Nat.reduceLeDiff,Nat.reduceAdd,Nat.reduceMul]
   refine Settle.now ⟨i+1,by omega,⟨by omega,fun q hq=>?_⟩,rfl⟩
   rw[List.take_succ_eq_append_getElem hi]at hq
   rcases List.mem_append.1 hq with hq|hq
   ·exact h2 q hq
   ·rw[List.mem_singleton.1 hq];exact hin
 ·obtain rfl:i=l.length:=by omega
  rw[List.take_length]at h2
  simp(disch:=first|exact Xe|fail)only[hi,zBG hl,↓Xa,Xb,Xc,↓reduceIte,Nat.reduceLT,Nat.reduceEqDiff,Nat.reduceBEq,Nat.reduceLeDiff,Nat.reduceAdd,Nat.reduceMul]
  refine Settle.now ?_
  by_cases g1:1≤l.length
  ·have e1:decide (((1:Nat):Int)≤((l.length:Nat):Int))=true:=decide_eq_true (by omega)
   by_cases g2:l.length≤15
   ·have e2:decide (((l.length:Nat):Int)≤((15:Nat):Int))=true:=decide_eq_true (by omega)
    rw[decide_eq_true (show zEW l from⟨h2,g1,g2⟩)]at hq
    simp(disch:=first|exact Xe|fail)only[zBG hl,zBq,zCj,e1,e2,zb3,↓Xa,Xb,Xc,↓reduceIte,Nat.reduceLT,Nat.reduceEqDiff,Nat.reduceBEq,Nat.reduceLeDiff,Nat.reduceAdd,Nat.reduceMul]
    exact SetR.now hq
   ·have e2:decide (((l.length:Nat):Int)≤((15:Nat):Int))=false:=decide_eq_false (by omega)
    rw[decide_eq_false (fun h=>g2 h.2.2)]at hq
    simp(disch:=first|exact Xe|fail)only[zBG hl,zBq,zCj,e1,e2,zb3,↓Xa,Xb,Xc,↓reduceIte,Nat.reduceLT,Nat.reduceEqDiff,Nat.reduceBEq,Nat.reduceLeDiff,Nat.reduceAdd,Nat.reduceMul]
    exact SetR.now hq
  ·have e1:decide (((1:Nat):Int)≤((l.length:Nat):Int))=false:=decide_eq_false (by omega)
   rw[decide_eq_false (fun h=>g1 h.2.1)]at hq
   simp(disch:=first|exact Xe|fail)only[zBG hl,zBq,zCj,e1,zb3,↓Xa,Xb,Xc,↓reduceIte,Nat.reduceLT,Nat.reduceEqDiff,Nat.reduceBEq,Nat.reduceLeDiff,Nat.reduceAdd,Nat.reduceMul]
   exact SetR.now hq
theorem zRU{k:Int}{l:List Pt}{t:Bool}(hl:l.length<9223372036854775808):PFn Tryz.prog 60 [.int .i64 k,zES l t] (.bool (decide (zCx k l))):=by
 intro H Q hq
 refine zXx (by simp) ?_
 by_cases h1:1≤k
 ·have e1:decide (((1:Nat):Int)≤k)=true:=decide_eq_true (by omega)
  by_cases h2:k≤8
  ·have e2:decide (k≤((8:Nat):Int))=true:=decide_eq_true (by omega)
   simp(disch:=first|exact Xe|fail)only[zeH,zBq,zCj,e1,e2,↓Xa,Xb,Xc,↓reduceIte,Nat.reduceLT,Nat.reduceEqDiff,Nat.reduceBEq,Nat.reduceLeDiff,Nat.reduceAdd,Nat.reduceMul]
   refine(zNO hl).call ?_
   have e:decide (zEW l)=decide (zCx k l):=decide_eq_decide.2 ⟨fun h=>⟨⟨h1,h2⟩,h⟩,fun h=>h.2⟩
   rw[e]
   simp(disch:=first|exact Xe|fail)only[zeQ,↓Xa,Xb,Xc,↓reduceIte,Nat.reduceLT,Nat.reduceEqDiff,Nat.reduceBEq,Nat.reduceLeDiff,Nat.reduceAdd,Nat.reduceMul]
   exact SetR.now hq
  ·have e2:decide (k≤((8:Nat):Int))=false:=decide_eq_false (by omega)
   rw[decide_eq_false (fun h=>h2 h.1.2)]at hq
   simp(disch:=first|exact Xe|fail)only[zeH,zBq,zCj,e1,e2,zeQ,↓Xa,Xb,Xc,↓reduceIte,Nat.reduceLT,Nat.reduceEqDiff,Nat.reduceBEq,Nat.reduceLeDiff,Nat.reduceAdd,Nat.reduceMul]
   exact SetR.now hq
 ·have e1:decide (((1:Nat):Int)≤k)=false:=decide_eq_false (by omega)
  rw[decide_eq_false (fun h=>h1 h.1.1)]at hq
  simp(disch:=first|exact Xe|fail)only[zeH,zBq,zCj,e1,zeQ,↓Xa,Xb,Xc,↓reduceIte,Nat.reduceLT,Nat.reduceEqDiff,Nat.reduceBEq,Nat.reduceLeDiff,Nat.reduceAdd,Nat.reduceMul]
  exact SetR.now hq
theorem zNl{A B:Int}{n:Nat}(hn:n≤16)(hin:zFh A B=true):PFn Tryz.prog 130 [PtV A B,.int .i64 (n:Int)] (rR (zBR A B n)):=by
 have hpl:(zBR A B n).length=n:=by simp[zBR]
 have hb: -16≤A∧A≤16∧ -16≤B∧B≤16:=of_decide_eq_true hin
 have er:rR (zBR A B n)=.seq n (RC (zBR A B n)) false:=by simp[rR,hpl]
 rw[er]
 refine PFn.frozen (ty:=44) (es:=2) fun H Q hq=>?_
 refine zUn (by simp) ?_
 simp(disch:=first|exact Xe|fail)only[zbq,zBm,↓Xa,Xb,Xc,↓reduceIte,Nat.reduceLT,Nat.reduceEqDiff,Nat.reduceBEq,Nat.reduceLeDiff,Nat.reduceAdd,Nat.reduceMul]
 refine zAD fun p2 n2=>?_
 simp(disch:=first|exact Xe|fail)only[↓Xa,Xb,Xc,↓reduceIte,Nat.reduceLT,Nat.reduceEqDiff,Nat.reduceBEq,Nat.reduceLeDiff,Nat.reduceAdd,Nat.reduceMul]
 generalize hG:H.upd p2 (some (.row 112 0 [.int .i64 A,.int .i64 B]))=G at*
 have g2:G p2=some (.row 112 0 [.int .i64 A,.int .i64 B]):=by rw[← hG,zAC]
 have hle:Le H G:=hG▸(Le.refl H).updB n2
 refine zAP (fun s:Nat×AV×AHeap=>⟨[],[(1,.int .i64 (n:Int)),(2,.ptr p2 2 0),(5,s.2.1),(6,.int .i64 s.1)],s.2.2⟩) (fun s=>s.1≤n∧zBH G 44 2 s.1 (RC ((zBR A B n).take s.1)) s.2.1 s.2.2) (fun s=>n-s.1) (0,.seq 0 [] true,G) (Settle.now rfl) ⟨Nat.zero_le _,zAl⟩ ?_
 rintro⟨i,y,M⟩ ⟨h1,hg⟩
 dsimp only at h1 hg ⊢
 by_cases hi:i<n
 ·have hM:=zBn hg g2
  simp(disch:=first|exact Xe|fail)only[hi,hM,↓Xa,Xb,Xc,↓reduceIte,Nat.reduceLT,Nat.reduceEqDiff,Nat.reduceBEq,Nat.reduceLeDiff,Nat.reduceAdd,Nat.reduceMul]
  refine PFn.dcall (zDS (n:=A) (by omega)) ?_
  simp(disch:=first|exact Xe|fail)only[↓Xa,Xb,Xc,↓reduceIte,Nat.reduceLT,Nat.reduceEqDiff,Nat.reduceBEq,Nat.reduceLeDiff,Nat.reduceAdd,Nat.reduceMul]
  have bdA:Bd 1 A:=by unfold Bd;omega
  have bdB:Bd 1 B:=by unfold Bd;omega
  refine PFn.dcall (zQe (n:=i) false bdA (by omega) (by omega)) ?_
  simp(disch:=first|exact Xe|fail)only[hM,↓Xa,Xb,Xc,↓reduceIte,Nat.reduceLT,Nat.reduceEqDiff,Nat.reduceBEq,Nat.reduceLeDiff,Nat.reduceAdd,Nat.reduceMul]
  refine PFn.dcall (zDS (n:=B) (by omega)) ?_
  simp(disch:=first|exact Xe|fail)only[↓Xa,Xb,Xc,↓reduceIte,Nat.reduceLT,Nat.reduceEqDiff,Nat.reduceBEq,Nat.reduceLeDiff,Nat.reduceAdd,Nat.reduceMul]
  refine PFn.dcall (zQe (n:=n-1-i) false bdB (by omega) (by omega)) ?_
  simp(disch:=first|exact Xe|fail)only[↓Xa,Xb,Xc,↓reduceIte,Nat.reduceLT,Nat.reduceEqDiff,Nat.reduceBEq,Nat.reduceLeDiff,Nat.reduceAdd,Nat.reduceMul]
  refine PFn.dcall (zFa false false (zFw (show i≤16 by omega) hb.1 hb.2.1) (by omega) (zFw (show n-1-i≤16 by omega) hb.2.2.1 hb.2.2.2) (by omega)) ?_
  simp(disch:=first|exact Xe|fail)only[zAd,zIb,↓Xa,Xb,Xc,↓reduceIte,Nat.reduceLT,Nat.reduceEqDiff,Nat.reduceBEq,Nat.reduceLeDiff,Nat.reduceAdd,Nat.reduceMul]
  refine zE5 (m:=1) hg rfl rfl (by omega) (by omega) (by omega) fun y' M2 hg4=>?_
  have hil:i<(zBR A B n).length:=by omega
  have et:RC ((zBR A B n).take i)++[zDx (A^i*B^(n-1-i)),zFB (A^i*B^(n-1-i))]=RC ((zBR A B n).take (i+1)):=by
   rw[zKZ hil];simp[zBR]
  rw[et]at hg4
  simp(disch:=first|exact Xe|fail)only[↓Xa,Xb,Xc,↓reduceIte,Nat.reduceLT,Nat.reduceEqDiff,Nat.reduceBEq,Nat.reduceLeDiff,Nat.reduceAdd,Nat.reduceMul]
  exact Settle.now ⟨(i+1,y',M2),by dsimp only;omega,⟨by dsimp only;omega,hg4⟩,rfl⟩
 ·obtain rfl:i=n:=by omega
  rw[List.take_of_length_le (by omega)]at hg
  simp(disch:=first|exact Xe|fail)only[hi,↓Xa,Xb,Xc,↓reduceIte,Nat.reduceLT,Nat.reduceEqDiff,Nat.reduceBEq,Nat.reduceLeDiff,Nat.reduceAdd,Nat.reduceMul]
  refine Settle.now ?_
  simp(disch:=first|exact Xe|fail)only[zaR,↓Xa,Xb,Xc,↓reduceIte,Nat.reduceLT,Nat.reduceEqDiff,Nat.reduceBEq,Nat.reduceLeDiff,Nat.reduceAdd,Nat.reduceMul]
  obtain⟨M2,hg2,hl2⟩:=zBJ hg hle
  exact SetR.dropTo hl2 (SetR.now (hq _ _ hg2))
def WkL(a b:List AV):Prop:=a.length=b.length∧∀i(h1:i<a.length)(h2:i<b.length),Wk (a[i]) (b[i])
theorem WkL.app{a b c d:List AV}(h:WkL a b)(k:WkL c d):WkL (a++c) (b++d):=by
 refine⟨by simp[h.1,k.1],fun i h1 h2=>?_⟩
 by_cases hi:i<a.length
 ·rw[List.getElem_append_left hi,List.getElem_append_left (by rw[← h.1];exact hi)];exact h.2 i _ _
 ·have hb:=h.1
  rw[List.getElem_append_right (by omega),List.getElem_append_right (by omega)]
  have e:i-a.length=i-b.length:=by omega
  simp only[e]
  exact k.2 _ (by simp at h1;omega) _
theorem WkL.rfl{a:List AV}:WkL a a:=⟨Eq.refl _,fun _ _ _=>Wk.refl⟩
theorem WkL.zeros(n:Nat):WkL (IC (List.replicate n 0)) (RC (List.replicate n 0)):=by
 rw[zgo]
 exact⟨by rw[zZD,zQn],zPw _⟩
theorem zOc{n:Nat}(hn:n≤8):PFn Tryz.prog 129 [.int .i64 (n:Int)] (GA (zBL n) false):=by
 have er:GA (zBL n) false=.seq n (GC (zBL n)) false:=by show AV.seq (zBL n).length _ _=_;rw[zCD]
 rw[er]
 refine PFn.frozen (ty:=31) (es:=1) (n:=n) (cells:=GC (zBL n)) fun H Q hq=>?_
 have hul:(zBL n).length=n:=by simp[zBL]
 refine zUI (by simp) ?_
 simp(disch:=first|exact Xe|fail)only[zZx,↓Xa,Xb,Xc,↓reduceIte,Nat.reduceLT,Nat.reduceEqDiff,Nat.reduceBEq,Nat.reduceLeDiff,Nat.reduceAdd,Nat.reduceMul]
 refine zAP (fun s:Nat×AV×AHeap=>⟨[],[(0,.int .i64 (n:Int)),(3,s.2.1),(4,.int .i64 s.1)],s.2.2⟩) (fun s=>s.1≤n∧zBH H 31 1 s.1 (GC ((zBL n).take s.1)) s.2.1 s.2.2) (fun s=>n-s.1) (0,.seq 0 [] true,H) (Settle.now rfl) ⟨Nat.zero_le _,zAl⟩ ?_
 rintro⟨i,y,M⟩ ⟨h1,hg1⟩
 dsimp only at h1 hg1 ⊢
 by_cases hi:i<n
 ·have hiu:i<(zBL n).length:=by omega
  simp(disch:=first|exact Xe|fail)only[hi,zNV (show n≤100000 by omega),↓Xa,Xb,Xc,↓reduceIte,Nat.reduceLT,Nat.reduceEqDiff,Nat.reduceBEq,Nat.reduceLeDiff,Nat.reduceAdd,Nat.reduceMul]
  intro b hb
  have hll:(List.replicate n (0:Int)).length=n:=by simp
  refine(zDS (n:=1) (by omega)).call ?_
  have hst: ∀{K:AV→AHeap→Prop},stP (M.upd b (some (.row 44 2 (IC (List.replicate n 0))))) 2 b (n*2) (i*2) K (some [zDx 1,zFB 1]) (some (.row 44 2 (IC (List.replicate n 0))))↔K .bot ((M.upd b (some (.row 44 2 (IC (List.replicate n 0))))).upd b (some (.row 44 2 (zAn (IC (List.replicate n 0)) (i*2) [zDx 1,zFB 1])))):=fun{K}=>zLH (n:=2) (l:=[zDx 1,zFB 1]) (by rw[zBP,hll]) (Eq.refl _) (by omega)
  simp(disch:=first|exact Xe|fail)only[hi,zAd,hst,↓Xa,Xb,Xc,↓reduceIte,Nat.reduceLT,Nat.reduceEqDiff,Nat.reduceBEq,Nat.reduceLeDiff,Nat.reduceAdd,Nat.reduceMul]
  refine⟨by rw[zBP,hll],?_⟩
  have hX:WkL (List.take (i*2) (IC (List.replicate n 0))++[zDx 1,zFB 1]++List.drop (i*2+2) (IC (List.replicate n 0))) (RC ((List.replicate n 0).set i 1)):=by
   have e1:List.take (i*2) (IC (List.replicate n 0))=IC (List.replicate i 0):=by
    rw[zcI (by omega),List.take_replicate,Nat.min_eq_left (by omega)]
   have e2:List.drop (i*2+2) (IC (List.replicate n 0))=IC (List.replicate (n-(i+1)) 0):=by
    rw[show i*2+2=(i+1)*2 by omega,zYk (by omega),List.drop_replicate]
   have e3:RC ((List.replicate n (0:Int)).set i 1)=RC (List.replicate i 0)++[zDx 1,zFB 1]++RC (List.replicate (n-(i+1)) 0):=by
    rw[List.set_eq_take_append_cons_drop,if_pos (by omega),List.take_replicate,Nat.min_eq_left (by omega),List.drop_replicate]
    simp[RC,List.flatMap_append]
   rw[e1,e2,e3]
   exact((WkL.zeros i).app WkL.rfl).app (WkL.zeros _)
  have hXl:(List.take (i*2) (IC (List.replicate n 0))++[zDx 1,zFB 1]++List.drop (i*2+2) (IC (List.replicate n 0))).length=n*2:=by rw[hX.1,zQn];simp
  generalize(List.take (i*2) (IC (List.replicate n 0))++[zDx 1,zFB 1]++List.drop (i*2+2) (IC (List.replicate n 0)))=X at*
  refine zE5 (bytes:=24) (m:=1) (ys:=[.own b (n*2) 0 n true]) (t:=true) (zCZ hg1 hb) rfl rfl (by omega) (by omega) (by omega) fun y' M2 hg4=>?_
  have eu:(zBL n)[i]=(List.replicate n 0).set i 1:=by simp[zBL]
  have hlr:((List.replicate n (0:Int)).set i 1).length=n:=by simp
  obtain⟨M3,hg5,hf,hs⟩:=zKG (x':=rR ((zBL n)[i])) (zCQ hg1 hb) hg4 (by
   rw[eu]
   have e:zCv b 2 X (.own b (n*2) 0 n true)=.seq n X true:=by
    simp only[zCv]
    rw[if_pos trivial,if_pos ⟨hXl.symm,.inr (by omega)⟩,List.drop_zero,List.take_of_length_le (by omega)]
   have e2:rR ((List.replicate n (0:Int)).set i 1)=.seq n (RC ((List.replicate n 0).set i 1)) false:=by simp[rR]
   rw[e,e2]
   exact Wk.cells hX.1 hX.2) (fun c hc=>by
   obtain⟨r,_,rfl⟩:=List.mem_map.1 hc;exact Eq.refl _)
  rw[← zIh hiu]at hg5
  simp(disch:=first|exact Xe|fail)only[↓Xa,Xb,Xc,↓reduceIte,Nat.reduceLT,Nat.reduceEqDiff,Nat.reduceBEq,Nat.reduceLeDiff,Nat.reduceAdd,Nat.reduceMul]
  refine hs _ _ _ (by simp only[Env.map,List.map_cons,List.map_nil,hf];exact Eq.refl _) (Settle.now ⟨(i+1,y',M3),by dsimp only;omega,⟨by dsimp only;omega,hg5⟩,Eq.refl _⟩)
 ·obtain rfl:i=n:=by omega
  rw[List.take_of_length_le (by omega)]at hg1
  simp(disch:=first|exact Xe|fail)only[hi,↓Xa,Xb,Xc,↓reduceIte,Nat.reduceLT,Nat.reduceEqDiff,Nat.reduceBEq,Nat.reduceLeDiff,Nat.reduceAdd,Nat.reduceMul]
  refine Settle.now ?_
  simp(disch:=first|exact Xe|fail)only[zbj,↓Xa,Xb,Xc,↓reduceIte,Nat.reduceLT,Nat.reduceEqDiff,Nat.reduceBEq,Nat.reduceLeDiff,Nat.reduceAdd,Nat.reduceMul]
  exact SetR.now (hq _ _ hg1)
theorem zIZ{p:PR}{n:Nat}{l:List Pt}{t:Bool}(hp:p.ok)(hr:zBS p)(hn1:1≤n)(hn8:n≤8)(hpt:zEW l):PFn Tryz.prog 62 [zCT p,.int .i64 (n:Int),zES l t] (.bool (decide (evQ p n l))):=by
 intro H Q hq
 have hh:=hr.1
 unfold zDD at hh
 have h15:=hpt.2.2
 have lc:p.code.length<9223372036854775808:=by omega
 have lo:p.outs.length<9223372036854775808:=by omega
 have hl:l.length<9223372036854775808:=by omega
 refine zXg (by simp) ?_
 simp(disch:=first|exact Xe|fail)only[zhL,zA1,↓Xa,Xb,Xc,↓reduceIte,Nat.reduceLT,Nat.reduceEqDiff,Nat.reduceBEq,Nat.reduceLeDiff,Nat.reduceAdd,Nat.reduceMul]
 refine zAD fun p3 n3=>?_
 have G3:(H.upd p3 (some (.row 25 0 [.int .i64 p.ins,.int .i64 p.regs,zAw p.code false,zAj p.outs false]))) p3=some (.row 25 0 [.int .i64 p.ins,.int .i64 p.regs,zAw p.code false,zAj p.outs false]):=zAC _ _ _
 have hHG:Le H (H.upd p3 (some (.row 25 0 [.int .i64 p.ins,.int .i64 p.regs,zAw p.code false,zAj p.outs false]))):=(Le.refl H).updB n3
 generalize(H.upd p3 (some (.row 25 0 [.int .i64 p.ins,.int .i64 p.regs,zAw p.code false,zAj p.outs false])))=G at*
 have fin: ∀{b:Bool},decide (evQ p n l)=b→SetR Q (.bool b) G:=fun{b} h1=>by
  rw[h1]at hq
  exact SetR.dropTo hHG (SetR.now hq)
 by_cases hin:p.ins=((n:Nat):Int)
 rotate_right
 ·have d3:decide (p.ins=((n:Nat):Int))=false:=decide_eq_false hin
  simp(disch:=first|exact Xe|fail)only[zAZ,d3,G3,zYA,↓Xa,Xb,Xc,↓reduceIte,Nat.reduceLT,Nat.reduceEqDiff,Nat.reduceBEq,Nat.reduceLeDiff,Nat.reduceAdd,Nat.reduceMul]
  exact fin (decide_eq_false fun g=>hin g.1)
 have d3:decide (p.ins=((n:Nat):Int))=true:=decide_eq_true hin
 by_cases hol:p.outs.length=l.length
 rotate_right
 ·have d4:decide (((p.outs.length:Nat):Int)=((l.length:Nat):Int))=false:=decide_eq_false (by omega)
  simp(disch:=first|exact Xe|fail)only[zAZ,d3,d4,G3,zAc lo,zBG hl,zYA,↓Xa,Xb,Xc,↓reduceIte,Nat.reduceLT,Nat.reduceEqDiff,Nat.reduceBEq,Nat.reduceLeDiff,Nat.reduceAdd,Nat.reduceMul]
  exact fin (decide_eq_false fun g=>hol g.2.1)
 have d4:decide (((p.outs.length:Nat):Int)=((l.length:Nat):Int))=true:=decide_eq_true (by omega)
 simp(disch:=first|exact Xe|fail)only[zAZ,d3,d4,G3,zAc lo,zBG hl,↓Xa,Xb,Xc,↓reduceIte,Nat.reduceLT,Nat.reduceEqDiff,Nat.reduceBEq,Nat.reduceLeDiff,Nat.reduceAdd,Nat.reduceMul]
 refine zAP (fun s:Nat=>⟨[],[(1,.int .i64 (n:Int)),(2,zES l t),(3,.ptr p3 4 0),(7,.int .i64 s)],G⟩) (fun s=>s≤p.code.length∧zKS (p.code.take s)) (fun s=>p.code.length-s) 0 (Settle.now rfl) ⟨Nat.zero_le _,fun i hi=>by simp at hi⟩ ?_
 rintro s ⟨s1,s2⟩
 by_cases hs:s<p.code.length
 ·by_cases o6:(p.code[s]).op=6
  ·have e6:decide ((p.code[s]).op=((6:Nat):Int))=true:=decide_eq_true o6
   simp(disch:=first|exact Xe|fail)only[G3,zAU lc,hs,zBX hs,zDo hs,zAF,e6,zYA,↓Xa,Xb,Xc,↓reduceIte,Nat.reduceLT,Nat.reduceEqDiff,Nat.reduceBEq,Nat.reduceLeDiff,Nat.reduceAdd,Nat.reduceMul]
   exact fin (decide_eq_false fun g=>(g.2.2.1 _ (List.getElem_mem hs)).1 o6)
  have e6:decide ((p.code[s]).op=((6:Nat):Int))=false:=decide_eq_false o6
  by_cases o8:(p.code[s]).op=8
  ·have e8:decide ((p.code[s]).op=((8:Nat):Int))=true:=decide_eq_true o8
   simp(disch:=first|exact Xe|fail)only[G3,zAU lc,hs,zBX hs,zDo hs,zAF,e6,e8,zYA,↓Xa,Xb,Xc,↓reduceIte,Nat.reduceLT,Nat.reduceEqDiff,Nat.reduceBEq,Nat.reduceLeDiff,Nat.reduceAdd,Nat.reduceMul]
   exact fin (decide_eq_false fun g=>(g.2.2.1 _ (List.getElem_mem hs)).2 o8)
  have e8:decide ((p.code[s]).op=((8:Nat):Int))=false:=decide_eq_false o8
  simp(disch:=first|exact Xe|fail)only[G3,zAU lc,hs,zBX hs,zDo hs,zAF,e6,e8,↓Xa,Xb,Xc,↓reduceIte,Nat.reduceLT,Nat.reduceEqDiff,Nat.reduceBEq,Nat.reduceLeDiff,Nat.reduceAdd,Nat.reduceMul]
  refine Settle.now ⟨s+1,by omega,⟨by omega,fun i hi=>?_⟩,rfl⟩
  rw[List.take_succ_eq_append_getElem hs]at hi
  rcases List.mem_append.1 hi with hi|hi
  ·exact s2 i hi
  ·rw[List.mem_singleton.1 hi];exact⟨o6,o8⟩
 obtain rfl:s=p.code.length:=by omega
 rw[List.take_length]at s2
 have hst:(zC4 p (zBL n) n).length=p.code.length:=zGj p.code _ s2
 have hf:=zOl (t:=false) (k0:=1) (L:=n) hp hr (grid:=zBL n) (fun r hm=>zCV hn8 r hm) (by rw[zCD,hin]) (by omega) (by omega)
 rw[zIl,if_pos hst]at hf
 have hRl:(zCG p (zBL n) n).length=l.length:=by simp[zCG,hol]
 have hRb:=zLz hr (by rw[zCD,hin]) (by omega) (fun r hm=>(zCV hn8 r hm).1) (fun r hm=>(zCV hn8 r hm).2)
 have hev:evQ p ((n:Nat):Int) l↔zCG p (zBL n) n=zEH n l:=⟨fun g=>g.2.2.2,fun g=>⟨hin,hol,s2,g⟩⟩
 simp(disch:=first|exact Xe|fail)only[G3,zAU lc,hs,↓Xa,Xb,Xc,↓reduceIte,Nat.reduceLT,Nat.reduceEqDiff,Nat.reduceBEq,Nat.reduceLeDiff,Nat.reduceAdd,Nat.reduceMul]
 refine Settle.now ?_
 simp(disch:=first|exact Xe|fail)only[G3,zAu,↓Xa,Xb,Xc,↓reduceIte,Nat.reduceLT,Nat.reduceEqDiff,Nat.reduceBEq,Nat.reduceLeDiff,Nat.reduceAdd,Nat.reduceMul]
 refine PFn.dcall (zOc hn8) ?_
 simp(disch:=first|exact Xe|fail)only[↓Xa,Xb,Xc,↓reduceIte,Nat.reduceLT,Nat.reduceEqDiff,Nat.reduceBEq,Nat.reduceLeDiff,Nat.reduceAdd,Nat.reduceMul]
 refine PFn.dcall hf ?_
 generalize zCG p (zBL n) n=R at*
 have hwl:(zEH n l).length=l.length:=by simp[zEH]
 simp(disch:=first|exact Xe|fail)only[↓Xa,Xb,Xc,↓reduceIte,Nat.reduceLT,Nat.reduceEqDiff,Nat.reduceBEq,Nat.reduceLeDiff,Nat.reduceAdd,Nat.reduceMul]
 refine zAP (fun s:Nat=>⟨[],[(1,.int .i64 (n:Int)),(2,zES l t),(10,GA R false),(11,.int .i64 s)],G⟩) (fun s=>s≤l.length∧R.take s=(zEH n l).take s) (fun s=>l.length-s) 0 (Settle.now rfl) ⟨Nat.zero_le _,rfl⟩ ?_
 rintro s ⟨f1,f2⟩
 by_cases hs2:s<l.length
 ·have hq2:=hpt.1 _ (List.getElem_mem hs2)
  have hsR:s<R.length:=by omega
  have hix: ∀{k:IntKind}{K:AV→Prop},zBf 1 (GA R false) (.int k (s:Int)) K=K (.cptr ((GC R).drop s)):=fun{k K}=>by
   have:=zIL (f:=rR) (l:=R) (t:=false) (k:=k) (K:=K) (i:=s) hsR
   rw[Nat.mul_one]at this;exact this
  have hld: ∀{M:AHeap}{K:AV→Prop},zBB M none (.cptr ((GC R).drop s)) K=K (rR (R[s])):=fun{M K}=>zFg hsR
  obtain⟨rl,rb⟩:=hRb _ (List.getElem_mem hsR)
  have ew:(zEH n l)[s]'(by omega)=zBR (l[s]).a (l[s]).b n:=by simp[zEH]
  have bw:=zMu (k:=n) (by omega) hq2
  have lw:(zBR (l[s]).a (l[s]).b n).length=n:=by simp[zBR]
  simp(disch:=first|exact Xe|fail)only[hs2,zBG hl,zEn hs2,zDn hs2,↓Xa,Xb,Xc,↓reduceIte,Nat.reduceLT,Nat.reduceEqDiff,Nat.reduceBEq,Nat.reduceLeDiff,Nat.reduceAdd,Nat.reduceMul]
  refine(zNl (n:=n) (by omega) hq2).call ?_
  have stepR:R[s]=zBR (l[s]).a (l[s]).b n→R.take (s+1)=(zEH n l).take (s+1):=fun h=>by
   rw[List.take_succ_eq_append_getElem hsR,List.take_succ_eq_append_getElem (by omega),f2,ew,h]
  have noR:R[s]≠zBR (l[s]).a (l[s]).b n→¬evQ p ((n:Nat):Int) l:=fun h g=>by
   rw[hev]at g
   apply h
   rw[← ew]
   simp only[g]
  generalize hwr:zBR (l[s]).a (l[s]).b n=w at*
  generalize hrr:R[s]=r at*
  simp(disch:=first|exact Xe|fail)only[↓Xa,Xb,Xc,↓reduceIte,Nat.reduceLT,Nat.reduceEqDiff,Nat.reduceBEq,Nat.reduceLeDiff,Nat.reduceAdd,Nat.reduceMul]
  refine zAP (fun j:Nat=>⟨[],[(1,.int .i64 (n:Int)),(2,zES l t),(10,GA R false),(11,.int .i64 s),(12,rR w),(13,.int .i64 j)],G⟩) (fun j=>j≤n∧r.take j=w.take j) (fun j=>n-j) 0 (Settle.now rfl) ⟨Nat.zero_le _,rfl⟩ ?_
  rintro j ⟨j1,j2⟩
  by_cases hj:j<n
  ·have hjr:j<r.length:=by omega
   have hjw:j<w.length:=by omega
   have ir: ∀{k:IntKind}{K:AV→Prop},zBf 2 (rR r) (.int k (j:Int)) K=K (.cptr ((RC r).drop (j*2))):=fun{k K}=>zJk (t:=false) hjr
   have iw: ∀{k:IntKind}{K:AV→Prop},zBf 2 (rR w) (.int k (j:Int)) K=K (.cptr ((RC w).drop (j*2))):=fun{k K}=>zJk (t:=false) hjw
   simp(disch:=first|exact Xe|fail)only[hj,hix,hld,ir,iw,zF0 hjr,zF0 hjw,↓Xa,Xb,Xc,↓reduceIte,Nat.reduceLT,Nat.reduceEqDiff,Nat.reduceBEq,Nat.reduceLeDiff,Nat.reduceAdd,Nat.reduceMul]
   refine(zYM (rb.at hjr) (by omega) (bw.at hjw) (by omega)).call ?_
   by_cases he:r[j]=w[j]
   ·simp(disch:=first|exact Xe|fail)only[decide_eq_true he,↓Xa,Xb,Xc,↓reduceIte,Nat.reduceLT,Nat.reduceEqDiff,Nat.reduceBEq,Nat.reduceLeDiff,Nat.reduceAdd,Nat.reduceMul]
    refine Settle.now ⟨j+1,by omega,⟨by omega,?_⟩,rfl⟩
    rw[List.take_succ_eq_append_getElem hjr,List.take_succ_eq_append_getElem hjw,j2,he]
   ·simp(disch:=first|exact Xe|fail)only[decide_eq_false he,zYA,↓Xa,Xb,Xc,↓reduceIte,Nat.reduceLT,Nat.reduceEqDiff,Nat.reduceBEq,Nat.reduceLeDiff,Nat.reduceAdd,Nat.reduceMul]
    exact fin (decide_eq_false (noR fun h=>he (by simp only[h])))
  ·obtain rfl:j=n:=by omega
   simp(disch:=first|exact Xe|fail)only[hj,↓Xa,Xb,Xc,↓reduceIte,Nat.reduceLT,Nat.reduceEqDiff,Nat.reduceBEq,Nat.reduceLeDiff,Nat.reduceAdd,Nat.reduceMul]
   refine Settle.now ?_
   simp(disch:=first|exact Xe|fail)only[↓Xa,Xb,Xc,↓reduceIte,Nat.reduceLT,Nat.reduceEqDiff,Nat.reduceBEq,Nat.reduceLeDiff,Nat.reduceAdd,Nat.reduceMul]
   exact Settle.now ⟨s+1,by omega,⟨by omega,stepR (by
    rw[List.take_of_length_le (by omega),List.take_of_length_le (by omega)]at j2;exact j2)⟩,rfl⟩
 ·obtain rfl:s=l.length:=by omega
  rw[List.take_of_length_le (by omega),List.take_of_length_le (by omega)]at f2
  simp(disch:=first|exact Xe|fail)only[hs2,zBG hl,↓Xa,Xb,Xc,↓reduceIte,Nat.reduceLT,Nat.reduceEqDiff,Nat.reduceBEq,Nat.reduceLeDiff,Nat.reduceAdd,Nat.reduceMul]
  refine Settle.now ?_
  simp(disch:=first|exact Xe|fail)only[zYA,↓Xa,Xb,Xc,↓reduceIte,Nat.reduceLT,Nat.reduceEqDiff,Nat.reduceBEq,Nat.reduceLeDiff,Nat.reduceAdd,Nat.reduceMul]
  exact fin (decide_eq_true (hev.2 f2))
theorem zIr(p:PR)(k:Int)(l:List Pt)(mp:p.ok)(ml: ∀n,n∈l→n.ok)(ll:l.length≤140737488355328)(hk: -9223372036854775808≤k∧k<9223372036854775808){H:AHeap}{Q:AV→AHeap→Prop}(hT:Tz64H H)(hq:Q (.bool true) H):Run Tryz.prog 11 [zCT p,.int .i64 k,zES l false] H Q:=by
 have hpc:=mp.2.2.2.1
 have lc:p.code.length<9223372036854775808:=by omega
 have hl:l.length<9223372036854775808:=by omega
 refine zYm (by simp) ?_
 simp(disch:=first|exact Xe|fail)only[zd6,zA1,↓Xa,Xb,Xc,↓reduceIte,Nat.reduceLT,Nat.reduceEqDiff,Nat.reduceBEq,Nat.reduceLeDiff,Nat.reduceAdd,Nat.reduceMul]
 refine zAD fun p3 n3=>?_
 have G3:(H.upd p3 (some (.row 25 0 [.int .i64 p.ins,.int .i64 p.regs,zAw p.code false,zAj p.outs false]))) p3=some (.row 25 0 [.int .i64 p.ins,.int .i64 p.regs,zAw p.code false,zAj p.outs false]):=zAC _ _ _
 have hHG:Le H (H.upd p3 (some (.row 25 0 [.int .i64 p.ins,.int .i64 p.regs,zAw p.code false,zAj p.outs false]))):=(Le.refl H).updB n3
 generalize(H.upd p3 (some (.row 25 0 [.int .i64 p.ins,.int .i64 p.regs,zAw p.code false,zAj p.outs false])))=G at*
 have fin:SetR Q (.bool true) G:=SetR.dropTo hHG (SetR.now hq)
 simp(disch:=first|exact Xe|fail)only[↓Xa,Xb,Xc,↓reduceIte,Nat.reduceLT,Nat.reduceEqDiff,Nat.reduceBEq,Nat.reduceLeDiff,Nat.reduceAdd,Nat.reduceMul]
 refine zAM (zKj (hT.le hHG) ?_)
 have tail:W Tryz.prog (zBT (zBT (zBT zd6))) (zFC zSv Q) ⟨[],[(1,.int .i64 k),(2,zES l false),(3,.ptr p3 4 0)],G⟩:=by
  simp(disch:=first|exact Xe|fail)only[zBT,zd6,G3,zAu,↓Xa,Xb,Xc,↓reduceIte,Nat.reduceLT,Nat.reduceEqDiff,Nat.reduceBEq,Nat.reduceLeDiff,Nat.reduceAdd,Nat.reduceMul]
  refine(zCq (p:=p) (k:=k) (l:=l) (t:=false) mp hl).call ?_
  simp(disch:=first|exact Xe|fail)only[↓Xa,Xb,Xc,↓reduceIte,Nat.reduceLT,Nat.reduceEqDiff,Nat.reduceBEq,Nat.reduceLeDiff,Nat.reduceAdd,Nat.reduceMul]
  refine(zRU (k:=k) (l:=l) (t:=false) hl).call ?_
  by_cases hK:zCx k l
  rotate_right
  ·have e1:evB p k l=false:=decide_eq_false fun g=>hK g.1
   have e2:evE p k l=2:=if_neg hK
   have d2:decide (((2:Nat):Int)=((2:Nat):Int))=true:=decide_eq_true rfl
   simp(disch:=first|exact Xe|fail)only[decide_eq_false hK,e1,e2,zAF,d2,zSv,↓Xa,Xb,Xc,↓reduceIte,Nat.reduceLT,Nat.reduceEqDiff,Nat.reduceBEq,Nat.reduceLeDiff,Nat.reduceAdd,Nat.reduceMul]
   exact fin
  obtain⟨n,rfl⟩: ∃n:Nat,k=(n:Int):=⟨k.toNat,by have:=hK.1;omega⟩
  simp(disch:=first|exact Xe|fail)only[decide_eq_true hK,G3,zAu,↓Xa,Xb,Xc,↓reduceIte,Nat.reduceLT,Nat.reduceEqDiff,Nat.reduceBEq,Nat.reduceLeDiff,Nat.reduceAdd,Nat.reduceMul]
  refine(zNG p mp).call ?_
  by_cases hr:zBS p
  rotate_right
  ·have e1:evB p ((n:Nat):Int) l=false:=decide_eq_false fun g=>hr g.2.1
   have e2:evE p ((n:Nat):Int) l=80:=by rw[evE,if_pos hK,if_neg hr]
   have d2:decide (((80:Nat):Int)=((80:Nat):Int))=true:=decide_eq_true rfl
   simp(disch:=first|exact Xe|fail)only[decide_eq_false hr,e1,e2,zAF,d2,zSv,↓Xa,Xb,Xc,↓reduceIte,Nat.reduceLT,Nat.reduceEqDiff,Nat.reduceBEq,Nat.reduceLeDiff,Nat.reduceAdd,Nat.reduceMul]
   exact fin
  have e2:evE p ((n:Nat):Int) l=0:=by rw[evE,if_pos hK,if_pos hr]
  have e1:evB p ((n:Nat):Int) l=decide (evQ p ((n:Nat):Int) l):=decide_eq_decide.2 ⟨fun g=>g.2.2,fun g=>⟨hK,hr,g⟩⟩
  have d2:decide (((0:Nat):Int)=((0:Nat):Int))=true:=rfl
  simp(disch:=first|exact Xe|fail)only[decide_eq_true hr,G3,zAu,↓Xa,Xb,Xc,↓reduceIte,Nat.reduceLT,Nat.reduceEqDiff,Nat.reduceBEq,Nat.reduceLeDiff,Nat.reduceAdd,Nat.reduceMul]
  refine(zIZ (p:=p) (n:=n) (l:=l) (t:=false) mp hr (by have:=hK.1;omega) (by have:=hK.1;omega) hK.2).call ?_
  rw[e1,e2]
  generalize decide (evQ p ((n:Nat):Int) l)=bb
  cases bb
  ·simp(disch:=first|exact Xe|fail)only[zAF,d2,zSv,↓Xa,Xb,Xc,↓reduceIte,Nat.reduceLT,Nat.reduceEqDiff,Nat.reduceBEq,Nat.reduceLeDiff,Nat.reduceAdd,Nat.reduceMul]
   exact fin
  ·simp(disch:=first|exact Xe|fail)only[zAF,d2,zSv,↓Xa,Xb,Xc,↓reduceIte,Nat.reduceLT,Nat.reduceEqDiff,Nat.reduceBEq,Nat.reduceLeDiff,Nat.reduceAdd,Nat.reduceMul]
   exact fin
 simp(disch:=first|exact Xe|fail)only[zBT,zd6,G3,zAu,↓Xa,Xb,Xc,↓reduceIte,Nat.reduceLT,Nat.reduceEqDiff,Nat.reduceBEq,Nat.reduceLeDiff,Nat.reduceAdd,Nat.reduceMul]at tail
 by_cases c1:200<p.code.length
 ·have d1:decide (((200:Nat):Int)<((p.code.length:Nat):Int))=true:=decide_eq_true (by omega)
  by_cases c2:p.code.length≤16384
  ·have d2:decide (((p.code.length:Nat):Int)≤((16384:Nat):Int))=true:=decide_eq_true (by omega)
   simp(disch:=first|exact Xe|fail)only[G3,zAU lc,zAX,zCj,d1,d2,zSv,↓Xa,Xb,Xc,↓reduceIte,Nat.reduceLT,Nat.reduceEqDiff,Nat.reduceBEq,Nat.reduceLeDiff,Nat.reduceAdd,Nat.reduceMul]
   exact fin
  have d2:decide (((p.code.length:Nat):Int)≤((16384:Nat):Int))=false:=decide_eq_false (by omega)
  by_cases c3:60<p.regs
  ·have d3:decide (((60:Nat):Int)<p.regs)=true:=decide_eq_true (by omega)
   by_cases c4:p.regs≤128
   ·have d4:decide (p.regs≤((128:Nat):Int))=true:=decide_eq_true (by omega)
    simp(disch:=first|exact Xe|fail)only[G3,zAU lc,zAX,zCj,d1,d2,d3,d4,zSv,↓Xa,Xb,Xc,↓reduceIte,Nat.reduceLT,Nat.reduceEqDiff,Nat.reduceBEq,Nat.reduceLeDiff,Nat.reduceAdd,Nat.reduceMul]
    exact fin
   have d4:decide (p.regs≤((128:Nat):Int))=false:=decide_eq_false (by omega)
   simp(disch:=first|exact Xe|fail)only[G3,zAU lc,zAX,zCj,d1,d2,d3,d4,zAu,↓Xa,Xb,Xc,↓reduceIte,Nat.reduceLT,Nat.reduceEqDiff,Nat.reduceBEq,Nat.reduceLeDiff,Nat.reduceAdd,Nat.reduceMul]
   exact tail
  have d3:decide (((60:Nat):Int)<p.regs)=false:=decide_eq_false (by omega)
  simp(disch:=first|exact Xe|fail)only[G3,zAU lc,zAX,zCj,d1,d2,d3,zAu,↓Xa,Xb,Xc,↓reduceIte,Nat.reduceLT,Nat.reduceEqDiff,Nat.reduceBEq,Nat.reduceLeDiff,Nat.reduceAdd,Nat.reduceMul]
  exact tail
 have d1:decide (((200:Nat):Int)<((p.code.length:Nat):Int))=false:=decide_eq_false (by omega)
 by_cases c3:60<p.regs
 ·have d3:decide (((60:Nat):Int)<p.regs)=true:=decide_eq_true (by omega)
  by_cases c4:p.regs≤128
  ·have d4:decide (p.regs≤((128:Nat):Int))=true:=decide_eq_true (by omega)
   simp(disch:=first|exact Xe|fail)only[G3,zAU lc,zAX,zCj,d1,d3,d4,zSv,↓Xa,Xb,Xc,↓reduceIte,Nat.reduceLT,Nat.reduceEqDiff,Nat.reduceBEq,Nat.reduceLeDiff,Nat.reduceAdd,Nat.reduceMul]
   exact fin
  have d4:decide (p.regs≤((128:Nat):Int))=false:=decide_eq_false (by omega)
  simp(disch:=first|exact Xe|fail)only[G3,zAU lc,zAX,zCj,d1,d3,d4,zAu,↓Xa,Xb,Xc,↓reduceIte,Nat.reduceLT,Nat.reduceEqDiff,Nat.reduceBEq,Nat.reduceLeDiff,Nat.reduceAdd,Nat.reduceMul]
  exact tail
 have d3:decide (((60:Nat):Int)<p.regs)=false:=decide_eq_false (by omega)
 simp(disch:=first|exact Xe|fail)only[G3,zAU lc,zAX,zCj,d1,d3,zAu,↓Xa,Xb,Xc,↓reduceIte,Nat.reduceLT,Nat.reduceEqDiff,Nat.reduceBEq,Nat.reduceLeDiff,Nat.reduceAdd,Nat.reduceMul]
 exact tail
end Go.Proofs.YtmndejlpfmmaiaaGreatDoor.Fw
