/- The texts Gl, joined. -/
import Derived.Test.YtmndejlpfmmaiaaGreatDoorZ8
set_option linter.unusedSimpArgs false
set_option linter.unusedVariables false
namespace Go.Proofs.YtmndejlpfmmaiaaGreatDoor.Fw
open Go Go.Proofs.YtmndejlpfmmaiaaGreatDoor.Ma
set_option maxRecDepth 20000
theorem cols_outs{p:PR}{g:List (List Int)}{L:Nat}(hr:rightP p)(hlen:(g.length:Int)=p.ins)(hg: ∀r,r∈g→r.length=L)(hf: ¬(stepsR p g L).length<p.code.length){j:Nat}(hj:j<L){m:Nat}(hm:m<p.outs.length):
 ((outsR p g L)[m]'(by simpa[outsR]using hm)).length=L∧((outsR p g L)[m]'(by simpa[outsR]using hm)).getD j 0=(outs10 p (colG g j))[m]'(by simpa[outs10]using hm):=by
 have hh:=hr.1
 unfold headP at hh
 obtain⟨N,hN⟩: ∃N:Nat,p.regs=(N:Int):=⟨p.regs.toNat,by omega⟩
 have h3:=(run_rel (N:=N) (R:=fun(a:List Int) (x:Int)=>a.length=L∧a.getD j 0=x) (d:=doR) (d':=doZ) (z:=[]) (z':=0) p.code _ _ (fun i hi=>by rw[← hN];exact hr.2.2 i hi) (by
  rintro i hi a b _ _ x ⟨la,rfl⟩ ⟨lb,rfl⟩ hx
  exact⟨x.getD j 0,doR_at (la.trans lb.symm) hx (by omega),(doR_len (la.trans lb.symm) hx).trans la,rfl⟩) (col_start (p:=p) (g:=g) (by omega) (by omega) hg hj)).2.2 (by
   have:=runX_len (d:=doR) (z:=[]) p.code (regsR p g L)
   unfold stepsR at hf;omega)
 have ho:=hr.2.1 _ (List.getElem_mem hm)
 have q:=h3.2.2 (p.outs[m]).toNat (by omega)
 simp only[outsR,outs10,List.getElem_map]
 exact q
theorem columnsV{p:PR}{g:List (List Int)}:(gridE p g≠0∧gridE p g≠20∧ansV p g=([],0,gridE p g))∨(gridE p g=0∧((lstF (failF p g) (g.getD 0 []).length<0∧¬(stepsR p g (g.getD 0 []).length).length<p.code.length∧ansV p g=(outsR p g (g.getD 0 []).length,p.code.length,0))∨
 (∃k:Nat,ansV p g=([],k,20)∧lstF (failF p g) (g.getD 0 []).length=(k:Int)))):=by
 by_cases h0:gridE p g=0
 ·refine .inr ⟨h0,?_⟩
  have hc:=columns_plain h0
  unfold ansR at hc
  unfold ansV
  rw[if_pos h0]at hc ⊢
  by_cases hs:(stepsR p g (g.getD 0 []).length).length<p.code.length
  ·rw[if_pos hs]at hc ⊢
   rcases hc with⟨_,h⟩|⟨_,k,h1,h2⟩
   ·injection h with _ h;cases h
   ·injection h1 with h1 _
    refine .inr ⟨_,rfl,?_⟩
    rw[← h2];exact congrArg _ h1.symm
  ·rw[if_neg hs]at hc ⊢
   rcases hc with⟨h,_⟩|⟨_,k,h1,_⟩
   ·exact .inl ⟨h,hs,rfl⟩
   ·injection h1 with _ h1;cases h1
 ·refine .inl ⟨h0,?_,by unfold ansV;rw[if_neg h0]⟩
  unfold gridE rgtE
  repeat' split
  all_goals decide
theorem lenG{H0 H:AHeap}{ty es n:Nat}{cells:List AV}{x:AV}(h:growC H0 ty es n cells x H)(hn:n<9223372036854775808){K:AV→Prop}:lenW false x K=K (.int .i64 ((n:Nat):Int)):=by
 rcases h with⟨rfl,rfl,rfl,rfl⟩|⟨_,_,b,_,rfl,_⟩<;>simp[lenW,hn]
set_option maxHeartbeats 2000000 in
theorem vmColumns_tab(p:PR)(g:List (List Int))(mp:p.ok)(mg: ∀n,n∈g→GoodRow n)(bg:g.length+sumN (g.map fun r=>r.length)≤1048576){H:AHeap}{Q:AV→AHeap→Prop}(hT:TzH H)(hq:Q (.bool true) H):
 Run Tryz.prog 7 [ProgA p,GridA g] H Q:=by
 have eGg:GridA g=GT g false false:=by unfold GridA;rw[grid_map]
 rw[eGg]
 have hgn:g.length<9223372036854775808:=by omega
 refine enter7 (by simp) ?_
 simp(disch:=first|exact Xe|fail)only[ac7,cells_ProgA,↓Xa,Xb,Xc,↓reduceIte,Nat.reduceLT,Nat.reduceEqDiff,Nat.reduceBEq,Nat.reduceLeDiff,Nat.reduceAdd,Nat.reduceMul]
 refine alloc_i fun p1 n1=>?_
 simp(disch:=first|exact Xe|fail)only[fold_ProgA,↓Xa,Xb,Xc,↓reduceIte,Nat.reduceLT,Nat.reduceEqDiff,Nat.reduceBEq,Nat.reduceLeDiff,Nat.reduceAdd,Nat.reduceMul]
 refine works19_fn.call ?_
 have G1:(H.upd p1 (some (.row 25 0 [.int .i64 p.ins,.int .i64 p.regs,CodeA p.code false,OutsA p.outs false]))) p1=some (.row 25 0 [.int .i64 p.ins,.int .i64 p.regs,CodeA p.code false,OutsA p.outs false]):=upd_same _ _ _
 generalize hG:(H.upd p1 (some (.row 25 0 [.int .i64 p.ins,.int .i64 p.regs,CodeA p.code false,OutsA p.outs false])))=G at*
 have hHG:Le H G:=hG▸(Le.refl H).updB n1
 have fin: ∀{M},Le G M→SetR Q (.bool true) M:=fun{M} hm=>SetR.dropTo (hHG.trans hm) (SetR.now hq)
 simp(disch:=first|exact Xe|fail)only[G1,fold_ProgA,↓Xa,Xb,Xc,↓reduceIte,Nat.reduceLT,Nat.reduceEqDiff,Nat.reduceBEq,Nat.reduceLeDiff,Nat.reduceAdd,Nat.reduceMul]
 refine(long19_fn mp (g:=g) (t1:=false) (t2:=false) (by omega) (by omega)).call ?_
 by_cases lg:long19 p g
 ·simp(disch:=first|exact Xe|fail)only[decide_eq_true lg,rs7,↓Xa,Xb,Xc,↓reduceIte,Nat.reduceLT,Nat.reduceEqDiff,Nat.reduceBEq,Nat.reduceLeDiff,Nat.reduceAdd,Nat.reduceMul]
  exact fin (Le.refl _)
 have sg:sumN (g.map fun l=>l.length)≤300:=by unfold long19 at lg;omega
 have hc80:p.code.length≤80∨16384<p.code.length:=by unfold long19 at lg;omega
 have gs: ∀r,r∈g→r.length≤300∧∀n,n∈r→I64 n:=fun r hr=>⟨by
  have:=sumN_mem (List.mem_map_of_mem (f:=fun l:List Int=>l.length) hr);omega,(mg r hr).1⟩
 simp(disch:=first|exact Xe|fail)only[decide_eq_false lg,↓Xa,Xb,Xc,↓reduceIte,Nat.reduceLT,Nat.reduceEqDiff,Nat.reduceBEq,Nat.reduceLeDiff,Nat.reduceAdd,Nat.reduceMul]
 refine(lists19_fn (g:=g) (t1:=false) (t2:=false) (by omega) (fun r hr=>⟨by have:=(gs r hr).1;omega,(gs r hr).2⟩)).call ?_
 have z2: ∀r,r∈g→RB4 2 r:=fun r hr=>⟨fun z hz=>Bd.i64 (by have:=(gs r hr).2 z hz;unfold I64 at this;omega),by have:=(gs r hr).1;omega⟩
 have l0:(g.getD 0 []).length≤100000:=by
  cases g with
  |nil=>simp
  |cons r t=>have:=(gs r (by simp)).1;show r.length≤100000;omega
 have hk:rightP p→3+3*p.code.length≤90000:=fun hr=>by have:=hr.1;unfold headP at this;omega
 have hTG:TzH G:=hT.le hHG
 simp(disch:=first|exact Xe|fail)only[G1,fold_ProgA,↓Xa,Xb,Xc,↓reduceIte,Nat.reduceLT,Nat.reduceEqDiff,Nat.reduceBEq,Nat.reduceLeDiff,Nat.reduceAdd,Nat.reduceMul]
 refine run_call (vmrun_run (p:=p) (g:=g) (t:=false) (k0:=2) mp l0 z2 hgn (fun hr=>by have:=hk hr;omega) (fun _ i _ _=>hTG) fun y1 M1 hy1=>?_)
 have hM1:=growC_le hy1
 rcases columnsV (p:=p) (g:=g)with⟨h0,h20,ea⟩|⟨h0,hc⟩
 ·rw[ea]at hy1 ⊢
  have d1:decide (((gridE p g:Nat):Int)=((0:Nat):Int))=false:=decide_eq_false (by omega)
  have d2:decide (((gridE p g:Nat):Int)=((20:Nat):Int))=false:=decide_eq_false (by omega)
  have d3:decide (((0:Nat):Int)=((0:Nat):Int))=true:=rfl
  have k1: ∀{K:AV→Prop},lenW false y1 K=K (.int .i64 ((0:Nat):Int)):=fun{K}=>lenG hy1 (by simp)
  simp(disch:=first|exact Xe|fail)only[neq_int,eql_int,d1,d2,d3,k1,rs7,↓Xa,Xb,Xc,↓reduceIte,Nat.reduceLT,Nat.reduceEqDiff,Nat.reduceBEq,Nat.reduceLeDiff,Nat.reduceAdd,Nat.reduceMul]
  exact fin hM1
 obtain⟨hr,hlen,hgL,hL4⟩:=gridE_0 h0
 have hh:=hr.1
 unfold headP at hh
 have hg1:0<g.length:=by omega
 have e0:(g[0]).length=(g.getD 0 []).length:=by simp[List.getD_eq_getElem?_getD,hg1]
 generalize hL:(g.getD 0 []).length=L at*
 have hl0:(g[0]).length<9223372036854775808:=by omega
 have hix: ∀{k:IntKind}{K:AV→Prop}{i:Nat}(hi:i<g.length),idxAW 1 (GIA g false) (.int k (i:Int)) K=K (.cptr ((GI g).drop i)):=fun{k K i} hi=>by
  have:=idx_map (f:=rI) (l:=g) (t:=false) (k:=k) (K:=K) (i:=i) hi
  rw[Nat.mul_one]at this;exact this
 have hld: ∀{M:AHeap}{K:AV→Prop}{i:Nat}(hi:i<g.length),loadW M none (.cptr ((GI g).drop i)) K=K (rI (g[i])):=fun{M K i} hi=>load_map hi
 have hld0: ∀{M:AHeap}{K:AV→Prop},loadW M none (.cptr (GI g)) K=K (rI (g[0])):=fun{M K}=>hld (i:=0) hg1
 generalize hA:ansV p g=A at*
 obtain⟨o,n,e⟩:=A
 dsimp only at hy1 ⊢
 have he:e=0∨e=20:=by
  rcases hc with⟨_,_,h⟩|⟨k,h,_⟩<;>(injection h with _ h;injection h with _ h;omega)
 have dn:(decide (((e:Nat):Int)=((0:Nat):Int))=false∧decide (((e:Nat):Int)=((20:Nat):Int))=true)∨(decide (((e:Nat):Int)=((0:Nat):Int))=true∧decide (((e:Nat):Int)=((20:Nat):Int))=false):=by
  rcases he with rfl|rfl
  ·exact .inr ⟨rfl,rfl⟩
  ·exact .inl ⟨rfl,rfl⟩
 have hoe:e=20→o=[]:=fun h20=>by
  rcases hc with⟨_,_,h⟩|⟨k,h,_⟩
  ·injection h with _ h;injection h with _ h;omega
  ·injection h
 have ho0:e=0→o=outsR p g L:=fun h00=>by
  rcases hc with⟨_,_,h⟩|⟨k,h,_⟩
  ·injection h
  ·injection h with _ h;injection h with _ h;omega
 have hfull:e=0→¬(stepsR p g L).length<p.code.length:=fun h00=>by
  rcases hc with⟨_,h,_⟩|⟨k,h,_⟩
  ·exact h
  ·injection h with _ h;injection h with _ h;omega
 have hol:o.length≤p.outs.length:=by
  rcases he with h|h
  ·rw[ho0 h];simp[outsR]
  ·rw[hoe h];exact Nat.zero_le _
 have npo:p.outs.length<9223372036854775808:=by have:=mp.2.2.2.2.2;omega
 have npc:p.code.length<9223372036854775808:=by have:=mp.2.2.2.1;omega
 have hol':o.length<9223372036854775808:=by omega
 have hbo: ∀r,r∈o→RB4 (2+3*p.code.length) r:=fun r hr=>(ansV_bd z2 r (by rw[hA];exact hr)).2
 have hk':=hk hr
 rcases dn with⟨d1,d2⟩|⟨d1,d2⟩
 all_goals
  simp(disch:=first|exact Xe|fail)only[neq_int,d1,d2,hix hg1,hld0,len_rw,hl0,e0,↓Xa,Xb,Xc,↓reduceIte,Nat.reduceLT,Nat.reduceEqDiff,Nat.reduceBEq,Nat.reduceLeDiff,Nat.reduceAdd,Nat.reduceMul]
  refine W_loop (fun s:Nat=>⟨[],[(2,.ptr p1 4 0),(5,GIA g false),(6,.seq o.length (GI o) false),(7,.int .i64 (n:Int)),(8,.int .i64 (e:Int)),(9,.int .i64 (lstF (failF p g) s)),(48,.int .i64 (L:Int)),(49,.int .i64 s)],G⟩) (fun s=>s≤L) (fun s=>L-s) 0 (Settle.grownC 6 rfl hy1 (Settle.now rfl)) (Nat.zero_le _) ?_
  intro j hj0
  by_cases hj:j<L
  ·have hcl:(colG g j).length=g.length:=by simp[colG]
   simp(disch:=first|exact Xe|fail)only[hj,len_rw,hgn,↓Xa,Xb,Xc,↓reduceIte,Nat.reduceLT,Nat.reduceEqDiff,Nat.reduceBEq,Nat.reduceLeDiff,Nat.reduceAdd,Nat.reduceMul]
   refine W_loop (fun s:Nat×AV×AHeap=>⟨[],[(2,.ptr p1 4 0),(5,GIA g false),(6,.seq o.length (GI o) false),(7,.int .i64 (n:Int)),(8,.int .i64 (e:Int)),(9,.int .i64 (lstF (failF p g) j)),(10,.int .i64 j),(11,s.2.1),(48,.int .i64 (L:Int)),(49,.int .i64 j),(52,GIA g false),(53,.int .i64 (g.length:Int)),(54,.int .i64 s.1)],s.2.2⟩)
    (fun s=>s.1≤g.length∧growC G 48 2 s.1 (IC ((colG g j).take s.1)) s.2.1 s.2.2) (fun s=>g.length-s.1) (0,.seq 0 [] true,G) (Settle.now rfl) ⟨Nat.zero_le _,growC_nil⟩ ?_
   rintro⟨i,y,M⟩ ⟨hi0,hgy⟩
   dsimp only at hi0 hgy ⊢
   by_cases hi:i<g.length
   ·have hgi:=hgL _ (List.getElem_mem hi)
    have hji:j<(g[i]).length:=by omega
    have eci:(colG g j)[i]'(by omega)=(g[i])[j]:=by simp[colG,List.getD_eq_getElem?_getD,hji]
    simp(disch:=first|exact Xe|fail)only[hi,hix hi,hld hi,hji,idx_IC,load_IC,repI1,cells_IntA,↓Xa,Xb,Xc,↓reduceIte,Nat.reduceLT,Nat.reduceEqDiff,Nat.reduceBEq,Nat.reduceLeDiff,Nat.reduceAdd,Nat.reduceMul]
    refine app_C (m:=1) hgy rfl rfl (by omega) (by omega) (by omega) fun y' M2 hg4=>?_
    have et:IC ((colG g j).take i)++[IntB ((g[i])[j]),IntD ((g[i])[j])]=IC ((colG g j).take (i+1)):=by
     rw[List.take_succ_eq_append_getElem (by omega),IC_app,← eci];rfl
    rw[et]at hg4
    simp(disch:=first|exact Xe|fail)only[↓Xa,Xb,Xc,↓reduceIte,Nat.reduceLT,Nat.reduceEqDiff,Nat.reduceBEq,Nat.reduceLeDiff,Nat.reduceAdd,Nat.reduceMul]
    exact Settle.now ⟨(i+1,y',M2),by dsimp only;omega,⟨by dsimp only;omega,hg4⟩,rfl⟩
   ·obtain rfl:i=g.length:=by omega
    rw[List.take_of_length_le (by omega)]at hgy
    simp(disch:=first|exact Xe|fail)only[hi,↓Xa,Xb,Xc,↓reduceIte,Nat.reduceLT,Nat.reduceEqDiff,Nat.reduceBEq,Nat.reduceLeDiff,Nat.reduceAdd,Nat.reduceMul]
    refine Settle.grownC 11 rfl hgy (Settle.now ?_)
    have eO:AV.seq g.length (IC (colG g j)) false=RowA (colG g j) false:=by rw[RowA,hcl]
    rw[eO]
    have lcl:(colG g j).length<9223372036854775808:=by omega
    have hcb: ∀z,z∈colG g j→Bd 2 z:=fun z hz=>by
     obtain⟨r,hr,rfl⟩:=List.mem_map.1 hz
     have hjr:j<r.length:=by have:=hgL r hr;omega
     rw[List.getD_eq_getElem?_getD,List.getElem?_eq_getElem hjr]
     exact(z2 r hr).1 _ (List.getElem_mem hjr)
    simp(disch:=first|exact Xe|fail)only[G1,fold_ProgA,↓Xa,Xb,Xc,↓reduceIte,Nat.reduceLT,Nat.reduceEqDiff,Nat.reduceBEq,Nat.reduceLeDiff,Nat.reduceAdd,Nat.reduceMul]
    refine run_call (run10' (p:=p) (cv:=CodeA p.code false) (ov:=OutsA p.outs false) (y:=RowA (colG g j) false) (xs:=colG g j) (k0:=2) mp (CodeV.seq npc) (OutsV.seq npo) (.inr ⟨_,rfl⟩) hcb lcl (fun _ _=>by omega) ?_)
    intro yo M2 hgo
    have hri:rightP p∧((colG g j).length:Int)=p.ins:=⟨hr,by omega⟩
    have hle:=growC_le hgo
    by_cases hst:(steps10 p (colG g j)).length<p.code.length
    ·have ea:ans10 p (colG g j)=([],(steps10 p (colG g j)).length,20):=by rw[ans10,if_pos hri,if_pos hst]
     have ef:failF p g j=some (steps10 p (colG g j)).length:=by rw[failF,if_pos hst]
     have d20:decide (((20:Nat):Int)=((20:Nat):Int))=true:=rfl
     have el:lstF (failF p g) (j+1)=if lstF (failF p g) j<0∨(((steps10 p (colG g j)).length:Nat):Int)<lstF (failF p g) j then(((steps10 p (colG g j)).length:Nat):Int)else lstF (failF p g) j:=by rw[lstF,ef]
     rw[ea]
     by_cases c1:lstF (failF p g) j<0
     ·rw[if_pos (.inl c1)]at el
      have d1:decide (lstF (failF p g) j<((0:Nat):Int))=true:=decide_eq_true c1
      simp(disch:=first|exact Xe|fail)only[eql_int,d20,lss_int,d1,↓Xa,Xb,Xc,↓reduceIte,Nat.reduceLT,Nat.reduceEqDiff,Nat.reduceBEq,Nat.reduceLeDiff,Nat.reduceAdd,Nat.reduceMul]
      exact Settle.dropTo hle (Settle.now ⟨j+1,by omega,hj,by rw[el]⟩)
     have d1:decide (lstF (failF p g) j<((0:Nat):Int))=false:=decide_eq_false c1
     by_cases c2:(((steps10 p (colG g j)).length:Nat):Int)<lstF (failF p g) j
     ·rw[if_pos (.inr c2)]at el
      have d2:decide ((((steps10 p (colG g j)).length:Nat):Int)<lstF (failF p g) j)=true:=decide_eq_true c2
      simp(disch:=first|exact Xe|fail)only[eql_int,d20,lss_int,d1,d2,↓Xa,Xb,Xc,↓reduceIte,Nat.reduceLT,Nat.reduceEqDiff,Nat.reduceBEq,Nat.reduceLeDiff,Nat.reduceAdd,Nat.reduceMul]
      exact Settle.dropTo hle (Settle.now ⟨j+1,by omega,hj,by rw[el]⟩)
     ·rw[if_neg (by omega)]at el
      have d2:decide ((((steps10 p (colG g j)).length:Nat):Int)<lstF (failF p g) j)=false:=decide_eq_false c2
      simp(disch:=first|exact Xe|fail)only[eql_int,d20,lss_int,d1,d2,↓Xa,Xb,Xc,↓reduceIte,Nat.reduceLT,Nat.reduceEqDiff,Nat.reduceBEq,Nat.reduceLeDiff,Nat.reduceAdd,Nat.reduceMul]
      exact Settle.dropTo hle (Settle.now ⟨j+1,by omega,hj,by rw[el]⟩)
    ·have ea:ans10 p (colG g j)=(outs10 p (colG g j),0,0):=by rw[ans10,if_pos hri,if_neg hst]
     have ef:failF p g j=none:=by rw[failF,if_neg hst]
     have d0:decide (((0:Nat):Int)=((20:Nat):Int))=false:=rfl
     have d00:decide (((0:Nat):Int)=((0:Nat):Int))=true:=rfl
     have el:lstF (failF p g) (j+1)=lstF (failF p g) j:=by rw[lstF,ef]
     rw[ea]at hgo ⊢
     dsimp only at hgo ⊢
     simp(disch:=first|exact Xe|fail)only[eql_int,neq_int,d0,d00,len_rw,hol',↓Xa,Xb,Xc,↓reduceIte,Nat.reduceLT,Nat.reduceEqDiff,Nat.reduceBEq,Nat.reduceLeDiff,Nat.reduceAdd,Nat.reduceMul]
     have lo10:(outs10 p (colG g j)).length=p.outs.length:=by simp[outs10]
     refine W_loop (fun s:Nat=>⟨[],[(2,.ptr p1 4 0),(5,GIA g false),(6,.seq o.length (GI o) false),(7,.int .i64 (n:Int)),(8,.int .i64 (e:Int)),(9,.int .i64 (lstF (failF p g) j)),(10,.int .i64 j),(14,RowA (outs10 p (colG g j)) false),(48,.int .i64 (L:Int)),(49,.int .i64 j),(86,.int .i64 (o.length:Int)),(87,.int .i64 s)],G⟩) (fun s=>s≤o.length) (fun s=>o.length-s) 0 (Settle.grownC 14 rfl hgo (Settle.now rfl)) (Nat.zero_le _) ?_
     intro m hm0
     by_cases hm:m<o.length
     ·have e00:e=0:=by
       rcases he with h|h
       ·exact h
       ·rw[hoe h]at hm;exact absurd hm (by simp)
      have d1':decide (((e:Nat):Int)=((0:Nat):Int))=true:=decide_eq_true (by omega)
      have qo:=cols_outs hr hlen hgL (hfull e00) hj (m:=m) (by omega)
      have eo:=ho0 e00
      have hixo: ∀{k:IntKind}{K:AV→Prop},idxAW 1 (.seq o.length (GI o) false) (.int k (m:Int)) K=K (.cptr ((GI o).drop m)):=fun{k K}=>by
       have:=idx_map (f:=rI) (l:=o) (t:=false) (k:=k) (K:=K) (i:=m) hm
       rw[Nat.mul_one]at this;exact this
      have hldo: ∀{M:AHeap}{K:AV→Prop},loadW M none (.cptr ((GI o).drop m)) K=K (rI (o[m])):=fun{M K}=>load_map hm
      have bo:=hbo _ (List.getElem_mem hm)
      have q1:(o[m]).length=L:=by simp only[eo];exact qo.1
      have q2:(o[m]).getD j 0=(outs10 p (colG g j))[m]'(by omega):=by simp only[eo];exact qo.2
      generalize o[m]=r at*
      have hjr:j<r.length:=by omega
      have hm10:m<(outs10 p (colG g j)).length:=by omega
      rw[List.getD_eq_getElem?_getD,List.getElem?_eq_getElem hjr,Option.getD_some]at q2
      have ec:cmpI (r[j]) (r[j])=0:=by simp[cmpI]
      have dz:decide ((0:Int)=((0:Nat):Int))=true:=by decide
      have bj:=bo.at hjr
      simp(disch:=first|exact Xe|fail)only[hm,hm10,hjr,eql_int,d1',hixo,hldo,idx_IC,load_IC,← q2,↓Xa,Xb,Xc,↓reduceIte,Nat.reduceLT,Nat.reduceEqDiff,Nat.reduceBEq,Nat.reduceLeDiff,Nat.reduceAdd,Nat.reduceMul]
      refine(cmpi_fn bj (by omega) bj (by omega)).call ?_
      simp(disch:=first|exact Xe|fail)only[ec,neq_int,dz,↓Xa,Xb,Xc,↓reduceIte,Nat.reduceLT,Nat.reduceEqDiff,Nat.reduceBEq,Nat.reduceLeDiff,Nat.reduceAdd,Nat.reduceMul]
      exact Settle.now ⟨m+1,by omega,by omega,rfl⟩
     ·obtain rfl:m=o.length:=by omega
      simp(disch:=first|exact Xe|fail)only[hm,↓Xa,Xb,Xc,↓reduceIte,Nat.reduceLT,Nat.reduceEqDiff,Nat.reduceBEq,Nat.reduceLeDiff,Nat.reduceAdd,Nat.reduceMul]
      refine Settle.now ?_
      simp(disch:=first|exact Xe|fail)only[↓Xa,Xb,Xc,↓reduceIte,Nat.reduceLT,Nat.reduceEqDiff,Nat.reduceBEq,Nat.reduceLeDiff,Nat.reduceAdd,Nat.reduceMul]
      exact Settle.now ⟨j+1,by omega,hj,by rw[el]⟩
  ·obtain rfl:j=L:=by omega
   simp(disch:=first|exact Xe|fail)only[hj,↓Xa,Xb,Xc,↓reduceIte,Nat.reduceLT,Nat.reduceEqDiff,Nat.reduceBEq,Nat.reduceLeDiff,Nat.reduceAdd,Nat.reduceMul]
   refine Settle.now ?_
   have d0:decide (((0:Nat):Int)=((0:Nat):Int))=true:=rfl
   rcases hc with⟨hc1,_,h⟩|⟨k,h,hc1⟩<;>(injection h with h1 h;injection h with h2 h3;subst h1;subst h2;subst h3)
   ·first
    |exact absurd d1 (by decide)
    |have c1:decide (lstF (failF p g) j<((0:Nat):Int))=true:=decide_eq_true hc1
     have c2:decide (((p.code.length:Nat):Int)=((p.code.length:Nat):Int))=true:=decide_eq_true rfl
     have c3:decide (((p.outs.length:Nat):Int)=((p.outs.length:Nat):Int))=true:=decide_eq_true rfl
     have elo:(outsR p g j).length=p.outs.length:=by simp[outsR]
     simp(disch:=first|exact Xe|fail)only[eql_int,lss_int,d1,d2,c1,c2,c3,G1,len_CodeA npc,len_OutsA npo,len_rw,hol',elo,npo,rs7,↓Xa,Xb,Xc,↓reduceIte,Nat.reduceLT,Nat.reduceEqDiff,Nat.reduceBEq,Nat.reduceLeDiff,Nat.reduceAdd,Nat.reduceMul]
     exact fin (Le.refl _)
   ·first
    |exact absurd d1 (by decide)
    |have c1:decide (((n:Nat):Int)=lstF (failF p g) j)=true:=decide_eq_true hc1.symm
     simp(disch:=first|exact Xe|fail)only[eql_int,lss_int,d0,d1,d2,c1,len_rw,rs7,↓Xa,Xb,Xc,↓reduceIte,Nat.reduceLT,Nat.reduceEqDiff,Nat.reduceBEq,Nat.reduceLeDiff,Nat.reduceAdd,Nat.reduceMul]
     exact fin (Le.refl _)
end Go.Proofs.YtmndejlpfmmaiaaGreatDoor.Fw
