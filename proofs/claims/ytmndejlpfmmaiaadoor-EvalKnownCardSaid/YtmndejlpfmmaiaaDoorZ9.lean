/- The texts Ha Gd Ge Gf Gg Gh Gj Hb Hc Hr Hs Hv, joined. -/
import Derived.Test.YtmndejlpfmmaiaaDoorZ8
set_option linter.unusedSimpArgs false
set_option linter.unusedVariables false
namespace Go.Proofs.YtmndejlpfmmaiaaDoor.Fw
open Go Go.Proofs.YtmndejlpfmmaiaaDoor.Ma
set_option maxRecDepth 20000
def rightK(k:Int)(l:List Pt):Prop:=(1≤k∧k≤8)∧ptsOK l
instance (k:Int)(l:List Pt):Decidable (rightK k l):=by unfold rightK;infer_instance
def prA(k:Int)(l:List Pt):PR:=if rightK k l then progP k.toNat l else⟨0,0,[],[]⟩
def prE(k:Int)(l:List Pt):Nat:=if rightK k l then 0 else 2
theorem cells_P4{a b:Int}{x y:AV}(hx:x.cell=true)(hy:y.cell=true):(AV.agg [.int .i64 a,.int .i64 b,x,y]).cells=some [.int .i64 a,.int .i64 b,x,y]:=by
 have e:([.int .i64 a,.int .i64 b,x,y]:List AV).all AV.cell=true:=by
  rw[List.all_cons,List.all_cons,List.all_cons,List.all_cons,hx,hy];rfl
 show(if([.int .i64 a,.int .i64 b,x,y]:List AV).all AV.cell=true then _ else _)=_
 rw[if_pos e]
theorem cells_fn{f:Fn}{a b:List AV}:(AV.fn f a b).cells=some [.fn f a b]:=id rfl
theorem repO1:repA [AV.int .i64 ((0:Nat):Int)] 1=[.int .i64 ((0:Nat):Int)]:=by simp[repA,List.range,List.range.loop]
theorem cells_PR0:AV.cells (.agg [.int .i64 ((0:Nat):Int),.int .i64 ((0:Nat):Int),.seq 0 [] true,.seq 0 [] true])=some [.int .i64 ((0:Nat):Int),.int .i64 ((0:Nat):Int),.seq 0 [] true,.seq 0 [] true]:=id rfl
theorem program_no{k:Int}{l:List Pt}{t:Bool}(hl:l.length<9223372036854775808)(hno: ¬rightK k l):PFn Tryd.prog 46 [.int .i64 k,PtsA l t] (.tup [ProgA ⟨0,0,[],[]⟩,.int .i64 ((2:Nat):Int)]):=by
 intro H Q hq
 refine enter46 (by simp) ?_
 simp(disch:=first|exact Xe|fail)only[ac46,↓Xa,Xb,Xc,↓reduceIte,Nat.reduceLT,Nat.reduceEqDiff,Nat.reduceBEq,Nat.reduceLeDiff,Nat.reduceAdd,Nat.reduceMul]
 refine alloc_i fun p4 n4=>?_
 have hle: ∀{x:ABlk},Le H (H.upd p4 (some x)):=(Le.refl H).updB n4
 have fin:SetR Q (.tup [.agg [.int .i64 ((0:Nat):Int),.int .i64 ((0:Nat):Int),.seq 0 [] true,.seq 0 [] true],.int .i64 ((2:Nat):Int)]) H:=by
  refine SetR.mono (SetR.loose (SetR.now hq)) fun _ _ h=>h
 by_cases h1:k<1
 ·have d1:decide (k<((1:Nat):Int))=true:=decide_eq_true (by omega)
  simp(disch:=first|exact Xe|fail)only[lss_int,d1,cells_PR0,rs46,↓Xa,Xb,Xc,↓reduceIte,Nat.reduceLT,Nat.reduceEqDiff,Nat.reduceBEq,Nat.reduceLeDiff,Nat.reduceAdd,Nat.reduceMul]
  exact SetR.dropTo hle fin
 have d1:decide (k<((1:Nat):Int))=false:=decide_eq_false (by omega)
 by_cases h2:8<k
 ·have d2:decide (((8:Nat):Int)<k)=true:=decide_eq_true (by omega)
  simp(disch:=first|exact Xe|fail)only[lss_int,gtr_int,d1,d2,cells_PR0,rs46,↓Xa,Xb,Xc,↓reduceIte,Nat.reduceLT,Nat.reduceEqDiff,Nat.reduceBEq,Nat.reduceLeDiff,Nat.reduceAdd,Nat.reduceMul]
  exact SetR.dropTo hle fin
 have d2:decide (((8:Nat):Int)<k)=false:=decide_eq_false (by omega)
 have hp: ¬ptsOK l:=fun h=>hno ⟨⟨by omega,by omega⟩,h⟩
 simp(disch:=first|exact Xe|fail)only[lss_int,gtr_int,d1,d2,↓Xa,Xb,Xc,↓reduceIte,Nat.reduceLT,Nat.reduceEqDiff,Nat.reduceBEq,Nat.reduceLeDiff,Nat.reduceAdd,Nat.reduceMul]
 refine(points_fn hl).call ?_
 simp(disch:=first|exact Xe|fail)only[decide_eq_false hp,cells_PR0,rs46,↓Xa,Xb,Xc,↓reduceIte,Nat.reduceLT,Nat.reduceEqDiff,Nat.reduceBEq,Nat.reduceLeDiff,Nat.reduceAdd,Nat.reduceMul]
 exact SetR.dropTo hle fin
theorem frz1_self{b n es:Nat}{cells:List AV}(hl:cells.length=n*es):frz1 b es cells (.own b (n*es) 0 n false)=.seq n cells false:=by simp[frz1,hl,List.take_of_length_le]
theorem frz1_own{b c L off n es:Nat}{t:Bool}{cells:List AV}(h:c≠b):frz1 b es cells (.own c L off n t)=.own c L off n t:=by simp[frz1,h]
theorem prog_fin{H M:AHeap}{Q:AV→AHeap→Prop}{p6 p7:Nat}{k regs e:Int}{code:List Ins}{outs:List Int}{cv ov:AV}(h:PM H M p6 p7 k regs code outs cv ov)(hq:Q (.tup [ProgA ⟨k,regs,code,outs⟩,.int .i64 e]) H):SetR Q (.tup [.agg [.int .i64 k,.int .i64 regs,cv,ov],.int .i64 e]) M:=by
 have hcl:(code.flatMap insC).length=code.length*5:=flat_len insC_len code
 have hle: ∀{M':AHeap}{b:Nat},Le H M'→H b=none→Le H (M'.upd b none):=fun{M' b} hl hb o x ho=>by
  rw[upd_other _ _ (by rintro rfl;rw[hb]at ho;cases ho)];exact hl o x ho
 rcases h.c with⟨rfl,hn,hc⟩|⟨hn,hl,b,b1,b2,b3,rfl,hb'⟩
 ·obtain rfl:=List.length_eq_zero_iff.1 hn
  rcases h.o with⟨rfl,hn2,hc2⟩|⟨hn2,hl2,c,c1,c2,c3,rfl,hc'⟩
  ·obtain rfl:=List.length_eq_zero_iff.1 hn2
   exact SetR.loose (SetR.dropTo h.le (SetR.now hq))
  ·refine SetR.loose (SetR.frz c hc' (SetR.dropTo (hle h.le c1) (SetR.now ?_)))
   have e1:=frz1_self (b:=c) hl2
   simp only[loose,loose2,loose1,frz,frz2,List.map_cons,List.map_nil,e1]
   exact hq
 ·rcases h.o with⟨rfl,hn2,hc2⟩|⟨hn2,hl2,c,c1,c2,c3,rfl,hc'⟩
  ·obtain rfl:=List.length_eq_zero_iff.1 hn2
   refine SetR.loose (SetR.frz b hb' (SetR.dropTo (hle h.le b1) (SetR.now ?_)))
   have e1:=frz1_self (b:=b) hl
   simp only[loose,loose2,loose1,frz,frz2,List.map_cons,List.map_nil,e1]
   exact hq
  ·have hbc:b≠c:=by
    rintro rfl
    rcases h.ne b with hh|hh
    ·exact hh _ _ _ _ rfl
    ·exact hh _ _ _ _ rfl
   refine SetR.frz b hb' ?_
   have e1:=frz1_self (b:=b) hl
   have e2:frz1 b 5 (code.flatMap insC) (.own c (outs.length*1) 0 outs.length false)=.own c (outs.length*1) 0 outs.length false:=frz1_own (Ne.symm hbc)
   have e3:=frz1_self (b:=c) hl2
   refine SetR.frz c (by rw[upd_other _ _ (Ne.symm hbc)];exact hc') (SetR.dropTo (hle (hle h.le b1) c1) (SetR.now ?_))
   simp only[frz,frz2,frz1,List.map_cons,List.map_nil]at e1 e2 e3 ⊢
   simp only[e1,e2,e3]
   exact hq
theorem PM.setO{H M:AHeap}{p6 p7 b i:Nat}{k regs:Int}{code:List Ins}{outs:List Int}{cv ov:AV}{x:Int}(h:PM H M p6 p7 k regs code outs cv ov)(hov:ov=.own b (outs.length*1) 0 outs.length false)(hb:M b=some (.row 3 1 (outs.map fun n=>.int .i64 n)))(b1:H b=none)(b2:b≠p6)(b3:b≠p7)(hn:0<outs.length):
 PM H (M.upd b (some (.row 3 1 ((outs.map fun n=>AV.int .i64 n).set i (.int .i64 x))))) p6 p7 k regs code (outs.set i x) cv ov:=by
 refine⟨by rw[upd_other _ _ (Ne.symm b2)];exact h.p,by rw[upd_other _ _ (Ne.symm b3)];exact h.f,?_,.inr ⟨by simpa using hn,by simp,b,b1,b2,b3,by rw[List.length_set];exact hov,by rw[upd_same,List.map_set]⟩,h.ne,fun o y ho=>?_,h.h6,h.h7,h.n67⟩
 ·rcases h.c with hc|⟨o1,o2,c,o3,o4,o5,o6,o7⟩
  ·exact .inl hc
  ·have hcb:c≠b:=by
    rintro rfl
    rcases h.ne c with hh|hh
    ·exact hh _ _ _ _ o6
    ·exact hh _ _ _ _ hov
   exact .inr ⟨o1,o2,c,o3,o4,o5,o6,by rw[upd_other _ _ hcb];exact o7⟩
 ·rw[upd_other _ _ (by rintro rfl;rw[b1]at ho;cases ho)];exact h.le o y ho
theorem PM.side{Hb H M:AHeap}{p6 p7 q:Nat}{k regs:Int}{code:List Ins}{outs:List Int}{cv ov:AV}{x y:ABlk}(h:PM Hb M p6 p7 k regs code outs cv ov)(hl:Le H Hb)(hq:H q=none)(hb:Hb q=some y):PM H (M.upd q (some x)) p6 p7 k regs code outs cv ov:=by
 have hd:=h.drop hl
 have go: ∀{ty es n:Nat}{cells:List AV}{v:AV},RG Hb M p6 p7 ty es n cells v→RG H (M.upd q (some x)) p6 p7 ty es n cells v:=fun{ty es n cells v} r=>by
  rcases r with r|⟨h1,h2,b,h3,h4,h5,h6,h7⟩
  ·exact .inl r
  ·have hbq:b≠q:=by rintro rfl;rw[h3]at hb;cases hb
   have hbn:H b=none:=by
    cases e:H b with
    |none=>rfl
    |some z=>rw[hl b z e]at h3;cases h3
   exact .inr ⟨h1,h2,b,hbn,h4,h5,h6,by rw[upd_other _ _ hbq];exact h7⟩
 refine⟨?_,?_,go h.c,go h.o,h.ne,fun o z ho=>?_,hd.h6,hd.h7,hd.n67⟩
 ·rw[upd_other _ _ (by rintro rfl;rw[h.h6]at hb;cases hb)];exact h.p
 ·rw[upd_other _ _ (by rintro rfl;rw[h.h7]at hb;cases hb)];exact h.f
 ·rw[upd_other _ _ (by rintro rfl;rw[hq]at ho;cases ho)];exact hd.le o z ho
theorem scalI_len{to c:Int}: ∀(n:Nat)(a:Int)(code:List Ins),(scalI to c n a code).length≤code.length+n
 |0,a,code=>Nat.le_refl _
 |n+1,a,code=>by
  have h1:=scalI_len (to:=to) (c:=c) n to (addI code (timesI to a c))
  have h2:=addI_len code (timesI to a c)
  show(scalI to c n to (addI code (timesI to a c))).length≤_
  omega
theorem program_yes{H:AHeap}{Q:AV→AHeap→Prop}{k:Nat}{l:List Pt}{t:Bool}(hT:Tz64H H)(hk1:1≤k)(hk8:k≤8)(hp:ptsOK l)(hq:Q (.tup [ProgA (progP k l),.int .i64 ((0:Nat):Int)]) H):Run Tryd.prog 46 [.int .i64 (k:Int),PtsA l t] H Q:=by
 have hl:l.length<9223372036854775808:=by have:=hp.2.2;omega
 have hl15:=hp.2.2
 refine enter46 (by simp) ?_
 simp(disch:=first|exact Xe|fail)only[ac46,↓Xa,Xb,Xc,↓reduceIte,Nat.reduceLT,Nat.reduceEqDiff,Nat.reduceBEq,Nat.reduceLeDiff,Nat.reduceAdd,Nat.reduceMul]
 refine alloc_i fun p4 n4=>?_
 have d1:decide ((k:Int)<((1:Nat):Int))=false:=decide_eq_false (by omega)
 have d2:decide (((8:Nat):Int)<(k:Int))=false:=decide_eq_false (by omega)
 simp(disch:=first|exact Xe|fail)only[lss_int,gtr_int,d1,d2,↓Xa,Xb,Xc,↓reduceIte,Nat.reduceLT,Nat.reduceEqDiff,Nat.reduceBEq,Nat.reduceLeDiff,Nat.reduceAdd,Nat.reduceMul]
 refine(points_fn hl).call ?_
 simp(disch:=first|exact Xe|fail)only[decide_eq_true hp,len_PtsA hl,↓Xa,Xb,Xc,↓reduceIte,Nat.reduceLT,Nat.reduceEqDiff,Nat.reduceBEq,Nat.reduceLeDiff,Nat.reduceAdd,Nat.reduceMul]
 generalize hHb:H.upd p4 (some (.row 25 0 [.int .i64 ((0:Nat):Int),.int .i64 ((0:Nat):Int),.seq 0 [] true,.seq 0 [] true]))=Hb at*
 have hleb:Le H Hb:=hHb▸(Le.refl H).updB n4
 refine alloc_i fun p6 n6=>?_
 simp(disch:=first|exact Xe|fail)only[cells_P4 (x:=.seq 0 [] true) (y:=.seq 0 [] true) rfl rfl,↓Xa,Xb,Xc,↓reduceIte,Nat.reduceLT,Nat.reduceEqDiff,Nat.reduceBEq,Nat.reduceLeDiff,Nat.reduceAdd,Nat.reduceMul]
 refine alloc_i fun p7 n7=>?_
 obtain⟨a76,n7'⟩:=upd_none.1 n7
 simp(disch:=first|exact Xe|fail)only[a76,a76.symm,len_PtsA hl,cells_fn,↓Xa,Xb,Xc,↓reduceIte,Nat.reduceLT,Nat.reduceEqDiff,Nat.reduceBEq,Nat.reduceLeDiff,Nat.reduceAdd,Nat.reduceMul]
 have hp0:PM Hb ((Hb.upd p6 (some (.row 25 0 [.int .i64 (k:Int),.int .i64 ((k+l.length+1:Nat):Int),.seq 0 [] true,.seq 0 [] true]))).upd p7 (some (.row 145 0 [.fn (.func 82) [] [.ptr p6 4 0]]))) p6 p7 k ((k+l.length+1:Nat):Int) [] [] (.seq 0 [] true) (.seq 0 [] true):=
  ⟨by rw[upd_other _ _ (show p6≠p7 from a76.symm),upd_same],upd_same _ _ _,.inl ⟨rfl,rfl,rfl⟩,.inl ⟨rfl,rfl,rfl⟩,fun b=>.inl (fun L off n t e=>by cases e),((Le.refl Hb).updB n6).updB n7',n6,n7',a76.symm⟩
 generalize((Hb.upd p6 (some (.row 25 0 [.int .i64 (k:Int),.int .i64 ((k+l.length+1:Nat):Int),.seq 0 [] true,.seq 0 [] true]))).upd p7 (some (.row 145 0 [.fn (.func 82) [] [.ptr p6 4 0]])))=M0 at*
 have hTb:Tz64H Hb:=hT.le hleb
 refine W_loop (fun s:Nat×List Ins×AV×AV×AHeap=>⟨[],[(0,.int .i64 (k:Int)),(4,.ptr p4 4 0),(6,.ptr p6 4 0),(7,.ptr p7 1 0),(8,.int .i64 ((k+l.length:Nat):Int)),(9,.fn (.func 83) [] [.ptr p7 1 0]),(41,PtsA l t),(42,.int .i64 (l.length:Int)),(43,.int .i64 s.1)],s.2.2.2.2⟩)
  (fun s=>s.1≤l.length∧codeI k l.length (l.drop s.1) s.1 s.2.1=codeI k l.length l 0 []∧s.2.1.length≤s.1*1000∧PM Hb s.2.2.2.2 p6 p7 k ((k+l.length+1:Nat):Int) s.2.1 ((List.range s.1).map (outI k)) s.2.2.1 s.2.2.2.1) (fun s=>l.length-s.1) (0,[],.seq 0 [] true,.seq 0 [] true,M0) (Settle.now rfl) ⟨Nat.zero_le _,rfl,Nat.zero_le _,hp0⟩ ?_
 rintro⟨i,co,cv,ov,M⟩ ⟨e1,e2,e3,hp1⟩
 dsimp only at e1 e2 e3 hp1 ⊢
 by_cases hi:i<l.length
 ·have hin:=hp.1 _ (List.getElem_mem hi)
  have hAB: -16≤(l[i]).a∧(l[i]).a≤16∧ -16≤(l[i]).b∧(l[i]).b≤16:=of_decide_eq_true hin
  have hdrop:l.drop i=l[i]::l.drop (i+1):=List.drop_eq_getElem_cons hi
  rw[hdrop]at e2
  simp(disch:=first|exact Xe|fail)only[hi,idx_PtsA hi,load_PtsA hi,↓Xa,Xb,Xc,↓reduceIte,Nat.reduceLT,Nat.reduceEqDiff,Nat.reduceBEq,Nat.reduceLeDiff,Nat.reduceAdd,Nat.reduceMul]
  generalize l[i]=q at*
  refine alloc_i fun p11 n11=>?_
  have hp2:=hp1.under (x:=.row 73 0 [.int .i64 q.a,.int .i64 q.b]) n11
  have g6:=hp2.p
  have g11:(Hb.upd p11 (some (.row 73 0 [.int .i64 q.a,.int .i64 q.b]))) p11=some (.row 73 0 [.int .i64 q.a,.int .i64 q.b]):=upd_same _ _ _
  have hTq:Tz64H (Hb.upd p11 (some (.row 73 0 [.int .i64 q.a,.int .i64 q.b]))):=hTb.le ((Le.refl Hb).updB (by
   cases e:Hb p11 with
   |none=>rfl
   |some x=>rw[hp1.le p11 x e]at n11;cases n11))
  have hlq:Le Hb (Hb.upd p11 (some (.row 73 0 [.int .i64 q.a,.int .i64 q.b]))):=(Le.refl Hb).updB (by
   cases e:Hb p11 with
   |none=>rfl
   |some x=>rw[hp1.le p11 x e]at n11;cases n11)
  generalize(Hb.upd p11 (some (.row 73 0 [.int .i64 q.a,.int .i64 q.b])))=Hq at*
  simp(disch:=first|exact Xe|fail)only[cells_PtV,↓Xa,Xb,Xc,↓reduceIte,Nat.reduceLT,Nat.reduceEqDiff,Nat.reduceBEq,Nat.reduceLeDiff,Nat.reduceAdd,Nat.reduceMul]
  generalize(M.upd p11 (some (.row 73 0 [.int .i64 q.a,.int .i64 q.b])))=M1 at*
  simp(disch:=first|exact Xe|fail)only[g6,repO1,↓Xa,Xb,Xc,↓reduceIte,Nat.reduceLT,Nat.reduceEqDiff,Nat.reduceBEq,Nat.reduceLeDiff,Nat.reduceAdd,Nat.reduceMul]
  have hol:((List.range i).map (outI k)).length=i:=by simp
  refine PM.appO (i:=((k+i:Nat):Int)) hp2 (by omega) fun ov' M2 m1 m2 m3=>?_
  simp(disch:=first|exact Xe|fail)only[m1,m2,↓Xa,Xb,Xc,↓reduceIte,Nat.reduceLT,Nat.reduceEqDiff,Nat.reduceBEq,Nat.reduceLeDiff,Nat.reduceAdd,Nat.reduceMul]
  generalize(M2.upd p6 (some (.row 25 0 [.int .i64 (k:Int),.int .i64 ((k+l.length+1:Nat):Int),cv,ov'])))=M3 at*
  have k6:=m3.p
  by_cases hk:k=1
  ·have dk:decide (k=1)=true:=decide_eq_true hk
   rcases m3.o with⟨_,h0,_⟩|⟨h0,hbl,b,b1,b2,b3,hov,hb'⟩
   ·simp at h0
   have hmap:((((List.range i).map (outI k))++[((k+i:Nat):Int)]).map fun n=>AV.int .i64 n).length=((List.range i).map (outI k)).length+1:=by simp
   have hset:=m3.setO (i:=i) (x:=0) hov hb' b1 b2 b3 h0
   have eo:(((List.range i).map (outI k))++[((k+i:Nat):Int)]).set i 0=(List.range (i+1)).map (outI k):=by
    rw[List.set_append_right _ _ (by simp),List.range_succ,List.map_append,List.map_singleton]
    simp[outI,hk]
   rw[eo]at hset
   simp(disch:=first|exact Xe|fail)only[eql_int,dk,k6,hov,↓Xa,Xb,Xc,↓reduceIte,Nat.reduceLT,Nat.reduceEqDiff,Nat.reduceBEq,Nat.reduceLeDiff,Nat.reduceAdd,Nat.reduceMul]
   rw[hb']
   refine⟨hmap,(stP_1 (x:=.int .i64 ((0:Nat):Int)) hmap (by simp)).2 ?_⟩
   simp(disch:=first|exact Xe|fail)only[↓Xa,Xb,Xc,↓reduceIte,Nat.reduceLT,Nat.reduceEqDiff,Nat.reduceBEq,Nat.reduceLeDiff,Nat.reduceAdd,Nat.reduceMul]
   exact Settle.now ⟨(i+1,co,cv,ov',_),by dsimp only;omega,⟨by dsimp only;omega,by dsimp only;rw[← e2,codeI,pointI,if_pos hk],by dsimp only;omega,hset.drop hlq⟩,rfl⟩
  have dk:decide (k=1)=false:=decide_eq_false hk
  have k11:=m3.le _ _ g11
  have eo:((List.range i).map (outI k))++[((k+i:Nat):Int)]=(List.range (i+1)).map (outI k):=by
   rw[List.range_succ,List.map_append,List.map_singleton,outI,if_neg hk]
  rw[eo]at m3
  have next: ∀{co':List Ins}{cv':AV}{M':AHeap},PM Hq M' p6 p7 k ((k+l.length+1:Nat):Int) co' ((List.range (i+1)).map (outI k)) cv' ov'→pointI k ((k+l.length:Nat):Int) ((k+i:Nat):Int) q.a q.b co=co'→co'.length≤co.length+1000→
   ∃s:Nat×List Ins×AV×AV×AHeap,l.length-s.1<l.length-i∧(s.1≤l.length∧codeI k l.length (l.drop s.1) s.1 s.2.1=codeI k l.length l 0 []∧s.2.1.length≤s.1*1000∧PM Hb s.2.2.2.2 p6 p7 k ((k+l.length+1:Nat):Int) s.2.1 ((List.range s.1).map (outI k)) s.2.2.1 s.2.2.2.1)∧
    (⟨[],[(0,.int .i64 (k:Int)),(4,.ptr p4 4 0),(6,.ptr p6 4 0),(7,.ptr p7 1 0),(8,.int .i64 ((k+l.length:Nat):Int)),(9,.fn (.func 83) [] [.ptr p7 1 0]),(41,PtsA l t),(42,.int .i64 (l.length:Int)),(43,.int .i64 ((i+1:Nat):Int))],M'⟩:St)=
    ⟨[],[(0,.int .i64 (k:Int)),(4,.ptr p4 4 0),(6,.ptr p6 4 0),(7,.ptr p7 1 0),(8,.int .i64 ((k+l.length:Nat):Int)),(9,.fn (.func 83) [] [.ptr p7 1 0]),(41,PtsA l t),(42,.int .i64 (l.length:Int)),(43,.int .i64 s.1)],s.2.2.2.2⟩:=fun{co' cv' M'} hm he hlen=>
   ⟨(i+1,co',cv',ov',M'),by dsimp only;omega,⟨by dsimp only;omega,by dsimp only;rw[← he];exact e2,by dsimp only;omega,hm.drop hlq⟩,rfl⟩
  by_cases hA:q.a=0
  ·have dA:decide (q.a=((0:Nat):Int))=true:=decide_eq_true (by omega)
   by_cases hB:q.b=0
   ·have dB:decide (q.b=((0:Nat):Int))=true:=decide_eq_true (by omega)
    simp(disch:=first|exact Xe|fail)only[eql_int,dk,k11,dA,dB,m3.f,↓Xa,Xb,Xc,↓reduceIte,Nat.reduceLT,Nat.reduceEqDiff,Nat.reduceBEq,Nat.reduceLeDiff,Nat.reduceAdd,Nat.reduceMul]
    refine run_call (add11_run (i:=⟨((4:Nat):Int),((k+i:Nat):Int),((0:Nat):Int),((0:Nat):Int),((0:Nat):Int)⟩) m3 (by omega) fun M4 cv4 hp4=>?_)
    simp(disch:=first|exact Xe|fail)only[↓Xa,Xb,Xc,↓reduceIte,Nat.reduceLT,Nat.reduceEqDiff,Nat.reduceBEq,Nat.reduceLeDiff,Nat.reduceAdd,Nat.reduceMul]
    exact Settle.now (next hp4 (by rw[pointI,if_neg hk,if_pos ⟨hA,hB⟩];rfl) (by have:=addI_len co ⟨((4:Nat):Int),((k+i:Nat):Int),((0:Nat):Int),((0:Nat):Int),((0:Nat):Int)⟩;omega))
   ·have dB:decide (q.b=((0:Nat):Int))=false:=decide_eq_false (by omega)
    simp(disch:=first|exact Xe|fail)only[eql_int,dk,k11,dA,dB,m3.f,↓Xa,Xb,Xc,↓reduceIte,Nat.reduceLT,Nat.reduceEqDiff,Nat.reduceBEq,Nat.reduceLeDiff,Nat.reduceAdd,Nat.reduceMul]
    refine run_call (scaled11_run (n:=k-1) hTq m3 hB hAB.2.2.1 hAB.2.2.2 (by omega) (by omega) fun M4 cv4 hp4=>?_)
    simp(disch:=first|exact Xe|fail)only[↓Xa,Xb,Xc,↓reduceIte,Nat.reduceLT,Nat.reduceEqDiff,Nat.reduceBEq,Nat.reduceLeDiff,Nat.reduceAdd,Nat.reduceMul]
    exact Settle.now (next hp4 (by rw[pointI,if_neg hk,if_neg (fun h=>hB h.2),if_pos hA];rfl) (by have:=scalI_len (to:=((k+i:Nat):Int)) (c:=q.b) (k-1) ((0:Nat):Int) co;omega))
  have dA:decide (q.a=((0:Nat):Int))=false:=decide_eq_false (by omega)
  by_cases hB:q.b=0
  ·have dB:decide (q.b=((0:Nat):Int))=true:=decide_eq_true (by omega)
   simp(disch:=first|exact Xe|fail)only[eql_int,dk,k11,dA,dB,m3.f,↓Xa,Xb,Xc,↓reduceIte,Nat.reduceLT,Nat.reduceEqDiff,Nat.reduceBEq,Nat.reduceLeDiff,Nat.reduceAdd,Nat.reduceMul]
   refine run_call (scaled11_run (n:=k-1) hTq m3 hA hAB.1 hAB.2.1 (by omega) (by omega) fun M4 cv4 hp4=>?_)
   simp(disch:=first|exact Xe|fail)only[↓Xa,Xb,Xc,↓reduceIte,Nat.reduceLT,Nat.reduceEqDiff,Nat.reduceBEq,Nat.reduceLeDiff,Nat.reduceAdd,Nat.reduceMul]
   exact Settle.now (next hp4 (by rw[pointI,if_neg hk,if_neg (fun h=>hA h.1),if_neg hA,if_pos hB]) (by have:=scalI_len (to:=((k+i:Nat):Int)) (c:=q.a) (k-1) ((k-1:Nat):Int) co;omega))
  have dB:decide (q.b=((0:Nat):Int))=false:=decide_eq_false (by omega)
  have hstart:((k-2:Nat):Int)=dn (k-1):=by rw[show k-1=(k-2)+1 by omega,dn_succ]
  simp(disch:=first|exact Xe|fail)only[eql_int,dk,k11,dA,dB,m3.f,↓Xa,Xb,Xc,↓reduceIte,Nat.reduceLT,Nat.reduceEqDiff,Nat.reduceBEq,Nat.reduceLeDiff,Nat.reduceAdd,Nat.reduceMul]
  have hcl3:co.length≤15000:=by omega
  have ept:pointI k ((k+l.length:Nat):Int) ((k+i:Nat):Int) q.a q.b co=downI k ((k+i:Nat):Int) ((k+l.length:Nat):Int) q.a q.b (k-1) ((k-1:Nat):Int) co:=by
   rw[pointI,if_neg hk,if_neg (fun h=>hA h.1),if_neg hA,if_neg hB]
  refine W_loop (fun s:Nat×Nat×List Ins×AV×AHeap=>⟨[],[(0,.int .i64 (k:Int)),(4,.ptr p4 4 0),(6,.ptr p6 4 0),(7,.ptr p7 1 0),(8,.int .i64 ((k+l.length:Nat):Int)),(9,.fn (.func 83) [] [.ptr p7 1 0]),(11,.ptr p11 2 0),(12,.int .i64 ((k+i:Nat):Int)),(13,.int .i64 (s.2.1:Int)),(14,.int .i64 (dn s.1)),(41,PtsA l t),(42,.int .i64 (l.length:Int)),(43,.int .i64 (i:Int))],s.2.2.2.2⟩)
   (fun s=>s.1≤k-1∧downI k ((k+i:Nat):Int) ((k+l.length:Nat):Int) q.a q.b s.1 s.2.1 s.2.2.1=downI k ((k+i:Nat):Int) ((k+l.length:Nat):Int) q.a q.b (k-1) ((k-1:Nat):Int) co∧s.2.2.1.length≤co.length+(k-1-s.1)*20∧PM Hq s.2.2.2.2 p6 p7 k ((k+l.length+1:Nat):Int) s.2.2.1 ((List.range (i+1)).map (outI k)) s.2.2.2.1 ov') (fun s=>s.1) (k-1,k-1,co,cv,M3) (Settle.now (by dsimp only;rw[hstart])) ⟨Nat.le_refl _,rfl,by dsimp only;omega,m3⟩ ?_
  rintro⟨J,fr,c2,cv2,M4⟩ ⟨f1,f2,f3,hp4⟩
  dsimp only at f1 f2 f3 hp4 ⊢
  have j11:=hp4.le _ _ g11
  cases J with
  |zero=>
   have dz:decide (((0:Nat):Int)≤ -1)=false:=by decide
   simp(disch:=first|exact Xe|fail)only[dn_zero,geqI,dz,↓Xa,Xb,Xc,↓reduceIte,Nat.reduceLT,Nat.reduceEqDiff,Nat.reduceBEq,Nat.reduceLeDiff,Nat.reduceAdd,Nat.reduceMul]
   refine Settle.now ?_
   simp(disch:=first|exact Xe|fail)only[↓Xa,Xb,Xc,↓reduceIte,Nat.reduceLT,Nat.reduceEqDiff,Nat.reduceBEq,Nat.reduceLeDiff,Nat.reduceAdd,Nat.reduceMul]
   exact Settle.now (next hp4 (by rw[ept,← f2];rfl) (by omega))
  |succ J=>
   have dz:decide (((0:Nat):Int)≤(J:Int))=true:=decide_eq_true (by omega)
   have hJ1:J≤k-1:=by omega
   have hJk:J<9223372036854775808:=by omega
   have hl2:c2.length≤16000:=by omega
   simp(disch:=first|exact Xe|fail)only[dn_succ,geqI,dz,hp4.f,j11,↓Xa,Xb,Xc,↓reduceIte,Nat.reduceLT,Nat.reduceEqDiff,Nat.reduceBEq,Nat.reduceLeDiff,Nat.reduceAdd,Nat.reduceMul]
   refine times11_dcall (hTq.le hp4.le) hA hAB.1 hAB.2.1 ?_
   simp(disch:=first|exact Xe|fail)only[↓Xa,Xb,Xc,↓reduceIte,Nat.reduceLT,Nat.reduceEqDiff,Nat.reduceBEq,Nat.reduceLeDiff,Nat.reduceAdd,Nat.reduceMul]
   refine run_call (add11_run hp4 (by omega) fun M5 cv5 hp5=>?_)
   have i11:=hp5.le _ _ g11
   have hl5:=addI_len c2 (timesI ((k+i:Nat):Int) (fr:Int) q.a)
   generalize hc5:addI c2 (timesI ((k+i:Nat):Int) (fr:Int) q.a)=c5 at*
   have back: ∀{c6:List Ins}{cv6:AV}{M6:AHeap},PM Hq M6 p6 p7 k ((k+l.length+1:Nat):Int) c6 ((List.range (i+1)).map (outI k)) cv6 ov'→stepI k ((k+i:Nat):Int) ((k+l.length:Nat):Int) q.a q.b (fr:Int) J c2=c6→c6.length≤c5.length+10→
    ∃s:Nat×Nat×List Ins×AV×AHeap,s.1<J+1∧(s.1≤k-1∧downI k ((k+i:Nat):Int) ((k+l.length:Nat):Int) q.a q.b s.1 s.2.1 s.2.2.1=downI k ((k+i:Nat):Int) ((k+l.length:Nat):Int) q.a q.b (k-1) ((k-1:Nat):Int) co∧s.2.2.1.length≤co.length+(k-1-s.1)*20∧PM Hq s.2.2.2.2 p6 p7 k ((k+l.length+1:Nat):Int) s.2.2.1 ((List.range (i+1)).map (outI k)) s.2.2.2.1 ov')∧
     (⟨[],[(0,.int .i64 (k:Int)),(4,.ptr p4 4 0),(6,.ptr p6 4 0),(7,.ptr p7 1 0),(8,.int .i64 ((k+l.length:Nat):Int)),(9,.fn (.func 83) [] [.ptr p7 1 0]),(11,.ptr p11 2 0),(12,.int .i64 ((k+i:Nat):Int)),(13,.int .i64 ((k+i:Nat):Int)),(14,.int .i64 (dn J)),(41,PtsA l t),(42,.int .i64 (l.length:Int)),(43,.int .i64 (i:Int))],M6⟩:St)=
     ⟨[],[(0,.int .i64 (k:Int)),(4,.ptr p4 4 0),(6,.ptr p6 4 0),(7,.ptr p7 1 0),(8,.int .i64 ((k+l.length:Nat):Int)),(9,.fn (.func 83) [] [.ptr p7 1 0]),(11,.ptr p11 2 0),(12,.int .i64 ((k+i:Nat):Int)),(13,.int .i64 (s.2.1:Int)),(14,.int .i64 (dn s.1)),(41,PtsA l t),(42,.int .i64 (l.length:Int)),(43,.int .i64 (i:Int))],s.2.2.2.2⟩:=fun{c6 cv6 M6} hm he hlen=>
    ⟨(J,k+i,c6,cv6,M6),by dsimp only;omega,⟨by dsimp only;omega,by dsimp only;rw[← f2,downI,he],by dsimp only;rw[show k-1-J=(k-1-(J+1))+1 by omega];omega,hm⟩,rfl⟩
   by_cases hB1:q.b=1
   ·have dB1:decide (q.b=((1:Nat):Int))=true:=decide_eq_true hB1
    simp(disch:=first|exact Xe|fail)only[eql_int,i11,dB1,hp5.f,↓Xa,Xb,Xc,↓reduceIte,Nat.reduceLT,Nat.reduceEqDiff,Nat.reduceBEq,Nat.reduceLeDiff,Nat.reduceAdd,Nat.reduceMul]
    refine run_call (add11_run (i:=⟨((3:Nat):Int),((k+i:Nat):Int),((k+i:Nat):Int),(J:Int),((0:Nat):Int)⟩) hp5 (by omega) fun M6 cv6 hp6=>?_)
    simp(disch:=first|exact Xe|fail)only[bin_dec hJk,↓Xa,Xb,Xc,↓reduceIte,Nat.reduceLT,Nat.reduceEqDiff,Nat.reduceBEq,Nat.reduceLeDiff,Nat.reduceAdd,Nat.reduceMul]
    exact Settle.now (back hp6 (by rw[stepI,if_pos (.inl hB1),hc5];rfl) (by have:=addI_len c5 ⟨((3:Nat):Int),((k+i:Nat):Int),((k+i:Nat):Int),(J:Int),((0:Nat):Int)⟩;omega))
   have dB1:decide (q.b=((1:Nat):Int))=false:=decide_eq_false hB1
   by_cases hBm:q.b= -1
   ·have dBm:decide (q.b= -1)=true:=decide_eq_true hBm
    by_cases hev:(k-1-J)%2=0
    ·simp(disch:=first|exact Xe|fail)only[eql_int,i11,dB1,dBm,hp5.f,bin_rem,hev,↓Xa,Xb,Xc,↓reduceIte,Nat.reduceLT,Nat.reduceEqDiff,Nat.reduceBEq,Nat.reduceLeDiff,Nat.reduceAdd,Nat.reduceMul]
     refine⟨by decide,?_⟩
     refine run_call (add11_run (i:=⟨((3:Nat):Int),((k+i:Nat):Int),((k+i:Nat):Int),(J:Int),((0:Nat):Int)⟩) hp5 (by omega) fun M6 cv6 hp6=>?_)
     simp(disch:=first|exact Xe|fail)only[bin_dec hJk,↓Xa,Xb,Xc,↓reduceIte,Nat.reduceLT,Nat.reduceEqDiff,Nat.reduceBEq,Nat.reduceLeDiff,Nat.reduceAdd,Nat.reduceMul]
     exact Settle.now (back hp6 (by rw[stepI,if_pos (.inr ⟨hBm,hev⟩),hc5];rfl) (by have:=addI_len c5 ⟨((3:Nat):Int),((k+i:Nat):Int),((k+i:Nat):Int),(J:Int),((0:Nat):Int)⟩;omega))
    ·have dev:decide ((((k-1-J)%2:Nat):Int)=((0:Nat):Int))=false:=decide_eq_false (by omega)
     simp(disch:=first|exact Xe|fail)only[eql_int,i11,dB1,dBm,hp5.f,bin_rem,dev,↓Xa,Xb,Xc,↓reduceIte,Nat.reduceLT,Nat.reduceEqDiff,Nat.reduceBEq,Nat.reduceLeDiff,Nat.reduceAdd,Nat.reduceMul]
     refine⟨by decide,?_⟩
     refine run_call (add11_run (i:=⟨((4:Nat):Int),((k+i:Nat):Int),((k+i:Nat):Int),(J:Int),((0:Nat):Int)⟩) hp5 (by omega) fun M6 cv6 hp6=>?_)
     simp(disch:=first|exact Xe|fail)only[bin_dec hJk,↓Xa,Xb,Xc,↓reduceIte,Nat.reduceLT,Nat.reduceEqDiff,Nat.reduceBEq,Nat.reduceLeDiff,Nat.reduceAdd,Nat.reduceMul]
     exact Settle.now (back hp6 (by rw[stepI,if_neg (fun h=>h.elim hB1 fun h=>hev h.2),if_pos hBm,hc5];rfl) (by have:=addI_len c5 ⟨((4:Nat):Int),((k+i:Nat):Int),((k+i:Nat):Int),(J:Int),((0:Nat):Int)⟩;omega))
   have dBm:decide (q.b= -1)=false:=decide_eq_false hBm
   simp(disch:=first|exact Xe|fail)only[eql_int,i11,dB1,dBm,hp5.f,↓Xa,Xb,Xc,↓reduceIte,Nat.reduceLT,Nat.reduceEqDiff,Nat.reduceBEq,Nat.reduceLeDiff,Nat.reduceAdd,Nat.reduceMul]
   refine run_call (scaled11_run (n:=k-1-J) hTq hp5 hB hAB.2.2.1 hAB.2.2.2 (by omega) (by omega) fun M6 cv6 hp6=>?_)
   have hl6:=scalI_len (to:=((k+l.length:Nat):Int)) (c:=q.b) (k-1-J) (J:Int) c5
   simp(disch:=first|exact Xe|fail)only[hp6.f,↓Xa,Xb,Xc,↓reduceIte,Nat.reduceLT,Nat.reduceEqDiff,Nat.reduceBEq,Nat.reduceLeDiff,Nat.reduceAdd,Nat.reduceMul]
   refine run_call (add11_run (i:=⟨((3:Nat):Int),((k+i:Nat):Int),((k+i:Nat):Int),((k+l.length:Nat):Int),((0:Nat):Int)⟩) hp6 (by omega) fun M7 cv7 hp7=>?_)
   simp(disch:=first|exact Xe|fail)only[bin_dec hJk,↓Xa,Xb,Xc,↓reduceIte,Nat.reduceLT,Nat.reduceEqDiff,Nat.reduceBEq,Nat.reduceLeDiff,Nat.reduceAdd,Nat.reduceMul]
   exact Settle.now (back hp7 (by rw[stepI,if_neg (fun h=>h.elim hB1 fun h=>hBm h.1),if_neg hBm,hc5];rfl) (by have:=addI_len (scalI ((k+l.length:Nat):Int) q.b (k-1-J) (J:Int) c5) ⟨((3:Nat):Int),((k+i:Nat):Int),((k+i:Nat):Int),((k+l.length:Nat):Int),((0:Nat):Int)⟩;omega))
 ·obtain rfl:i=l.length:=by omega
  have g6:=hp1.p
  have g4:Hb p4=some (.row 25 0 [.int .i64 ((0:Nat):Int),.int .i64 ((0:Nat):Int),.seq 0 [] true,.seq 0 [] true]):=by rw[← hHb,upd_same]
  have g4':=hp1.le _ _ g4
  rw[List.drop_length]at e2
  have e2':co=codeI k l.length l 0 []:=e2
  simp(disch:=first|exact Xe|fail)only[hi,↓Xa,Xb,Xc,↓reduceIte,Nat.reduceLT,Nat.reduceEqDiff,Nat.reduceBEq,Nat.reduceLeDiff,Nat.reduceAdd,Nat.reduceMul]
  refine Settle.now ?_
  simp(disch:=first|exact Xe|fail)only[g6,g4',cells_P4 hp1.c.cell hp1.o.cell,rs46,↓Xa,Xb,Xc,↓reduceIte,Nat.reduceLT,Nat.reduceEqDiff,Nat.reduceBEq,Nat.reduceLeDiff,Nat.reduceAdd,Nat.reduceMul]
  refine prog_fin (hp1.side hleb n4 g4) ?_
  rw[e2']
  exact hq
theorem program11_run{H:AHeap}{Q:AV→AHeap→Prop}{k:Int}{l:List Pt}{t:Bool}(hT:Tz64H H)(hl:l.length<9223372036854775808)(hq:Q (.tup [ProgA (prA k l),.int .i64 ((prE k l:Nat):Int)]) H):Run Tryd.prog 46 [.int .i64 k,PtsA l t] H Q:=by
 by_cases h:rightK k l
 ·obtain⟨n,rfl⟩: ∃n:Nat,k=(n:Int):=⟨k.toNat,by have:=h.1;omega⟩
  rw[prA,prE,if_pos h,if_pos h]at hq
  exact program_yes hT (by have:=h.1;omega) (by have:=h.1;omega) h.2 hq
 ·rw[prA,prE,if_neg h,if_neg h]at hq
  exact program_no hl h H Q hq
structure MachIn(H:AHeap)(mb br:Nat)(p:PR)(N n L k:Nat)(regs:List (List Int)):Prop where
 m:H mb=some (.row 102 0 (machC p (.own br N 0 N false) n))
 b:H br=some (.row 31 1 (GI regs))
 ne:mb≠br
 len:regs.length=N
 pN:p.regs=(N:Int)
 right:rightP p
 good:GoodG k L regs
 hk:k≤90000
 hL:L≤100000
 hn:n≤p.code.length
section
variable {H:AHeap} {Q:AV→AHeap→Prop} {mb br N n L k:Nat} {p:PR} {regs:List (List Int)}
theorem MachIn.cells(h:MachIn H mb br p N n L k regs):H mb=some (.row 102 0 [.int .i64 p.ins,.int .i64 p.regs,CodeA p.code false,OutsA p.outs false,.own br N 0 N false,.int .i64 n]):=h.m
theorem MachIn.lc(h:MachIn H mb br p N n L k regs):p.code.length<9223372036854775808∧p.outs.length<9223372036854775808:=by
 have hh:=h.right.1
 unfold headP at hh
 omega
theorem MachIn.step(h:MachIn H mb br p N n L k regs)(hk:k+3≤90000)(hT: ∀i,i∈p.code→i.op=8→TzH H)
 (hq0:n=p.code.length→Q (.int .i64 ((4:Nat):Int)) H)
 (hq1: ∀hn:n<p.code.length,∀x H',doR p.code[n] (regs.getD (p.code[n]).a.toNat []) (regs.getD (p.code[n]).b.toNat [])=some x→MachIn H' mb br p N (n+1) L (k+3) (regs.set (p.code[n]).to.toNat x)→(∀o v,o≠mb→o≠br→H o=some v→H' o=some v)→Q (.int .i64 ((0:Nat):Int)) H')
 (hq2: ∀hn:n<p.code.length,doR p.code[n] (regs.getD (p.code[n]).a.toNat []) (regs.getD (p.code[n]).b.toNat [])=none→Q (.int .i64 ((20:Nat):Int)) H):
 Run Tryd.prog 20 [.ptr mb 6 0] H Q:=by
 refine step_run h.m h.b h.ne h.len h.pN h.right h.good h.hk h.hL h.hn hT hq0 (fun hn x hdo hbx hxl=>hq1 hn x _ hdo ⟨upd_same _ _ _,by rw[upd_other _ _ (Ne.symm h.ne),upd_same],h.ne,by rw[List.length_set,h.len],h.pN,h.right,fun r hm=>?_,hk,h.hL,hn⟩ fun o v h1 h2 ho=>by rw[upd_other _ _ h1,upd_other _ _ h2];exact ho) hq2
 rcases List.mem_or_eq_of_mem_set hm with hm|rfl
 ·exact⟨(h.good r hm).1,(h.good r hm).2.mono (by omega)⟩
 ·exact⟨hxl,hbx⟩
end
section
variable {g:List (List Int)} {t1 t2:Bool}
end
theorem Wk.prog{p:PR}{a b:Bool}:Wk (AV.agg [.int .i64 p.ins,.int .i64 p.regs,CodeA p.code a,OutsA p.outs b]) (ProgA p):=fun c v he=>by
 cases he with
 |agg _ vs hlen hc=>
  refine .agg _ _ hlen fun i hi hi'=>?_
  have:=hc i hi hi'
  match i,hi with
  |0,_=>exact this
  |1,_=>exact this
  |2,_=>exact Wk.l0 _ _ this
  |3,_=>exact Wk.l0 _ _ this
theorem Fr.row{zs:List Int}{H:AHeap}:Lent H (rI zs) (rI zs):=Lent.same
def sumR(a b:List Int):List Int:=zipI (· + ·) a b
def Add3(L N:Nat)(r s u:List (List Int)):Prop:=r.length=N∧s.length=N∧u.length=N∧∀j,j<N→(r.getD j []).length=L∧(s.getD j []).length=L∧u.getD j []=sumR (r.getD j []) (s.getD j [])
theorem Add3.set{L N:Nat}{r s u:List (List Int)}(h:Add3 L N r s u){k:Nat}(hk:k<N){x y:List Int}(lx:x.length=L)(ly:y.length=L):Add3 L N (r.set k x) (s.set k y) (u.set k (sumR x y)):=by
 obtain⟨h1,h2,h3,h4⟩:=h
 refine⟨by rw[List.length_set,h1],by rw[List.length_set,h2],by rw[List.length_set,h3],fun j hj=>?_⟩
 rw[getD_setL (by omega),getD_setL (by omega),getD_setL (by omega)]
 split
 ·exact⟨lx,ly,rfl⟩
 ·exact h4 j hj
theorem gridE0{p:PR}{g:List (List Int)}:gridE p g=0↔((rightP p∧(g.length:Int)=p.ins)∧(∀r,r∈g→r.length=(g.getD 0 []).length)∧(g.getD 0 []).length≤4096):=by
 unfold gridE
 by_cases c:rightP p∧(g.length:Int)=p.ins
 ·rw[if_pos c]
  by_cases c2:(∀r,r∈g→r.length=(g.getD 0 []).length)∧(g.getD 0 []).length≤4096
  ·rw[if_pos c2];exact⟨fun _=>⟨c,c2⟩,fun _=>rfl⟩
  ·rw[if_neg c2];exact⟨fun h=>absurd h (by decide),fun h=>absurd h.2 c2⟩
 ·have hne:rgtE p (g.length:Int)≠0:=by
   unfold rgtE
   by_cases c2:rightP p
   ·rw[if_pos c2,if_neg fun e=>c ⟨c2,e⟩];decide
   ·rw[if_neg c2];decide
  rw[if_neg c];exact⟨fun h=>absurd h hne,fun h=>absurd h.1 c⟩
def long19(p:PR)(g:List (List Int)):Prop:=(80<p.code.length∧p.code.length≤16384)∨(40<p.regs∧p.regs≤128)∨300<sumN (g.map fun l=>l.length)
instance (p:PR)(g:List (List Int)):Decidable (long19 p g):=by unfold long19;infer_instance
theorem run_bdR{N L:Nat}(hL:L≤100000): ∀(code:List Ins)(r:List (List Int))(k:Nat),(∀i,i∈code→mayI (N:Int) i)→r.length=N→GoodG k L r→GoodG (k+3*code.length) L (runX doR [] code r).2
 |[],r,k,_,_,h=>h
 |i::l,r,k,hm,hN,h=>by
  have hi:=hm i (by simp)
  have hb:=mayI_b hi
  have ha:=hi.2.2
  have up:GoodG (k+3*(i::l).length) L r:=fun x hx=>⟨(h x hx).1,fun z hz=>((h x hx).2.1 z hz).mono (by omega),(h x hx).2.2⟩
  have at': ∀m:Nat,m<N→(r.getD m []).length=L∧RB4 k (r.getD m []):=fun m hm'=>by
   rw[List.getD_eq_getElem?_getD,List.getElem?_eq_getElem (by omega)];exact h _ (List.getElem_mem _)
  simp only[runX]
  cases e:doR i (r.getD i.a.toNat []) (r.getD i.b.toNat [])with
  |none=>exact up
  |some x=>
   obtain⟨la,ba⟩:=at' i.a.toNat (by omega)
   obtain⟨lb,bb⟩:=at' i.b.toNat (by omega)
   have lx:=(doR_len (by rw[la,lb]) e).trans la
   have hg:GoodG (k+3) L (r.set i.to.toNat x):=fun y hy=>by
    rcases List.mem_or_eq_of_mem_set hy with hy|rfl
    ·exact⟨(h y hy).1,fun z hz=>((h y hy).2.1 z hz).mono (by omega),(h y hy).2.2⟩
    ·refine⟨lx,fun z hz=>?_,by omega⟩
     obtain⟨m,hm',rfl⟩:=List.getElem_of_mem hz
     have q:=doR_at (by rw[la,lb]) e (k:=m) (by omega)
     have e1:(r.getD i.a.toNat []).getD m 0=(r.getD i.a.toNat [])[m]'(by omega):=by rw[List.getD_eq_getElem?_getD,List.getElem?_eq_getElem (by omega)];rfl
     have e2:(r.getD i.b.toNat []).getD m 0=(r.getD i.b.toNat [])[m]'(by omega):=by rw[List.getD_eq_getElem?_getD,List.getElem?_eq_getElem (by omega)];rfl
     have e3:y.getD m 0=y[m]:=by rw[List.getD_eq_getElem?_getD,List.getElem?_eq_getElem (by omega)];rfl
     rw[e1,e2,e3]at q
     exact doZ_bd hi (ba.1 _ (List.getElem_mem _)) (bb.1 _ (List.getElem_mem _)) q
   have:=run_bdR hL l _ (k+3) (fun j hj=>hm j (by simp[hj])) (by simpa using hN) hg
   rw[show k+3*(i::l).length=k+3+3*l.length by simp;omega]
   exact this
def noDiv(c:List Ins):Prop:= ∀i,i∈c→i.op≠6∧i.op≠8
instance (c:List Ins):Decidable (noDiv c):=by unfold noDiv;infer_instance
def wantG(k:Nat)(l:List Pt):List (List Int):=l.map fun q=>powsP q.a q.b k
def evQ(p:PR)(k:Int)(l:List Pt):Prop:=p.ins=k∧p.outs.length=l.length∧noDiv p.code∧outsR p (unitG k.toNat) k.toNat=wantG k.toNat l
instance (p:PR)(k:Int)(l:List Pt):Decidable (evQ p k l):=by unfold evQ;infer_instance
def evB(p:PR)(k:Int)(l:List Pt):Bool:=decide (rightK k l∧rightP p∧evQ p k l)
def evE(p:PR)(k:Int)(l:List Pt):Nat:=if rightK k l then(if rightP p then 0 else 80)else 2
theorem unitG_len{n:Nat}:(unitG n).length=n:=by simp[unitG]
theorem unitG_row{n:Nat}(hn:n≤8): ∀r,r∈unitG n→r.length=n∧RB4 1 r:=fun r hr=>by
 obtain⟨i,hi,rfl⟩:=List.mem_map.1 hr
 refine⟨by simp,fun z hz=>?_,by simp;omega⟩
 rcases List.mem_or_eq_of_mem_set hz with hz|rfl
 ·rw[(List.mem_replicate.1 hz).2];exact Bd.zero _
 ·unfold Bd;decide
theorem unitG_0{n:Nat}(h:0<n):((unitG n).getD 0 []).length=n:=by
 have:0<(unitG n).length:=by rw[unitG_len];exact h
 rw[List.getD_eq_getElem?_getD,List.getElem?_eq_getElem this];simp[unitG]
theorem doR_nodiv{i:Ins}{a b:List Int}(h:i.op≠6∧i.op≠8): ∃x,doR i a b=some x:=by
 unfold doR
 repeat' split
 all_goals first|exact⟨_,rfl⟩|omega
theorem run_nodiv: ∀(c:List Ins)(r:List (List Int)),noDiv c→(runX doR [] c r).1.length=c.length
 |[],_,_=>rfl
 |i::l,r,h=>by
  obtain⟨x,hx⟩:=doR_nodiv (a:=r.getD i.a.toNat []) (b:=r.getD i.b.toNat []) (h i (by simp))
  unfold runX
  rw[hx]
  simp only[List.length_cons]
  rw[run_nodiv l _ fun j hj=>h j (by simp[hj])]
theorem outsR_bd{p:PR}{g:List (List Int)}{k L:Nat}(hr:rightP p)(hlen:(g.length:Int)=p.ins)(hL:L≤4096)(hg: ∀r,r∈g→r.length=L)(hz: ∀r,r∈g→RB4 k r): ∀r,r∈outsR p g L→r.length=L∧RB4 (k+3*p.code.length) r:=fun r hm=>by
 have hh:=hr.1
 unfold headP at hh
 have hN:((p.regs.toNat:Nat):Int)=p.regs:=by omega
 have h1:GoodG k L (regsR p g L):=fun x hx=>by
  rcases List.mem_append.1 hx with hx|hx
  ·exact⟨hg x hx,hz x hx⟩
  ·obtain⟨_,rfl⟩:=List.mem_replicate.1 hx
   exact⟨by simp,fun z hz=>by
    obtain⟨_,rfl⟩:=List.mem_replicate.1 hz
    exact Bd.zero _,by simp;omega⟩
 have h2:=run_bdR (N:=p.regs.toNat) (by omega) p.code (regsR p g L) k (fun i hi=>by rw[hN];exact hr.2.2 i hi) (by simp[regsR];omega) h1
 obtain⟨n,hn,rfl⟩:=List.mem_map.1 hm
 have hn2:=hr.2.1 n hn
 have hlen:(runX doR [] p.code (regsR p g L)).2.length=p.regs.toNat:=by rw[runX_regs];simp[regsR];omega
 have e:(runX doR [] p.code (regsR p g L)).2.getD n.toNat []=(runX doR [] p.code (regsR p g L)).2[n.toNat]'(by omega):=by rw[List.getD_eq_getElem?_getD,List.getElem?_eq_getElem (by omega)];rfl
 rw[e]
 exact h2 _ (List.getElem_mem (by omega:n.toNat<(runX doR [] p.code (regsR p g L)).2.length))
theorem ans_unit{p:PR}{k:Nat}(hk1:1≤k)(hk8:k≤8)(hr:rightP p)(hi:p.ins=(k:Int))(hd:noDiv p.code):ansR p (unitG k)=(outsR p (unitG k) k,0,0):=by
 have h0:gridE p (unitG k)=0:=gridE0.2 ⟨⟨hr,by rw[unitG_len,hi]⟩,fun r hm=>by rw[unitG_0 (by omega)];exact(unitG_row hk8 r hm).1,by rw[unitG_0 (by omega)];omega⟩
 rw[ansR,if_pos h0,unitG_0 (by omega),if_neg]
 have:=run_nodiv p.code (regsR p (unitG k) k) hd
 unfold stepsR;omega
theorem powsP_bd{A B:Int}{k:Nat}(hk:k≤16)(hin:inPt A B=true):RB4 6 (powsP A B k):=by
 have hb: -16≤A∧A≤16∧ -16≤B∧B≤16:=of_decide_eq_true hin
 refine⟨fun z hz=>?_,by simp[powsP];omega⟩
 obtain⟨i,hi,rfl⟩:=List.mem_map.1 hz
 have:=List.mem_range.1 hi
 exact(powBd (by omega) hb.1 hb.2.1).mul (powBd (by omega) hb.2.2.1 hb.2.2.2)
theorem evaluates11_fn{p:PR}{k:Int}{l:List Pt}{t:Bool}(hp:p.ok)(hl:l.length<9223372036854775808):PFn Tryd.prog 44 [ProgA p,.int .i64 k,PtsA l t] (.tup [.bool (evB p k l),.int .i64 ((evE p k l:Nat):Int)]):=by
 intro H Q hq
 have hpc:=hp.2.2.2.1
 have hpo:=hp.2.2.2.2.2
 have lc:p.code.length<9223372036854775808:=by omega
 have lo:p.outs.length<9223372036854775808:=by omega
 refine enter44 (by simp) ?_
 simp(disch:=first|exact Xe|fail)only[ac44,cells_ProgA,↓Xa,Xb,Xc,↓reduceIte,Nat.reduceLT,Nat.reduceEqDiff,Nat.reduceBEq,Nat.reduceLeDiff,Nat.reduceAdd,Nat.reduceMul]
 refine alloc_i fun p3 n3=>?_
 have G3:(H.upd p3 (some (.row 25 0 [.int .i64 p.ins,.int .i64 p.regs,CodeA p.code false,OutsA p.outs false]))) p3=some (.row 25 0 [.int .i64 p.ins,.int .i64 p.regs,CodeA p.code false,OutsA p.outs false]):=upd_same _ _ _
 have hHG:Le H (H.upd p3 (some (.row 25 0 [.int .i64 p.ins,.int .i64 p.regs,CodeA p.code false,OutsA p.outs false]))):=(Le.refl H).updB n3
 generalize(H.upd p3 (some (.row 25 0 [.int .i64 p.ins,.int .i64 p.regs,CodeA p.code false,OutsA p.outs false])))=G at*
 have fin: ∀{b:Bool}{e:Nat}{M:AHeap},evB p k l=b→evE p k l=e→Le G M→SetR Q (.tup [.bool b,.int .i64 ((e:Nat):Int)]) M:=fun{b e M} h1 h2 hm=>by
  rw[h1,h2]at hq
  exact SetR.dropTo (hHG.trans hm) (SetR.now hq)
 have noK: ¬rightK k l→evB p k l=false∧evE p k l=2:=fun h=>⟨decide_eq_false fun g=>h g.1,if_neg h⟩
 by_cases h1:k<1
 ·have d1:decide (k<((1:Nat):Int))=true:=decide_eq_true (by omega)
  obtain⟨f1,f2⟩:=noK fun h=>by have:=h.1;omega
  simp(disch:=first|exact Xe|fail)only[lss_int,d1,rs44,↓Xa,Xb,Xc,↓reduceIte,Nat.reduceLT,Nat.reduceEqDiff,Nat.reduceBEq,Nat.reduceLeDiff,Nat.reduceAdd,Nat.reduceMul]
  exact fin f1 f2 (Le.refl _)
 have d1:decide (k<((1:Nat):Int))=false:=decide_eq_false (by omega)
 by_cases h2:8<k
 ·have d2:decide (((8:Nat):Int)<k)=true:=decide_eq_true (by omega)
  obtain⟨f1,f2⟩:=noK fun h=>by have:=h.1;omega
  simp(disch:=first|exact Xe|fail)only[lss_int,gtr_int,d1,d2,rs44,↓Xa,Xb,Xc,↓reduceIte,Nat.reduceLT,Nat.reduceEqDiff,Nat.reduceBEq,Nat.reduceLeDiff,Nat.reduceAdd,Nat.reduceMul]
  exact fin f1 f2 (Le.refl _)
 have d2:decide (((8:Nat):Int)<k)=false:=decide_eq_false (by omega)
 obtain⟨n,rfl⟩: ∃n:Nat,k=(n:Int):=⟨k.toNat,by omega⟩
 have hn1:1≤n:=by omega
 have hn8:n≤8:=by omega
 simp(disch:=first|exact Xe|fail)only[lss_int,gtr_int,d1,d2,↓Xa,Xb,Xc,↓reduceIte,Nat.reduceLT,Nat.reduceEqDiff,Nat.reduceBEq,Nat.reduceLeDiff,Nat.reduceAdd,Nat.reduceMul]
 refine(points_fn hl).call ?_
 by_cases hpt:ptsOK l
 rotate_right
 ·obtain⟨f1,f2⟩:=noK fun h=>hpt h.2
  simp(disch:=first|exact Xe|fail)only[decide_eq_false hpt,rs44,↓Xa,Xb,Xc,↓reduceIte,Nat.reduceLT,Nat.reduceEqDiff,Nat.reduceBEq,Nat.reduceLeDiff,Nat.reduceAdd,Nat.reduceMul]
  exact fin f1 f2 (Le.refl _)
 have hK:rightK ((n:Nat):Int) l:=⟨⟨by omega,by omega⟩,hpt⟩
 have h15:=hpt.2.2
 simp(disch:=first|exact Xe|fail)only[decide_eq_true hpt,G3,fold_ProgA,↓Xa,Xb,Xc,↓reduceIte,Nat.reduceLT,Nat.reduceEqDiff,Nat.reduceBEq,Nat.reduceLeDiff,Nat.reduceAdd,Nat.reduceMul]
 obtain⟨kk,hck⟩:=check_fn p hp
 refine hck.call ?_
 by_cases hr:rightP p
 rotate_right
 ·rw[if_neg hr]
  have d0:decide (((80:Nat):Int)=((0:Nat):Int))=false:=rfl
  simp(disch:=first|exact Xe|fail)only[neq_int,d0,rs44,↓Xa,Xb,Xc,↓reduceIte,Nat.reduceLT,Nat.reduceEqDiff,Nat.reduceBEq,Nat.reduceLeDiff,Nat.reduceAdd,Nat.reduceMul]
  exact fin (decide_eq_false fun g=>hr g.2.1) (by rw[evE,if_pos hK,if_neg hr]) (Le.refl _)
 rw[if_pos hr]
 have d0:decide (((0:Nat):Int)=((0:Nat):Int))=true:=rfl
 have he0:evE p ((n:Nat):Int) l=0:=by rw[evE,if_pos hK,if_pos hr]
 have no: ¬evQ p ((n:Nat):Int) l→evB p ((n:Nat):Int) l=false:=fun h=>decide_eq_false fun g=>h g.2.2
 by_cases hin:p.ins=((n:Nat):Int)
 rotate_right
 ·have d3:decide (p.ins=((n:Nat):Int))=false:=decide_eq_false hin
  simp(disch:=first|exact Xe|fail)only[neq_int,d0,d3,G3,rs44,↓Xa,Xb,Xc,↓reduceIte,Nat.reduceLT,Nat.reduceEqDiff,Nat.reduceBEq,Nat.reduceLeDiff,Nat.reduceAdd,Nat.reduceMul]
  exact fin (no fun g=>hin g.1) he0 (Le.refl _)
 have d3:decide (p.ins=((n:Nat):Int))=true:=decide_eq_true hin
 by_cases hol:p.outs.length=l.length
 rotate_right
 ·have d4:decide (((p.outs.length:Nat):Int)=((l.length:Nat):Int))=false:=decide_eq_false (by omega)
  simp(disch:=first|exact Xe|fail)only[neq_int,d0,d3,d4,G3,len_OutsA lo,len_PtsA hl,rs44,↓Xa,Xb,Xc,↓reduceIte,Nat.reduceLT,Nat.reduceEqDiff,Nat.reduceBEq,Nat.reduceLeDiff,Nat.reduceAdd,Nat.reduceMul]
  exact fin (no fun g=>hol g.2.1) he0 (Le.refl _)
 have d4:decide (((p.outs.length:Nat):Int)=((l.length:Nat):Int))=true:=decide_eq_true (by omega)
 simp(disch:=first|exact Xe|fail)only[neq_int,d0,d3,d4,G3,len_OutsA lo,len_PtsA hl,len_CodeA lc,↓Xa,Xb,Xc,↓reduceIte,Nat.reduceLT,Nat.reduceEqDiff,Nat.reduceBEq,Nat.reduceLeDiff,Nat.reduceAdd,Nat.reduceMul]
 refine W_loop (fun s:Nat=>⟨[],[(1,.int .i64 (n:Int)),(2,PtsA l t),(3,.ptr p3 4 0),(52,CodeA p.code false),(53,.int .i64 (p.code.length:Int)),(54,.int .i64 s)],G⟩) (fun s=>s≤p.code.length∧noDiv (p.code.take s)) (fun s=>p.code.length-s) 0 (Settle.now rfl) ⟨Nat.zero_le _,fun i hi=>by simp at hi⟩ ?_
 rintro s ⟨s1,s2⟩
 by_cases hs:s<p.code.length
 ·simp(disch:=first|exact Xe|fail)only[hs,idx_CodeA hs,load_CodeA hs,↓Xa,Xb,Xc,↓reduceIte,Nat.reduceLT,Nat.reduceEqDiff,Nat.reduceBEq,Nat.reduceLeDiff,Nat.reduceAdd,Nat.reduceMul]
  refine alloc_i fun p11 n11=>?_
  simp(disch:=first|exact Xe|fail)only[cells_InsA,↓Xa,Xb,Xc,↓reduceIte,Nat.reduceLT,Nat.reduceEqDiff,Nat.reduceBEq,Nat.reduceLeDiff,Nat.reduceAdd,Nat.reduceMul]
  by_cases o6:(p.code[s]).op=6
  ·have e6:decide ((p.code[s]).op=((6:Nat):Int))=true:=decide_eq_true o6
   simp(disch:=first|exact Xe|fail)only[eql_int,e6,rs44,↓Xa,Xb,Xc,↓reduceIte,Nat.reduceLT,Nat.reduceEqDiff,Nat.reduceBEq,Nat.reduceLeDiff,Nat.reduceAdd,Nat.reduceMul]
   exact fin (no fun g=>(g.2.2.1 _ (List.getElem_mem hs)).1 o6) he0 ((Le.refl G).updB n11)
  have e6:decide ((p.code[s]).op=((6:Nat):Int))=false:=decide_eq_false o6
  by_cases o8:(p.code[s]).op=8
  ·have e8:decide ((p.code[s]).op=((8:Nat):Int))=true:=decide_eq_true o8
   simp(disch:=first|exact Xe|fail)only[eql_int,e6,e8,rs44,↓Xa,Xb,Xc,↓reduceIte,Nat.reduceLT,Nat.reduceEqDiff,Nat.reduceBEq,Nat.reduceLeDiff,Nat.reduceAdd,Nat.reduceMul]
   exact fin (no fun g=>(g.2.2.1 _ (List.getElem_mem hs)).2 o8) he0 ((Le.refl G).updB n11)
  have e8:decide ((p.code[s]).op=((8:Nat):Int))=false:=decide_eq_false o8
  simp(disch:=first|exact Xe|fail)only[eql_int,e6,e8,↓Xa,Xb,Xc,↓reduceIte,Nat.reduceLT,Nat.reduceEqDiff,Nat.reduceBEq,Nat.reduceLeDiff,Nat.reduceAdd,Nat.reduceMul]
  refine Settle.dropTo ((Le.refl G).updB n11) (Settle.now ⟨s+1,by omega,⟨by omega,fun i hi=>?_⟩,rfl⟩)
  rw[List.take_succ_eq_append_getElem hs]at hi
  rcases List.mem_append.1 hi with hi|hi
  ·exact s2 i hi
  ·rw[List.mem_singleton.1 hi];exact⟨o6,o8⟩
 obtain rfl:s=p.code.length:=by omega
 rw[List.take_length]at s2
 have hans:=ans_unit hn1 hn8 hr hin s2
 have hh:=hr.1
 unfold headP at hh
 simp(disch:=first|exact Xe|fail)only[hs,↓Xa,Xb,Xc,↓reduceIte,Nat.reduceLT,Nat.reduceEqDiff,Nat.reduceBEq,Nat.reduceLeDiff,Nat.reduceAdd,Nat.reduceMul]
 refine Settle.now ?_
 simp(disch:=first|exact Xe|fail)only[G3,fold_ProgA,↓Xa,Xb,Xc,↓reduceIte,Nat.reduceLT,Nat.reduceEqDiff,Nat.reduceBEq,Nat.reduceLeDiff,Nat.reduceAdd,Nat.reduceMul]
 have hU:=units_fn hn8
 have eU:AV.seq n (GI (unitG n)) false=GIA (unitG n) false:=by show _=AV.seq (unitG n).length _ _;rw[unitG_len]
 rw[eU]at hU
 refine PFn.dcall hU ?_
 simp(disch:=first|exact Xe|fail)only[↓Xa,Xb,Xc,↓reduceIte,Nat.reduceLT,Nat.reduceEqDiff,Nat.reduceBEq,Nat.reduceLeDiff,Nat.reduceAdd,Nat.reduceMul]
 refine run_call (rows10R_run (grid:=unitG n) (t:=false) (k0:=1) hp (by rw[unitG_0 hn1];omega) (fun r hm=>(unitG_row hn8 r hm).2) (by rw[unitG_len];omega) (fun _=>by omega) fun y M hy=>?_)
 rw[hans]at hy ⊢
 dsimp only at hy ⊢
 have hRl:(outsR p (unitG n) n).length=l.length:=by simp[outsR,hol]
 have hRb:=outsR_bd hr (by rw[unitG_len,hin]) (by omega) (fun r hm=>(unitG_row hn8 r hm).1) (fun r hm=>(unitG_row hn8 r hm).2)
 have hev:evQ p ((n:Nat):Int) l↔outsR p (unitG n) n=wantG n l:=⟨fun g=>g.2.2.2,fun g=>⟨hin,hol,s2,g⟩⟩
 generalize outsR p (unitG n) n=R at*
 have hwl:(wantG n l).length=l.length:=by simp[wantG]
 simp(disch:=first|exact Xe|fail)only[neq_int,d0,len_PtsA hl,↓Xa,Xb,Xc,↓reduceIte,Nat.reduceLT,Nat.reduceEqDiff,Nat.reduceBEq,Nat.reduceLeDiff,Nat.reduceAdd,Nat.reduceMul]
 refine W_loop (fun s:Nat=>⟨[],[(1,.int .i64 (n:Int)),(12,GIA R false),(77,PtsA l t),(78,.int .i64 (l.length:Int)),(79,.int .i64 s)],G⟩) (fun s=>s≤l.length∧R.take s=(wantG n l).take s) (fun s=>l.length-s) 0 (Settle.grownC 12 rfl hy (Settle.now rfl)) ⟨Nat.zero_le _,rfl⟩ ?_
 rintro s ⟨f1,f2⟩
 by_cases hs2:s<l.length
 ·have hq2:=hpt.1 _ (List.getElem_mem hs2)
  have hsR:s<R.length:=by omega
  have hix: ∀{k:IntKind}{K:AV→Prop},idxAW 1 (GIA R false) (.int k (s:Int)) K=K (.cptr ((GI R).drop s)):=fun{k K}=>by
   have:=idx_map (f:=rI) (l:=R) (t:=false) (k:=k) (K:=K) (i:=s) hsR
   rw[Nat.mul_one]at this;exact this
  have hld: ∀{M:AHeap}{K:AV→Prop},loadW M none (.cptr ((GI R).drop s)) K=K (rI (R[s])):=fun{M K}=>load_map hsR
  obtain⟨rl,rb⟩:=hRb _ (List.getElem_mem hsR)
  have ew:(wantG n l)[s]'(by omega)=powsP (l[s]).a (l[s]).b n:=by simp[wantG]
  have bw:=powsP_bd (k:=n) (by omega) hq2
  have lw:(powsP (l[s]).a (l[s]).b n).length=n:=by simp[powsP]
  simp(disch:=first|exact Xe|fail)only[hs2,idx_PtsA hs2,load_PtsA hs2,↓Xa,Xb,Xc,↓reduceIte,Nat.reduceLT,Nat.reduceEqDiff,Nat.reduceBEq,Nat.reduceLeDiff,Nat.reduceAdd,Nat.reduceMul]
  refine alloc_i fun p15 n15=>?_
  simp(disch:=first|exact Xe|fail)only[cells_PtV,fold_PtV,↓Xa,Xb,Xc,↓reduceIte,Nat.reduceLT,Nat.reduceEqDiff,Nat.reduceBEq,Nat.reduceLeDiff,Nat.reduceAdd,Nat.reduceMul]
  refine(powers_fn (n:=n) (by omega) hq2).call ?_
  have stepR:R[s]=powsP (l[s]).a (l[s]).b n→R.take (s+1)=(wantG n l).take (s+1):=fun h=>by
   rw[List.take_succ_eq_append_getElem hsR,List.take_succ_eq_append_getElem (by omega),f2,ew,h]
  have noR:R[s]≠powsP (l[s]).a (l[s]).b n→¬evQ p ((n:Nat):Int) l:=fun h g=>by
   rw[hev]at g
   apply h
   rw[← ew]
   simp only[g]
  have rl':(R[s]).length<9223372036854775808:=by omega
  simp(disch:=first|exact Xe|fail)only[hix,hld,len_rw,rl',↓Xa,Xb,Xc,↓reduceIte,Nat.reduceLT,Nat.reduceEqDiff,Nat.reduceBEq,Nat.reduceLeDiff,Nat.reduceAdd,Nat.reduceMul]
  generalize hwr:powsP (l[s]).a (l[s]).b n=w at*
  generalize hrr:R[s]=r at*
  refine W_loop (fun j:Nat=>⟨[],[(1,.int .i64 (n:Int)),(12,GIA R false),(16,RowA w true),(77,PtsA l t),(78,.int .i64 (l.length:Int)),(79,.int .i64 s),(93,rI r),(94,.int .i64 (r.length:Int)),(95,.int .i64 j)],G⟩) (fun j=>j≤n∧r.take j=w.take j) (fun j=>n-j) 0 (Settle.dropTo ((Le.refl G).updB n15) (Settle.now rfl)) ⟨Nat.zero_le _,rfl⟩ ?_
  rintro j ⟨j1,j2⟩
  by_cases hj:j<n
  ·have hjr:j<r.length:=by omega
   have hjw:j<w.length:=by omega
   simp(disch:=first|exact Xe|fail)only[hjr,idx_IC,load_IC,↓Xa,Xb,Xc,↓reduceIte,Nat.reduceLT,Nat.reduceEqDiff,Nat.reduceBEq,Nat.reduceLeDiff,Nat.reduceAdd,Nat.reduceMul]
   refine alloc_i fun p19 n19=>?_
   simp(disch:=first|exact Xe|fail)only[hjr,hjw,cells_IntA,fold_IntA,idx_IC,load_IC,↓Xa,Xb,Xc,↓reduceIte,Nat.reduceLT,Nat.reduceEqDiff,Nat.reduceBEq,Nat.reduceLeDiff,Nat.reduceAdd,Nat.reduceMul]
   refine(cmpi_fn (rb.at hjr) (by omega) (bw.at hjw) (by omega)).call ?_
   by_cases he:r[j]=w[j]
   ·have ec:decide (cmpI (r[j]) (w[j])=((0:Nat):Int))=true:=decide_eq_true (by rw[he];simp[cmpI])
    simp(disch:=first|exact Xe|fail)only[neq_int,ec,↓Xa,Xb,Xc,↓reduceIte,Nat.reduceLT,Nat.reduceEqDiff,Nat.reduceBEq,Nat.reduceLeDiff,Nat.reduceAdd,Nat.reduceMul]
    refine Settle.dropTo ((Le.refl G).updB n19) (Settle.now ⟨j+1,by omega,⟨by omega,?_⟩,rfl⟩)
    rw[List.take_succ_eq_append_getElem hjr,List.take_succ_eq_append_getElem hjw,j2,he]
   ·have ec:decide (cmpI (r[j]) (w[j])=((0:Nat):Int))=false:=decide_eq_false (by
     unfold cmpI
     repeat' split
     all_goals omega)
    simp(disch:=first|exact Xe|fail)only[neq_int,ec,rs44,↓Xa,Xb,Xc,↓reduceIte,Nat.reduceLT,Nat.reduceEqDiff,Nat.reduceBEq,Nat.reduceLeDiff,Nat.reduceAdd,Nat.reduceMul]
    exact fin (no (noR fun h=>he (by simp only[h]))) he0 ((Le.refl G).updB n19)
  ·obtain rfl:j=n:=by omega
   have hjr: ¬j<r.length:=by omega
   simp(disch:=first|exact Xe|fail)only[hjr,↓Xa,Xb,Xc,↓reduceIte,Nat.reduceLT,Nat.reduceEqDiff,Nat.reduceBEq,Nat.reduceLeDiff,Nat.reduceAdd,Nat.reduceMul]
   refine Settle.now ?_
   simp(disch:=first|exact Xe|fail)only[↓Xa,Xb,Xc,↓reduceIte,Nat.reduceLT,Nat.reduceEqDiff,Nat.reduceBEq,Nat.reduceLeDiff,Nat.reduceAdd,Nat.reduceMul]
   exact Settle.now ⟨s+1,by omega,⟨by omega,stepR (by
    rw[List.take_of_length_le (by omega),List.take_of_length_le (by omega)]at j2;exact j2)⟩,rfl⟩
 ·obtain rfl:s=l.length:=by omega
  rw[List.take_of_length_le (by omega),List.take_of_length_le (by omega)]at f2
  simp(disch:=first|exact Xe|fail)only[hs2,↓Xa,Xb,Xc,↓reduceIte,Nat.reduceLT,Nat.reduceEqDiff,Nat.reduceBEq,Nat.reduceLeDiff,Nat.reduceAdd,Nat.reduceMul]
  refine Settle.now ?_
  simp(disch:=first|exact Xe|fail)only[rs44,↓Xa,Xb,Xc,↓reduceIte,Nat.reduceLT,Nat.reduceEqDiff,Nat.reduceBEq,Nat.reduceLeDiff,Nat.reduceAdd,Nat.reduceMul]
  exact fin (decide_eq_true ⟨hK,hr,hev.2 f2⟩) he0 (Le.refl _)
def exE:PR:=⟨2,3,[⟨3,2,0,1,0⟩],[0,2,1]⟩
theorem exE_ok:exE.ok:=by
 refine⟨by unfold I64;decide,by unfold I64;decide,fun i hi=>?_,by decide,fun n hn=>?_,by decide⟩
 ·simp only[exE,List.mem_cons,List.not_mem_nil,or_false]at hi
  rcases hi with rfl;(unfold Ins.ok I64;decide)
 ·simp only[exE,List.mem_cons,List.not_mem_nil,or_false]at hn
  rcases hn with rfl|rfl|rfl<;>(unfold I64;decide)
theorem example11_fn:PFn Tryd.prog 45 [] (ProgA exE):=by
 refine PFn.weak (r:=AV.agg [.int .i64 exE.ins,.int .i64 exE.regs,CodeA exE.code true,OutsA exE.outs true]) (fun H Q hq=>?_) Wk.prog
 refine enter45 (by simp) ?_
 simp(disch:=first|exact Xe|fail)only[ac45,↓Xa,Xb,Xc,↓reduceIte,Nat.reduceLT,Nat.reduceEqDiff,Nat.reduceBEq,Nat.reduceLeDiff,Nat.reduceAdd,Nat.reduceMul]
 refine alloc_i fun p0 n0=>?_
 simp(disch:=first|exact Xe|fail)only[rep5,↓Xa,Xb,Xc,↓reduceIte,Nat.reduceLT,Nat.reduceEqDiff,Nat.reduceBEq,Nat.reduceLeDiff,Nat.reduceAdd,Nat.reduceMul]
 have eR:List.drop 3 (repA [AV.int .i64 ((0:Nat):Int)] 3)=[]:=rfl
 simp(disch:=first|exact Xe|fail)only[rs45,↓Xa,Xb,Xc,↓reduceIte,Nat.reduceLT,Nat.reduceEqDiff,Nat.reduceBEq,Nat.reduceLeDiff,Nat.reduceAdd,Nat.reduceMul]
 exact SetR.dropTo ((Le.refl H).updB n0) (SetR.now hq)
def ptsE:List Int:=[((0:Nat):Int),((1:Nat):Int),((1:Nat):Int),((1:Nat):Int),((1:Nat):Int),((0:Nat):Int)]
def ptsL:List Pt:=[⟨0,1⟩,⟨1,1⟩,⟨1,0⟩]
theorem ptsE_pairs:pairsP ptsE=ptsL:=by simp[pairsP,ptsE,ptsL,List.range,List.range.loop]
theorem prog_ok{k:Int}{l:List Pt}(hl:l.length≤140737488355328):(prA k l).ok:=by
 unfold prA
 split
 ·rename_i h
  obtain⟨n,rfl⟩: ∃n:Nat,k=(n:Int):=⟨k.toNat,by have:=h.1;omega⟩
  have hr:=progP_right (k:=n) (by have:=h.1;omega) (by have:=h.1;omega) h.2.2.1 h.2.2.2 h.2.1
  obtain⟨h1,h2,h3⟩:=hr
  unfold headP at h1
  rw[Int.toNat_natCast]
  refine⟨by unfold I64;omega,by unfold I64;omega,fun i hi=>?_,by omega,fun m hm=>by have:=h2 m hm;unfold I64;omega,by omega⟩
  have hm:=h3 i hi
  have hb:=mayI_b hm
  have hc: -512≤i.c∧i.c≤512:=by
   obtain⟨_,_,_,_,_,_,h⟩:=hm
   repeat' split at h
   all_goals omega
  unfold mayI at hm
  unfold Ins.ok I64
  omega
 ·exact⟨by unfold I64;decide,by unfold I64;decide,fun i hi=>(by cases hi),by decide,fun i hi=>(by cases hi),by decide⟩
theorem works_a:evB exE 2 ptsL=true∧evE exE 2 ptsL=0:=by decide
theorem works_b:prE 2 ptsL=0∧evB (prA 2 ptsL) 2 ptsL=true∧evE (prA 2 ptsL) 2 ptsL=0:=by decide
theorem works_c:valA [((1:Nat):Int),((2:Nat):Int),((3:Nat):Int)] 1 2=11∧valE [((1:Nat):Int),((2:Nat):Int),((3:Nat):Int)] 1 2=0:=by decide
theorem works_t:iText 11=[49,49]:=by simp[iText,decT,dec,digs,chr]
theorem works11_run{H:AHeap}{Q:AV→AHeap→Prop}(hT:Tz64H H)(hq:Q (.bool true) H):Run Tryd.prog 36 [] H Q:=by
 refine enter36 (by simp) ?_
 simp(disch:=first|exact Xe|fail)only[ac36,↓Xa,Xb,Xc,↓reduceIte,Nat.reduceLT,Nat.reduceEqDiff,Nat.reduceBEq,Nat.reduceLeDiff,Nat.reduceAdd,Nat.reduceMul]
 have hl3: ∀n,n∈[((1:Nat):Int),((2:Nat):Int),((3:Nat):Int)]→I64 n:=fun n hn=>by
  simp only[List.mem_cons,List.not_mem_nil,or_false]at hn
  rcases hn with rfl|rfl|rfl<;>(unfold I64;decide)
 refine(list11_fn (l:=[((1:Nat):Int),((2:Nat):Int),((3:Nat):Int)]) (t:=true) (by decide) hl3).call ?_
 simp(disch:=first|exact Xe|fail)only[↓Xa,Xb,Xc,↓reduceIte,Nat.reduceLT,Nat.reduceEqDiff,Nat.reduceBEq,Nat.reduceLeDiff,Nat.reduceAdd,Nat.reduceMul]
 have hv:=value11_fn (A:=((1:Nat):Int)) (B:=((2:Nat):Int)) (xs:=[((1:Nat):Int),((2:Nat):Int),((3:Nat):Int)]) (t:=false) (k0:=2) (by decide) (fun z hz=>Bd.i64 (by have:=hl3 z hz;unfold I64 at this;omega)) (by decide)
 refine hv.call ?_
 have w1:valA [((1:Nat):Int),((2:Nat):Int),((3:Nat):Int)] ((1:Nat):Int) ((2:Nat):Int)=11:=works_c.1
 have w2:valE [((1:Nat):Int),((2:Nat):Int),((3:Nat):Int)] ((1:Nat):Int) ((2:Nat):Int)=0:=works_c.2
 rw[w1,w2]
 simp(disch:=first|exact Xe|fail)only[↓Xa,Xb,Xc,↓reduceIte,Nat.reduceLT,Nat.reduceEqDiff,Nat.reduceBEq,Nat.reduceLeDiff,Nat.reduceAdd,Nat.reduceMul]
 refine alloc_i fun p1 n1=>?_
 simp(disch:=first|exact Xe|fail)only[cells_IntA,↓Xa,Xb,Xc,↓reduceIte,Nat.reduceLT,Nat.reduceEqDiff,Nat.reduceBEq,Nat.reduceLeDiff,Nat.reduceAdd,Nat.reduceMul]
 generalize hM1:H.upd p1 (some (.row 34 0 [IntB 11,IntD 11]))=M1 at*
 have h1:M1 p1=some (.row 34 0 [IntB 11,IntD 11]):=by rw[← hM1,upd_same]
 have hl1:Le H M1:=hM1▸(Le.refl H).updB n1
 refine example11_fn.call ?_
 have hpts:=points11_fn (l:=ptsE) (t:=true) (by decide)
 rw[ptsE_pairs]at hpts
 simp(disch:=first|exact Xe|fail)only[↓Xa,Xb,Xc,↓reduceIte,Nat.reduceLT,Nat.reduceEqDiff,Nat.reduceBEq,Nat.reduceLeDiff,Nat.reduceAdd,Nat.reduceMul]
 refine hpts.call ?_
 simp(disch:=first|exact Xe|fail)only[↓Xa,Xb,Xc,↓reduceIte,Nat.reduceLT,Nat.reduceEqDiff,Nat.reduceBEq,Nat.reduceLeDiff,Nat.reduceAdd,Nat.reduceMul]
 refine(evaluates11_fn (p:=exE) (k:=((2:Nat):Int)) (l:=ptsL) (t:=false) exE_ok (by decide)).call ?_
 have w3:evB exE ((2:Nat):Int) ptsL=true:=works_a.1
 have w4:evE exE ((2:Nat):Int) ptsL=0:=works_a.2
 rw[w3,w4]
 simp(disch:=first|exact Xe|fail)only[↓Xa,Xb,Xc,↓reduceIte,Nat.reduceLT,Nat.reduceEqDiff,Nat.reduceBEq,Nat.reduceLeDiff,Nat.reduceAdd,Nat.reduceMul]
 refine hpts.call ?_
 simp(disch:=first|exact Xe|fail)only[↓Xa,Xb,Xc,↓reduceIte,Nat.reduceLT,Nat.reduceEqDiff,Nat.reduceBEq,Nat.reduceLeDiff,Nat.reduceAdd,Nat.reduceMul]
 refine run_call (program11_run (hT.le hl1) (by decide) ?_)
 have w5:prE ((2:Nat):Int) ptsL=0:=works_b.1
 rw[w5]
 simp(disch:=first|exact Xe|fail)only[↓Xa,Xb,Xc,↓reduceIte,Nat.reduceLT,Nat.reduceEqDiff,Nat.reduceBEq,Nat.reduceLeDiff,Nat.reduceAdd,Nat.reduceMul]
 refine alloc_i fun p5 n5=>?_
 have a51:p5≠p1:=by rintro rfl;rw[h1]at n5;cases n5
 simp(disch:=first|exact Xe|fail)only[cells_ProgA,↓Xa,Xb,Xc,↓reduceIte,Nat.reduceLT,Nat.reduceEqDiff,Nat.reduceBEq,Nat.reduceLeDiff,Nat.reduceAdd,Nat.reduceMul]
 have G5:(M1.upd p5 (some (.row 25 0 [.int .i64 (prA ((2:Nat):Int) ptsL).ins,.int .i64 (prA ((2:Nat):Int) ptsL).regs,CodeA (prA ((2:Nat):Int) ptsL).code false,OutsA (prA ((2:Nat):Int) ptsL).outs false]))) p5=some (.row 25 0 [.int .i64 (prA ((2:Nat):Int) ptsL).ins,.int .i64 (prA ((2:Nat):Int) ptsL).regs,CodeA (prA ((2:Nat):Int) ptsL).code false,OutsA (prA ((2:Nat):Int) ptsL).outs false]):=upd_same _ _ _
 have h15:(M1.upd p5 (some (.row 25 0 [.int .i64 (prA ((2:Nat):Int) ptsL).ins,.int .i64 (prA ((2:Nat):Int) ptsL).regs,CodeA (prA ((2:Nat):Int) ptsL).code false,OutsA (prA ((2:Nat):Int) ptsL).outs false]))) p1=some (.row 34 0 [IntB 11,IntD 11]):=by rw[upd_other _ _ (Ne.symm a51),h1]
 have hl5:Le H (M1.upd p5 (some (.row 25 0 [.int .i64 (prA ((2:Nat):Int) ptsL).ins,.int .i64 (prA ((2:Nat):Int) ptsL).regs,CodeA (prA ((2:Nat):Int) ptsL).code false,OutsA (prA ((2:Nat):Int) ptsL).outs false]))):=hl1.upd n5
 generalize(M1.upd p5 (some (.row 25 0 [.int .i64 (prA ((2:Nat):Int) ptsL).ins,.int .i64 (prA ((2:Nat):Int) ptsL).regs,CodeA (prA ((2:Nat):Int) ptsL).code false,OutsA (prA ((2:Nat):Int) ptsL).outs false])))=M5 at*
 simp(disch:=first|exact Xe|fail)only[G5,fold_ProgA,↓Xa,Xb,Xc,↓reduceIte,Nat.reduceLT,Nat.reduceEqDiff,Nat.reduceBEq,Nat.reduceLeDiff,Nat.reduceAdd,Nat.reduceMul]
 refine PFn.dcall hpts ?_
 simp(disch:=first|exact Xe|fail)only[↓Xa,Xb,Xc,↓reduceIte,Nat.reduceLT,Nat.reduceEqDiff,Nat.reduceBEq,Nat.reduceLeDiff,Nat.reduceAdd,Nat.reduceMul]
 refine(evaluates11_fn (p:=prA ((2:Nat):Int) ptsL) (k:=((2:Nat):Int)) (l:=ptsL) (t:=false) (prog_ok (by decide)) (by decide)).call ?_
 have w6:evB (prA ((2:Nat):Int) ptsL) ((2:Nat):Int) ptsL=true:=works_b.2.1
 have w7:evE (prA ((2:Nat):Int) ptsL) ((2:Nat):Int) ptsL=0:=works_b.2.2
 rw[w6,w7]
 have d0:decide (((0:Nat):Int)=((0:Nat):Int))=true:=rfl
 simp(disch:=first|exact Xe|fail)only[eql_int,d0,h15,fold_IntA,↓Xa,Xb,Xc,↓reduceIte,Nat.reduceLT,Nat.reduceEqDiff,Nat.reduceBEq,Nat.reduceLeDiff,Nat.reduceAdd,Nat.reduceMul]
 refine(itext_fn (x:=11) (k:=1) (by unfold Bd;decide) (by decide)).call ?_
 have s1:AV.str ⟨#[49,49]⟩=Sx [49,49]:=rfl
 simp(disch:=first|exact Xe|fail)only[s1,works_t,eql_Sx,rs36,↓Xa,Xb,Xc,↓reduceIte,Nat.reduceLT,Nat.reduceEqDiff,Nat.reduceBEq,Nat.reduceLeDiff,Nat.reduceAdd,Nat.reduceMul]
 exact SetR.dropTo hl5 (SetR.now hq)
theorem Run.give{P:Program}{f:FuncId}{args args':List AV}{H:AHeap}{Q:AV→AHeap→Prop}{b ty es:Nat}{cells:List AV}(hb:H b=some (.row ty es cells))(hx:args'=args.map (frz b es cells))(h:Run P f args' (H.upd b none) Q):Run P f args H Q:=by
 subst hx
 refine⟨h.1,fun c vs hH hok hs he=>?_⟩
 refine(h.2 (c.drop b) vs (by simp only[Ctx.drop,hH]) (Ctx.drop_ok hok b) (by simpa using hs) fun i h1 h2=>?_).mono ?_
 ·rw[List.getElem_map]
  exact enc_frz hok (by rw[hH];exact hb) _ _ (he i (by simpa using h1) h2)
 ·rintro e w ⟨c',v,r,a1,a2,a3,a4,a5,a6⟩
  exact⟨c',v,r,a1,a2,a3,(c.drop_later b).trans a4,a5,a6⟩
structure KR where
 c:List Int
 a:Int
 b:Int
 v:Int
 w:List UInt8
 e:Nat
def kn:List KR:=[⟨[1,2,3],2,1,17,[49,55],0⟩,⟨[1,2,3],1,0,3,[51],0⟩,⟨[5],0,0,5,[53],0⟩,⟨[5,6],0,0,0,[48],0⟩,⟨[],1,1,0,[48],2⟩,⟨[1],17,1,0,[48],2⟩]
def knC(r:KR):List AV:=[OutsA r.c true,.int .i64 r.a,.int .i64 r.b,Sx r.w,.int .i64 ((r.e:Nat):Int)]
def knA(r:KR):AV:=.agg (knC r)
theorem cells_knA{r:KR}:(knA r).cells=some [OutsA r.c true,.int .i64 r.a,.int .i64 r.b,Sx r.w,.int .i64 ((r.e:Nat):Int)]:=id rfl
theorem idx_kn{i:Nat}{k:IntKind}{t:Bool}{K:AV→Prop}(h:i<kn.length):idxAW 5 (.seq kn.length (kn.flatMap knC) t) (.int k (i:Int)) K=K (.cptr ((kn.flatMap knC).drop (i*5))):=idx_rw (flat_len (f:=knC) (es:=5) (fun _=>rfl) kn) h
theorem load_kn{i:Nat}{H:AHeap}{K:AV→Prop}(h:i<kn.length):loadW H (some 5) (.cptr ((kn.flatMap knC).drop (i*5))) K=K (knA (kn[i])):=by
 rw[flat_drop (es:=5) (fun _=>rfl) kn i h];simp[loadW,cellsAt,knC,knA]
def okK(r:KR):Prop:=(r.c.length≤3∧(∀n,n∈r.c→0≤n∧n≤6)∧0≤r.v∧r.v≤17)∧valA r.c r.a r.b=r.v∧valE r.c r.a r.b=r.e
instance (r:KR):Decidable (okK r):=by unfold okK;infer_instance
theorem kn_ok: ∀r,r∈kn→okK r:=by decide
theorem kn_text: ∀r,r∈kn→iText r.v=r.w:=by
 intro r hr
 simp only[kn,List.mem_cons,List.not_mem_nil,or_false]at hr
 rcases hr with rfl|rfl|rfl|rfl|rfl|rfl<;>simp[iText,decT,dec,digs,chr]
theorem example11_t{H:AHeap}{Q:AV→AHeap→Prop}(hq:Q (AV.agg [.int .i64 exE.ins,.int .i64 exE.regs,CodeA exE.code true,OutsA exE.outs true]) H):Run Tryd.prog 45 [] H Q:=by
 refine enter45 (by simp) ?_
 simp(disch:=first|exact Xe|fail)only[ac45,↓Xa,Xb,Xc,↓reduceIte,Nat.reduceLT,Nat.reduceEqDiff,Nat.reduceBEq,Nat.reduceLeDiff,Nat.reduceAdd,Nat.reduceMul]
 refine alloc_i fun p0 n0=>?_
 simp(disch:=first|exact Xe|fail)only[rep5,↓Xa,Xb,Xc,↓reduceIte,Nat.reduceLT,Nat.reduceEqDiff,Nat.reduceBEq,Nat.reduceLeDiff,Nat.reduceAdd,Nat.reduceMul]
 have eR:List.drop 3 (repA [AV.int .i64 ((0:Nat):Int)] 3)=[]:=rfl
 simp(disch:=first|exact Xe|fail)only[rs45,↓Xa,Xb,Xc,↓reduceIte,Nat.reduceLT,Nat.reduceEqDiff,Nat.reduceBEq,Nat.reduceLeDiff,Nat.reduceAdd,Nat.reduceMul]
 exact SetR.dropTo ((Le.refl H).updB n0) (SetR.now hq)
def exE2:PR:=⟨2,3,[⟨3,2,0,1,0⟩,⟨6,2,2,0,1⟩],[0,2,1]⟩
theorem exE2_ok:exE2.ok:=by
 refine⟨by unfold I64;decide,by unfold I64;decide,fun i hi=>?_,by decide,fun n hn=>?_,by decide⟩
 ·simp only[exE2,List.mem_cons,List.not_mem_nil,or_false]at hi
  rcases hi with rfl|rfl<;>(unfold Ins.ok I64;decide)
 ·simp only[exE2,List.mem_cons,List.not_mem_nil,or_false]at hn
  rcases hn with rfl|rfl|rfl<;>(unfold I64;decide)
theorem evalKnown_tab{H:AHeap}{Q:AV→AHeap→Prop}(hT:Tz64H H)(hq:Q (.bool true) H):Run Tryd.prog 8 [] H Q:=by
 refine enter8 (by simp) ?_
 simp(disch:=first|exact Xe|fail)only[ac8,↓Xa,Xb,Xc,↓reduceIte,Nat.reduceLT,Nat.reduceEqDiff,Nat.reduceBEq,Nat.reduceLeDiff,Nat.reduceAdd,Nat.reduceMul]
 refine run_call (works11_run hT ?_)
 simp(disch:=first|exact Xe|fail)only[len_rw (show 6<9223372036854775808 by decide),↓Xa,Xb,Xc,↓reduceIte,Nat.reduceLT,Nat.reduceEqDiff,Nat.reduceBEq,Nat.reduceLeDiff,Nat.reduceAdd,Nat.reduceMul]
 refine W_loop (fun s:Nat=>⟨[],[(45,.seq kn.length (kn.flatMap knC) true),(46,.int .i64 ((6:Nat):Int)),(47,.int .i64 s)],H⟩) (fun s=>s≤6) (fun s=>6-s) 0 (Settle.now rfl) (Nat.zero_le _) ?_
 intro s hs0
 by_cases hs:s<6
 ·have hsk:s<kn.length:=hs
  simp(disch:=first|exact Xe|fail)only[hs,idx_kn hsk,load_kn hsk,↓Xa,Xb,Xc,↓reduceIte,Nat.reduceLT,Nat.reduceEqDiff,Nat.reduceBEq,Nat.reduceLeDiff,Nat.reduceAdd,Nat.reduceMul]
  have hok:=kn_ok _ (List.getElem_mem hsk)
  have htx:=kn_text _ (List.getElem_mem hsk)
  generalize kn[s]=r at*
  obtain⟨⟨o1,o2,o3,o4⟩,o5,o6⟩:=hok
  refine alloc_i fun p2 n2=>?_
  simp(disch:=first|exact Xe|fail)only[cells_knA,↓Xa,Xb,Xc,↓reduceIte,Nat.reduceLT,Nat.reduceEqDiff,Nat.reduceBEq,Nat.reduceLeDiff,Nat.reduceAdd,Nat.reduceMul]
  refine PFn.dcall (list11_fn (l:=r.c) (t:=true) (by omega) (fun n hn=>by have:=o2 n hn;unfold I64;omega)) ?_
  simp(disch:=first|exact Xe|fail)only[fold_PtV,↓Xa,Xb,Xc,↓reduceIte,Nat.reduceLT,Nat.reduceEqDiff,Nat.reduceBEq,Nat.reduceLeDiff,Nat.reduceAdd,Nat.reduceMul]
  have v11:=value11_fn (A:=r.a) (B:=r.b) (xs:=r.c) (t:=false) (k0:=2) (by omega) (fun z hz=>Bd.i64 (by have:=o2 z hz;omega)) (by decide)
  rw[o5,o6]at v11
  refine PFn.dcall v11 ?_
  simp(disch:=first|exact Xe|fail)only[↓Xa,Xb,Xc,↓reduceIte,Nat.reduceLT,Nat.reduceEqDiff,Nat.reduceBEq,Nat.reduceLeDiff,Nat.reduceAdd,Nat.reduceMul]
  refine dalloc_i fun p3 n3=>?_
  obtain⟨a32,n3'⟩:=upd_none.1 n3
  simp(disch:=first|exact Xe|fail)only[cells_IntA,fold_IntA,↓Xa,Xb,Xc,↓reduceIte,Nat.reduceLT,Nat.reduceEqDiff,Nat.reduceBEq,Nat.reduceLeDiff,Nat.reduceAdd,Nat.reduceMul]
  have bv:Bd 1 r.v:=by unfold Bd;omega
  refine PFn.dcall (itext_fn bv (by decide)) ?_
  rw[htx]
  have dE:decide (((r.e:Nat):Int)=((r.e:Nat):Int))=true:=decide_eq_true rfl
  simp(disch:=first|exact Xe|fail)only[neq_Sx,decide_true,neq_int,dE,↓Xa,Xb,Xc,↓reduceIte,Nat.reduceLT,Nat.reduceEqDiff,Nat.reduceBEq,Nat.reduceLeDiff,Nat.reduceAdd,Nat.reduceMul]
  exact Settle.dropTo (((Le.refl H).updB n2).updB n3') (Settle.now ⟨s+1,by omega,by omega,rfl⟩)
 ·obtain rfl:s=6:=by omega
  simp(disch:=first|exact Xe|fail)only[hs,↓Xa,Xb,Xc,↓reduceIte,Nat.reduceLT,Nat.reduceEqDiff,Nat.reduceBEq,Nat.reduceLeDiff,Nat.reduceAdd,Nat.reduceMul]
  refine Settle.now ?_
  simp(disch:=first|exact Xe|fail)only[↓Xa,Xb,Xc,↓reduceIte,Nat.reduceLT,Nat.reduceEqDiff,Nat.reduceBEq,Nat.reduceLeDiff,Nat.reduceAdd,Nat.reduceMul]
  have hl1: ∀n,n∈[((1:Nat):Int),(-1:Int)]→I64 n:=fun n hn=>by
   simp only[List.mem_cons,List.not_mem_nil,or_false]at hn
   rcases hn with rfl|rfl<;>(unfold I64;decide)
  refine(list11_fn (l:=[((1:Nat):Int),(-1:Int)]) (t:=true) (by decide) hl1).call ?_
  simp(disch:=first|exact Xe|fail)only[↓Xa,Xb,Xc,↓reduceIte,Nat.reduceLT,Nat.reduceEqDiff,Nat.reduceBEq,Nat.reduceLeDiff,Nat.reduceAdd,Nat.reduceMul]
  have hp1:=points11_fn (l:=[((0:Nat):Int),((1:Nat):Int),((1:Nat):Int),((1:Nat):Int),(-1:Int),((1:Nat):Int),((1:Nat):Int),((0:Nat):Int)]) (t:=true) (by decide)
  have ep1:pairsP [((0:Nat):Int),((1:Nat):Int),((1:Nat):Int),((1:Nat):Int),(-1:Int),((1:Nat):Int),((1:Nat):Int),((0:Nat):Int)]=[⟨0,1⟩,⟨1,1⟩,⟨-1,1⟩,⟨1,0⟩]:=by simp[pairsP,List.range,List.range.loop]
  rw[ep1]at hp1
  refine hp1.call ?_
  simp(disch:=first|exact Xe|fail)only[↓Xa,Xb,Xc,↓reduceIte,Nat.reduceLT,Nat.reduceEqDiff,Nat.reduceBEq,Nat.reduceLeDiff,Nat.reduceAdd,Nat.reduceMul]
  have hv1:=values11_fn (xs:=[((1:Nat):Int),(-1:Int)]) (l:=[⟨0,1⟩,⟨1,1⟩,⟨-1,1⟩,⟨1,0⟩]) (t:=false) (t':=false) (k0:=2) (by decide) (by decide) (fun z hz=>Bd.i64 (hl1 z hz)) (by decide)
  have ev1:valsL [((1:Nat):Int),(-1:Int)] [⟨0,1⟩,⟨1,1⟩,⟨-1,1⟩,⟨1,0⟩]=[1,0,2,-1]:=by decide
  have ev2:valsE [((1:Nat):Int),(-1:Int)] [⟨0,1⟩,⟨1,1⟩,⟨-1,1⟩,⟨1,0⟩]=0:=by decide
  rw[ev1,ev2]at hv1
  refine hv1.call ?_
  have lv4:([1,0,2,-1]:List Int).length<9223372036854775808:=by decide
  have d0:decide (((0:Nat):Int)=((0:Nat):Int))=true:=rfl
  have d4:decide ((([1,0,2,-1]:List Int).length:Int)=((4:Nat):Int))=true:=rfl
  have x0: ∀{i:Nat}(_:i<([1,0,2,-1]:List Int).length){K:AV→Prop},idxAW 2 (RowA [1,0,2,-1] false) (.int .i64 ((i:Nat):Int)) K=K (.cptr ((IC [1,0,2,-1]).drop (i*2))):=fun h=>idx_IC h
  have y0: ∀{K:AV→Prop},loadW H (some 2) (.cptr (IC [1,0,2,-1])) K=K (IntA 1):=fun{K}=>load_IC (zs:=[1,0,2,-1]) (i:=0) (by decide)
  have y1: ∀{K:AV→Prop},loadW H (some 2) (.cptr ((IC [1,0,2,-1]).drop 2)) K=K (IntA 0):=fun{K}=>load_IC (zs:=[1,0,2,-1]) (i:=1) (by decide)
  have y2: ∀{K:AV→Prop},loadW H (some 2) (.cptr ((IC [1,0,2,-1]).drop 4)) K=K (IntA 2):=fun{K}=>load_IC (zs:=[1,0,2,-1]) (i:=2) (by decide)
  have y3: ∀{K:AV→Prop},loadW H (some 2) (.cptr ((IC [1,0,2,-1]).drop 6)) K=K (IntA (-1)):=fun{K}=>load_IC (zs:=[1,0,2,-1]) (i:=3) (by decide)
  have c0:(0:Nat)<([1,0,2,-1]:List Int).length:=by decide
  have c1:(1:Nat)<([1,0,2,-1]:List Int).length:=by decide
  have c2:(2:Nat)<([1,0,2,-1]:List Int).length:=by decide
  have c3:(3:Nat)<([1,0,2,-1]:List Int).length:=by decide
  have t1:iText 1=[49]:=by simp[iText,decT,dec,digs,chr]
  have t2:iText 0=[48]:=by simp[iText,decT,dec,digs,chr]
  have t3:iText 2=[50]:=by simp[iText,decT,dec,digs,chr]
  have t4:iText (-1)=[45,49]:=by simp[iText,decT,dec,digs,chr]
  have s1:AV.str ⟨#[49]⟩=Sx [49]:=rfl
  have s2:AV.str ⟨#[48]⟩=Sx [48]:=rfl
  have s3:AV.str ⟨#[50]⟩=Sx [50]:=rfl
  have s4:AV.str ⟨#[45,49]⟩=Sx [45,49]:=rfl
  simp(disch:=first|exact Xe|fail)only[neq_int,d0,len_rw lv4,d4,x0 c0,y0,↓Xa,Xb,Xc,↓reduceIte,Nat.reduceLT,Nat.reduceEqDiff,Nat.reduceBEq,Nat.reduceLeDiff,Nat.reduceAdd,Nat.reduceMul]
  refine(itext_fn (x:=1) (k:=1) (by unfold Bd;decide) (by decide)).call ?_
  rw[t1]
  simp(disch:=first|exact Xe|fail)only[s1,neq_Sx,decide_true,x0 c1,y1,↓Xa,Xb,Xc,↓reduceIte,Nat.reduceLT,Nat.reduceEqDiff,Nat.reduceBEq,Nat.reduceLeDiff,Nat.reduceAdd,Nat.reduceMul]
  refine(itext_fn (x:=0) (k:=1) (by unfold Bd;decide) (by decide)).call ?_
  rw[t2]
  simp(disch:=first|exact Xe|fail)only[s2,neq_Sx,decide_true,x0 c2,y2,↓Xa,Xb,Xc,↓reduceIte,Nat.reduceLT,Nat.reduceEqDiff,Nat.reduceBEq,Nat.reduceLeDiff,Nat.reduceAdd,Nat.reduceMul]
  refine(itext_fn (x:=2) (k:=1) (by unfold Bd;decide) (by decide)).call ?_
  rw[t3]
  simp(disch:=first|exact Xe|fail)only[s3,neq_Sx,decide_true,x0 c3,y3,↓Xa,Xb,Xc,↓reduceIte,Nat.reduceLT,Nat.reduceEqDiff,Nat.reduceBEq,Nat.reduceLeDiff,Nat.reduceAdd,Nat.reduceMul]
  refine(itext_fn (x:= -1) (k:=1) (by unfold Bd;decide) (by decide)).call ?_
  rw[t4]
  simp(disch:=first|exact Xe|fail)only[s4,neq_Sx,decide_true,↓Xa,Xb,Xc,↓reduceIte,Nat.reduceLT,Nat.reduceEqDiff,Nat.reduceBEq,Nat.reduceLeDiff,Nat.reduceAdd,Nat.reduceMul]
  refine example11_fn.call ?_
  have hp2:=points11_fn (l:=[((0:Nat):Int),((1:Nat):Int),((1:Nat):Int),((0:Nat):Int),((1:Nat):Int),((1:Nat):Int)]) (t:=true) (by decide)
  have ep2:pairsP [((0:Nat):Int),((1:Nat):Int),((1:Nat):Int),((0:Nat):Int),((1:Nat):Int),((1:Nat):Int)]=[⟨0,1⟩,⟨1,0⟩,⟨1,1⟩]:=by simp[pairsP,List.range,List.range.loop]
  rw[ep2]at hp2
  simp(disch:=first|exact Xe|fail)only[↓Xa,Xb,Xc,↓reduceIte,Nat.reduceLT,Nat.reduceEqDiff,Nat.reduceBEq,Nat.reduceLeDiff,Nat.reduceAdd,Nat.reduceMul]
  refine hp2.call ?_
  simp(disch:=first|exact Xe|fail)only[↓Xa,Xb,Xc,↓reduceIte,Nat.reduceLT,Nat.reduceEqDiff,Nat.reduceBEq,Nat.reduceLeDiff,Nat.reduceAdd,Nat.reduceMul]
  have he2:=evaluates11_fn (p:=exE) (k:=((2:Nat):Int)) (l:=[⟨0,1⟩,⟨1,0⟩,⟨1,1⟩]) (t:=false) exE_ok (by decide)
  have b2:evB exE ((2:Nat):Int) [⟨0,1⟩,⟨1,0⟩,⟨1,1⟩]=false∧evE exE ((2:Nat):Int) [⟨0,1⟩,⟨1,0⟩,⟨1,1⟩]=0:=by decide
  rw[b2.1,b2.2]at he2
  refine he2.call ?_
  simp(disch:=first|exact Xe|fail)only[↓Xa,Xb,Xc,↓reduceIte,Nat.reduceLT,Nat.reduceEqDiff,Nat.reduceBEq,Nat.reduceLeDiff,Nat.reduceAdd,Nat.reduceMul]
  refine example11_fn.call ?_
  have hp3:=points11_fn (l:=[((0:Nat):Int),((1:Nat):Int),((1:Nat):Int),((1:Nat):Int),(-1:Int),((1:Nat):Int)]) (t:=true) (by decide)
  have ep3:pairsP [((0:Nat):Int),((1:Nat):Int),((1:Nat):Int),((1:Nat):Int),(-1:Int),((1:Nat):Int)]=[⟨0,1⟩,⟨1,1⟩,⟨-1,1⟩]:=by simp[pairsP,List.range,List.range.loop]
  rw[ep3]at hp3
  simp(disch:=first|exact Xe|fail)only[↓Xa,Xb,Xc,↓reduceIte,Nat.reduceLT,Nat.reduceEqDiff,Nat.reduceBEq,Nat.reduceLeDiff,Nat.reduceAdd,Nat.reduceMul]
  refine hp3.call ?_
  simp(disch:=first|exact Xe|fail)only[↓Xa,Xb,Xc,↓reduceIte,Nat.reduceLT,Nat.reduceEqDiff,Nat.reduceBEq,Nat.reduceLeDiff,Nat.reduceAdd,Nat.reduceMul]
  have he3:=evaluates11_fn (p:=exE) (k:=((2:Nat):Int)) (l:=[⟨0,1⟩,⟨1,1⟩,⟨-1,1⟩]) (t:=false) exE_ok (by decide)
  have b3:evB exE ((2:Nat):Int) [⟨0,1⟩,⟨1,1⟩,⟨-1,1⟩]=false∧evE exE ((2:Nat):Int) [⟨0,1⟩,⟨1,1⟩,⟨-1,1⟩]=0:=by decide
  rw[b3.1,b3.2]at he3
  refine he3.call ?_
  simp(disch:=first|exact Xe|fail)only[↓Xa,Xb,Xc,↓reduceIte,Nat.reduceLT,Nat.reduceEqDiff,Nat.reduceBEq,Nat.reduceLeDiff,Nat.reduceAdd,Nat.reduceMul]
  refine run_call (example11_t ?_)
  simp(disch:=first|exact Xe|fail)only[↓Xa,Xb,Xc,↓reduceIte,Nat.reduceLT,Nat.reduceEqDiff,Nat.reduceBEq,Nat.reduceLeDiff,Nat.reduceAdd,Nat.reduceMul]
  refine alloc_i fun p11 n11=>?_
  simp(disch:=first|exact Xe|fail)only[rep5,↓Xa,Xb,Xc,↓reduceIte,Nat.reduceLT,Nat.reduceEqDiff,Nat.reduceBEq,Nat.reduceLeDiff,Nat.reduceAdd,Nat.reduceMul]
  refine .inl ⟨rfl,rfl,rfl,rfl,by decide,by decide,fun e=>absurd e (by decide),fun _ b hb=>?_⟩
  obtain⟨ab1,hb'⟩:=upd_none.1 hb
  have hp4:=points11_fn (l:=[((0:Nat):Int),((1:Nat):Int),((1:Nat):Int),((1:Nat):Int),((1:Nat):Int),((0:Nat):Int)]) (t:=true) (by decide)
  have ep4:pairsP [((0:Nat):Int),((1:Nat):Int),((1:Nat):Int),((1:Nat):Int),((1:Nat):Int),((0:Nat):Int)]=[⟨0,1⟩,⟨1,1⟩,⟨1,0⟩]:=by simp[pairsP,List.range,List.range.loop]
  rw[ep4]at hp4
  simp(disch:=first|exact Xe|fail)only[rep5,↓Xa,Xb,Xc,↓reduceIte,Nat.reduceLT,Nat.reduceEqDiff,Nat.reduceBEq,Nat.reduceLeDiff,Nat.reduceAdd,Nat.reduceMul]
  refine PFn.dcall hp4 ?_
  simp(disch:=first|exact Xe|fail)only[↓Xa,Xb,Xc,↓reduceIte,Nat.reduceLT,Nat.reduceEqDiff,Nat.reduceBEq,Nat.reduceLeDiff,Nat.reduceAdd,Nat.reduceMul]
  have he4:=evaluates11_fn (p:=exE2) (k:=((2:Nat):Int)) (l:=[⟨0,1⟩,⟨1,1⟩,⟨1,0⟩]) (t:=false) exE2_ok (by decide)
  have b4:evB exE2 ((2:Nat):Int) [⟨0,1⟩,⟨1,1⟩,⟨1,0⟩]=false∧evE exE2 ((2:Nat):Int) [⟨0,1⟩,⟨1,1⟩,⟨1,0⟩]=0:=by decide
  rw[b4.1,b4.2]at he4
  refine run_call (Run.give (b:=b) (args':=[AV.agg [.int .i64 exE2.ins,.int .i64 exE2.regs,CodeA exE2.code false,OutsA exE2.outs true],.int .i64 ((2:Nat):Int),PtsA [⟨0,1⟩,⟨1,1⟩,⟨1,0⟩] false]) (upd_same _ _ _) ?_ (Run.wk (he4 _ _ ?_) (.cons Wk.prog (.cons Wk.refl (.cons Wk.refl .nil)))))
  ·simp[frz,frz2,frz1,exE,exE2,CodeA,insC]
  rw[upd_upd,upd_back _ (upd_none.2 ⟨ab1,hb'⟩)]
  have l11:Le H (H.upd p11 (some (.row 25 0 [.int .i64 exE.ins,.int .i64 exE.regs,.own b ((exE.code.length+1)*5) 0 (exE.code.length+1) false,OutsA exE.outs true]))):=(Le.refl H).updB n11
  generalize(H.upd p11 (some (.row 25 0 [.int .i64 exE.ins,.int .i64 exE.regs,.own b ((exE.code.length+1)*5) 0 (exE.code.length+1) false,OutsA exE.outs true])))=M1 at*
  clear he4 b4 he3 b3 he2 b2 hv1 ev1 ev2 y0 y1 y2 y3 x0
  have hp5:=points11_fn (l:=[((0:Nat):Int),((1:Nat):Int),((1:Nat):Int),((1:Nat):Int)]) (t:=true) (by decide)
  have ep5:pairsP [((0:Nat):Int),((1:Nat):Int),((1:Nat):Int),((1:Nat):Int)]=[⟨0,1⟩,⟨1,1⟩]:=by simp[pairsP,List.range,List.range.loop]
  rw[ep5]at hp5
  have hp6:=points11_fn (l:=[((0:Nat):Int),((1:Nat):Int)]) (t:=true) (by decide)
  have ep6:pairsP [((0:Nat):Int),((1:Nat):Int)]=[⟨0,1⟩]:=by simp[pairsP,List.range,List.range.loop]
  rw[ep6]at hp6
  have hp7:=points11_fn (l:=[((0:Nat):Int),((0:Nat):Int)]) (t:=true) (by decide)
  have ep7:pairsP [((0:Nat):Int),((0:Nat):Int)]=[⟨0,0⟩]:=by simp[pairsP,List.range,List.range.loop]
  rw[ep7]at hp7
  simp(disch:=first|exact Xe|fail)only[↓Xa,Xb,Xc,↓reduceIte,Nat.reduceLT,Nat.reduceEqDiff,Nat.reduceBEq,Nat.reduceLeDiff,Nat.reduceAdd,Nat.reduceMul]
  refine hp5.call ?_
  simp(disch:=first|exact Xe|fail)only[↓Xa,Xb,Xc,↓reduceIte,Nat.reduceLT,Nat.reduceEqDiff,Nat.reduceBEq,Nat.reduceLeDiff,Nat.reduceAdd,Nat.reduceMul]
  refine run_call (program11_run (hT.le l11) (by decide) ?_)
  have e5:prE (((0:Nat)):Int) [⟨0,1⟩,⟨1,1⟩]=2:=by decide
  rw[e5]
  generalize hP5:prA (((0:Nat)):Int) [⟨0,1⟩,⟨1,1⟩]=P5 at*
  simp(disch:=first|exact Xe|fail)only[↓Xa,Xb,Xc,↓reduceIte,Nat.reduceLT,Nat.reduceEqDiff,Nat.reduceBEq,Nat.reduceLeDiff,Nat.reduceAdd,Nat.reduceMul]
  refine alloc_i fun p14 n5=>?_
  simp(disch:=first|exact Xe|fail)only[cells_ProgA,↓Xa,Xb,Xc,↓reduceIte,Nat.reduceLT,Nat.reduceEqDiff,Nat.reduceBEq,Nat.reduceLeDiff,Nat.reduceAdd,Nat.reduceMul]
  have l5:Le H (M1.upd p14 (some (.row 25 0 [.int .i64 P5.ins,.int .i64 P5.regs,CodeA P5.code false,OutsA P5.outs false]))):=l11.upd n5
  have g5:(M1.upd p14 (some (.row 25 0 [.int .i64 P5.ins,.int .i64 P5.regs,CodeA P5.code false,OutsA P5.outs false]))) p14=some (.row 25 0 [.int .i64 P5.ins,.int .i64 P5.regs,CodeA P5.code false,OutsA P5.outs false]):=upd_same _ _ _
  generalize(M1.upd p14 (some (.row 25 0 [.int .i64 P5.ins,.int .i64 P5.regs,CodeA P5.code false,OutsA P5.outs false])))=M2 at*
  refine hp6.call ?_
  simp(disch:=first|exact Xe|fail)only[↓Xa,Xb,Xc,↓reduceIte,Nat.reduceLT,Nat.reduceEqDiff,Nat.reduceBEq,Nat.reduceLeDiff,Nat.reduceAdd,Nat.reduceMul]
  refine run_call (program11_run (hT.le l5) (by decide) ?_)
  have e6:prE (((9:Nat)):Int) [⟨0,1⟩]=2:=by decide
  rw[e6]
  generalize hP6:prA (((9:Nat)):Int) [⟨0,1⟩]=P6 at*
  simp(disch:=first|exact Xe|fail)only[↓Xa,Xb,Xc,↓reduceIte,Nat.reduceLT,Nat.reduceEqDiff,Nat.reduceBEq,Nat.reduceLeDiff,Nat.reduceAdd,Nat.reduceMul]
  refine alloc_i fun p16 n6=>?_
  simp(disch:=first|exact Xe|fail)only[cells_ProgA,↓Xa,Xb,Xc,↓reduceIte,Nat.reduceLT,Nat.reduceEqDiff,Nat.reduceBEq,Nat.reduceLeDiff,Nat.reduceAdd,Nat.reduceMul]
  have l6:Le H (M2.upd p16 (some (.row 25 0 [.int .i64 P6.ins,.int .i64 P6.regs,CodeA P6.code false,OutsA P6.outs false]))):=l5.upd n6
  have g6:(M2.upd p16 (some (.row 25 0 [.int .i64 P6.ins,.int .i64 P6.regs,CodeA P6.code false,OutsA P6.outs false]))) p16=some (.row 25 0 [.int .i64 P6.ins,.int .i64 P6.regs,CodeA P6.code false,OutsA P6.outs false]):=upd_same _ _ _
  generalize(M2.upd p16 (some (.row 25 0 [.int .i64 P6.ins,.int .i64 P6.regs,CodeA P6.code false,OutsA P6.outs false])))=M3 at*
  refine run_call (program11_run (l:=[]) (t:=true) (hT.le l6) (by decide) ?_)
  have e7:prE (((2:Nat)):Int) []=2:=by decide
  rw[e7]
  generalize hP7:prA (((2:Nat)):Int) []=P7 at*
  simp(disch:=first|exact Xe|fail)only[↓Xa,Xb,Xc,↓reduceIte,Nat.reduceLT,Nat.reduceEqDiff,Nat.reduceBEq,Nat.reduceLeDiff,Nat.reduceAdd,Nat.reduceMul]
  refine alloc_i fun p18 n7=>?_
  simp(disch:=first|exact Xe|fail)only[cells_ProgA,↓Xa,Xb,Xc,↓reduceIte,Nat.reduceLT,Nat.reduceEqDiff,Nat.reduceBEq,Nat.reduceLeDiff,Nat.reduceAdd,Nat.reduceMul]
  have l7:Le H (M3.upd p18 (some (.row 25 0 [.int .i64 P7.ins,.int .i64 P7.regs,CodeA P7.code false,OutsA P7.outs false]))):=l6.upd n7
  have g7:(M3.upd p18 (some (.row 25 0 [.int .i64 P7.ins,.int .i64 P7.regs,CodeA P7.code false,OutsA P7.outs false]))) p18=some (.row 25 0 [.int .i64 P7.ins,.int .i64 P7.regs,CodeA P7.code false,OutsA P7.outs false]):=upd_same _ _ _
  generalize(M3.upd p18 (some (.row 25 0 [.int .i64 P7.ins,.int .i64 P7.regs,CodeA P7.code false,OutsA P7.outs false])))=M4 at*
  refine hp7.call ?_
  simp(disch:=first|exact Xe|fail)only[↓Xa,Xb,Xc,↓reduceIte,Nat.reduceLT,Nat.reduceEqDiff,Nat.reduceBEq,Nat.reduceLeDiff,Nat.reduceAdd,Nat.reduceMul]
  refine run_call (program11_run (hT.le l7) (by decide) ?_)
  have e8:prE (((1:Nat)):Int) [⟨0,0⟩]=0:=by decide
  rw[e8]
  generalize hP8:prA (((1:Nat)):Int) [⟨0,0⟩]=P8 at*
  simp(disch:=first|exact Xe|fail)only[↓Xa,Xb,Xc,↓reduceIte,Nat.reduceLT,Nat.reduceEqDiff,Nat.reduceBEq,Nat.reduceLeDiff,Nat.reduceAdd,Nat.reduceMul]
  refine alloc_i fun p20 n8=>?_
  simp(disch:=first|exact Xe|fail)only[cells_ProgA,↓Xa,Xb,Xc,↓reduceIte,Nat.reduceLT,Nat.reduceEqDiff,Nat.reduceBEq,Nat.reduceLeDiff,Nat.reduceAdd,Nat.reduceMul]
  have l8:Le H (M4.upd p20 (some (.row 25 0 [.int .i64 P8.ins,.int .i64 P8.regs,CodeA P8.code false,OutsA P8.outs false]))):=l7.upd n8
  have g8:(M4.upd p20 (some (.row 25 0 [.int .i64 P8.ins,.int .i64 P8.regs,CodeA P8.code false,OutsA P8.outs false]))) p20=some (.row 25 0 [.int .i64 P8.ins,.int .i64 P8.regs,CodeA P8.code false,OutsA P8.outs false]):=upd_same _ _ _
  generalize(M4.upd p20 (some (.row 25 0 [.int .i64 P8.ins,.int .i64 P8.regs,CodeA P8.code false,OutsA P8.outs false])))=M5 at*
  have okP:P8.ok:=hP8▸prog_ok (by decide)
  have b8:evB P8 ((1:Nat):Int) [⟨0,0⟩]=true∧evE P8 ((1:Nat):Int) [⟨0,0⟩]=0:=by subst hP8;decide
  have he8:=evaluates11_fn (p:=P8) (k:=((1:Nat):Int)) (l:=[⟨0,0⟩]) (t:=false) okP (by decide)
  rw[b8.1,b8.2]at he8
  simp(disch:=first|exact Xe|fail)only[g8,fold_ProgA,↓Xa,Xb,Xc,↓reduceIte,Nat.reduceLT,Nat.reduceEqDiff,Nat.reduceBEq,Nat.reduceLeDiff,Nat.reduceAdd,Nat.reduceMul]
  refine PFn.dcall hp7 ?_
  simp(disch:=first|exact Xe|fail)only[↓Xa,Xb,Xc,↓reduceIte,Nat.reduceLT,Nat.reduceEqDiff,Nat.reduceBEq,Nat.reduceLeDiff,Nat.reduceAdd,Nat.reduceMul]
  refine he8.call ?_
  simp(disch:=first|exact Xe|fail)only[↓Xa,Xb,Xc,↓reduceIte,Nat.reduceLT,Nat.reduceEqDiff,Nat.reduceBEq,Nat.reduceLeDiff,Nat.reduceAdd,Nat.reduceMul]
  refine hp7.call ?_
  simp(disch:=first|exact Xe|fail)only[↓Xa,Xb,Xc,↓reduceIte,Nat.reduceLT,Nat.reduceEqDiff,Nat.reduceBEq,Nat.reduceLeDiff,Nat.reduceAdd,Nat.reduceMul]
  have okZ:(⟨0,0,[],[]⟩:PR).ok:=⟨by unfold I64;decide,by unfold I64;decide,fun i hi=>(by cases hi),by decide,fun i hi=>(by cases hi),by decide⟩
  have b9:evE ⟨0,0,[],[]⟩ ((1:Nat):Int) [⟨0,0⟩]=80:=by decide
  have he9:=evaluates11_fn (p:=⟨0,0,[],[]⟩) (k:=((1:Nat):Int)) (l:=[⟨0,0⟩]) (t:=false) okZ (by decide)
  rw[b9]at he9
  refine run_call (Run.wk (he9 _ _ ?_) (.cons (Wk.prog (p:=⟨0,0,[],[]⟩) (a:=true) (b:=true)) (.cons Wk.refl (.cons Wk.refl .nil))))
  have d2:decide (((2:Nat):Int)=((2:Nat):Int))=true:=rfl
  have d80:decide (((80:Nat):Int)=((80:Nat):Int))=true:=rfl
  simp(disch:=first|exact Xe|fail)only[eql_int,d0,d2,d80,rs8,↓Xa,Xb,Xc,↓reduceIte,Nat.reduceLT,Nat.reduceEqDiff,Nat.reduceBEq,Nat.reduceLeDiff,Nat.reduceAdd,Nat.reduceMul]
  exact SetR.dropTo l8 (SetR.now hq)
end Go.Proofs.YtmndejlpfmmaiaaDoor.Fw
