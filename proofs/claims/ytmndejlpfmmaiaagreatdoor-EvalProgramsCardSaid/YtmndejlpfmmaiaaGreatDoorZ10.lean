/- The texts Gb Gc Gx Gy Ha Gd Ge Gf Gg Gh Gj Hb Hc Hd He Eu Ev Hh Hg, joined. -/
import Derived.Test.YtmndejlpfmmaiaaGreatDoorZ9
set_option linter.unusedSimpArgs false
set_option linter.unusedVariables false
namespace Go.Proofs.YtmndejlpfmmaiaaGreatDoor.Fw
open Go Go.Proofs.YtmndejlpfmmaiaaGreatDoor.Ma
set_option maxRecDepth 20000
def zU1(b:Nat)(cells:List AV):AV→AV
 |.cptr l=>.cptr (l.map (frzP b cells))
 |x=>zHM b cells x
def frzPP(b:Nat)(cells:List AV):AV→AV
 |.fn f first caps=>.fn f first (caps.map (zU1 b cells))
 |x=>zHM b cells x
theorem zPS{c:Ctx}(hok:Ok c){b:Nat}{ty:TypeId}{es:Nat}{cells:List AV}(hH:c.H b=some (.row ty es cells))(x:AV)(v:Value)(h:Enc c x v):Enc (c.drop b) (zU1 b cells x) v:=by
 unfold zU1
 split
 ·rename_i l
  cases h with
  |cptr _ k off cv hm hk hcell hc=>
   have hl:=(c.drop_later b).toLater0
   exact .cptr _ k off cv (hl.keep k hk hm).2 hk (fun i hi=>hcell i (by simpa using hi)) fun i hi=>by
    rw[List.getElem_map];exact zMq hok hH _ _ (hc i (by simpa using hi))
 ·exact zEo hok hH _ _ h
theorem zRX{c:Ctx}(hok:Ok c){b:Nat}{ty:TypeId}{es:Nat}{cells:List AV}(hH:c.H b=some (.row ty es cells))(x:AV)(v:Value)(h:Enc c x v):Enc (c.drop b) (frzPP b cells x) v:=by
 unfold frzPP
 split
 ·cases h with
  |fn f first caps fv cv hf hcs h1 h2=>exact .fn _ _ _ _ _ hf (by simpa using hcs) (fun i hi hi'=>(h1 i hi hi').later (c.drop_later b)) (Enc.list_map (zPS hok hH) h2)
 ·exact zEo hok hH _ _ h
theorem SetR.frzPP{Q:AV→AHeap→Prop}{r:AV}{H:AHeap}(b:Nat){ty:TypeId}{es:Nat}{cells:List AV}(hb:H b=some (.row ty es cells))(h:SetR Q (Fw.frzPP b cells r) (H.upd b none)):SetR Q r H:=
 SetR.join fun c v hH hok he=>⟨c.drop b,_,rfl,Ctx.drop_ok hok b,c.drop_later b,zRX hok (hH▸hb) _ _ he,by show SetR Q _ (c.H.upd b none);rw[hH];exact h⟩
def FnAns(f:AV)(args:List AV)(r:AV):Prop:= ∀(H:AHeap)(K:AV→AHeap→Prop),K r H→zBw Tryz.prog f args H K
theorem FnAns.of{f:FuncId}{args:List AV}{r:AV}(h:PFn Tryz.prog f args r):FnAns (.fn (.func f) [] []) args r:=fun _ _ hk=>h.call hk
theorem FnAns.caps{f:FuncId}{args caps:List AV}{r:AV}(h:PFn Tryz.prog f (args++caps) r):FnAns (.fn (.func f) [] caps) args r:=fun H K hk=>zFy (h H K hk)
theorem zYZ{H:AHeap}{x:AV}{K:AV→Prop}:zBC H none (.cptr [x]) K=K x:=by simp[zBC,zBB]
theorem zId{H:AHeap}{i:Ins}{K:AV→Prop}:zBC H none (.cptr ((zDC i).drop 4)) K=K (.int .i64 i.c):=by simp[zBC,zBB,zDC]
theorem zC1{f:AV}(hf:f.cells=some [f]):PFn Tryz.prog 166 [f] (.fn (.func 167) [] [.cptr [f]]):=by
 intro H Q hq
 refine zTq (by simp) ?_
 simp(disch:=first|exact Xe|fail)only[zdE,hf,↓Xa,Xb,Xc,↓reduceIte,Nat.reduceLT,Nat.reduceEqDiff,Nat.reduceBEq,Nat.reduceLeDiff,Nat.reduceAdd]
 refine zAD fun p1 hp1=>?_
 have n1:=hp1
 simp(disch:=first|exact Xe|fail)only[zdm,↓Xa,Xb,Xc,↓reduceIte,Nat.reduceLT,Nat.reduceEqDiff,Nat.reduceBEq,Nat.reduceLeDiff,Nat.reduceAdd]
 refine SetR.frzP p1 (zAC _ _ _) ?_
 rw[zAP,zAU _ n1]
 have e:frzP p1 [f] (.fn (.func 167) [] [.ptr p1 1 0])=.fn (.func 167) [] [.cptr [f]]:=by simp[frzP,zHM]
 rw[e];exact SetR.now hq
theorem zCW{f:AV}{a b r:Int}(h:FnAns f [zAl a,zAl b] (zAl r)):FnAns (.fn (.func 167) [] [.cptr [f]]) [zAl a,zAl b] (.tup [zAl r,.bool true]):=by
 refine FnAns.caps ?_
 intro H Q hq
 refine zUP (by simp) ?_
 simp(disch:=first|exact Xe|fail)only[zcC,zAE,↓Xa,Xb,Xc,↓reduceIte,Nat.reduceLT,Nat.reduceEqDiff,Nat.reduceBEq,Nat.reduceLeDiff,Nat.reduceAdd]
 refine zAD fun p1 hp1=>?_
 have n1:=hp1
 simp(disch:=first|exact Xe|fail)only[zAE,↓Xa,Xb,Xc,↓reduceIte,Nat.reduceLT,Nat.reduceEqDiff,Nat.reduceBEq,Nat.reduceLeDiff,Nat.reduceAdd]
 refine zAD fun p2 hp2=>?_
 have n2:=hp2
 simp only[zAB]at n2
 obtain⟨_,n2⟩:=n2
 simp(disch:=first|exact Xe|fail)only[↓Xa,Xb,Xc,↓reduceIte,Nat.reduceLT,Nat.reduceEqDiff,Nat.reduceBEq,Nat.reduceLeDiff,Nat.reduceAdd]
 refine zAD fun p3 hp3=>?_
 have n3:=hp3
 simp only[zAB]at n3
 obtain⟨_,_,n3⟩:=n3
 simp(disch:=first|exact Xe|fail)only[zYZ,zAI,↓Xa,Xb,Xc,↓reduceIte,Nat.reduceLT,Nat.reduceEqDiff,Nat.reduceBEq,Nat.reduceLeDiff,Nat.reduceAdd]
 refine h _ _ ?_
 simp(disch:=first|exact Xe|fail)only[zAE,zAI,zd7,↓Xa,Xb,Xc,↓reduceIte,Nat.reduceLT,Nat.reduceEqDiff,Nat.reduceBEq,Nat.reduceLeDiff,Nat.reduceAdd]
 exact SetR.dropTo ((((Le.refl H).updB n1).updB n2).updB n3) (SetR.now hq)
theorem zYq{a b:Int}{k:Nat}(ha:Bd k a)(hk:k≤1000000):PFn Tryz.prog 168 [zAl a,zAl b] (zAl (-a)):=by
 intro H Q hq
 refine zUL (by simp) ?_
 simp(disch:=first|exact Xe|fail)only[zeL,zAE,↓Xa,Xb,Xc,↓reduceIte,Nat.reduceLT,Nat.reduceEqDiff,Nat.reduceBEq,Nat.reduceLeDiff,Nat.reduceAdd]
 refine zAD fun p1 hp1=>?_
 have n1:=hp1
 simp(disch:=first|exact Xe|fail)only[zAE,↓Xa,Xb,Xc,↓reduceIte,Nat.reduceLT,Nat.reduceEqDiff,Nat.reduceBEq,Nat.reduceLeDiff,Nat.reduceAdd]
 refine zAD fun p2 hp2=>?_
 have n2:=hp2
 simp only[zAB]at n2
 obtain⟨_,n2⟩:=n2
 simp(disch:=first|exact Xe|fail)only[↓Xa,Xb,Xc,↓reduceIte,Nat.reduceLT,Nat.reduceEqDiff,Nat.reduceBEq,Nat.reduceLeDiff,Nat.reduceAdd]
 refine zAD fun p3 hp3=>?_
 have n3:=hp3
 simp only[zAB]at n3
 obtain⟨_,_,n3⟩:=n3
 simp(disch:=first|exact Xe|fail)only[zAI,↓Xa,Xb,Xc,↓reduceIte,Nat.reduceLT,Nat.reduceEqDiff,Nat.reduceBEq,Nat.reduceLeDiff,Nat.reduceAdd]
 refine(zSA ha (by omega)).call ?_
 simp(disch:=first|exact Xe|fail)only[zAE,zAI,zbp,↓Xa,Xb,Xc,↓reduceIte,Nat.reduceLT,Nat.reduceEqDiff,Nat.reduceBEq,Nat.reduceLeDiff,Nat.reduceAdd]
 exact SetR.dropTo ((((Le.refl H).updB n1).updB n2).updB n3) (SetR.now hq)
theorem zYb{a b:Int}:PFn Tryz.prog 177 [zAl a,zAl b] (zAl a):=by
 intro H Q hq
 refine zTw (by simp) ?_
 simp(disch:=first|exact Xe|fail)only[zec,zAE,↓Xa,Xb,Xc,↓reduceIte,Nat.reduceLT,Nat.reduceEqDiff,Nat.reduceBEq,Nat.reduceLeDiff,Nat.reduceAdd]
 refine zAD fun p1 hp1=>?_
 have n1:=hp1
 simp(disch:=first|exact Xe|fail)only[zAE,↓Xa,Xb,Xc,↓reduceIte,Nat.reduceLT,Nat.reduceEqDiff,Nat.reduceBEq,Nat.reduceLeDiff,Nat.reduceAdd]
 refine zAD fun p2 hp2=>?_
 have n2:=hp2
 simp only[zAB]at n2
 obtain⟨_,n2⟩:=n2
 simp(disch:=first|exact Xe|fail)only[↓Xa,Xb,Xc,↓reduceIte,Nat.reduceLT,Nat.reduceEqDiff,Nat.reduceBEq,Nat.reduceLeDiff,Nat.reduceAdd]
 refine zAD fun p3 hp3=>?_
 have n3:=hp3
 simp only[zAB]at n3
 obtain⟨_,_,n3⟩:=n3
 simp(disch:=first|exact Xe|fail)only[zAE,zAI,zeX,↓Xa,Xb,Xc,↓reduceIte,Nat.reduceLT,Nat.reduceEqDiff,Nat.reduceBEq,Nat.reduceLeDiff,Nat.reduceAdd]
 exact SetR.dropTo ((((Le.refl H).updB n1).updB n2).updB n3) (SetR.now hq)
theorem zZf{a b:Int}{i:Ins}{k:Nat}(ha:Bd k a)(hk:k≤1000000)(hc:I64 i.c):PFn Tryz.prog 169 [zAl a,zAl b,.cptr (zDC i)] (zAl (a*i.c)):=by
 unfold I64 at hc
 intro H Q hq
 refine zVK (by simp) ?_
 simp(disch:=first|exact Xe|fail)only[zd9,zAE,↓Xa,Xb,Xc,↓reduceIte,Nat.reduceLT,Nat.reduceEqDiff,Nat.reduceBEq,Nat.reduceLeDiff,Nat.reduceAdd]
 refine zAD fun p1 hp1=>?_
 have n1:=hp1
 simp(disch:=first|exact Xe|fail)only[zAE,↓Xa,Xb,Xc,↓reduceIte,Nat.reduceLT,Nat.reduceEqDiff,Nat.reduceBEq,Nat.reduceLeDiff,Nat.reduceAdd]
 refine zAD fun p2 hp2=>?_
 have n2:=hp2
 simp only[zAB]at n2
 obtain⟨_,n2⟩:=n2
 simp(disch:=first|exact Xe|fail)only[↓Xa,Xb,Xc,↓reduceIte,Nat.reduceLT,Nat.reduceEqDiff,Nat.reduceBEq,Nat.reduceLeDiff,Nat.reduceAdd]
 refine zAD fun p3 hp3=>?_
 have n3:=hp3
 simp only[zAB]at n3
 obtain⟨_,_,n3⟩:=n3
 simp(disch:=first|exact Xe|fail)only[zId,zAI,↓Xa,Xb,Xc,↓reduceIte,Nat.reduceLT,Nat.reduceEqDiff,Nat.reduceBEq,Nat.reduceLeDiff,Nat.reduceAdd]
 refine(zGM (k:=k) ha (by omega) (by omega)).call ?_
 simp(disch:=first|exact Xe|fail)only[zAE,zAI,zbt,↓Xa,Xb,Xc,↓reduceIte,Nat.reduceLT,Nat.reduceEqDiff,Nat.reduceBEq,Nat.reduceLeDiff,Nat.reduceAdd]
 exact SetR.dropTo ((((Le.refl H).updB n1).updB n2).updB n3) (SetR.now hq)
theorem zaC{a b:Int}{i:Ins}{k n:Nat}(ha:Bd k a)(hk:k≤1000000)(hc:i.c=(n:Int))(hn:n≤65536):PFn Tryz.prog 173 [zAl a,zAl b,.cptr (zDC i)] (zAl (a*2^n)):=by
 intro H Q hq
 refine zUl (by simp) ?_
 simp(disch:=first|exact Xe|fail)only[zdi,zAE,↓Xa,Xb,Xc,↓reduceIte,Nat.reduceLT,Nat.reduceEqDiff,Nat.reduceBEq,Nat.reduceLeDiff,Nat.reduceAdd]
 refine zAD fun p1 hp1=>?_
 have n1:=hp1
 simp(disch:=first|exact Xe|fail)only[zAE,↓Xa,Xb,Xc,↓reduceIte,Nat.reduceLT,Nat.reduceEqDiff,Nat.reduceBEq,Nat.reduceLeDiff,Nat.reduceAdd]
 refine zAD fun p2 hp2=>?_
 have n2:=hp2
 simp only[zAB]at n2
 obtain⟨_,n2⟩:=n2
 simp(disch:=first|exact Xe|fail)only[↓Xa,Xb,Xc,↓reduceIte,Nat.reduceLT,Nat.reduceEqDiff,Nat.reduceBEq,Nat.reduceLeDiff,Nat.reduceAdd]
 refine zAD fun p3 hp3=>?_
 have n3:=hp3
 simp only[zAB]at n3
 obtain⟨_,_,n3⟩:=n3
 simp(disch:=first|exact Xe|fail)only[zId,hc,zAI,↓Xa,Xb,Xc,↓reduceIte,Nat.reduceLT,Nat.reduceEqDiff,Nat.reduceBEq,Nat.reduceLeDiff,Nat.reduceAdd]
 refine(zQy ha hk hn).call ?_
 simp(disch:=first|exact Xe|fail)only[↓Xa,Xb,Xc,↓reduceIte,Nat.reduceLT,Nat.reduceEqDiff,Nat.reduceBEq,Nat.reduceLeDiff,Nat.reduceAdd]
 refine zAD fun p4 hp4=>?_
 have n4:=hp4
 simp only[zAB]at n4
 obtain⟨_,_,_,n4⟩:=n4
 simp(disch:=first|exact Xe|fail)only[zAE,zAI,zca,↓Xa,Xb,Xc,↓reduceIte,Nat.reduceLT,Nat.reduceEqDiff,Nat.reduceBEq,Nat.reduceLeDiff,Nat.reduceAdd]
 exact SetR.dropTo (((((Le.refl H).updB n1).updB n2).updB n3).updB n4) (SetR.now hq)
theorem zZT{a b:Int}{i:Ins}{k:Nat}(ha:Bd k a)(hk:k≤1000000)(hc:I64 i.c)(h0:i.c≠0):PFn Tryz.prog 171 [zAl a,zAl b,.cptr (zDC i)] (.tup [zAl (if a%i.c=0 then a / i.c else 0),.bool (decide (a%i.c=0))]):=by
 unfold I64 at hc
 intro H Q hq
 have ho:=zUV (k:=k) ha (by omega) (by omega) h0
 refine zUZ (by simp) ?_
 simp(disch:=first|exact Xe|fail)only[zaj,zAE,↓Xa,Xb,Xc,↓reduceIte,Nat.reduceLT,Nat.reduceEqDiff,Nat.reduceBEq,Nat.reduceLeDiff,Nat.reduceAdd]
 refine zAD fun p1 hp1=>?_
 have n1:=hp1
 simp(disch:=first|exact Xe|fail)only[zAE,↓Xa,Xb,Xc,↓reduceIte,Nat.reduceLT,Nat.reduceEqDiff,Nat.reduceBEq,Nat.reduceLeDiff,Nat.reduceAdd]
 refine zAD fun p2 hp2=>?_
 have n2:=hp2
 simp only[zAB]at n2
 obtain⟨_,n2⟩:=n2
 simp(disch:=first|exact Xe|fail)only[↓Xa,Xb,Xc,↓reduceIte,Nat.reduceLT,Nat.reduceEqDiff,Nat.reduceBEq,Nat.reduceLeDiff,Nat.reduceAdd]
 refine zAD fun p3 hp3=>?_
 have n3:=hp3
 simp only[zAB]at n3
 obtain⟨_,_,n3⟩:=n3
 simp(disch:=first|exact Xe|fail)only[zId,zAI,↓Xa,Xb,Xc,↓reduceIte,Nat.reduceLT,Nat.reduceEqDiff,Nat.reduceBEq,Nat.reduceLeDiff,Nat.reduceAdd]
 refine ho.call ?_
 by_cases h:a%i.c=0
 ·rw[if_pos h,decide_eq_true h]at hq
  have e0:decide (((0:Nat):Int)=((0:Nat):Int))=true:=rfl
  rw[if_pos h]
  simp(disch:=first|exact Xe|fail)only[↓Xa,Xb,Xc,↓reduceIte,Nat.reduceLT,Nat.reduceEqDiff,Nat.reduceBEq,Nat.reduceLeDiff,Nat.reduceAdd]
  refine zAD fun p4 hp4=>?_
  have n4:=hp4
  simp only[zAB]at n4
  obtain⟨_,_,_,n4⟩:=n4
  simp(disch:=first|exact Xe|fail)only[zAE,zAI,zAF,e0,zZj,↓Xa,Xb,Xc,↓reduceIte,Nat.reduceLT,Nat.reduceEqDiff,Nat.reduceBEq,Nat.reduceLeDiff,Nat.reduceAdd]
  exact SetR.dropTo (((((Le.refl H).updB n1).updB n2).updB n3).updB n4) (SetR.now hq)
 ·rw[if_neg h,decide_eq_false h]at hq
  have e0:decide (((20:Nat):Int)=((0:Nat):Int))=false:=rfl
  rw[if_neg h]
  simp(disch:=first|exact Xe|fail)only[↓Xa,Xb,Xc,↓reduceIte,Nat.reduceLT,Nat.reduceEqDiff,Nat.reduceBEq,Nat.reduceLeDiff,Nat.reduceAdd]
  refine zAD fun p4 hp4=>?_
  have n4:=hp4
  simp only[zAB]at n4
  obtain⟨_,_,_,n4⟩:=n4
  simp(disch:=first|exact Xe|fail)only[zAE,zAI,zAF,e0,zZj,↓Xa,Xb,Xc,↓reduceIte,Nat.reduceLT,Nat.reduceEqDiff,Nat.reduceBEq,Nat.reduceLeDiff,Nat.reduceAdd]
  exact SetR.dropTo (((((Le.refl H).updB n1).updB n2).updB n3).updB n4) (SetR.now hq)
theorem zUM{H:AHeap}{Q:AV→AHeap→Prop}{a b:Int}{i:Ins}{k n:Nat}(hH:TzH H)(ha:Bd k a)(hk:k≤1000000)(hc:i.c=(n:Int))(hn:n≤65536)
 (hq:Q (.tup [zAl (if a%2^n=0 then a / 2^n else 0),.bool (decide (a%2^n=0))]) H):Run Tryz.prog 175 [zAl a,zAl b,.cptr (zDC i)] H Q:=by
 have hs: ∃e:Nat,ze9 a n=.tup [zAl (if a%2^n=0 then a / 2^n else 0),.int .i64 ((e:Nat):Int)]∧(e=0↔a%2^n=0):=by
  have hp:(2:Int)^n≠0:=Int.ne_of_gt (Int.pow_pos (by omega))
  unfold ze9
  rw[if_neg (by omega)]
  by_cases h0:a=0
  ·subst h0
   exact⟨0,by simp,by simp⟩
  ·rw[if_neg h0]
   have ed:(a%2^n=0)↔n≤tz a.natAbs:=(Int.dvd_iff_emod_eq_zero).symm.trans (zXW h0)
   have et:twV a=((tz a.natAbs:Nat):Int):=by rw[twV,if_neg h0]
   rw[et,Int.toNat_natCast]
   by_cases h:n≤tz a.natAbs
   ·rw[if_neg (by omega),if_pos (ed.2 h)];exact⟨0,rfl,by simp[ed.2 h]⟩
   ·rw[if_pos (by omega),if_neg (fun e=>h (ed.1 e))];exact⟨20,rfl,by simp;exact fun e=>h (ed.1 e)⟩
 obtain⟨e,hs1,hs2⟩:=hs
 refine zSe (by simp) ?_
 simp(disch:=first|exact Xe|fail)only[zdZ,zAE,↓Xa,Xb,Xc,↓reduceIte,Nat.reduceLT,Nat.reduceEqDiff,Nat.reduceBEq,Nat.reduceLeDiff,Nat.reduceAdd]
 refine zAD fun p1 hp1=>?_
 have n1:=hp1
 simp(disch:=first|exact Xe|fail)only[zAE,↓Xa,Xb,Xc,↓reduceIte,Nat.reduceLT,Nat.reduceEqDiff,Nat.reduceBEq,Nat.reduceLeDiff,Nat.reduceAdd]
 refine zAD fun p2 hp2=>?_
 have n2:=hp2
 simp only[zAB]at n2
 obtain⟨_,n2⟩:=n2
 simp(disch:=first|exact Xe|fail)only[↓Xa,Xb,Xc,↓reduceIte,Nat.reduceLT,Nat.reduceEqDiff,Nat.reduceBEq,Nat.reduceLeDiff,Nat.reduceAdd]
 refine zAD fun p3 hp3=>?_
 have n3:=hp3
 simp only[zAB]at n3
 obtain⟨_,_,n3⟩:=n3
 simp(disch:=first|exact Xe|fail)only[zId,hc,zAI,↓Xa,Xb,Xc,↓reduceIte,Nat.reduceLT,Nat.reduceEqDiff,Nat.reduceBEq,Nat.reduceLeDiff,Nat.reduceAdd]
 refine zAM (zTj (k:=k) ?_ ha (by omega) (by omega) ?_)
 ·exact((((Le.refl H).updB n1).updB n2).updB n3) _ _ hH
 rw[hs1]
 simp(disch:=first|exact Xe|fail)only[↓Xa,Xb,Xc,↓reduceIte,Nat.reduceLT,Nat.reduceEqDiff,Nat.reduceBEq,Nat.reduceLeDiff,Nat.reduceAdd]
 refine zAD fun p4 hp4=>?_
 have n4:=hp4
 simp only[zAB]at n4
 obtain⟨_,_,_,n4⟩:=n4
 have e0:decide (((e:Nat):Int)=((0:Nat):Int))=decide (a%2^n=0):=decide_eq_decide.2 (by omega)
 simp(disch:=first|exact Xe|fail)only[zAE,zAI,zAF,e0,zak,↓Xa,Xb,Xc,↓reduceIte,Nat.reduceLT,Nat.reduceEqDiff,Nat.reduceBEq,Nat.reduceLeDiff,Nat.reduceAdd]
 exact SetR.dropTo (((((Le.refl H).updB n1).updB n2).updB n3).updB n4) (SetR.now hq)
def vmF(i:Ins):AV:=
 if i.op=2 then .fn (.func 167) [] [.cptr [.fn (.func 168) [] []]]
 else if i.op=3 then .fn (.func 167) [] [.cptr [.fn (.func 138) [] []]]
 else if i.op=4 then .fn (.func 167) [] [.cptr [.fn (.func 150) [] []]]
 else if i.op=5 then .fn (.func 167) [] [.cptr [.fn (.func 169) [] [.cptr (zDC i)]]]
 else if i.op=6 then .fn (.func 171) [] [.cptr (zDC i)]
 else if i.op=7 then .fn (.func 167) [] [.cptr [.fn (.func 173) [] [.cptr (zDC i)]]]
 else if i.op=8 then .fn (.func 175) [] [.cptr (zDC i)]
 else .fn (.func 167) [] [.cptr [.fn (.func 177) [] []]]
theorem zaB{i:Ins}:PFn Tryz.prog 102 [zFh i] (vmF i):=by
 intro H Q hq
 have yes: ∀n:Nat,i.op=(n:Int)→decide (i.op=((n:Nat):Int))=true:=fun n h=>decide_eq_true h
 have no: ∀n:Nat,i.op≠(n:Int)→decide (i.op=((n:Nat):Int))=false:=fun n h=>decide_eq_false h
 refine zT5 (by simp) ?_
 simp(disch:=first|exact Xe|fail)only[zbI,zAr,↓Xa,Xb,Xc,↓reduceIte,Nat.reduceLT,Nat.reduceEqDiff,Nat.reduceBEq,Nat.reduceLeDiff,Nat.reduceAdd]
 refine zAD fun p1 hp1=>?_
 have n1:=hp1
 have hle: ∀{x:ABlk},Le H (H.upd p1 (some x)):=(Le.refl H).updB n1
 simp(disch:=first|exact Xe|fail)only[↓Xa,Xb,Xc,↓reduceIte,Nat.reduceLT,Nat.reduceEqDiff,Nat.reduceBEq,Nat.reduceLeDiff,Nat.reduceAdd]
 unfold vmF at hq
 by_cases o2:i.op=2
 ·rw[if_pos o2]at hq
  simp(disch:=first|exact Xe|fail)only[zAF,yes 2 o2,↓Xa,Xb,Xc,↓reduceIte,Nat.reduceLT,Nat.reduceEqDiff,Nat.reduceBEq,Nat.reduceLeDiff,Nat.reduceAdd]
  refine(zC1 rfl).call ?_
  simp(disch:=first|exact Xe|fail)only[zIZ,↓Xa,Xb,Xc,↓reduceIte,Nat.reduceLT,Nat.reduceEqDiff,Nat.reduceBEq,Nat.reduceLeDiff,Nat.reduceAdd]
  exact SetR.dropTo hle (SetR.now hq)
 rw[if_neg o2]at hq
 have e2:=no 2 o2
 by_cases o3:i.op=3
 ·rw[if_pos o3]at hq
  simp(disch:=first|exact Xe|fail)only[zAF,e2,yes 3 o3,↓Xa,Xb,Xc,↓reduceIte,Nat.reduceLT,Nat.reduceEqDiff,Nat.reduceBEq,Nat.reduceLeDiff,Nat.reduceAdd]
  refine(zC1 rfl).call ?_
  simp(disch:=first|exact Xe|fail)only[zIZ,↓Xa,Xb,Xc,↓reduceIte,Nat.reduceLT,Nat.reduceEqDiff,Nat.reduceBEq,Nat.reduceLeDiff,Nat.reduceAdd]
  exact SetR.dropTo hle (SetR.now hq)
 rw[if_neg o3]at hq
 have e3:=no 3 o3
 by_cases o4:i.op=4
 ·rw[if_pos o4]at hq
  simp(disch:=first|exact Xe|fail)only[zAF,e2,e3,yes 4 o4,↓Xa,Xb,Xc,↓reduceIte,Nat.reduceLT,Nat.reduceEqDiff,Nat.reduceBEq,Nat.reduceLeDiff,Nat.reduceAdd]
  refine(zC1 rfl).call ?_
  simp(disch:=first|exact Xe|fail)only[zIZ,↓Xa,Xb,Xc,↓reduceIte,Nat.reduceLT,Nat.reduceEqDiff,Nat.reduceBEq,Nat.reduceLeDiff,Nat.reduceAdd]
  exact SetR.dropTo hle (SetR.now hq)
 rw[if_neg o4]at hq
 have e4:=no 4 o4
 have zCy: ∀(g:FuncId),SetR Q (.fn (.func 167) [] [.cptr [.fn (.func g) [] [.cptr (zDC i)]]]) H→SetR Q (.fn (.func 167) [] [.cptr [.fn (.func g) [] [.ptr p1 5 0]]]) (H.upd p1 (some (.row 76 0 (zDC i)))):=fun g h=>by
  refine SetR.frzPP p1 (zAC _ _ _) ?_
  rw[zAP,zAU _ n1]
  have e:Fw.frzPP p1 (zDC i) (.fn (.func 167) [] [.cptr [.fn (.func g) [] [.ptr p1 5 0]]])=.fn (.func 167) [] [.cptr [.fn (.func g) [] [.cptr (zDC i)]]]:=by simp[Fw.frzPP,zU1,frzP,zHM,zCo]
  rw[e];exact h
 have frz0: ∀(g:FuncId),SetR Q (.fn (.func g) [] [.cptr (zDC i)]) H→SetR Q (.fn (.func g) [] [.ptr p1 5 0]) (H.upd p1 (some (.row 76 0 (zDC i)))):=fun g h=>by
  refine SetR.frzP p1 (zAC _ _ _) ?_
  rw[zAP,zAU _ n1]
  have e:Fw.frzP p1 (zDC i) (.fn (.func g) [] [.ptr p1 5 0])=.fn (.func g) [] [.cptr (zDC i)]:=by simp[Fw.frzP,zHM,zCo]
  rw[e];exact h
 by_cases o5:i.op=5
 ·rw[if_pos o5]at hq
  simp(disch:=first|exact Xe|fail)only[zAF,e2,e3,e4,yes 5 o5,↓Xa,Xb,Xc,↓reduceIte,Nat.reduceLT,Nat.reduceEqDiff,Nat.reduceBEq,Nat.reduceLeDiff,Nat.reduceAdd]
  refine(zC1 rfl).call ?_
  simp(disch:=first|exact Xe|fail)only[zIZ,↓Xa,Xb,Xc,↓reduceIte,Nat.reduceLT,Nat.reduceEqDiff,Nat.reduceBEq,Nat.reduceLeDiff,Nat.reduceAdd]
  exact zCy _ (SetR.now hq)
 rw[if_neg o5]at hq
 have e5:=no 5 o5
 by_cases o6:i.op=6
 ·rw[if_pos o6]at hq
  simp(disch:=first|exact Xe|fail)only[zAF,e2,e3,e4,e5,yes 6 o6,zIZ,↓Xa,Xb,Xc,↓reduceIte,Nat.reduceLT,Nat.reduceEqDiff,Nat.reduceBEq,Nat.reduceLeDiff,Nat.reduceAdd]
  exact frz0 _ (SetR.now hq)
 rw[if_neg o6]at hq
 have e6:=no 6 o6
 by_cases o7:i.op=7
 ·rw[if_pos o7]at hq
  simp(disch:=first|exact Xe|fail)only[zAF,e2,e3,e4,e5,e6,yes 7 o7,↓Xa,Xb,Xc,↓reduceIte,Nat.reduceLT,Nat.reduceEqDiff,Nat.reduceBEq,Nat.reduceLeDiff,Nat.reduceAdd]
  refine(zC1 rfl).call ?_
  simp(disch:=first|exact Xe|fail)only[zIZ,↓Xa,Xb,Xc,↓reduceIte,Nat.reduceLT,Nat.reduceEqDiff,Nat.reduceBEq,Nat.reduceLeDiff,Nat.reduceAdd]
  exact zCy _ (SetR.now hq)
 rw[if_neg o7]at hq
 have e7:=no 7 o7
 by_cases o8:i.op=8
 ·rw[if_pos o8]at hq
  simp(disch:=first|exact Xe|fail)only[zAF,e2,e3,e4,e5,e6,e7,yes 8 o8,zIZ,↓Xa,Xb,Xc,↓reduceIte,Nat.reduceLT,Nat.reduceEqDiff,Nat.reduceBEq,Nat.reduceLeDiff,Nat.reduceAdd]
  exact frz0 _ (SetR.now hq)
 rw[if_neg o8]at hq
 have e8:=no 8 o8
 simp(disch:=first|exact Xe|fail)only[zAF,e2,e3,e4,e5,e6,e7,e8,↓Xa,Xb,Xc,↓reduceIte,Nat.reduceLT,Nat.reduceEqDiff,Nat.reduceBEq,Nat.reduceLeDiff,Nat.reduceAdd]
 refine(zC1 rfl).call ?_
 simp(disch:=first|exact Xe|fail)only[zIZ,↓Xa,Xb,Xc,↓reduceIte,Nat.reduceLT,Nat.reduceEqDiff,Nat.reduceBEq,Nat.reduceLeDiff,Nat.reduceAdd]
 exact SetR.dropTo hle (SetR.now hq)
theorem zVZ{i:Ins}{N:Int}(hm:zCe N i){a b:Int}{k:Nat}(ha:Bd k a)(hb:Bd k b)(hk:k≤100000): ∃(x:Int)(ok:Bool),Bd (k+3) x∧(ok=true→doZ i a b=some x)∧(ok=false→doZ i a b=none)∧
 ∀(H:AHeap)(K:AV→AHeap→Prop),(i.op=8→TzH H)→K (.tup [zAl x,.bool ok]) H→zBw Tryz.prog (vmF i) [zAl a,zAl b] H K:=by
 have hbd: ∀{x:Int},doZ i a b=some x→Bd (k+3) x:=fun h=>zXH hm ha hb h
 have h3:=hm.2.2.2.2.2.2
 unfold vmF
 by_cases o2:i.op=2
 ·have hz:doZ i a b=some (-a):=by unfold doZ;rw[if_pos o2]
  rw[if_pos o2]
  exact⟨_,true,hbd hz,fun _=>hz,fun e=>absurd e (by simp),fun H K _ hk'=>zCW (FnAns.of (zYq ha (by omega))) H K hk'⟩
 rw[if_neg o2]
 by_cases o3:i.op=3
 ·have hz:doZ i a b=some (a+b):=by unfold doZ;rw[if_neg o2,if_pos o3]
  rw[if_pos o3]
  exact⟨_,true,hbd hz,fun _=>hz,fun e=>absurd e (by simp),fun H K _ hk'=>zCW (FnAns.of (zGd ha (by omega) hb (by omega))) H K hk'⟩
 rw[if_neg o3]
 by_cases o4:i.op=4
 ·have hz:doZ i a b=some (a-b):=by unfold doZ;rw[if_neg o2,if_neg o3,if_pos o4]
  rw[if_pos o4]
  exact⟨_,true,hbd hz,fun _=>hz,fun e=>absurd e (by simp),fun H K _ hk'=>zCW (FnAns.of (zLb ha (by omega) hb (by omega))) H K hk'⟩
 rw[if_neg o4]
 rw[if_neg (by omega)]at h3
 by_cases o5:i.op=5
 ·have hcs:cst i=i.c:=by unfold cst;rw[if_pos (.inl o5)]
  have hz:doZ i a b=some (a*i.c):=by unfold doZ;rw[if_neg o2,if_neg o3,if_neg o4,if_pos (.inl o5),hcs,Int.mul_comm]
  rw[if_pos (.inl o5)]at h3
  rw[if_pos o5]
  exact⟨_,true,hbd hz,fun _=>hz,fun e=>absurd e (by simp),fun H K _ hk'=>zCW (FnAns.caps (args:=[zAl a,zAl b]) (zZf ha (by omega) (by unfold I64;omega))) H K hk'⟩
 rw[if_neg o5]
 by_cases o6:i.op=6
 ·have hcs:cst i=i.c:=by unfold cst;rw[if_pos (.inr o6)]
  have hz:doZ i a b=if a%i.c=0 then some (a / i.c)else none:=by unfold doZ;rw[if_neg o2,if_neg o3,if_neg o4,if_neg (by omega),if_pos (.inl o6),hcs]
  rw[if_pos (.inr o6)]at h3
  rw[if_pos o6]
  refine⟨if a%i.c=0 then a / i.c else 0,decide (a%i.c=0),?_,fun e=>?_,fun e=>?_,fun H K _ hk'=>FnAns.caps (args:=[zAl a,zAl b]) (zZT ha (by omega) (by unfold I64;omega) h3.2.1) H K hk'⟩
  ·split
   ·exact ha.ediv.mono (by omega)
   ·exact Bd.zero _
  ·have:=of_decide_eq_true e;rw[hz,if_pos this,if_pos this]
  ·have:=of_decide_eq_false e;rw[hz,if_neg this]
 rw[if_neg o6]
 by_cases o7:i.op=7
 ·rw[if_neg (by omega),if_pos (.inl o7)]at h3
  obtain⟨m,hmc⟩: ∃m:Nat,i.c=(m:Int):=⟨i.c.toNat,by omega⟩
  have hcs:cst i=2^m:=by unfold cst;rw[if_neg (by omega),hmc];rfl
  have hz:doZ i a b=some (a*2^m):=by unfold doZ;rw[if_neg o2,if_neg o3,if_neg o4,if_pos (.inr o7),hcs,Int.mul_comm]
  rw[if_pos o7]
  exact⟨_,true,hbd hz,fun _=>hz,fun e=>absurd e (by simp),fun H K _ hk'=>zCW (FnAns.caps (args:=[zAl a,zAl b]) (zaC ha (by omega) hmc (by omega))) H K hk'⟩
 rw[if_neg o7]
 by_cases o8:i.op=8
 ·rw[if_neg (by omega),if_pos (.inr o8)]at h3
  obtain⟨m,hmc⟩: ∃m:Nat,i.c=(m:Int):=⟨i.c.toNat,by omega⟩
  have hcs:cst i=2^m:=by unfold cst;rw[if_neg (by omega),hmc];rfl
  have hz:doZ i a b=if a%2^m=0 then some (a / 2^m)else none:=by unfold doZ;rw[if_neg o2,if_neg o3,if_neg o4,if_neg (by omega),if_pos (.inr o8),hcs]
  rw[if_pos o8]
  refine⟨if a%2^m=0 then a / 2^m else 0,decide (a%2^m=0),?_,fun e=>?_,fun e=>?_,fun H K hT hk'=>zFy (zUM (hT o8) ha (by omega) hmc (by omega) hk')⟩
  ·split
   ·exact ha.ediv.mono (by omega)
   ·exact Bd.zero _
  ·have:=of_decide_eq_true e;rw[hz,if_pos this,if_pos this]
  ·have:=of_decide_eq_false e;rw[hz,if_neg this]
 rw[if_neg o8]
 have hz:doZ i a b=some a:=by unfold doZ;rw[if_neg o2,if_neg o3,if_neg o4,if_neg (by omega),if_neg (by omega)]
 exact⟨_,true,hbd hz,fun _=>hz,fun e=>absurd e (by simp),fun H K _ hk'=>zCW (FnAns.of zYb) H K hk'⟩
theorem SetR.frzC{Q:AV→AHeap→Prop}{v:AV}{H:AHeap}(r b:Nat){ty es ty' es':Nat}{cells cs:List AV}(cs':List AV)(hl:cs'.length=cs.length)(hw: ∀i(h:i<cs.length)(h':i<cs'.length),Wk (zCy b es cells (cs[i])) (cs'[i]))(hb:H b=some (.row ty es cells))(hr:H r=some (.row ty' es' cs))(hne:r≠b)
 (h:SetR Q (Fw.frz b es cells v) ((H.upd b none).upd r (some (.row ty' es' cs')))):SetR Q v H:=by
 refine SetR.join fun c u hc hok he=>?_
 have hb':c.H b=some (.row ty es cells):=hc▸hb
 have ok1:=Ctx.drop_ok hok b
 have hH1:(c.drop b).H r=some (.row ty' es' cs):=by
  show(c.H.upd b none) r=_
  rw[zAA _ _ hne,hc];exact hr
 obtain⟨arr,k1,k2,k3⟩:=hok.blk r _ (hc▸hr)
 have l2:Later (c.drop b) ((c.drop b).put r (.row ty' es' cs') arr):=Ctx.put_later ok1 hH1 k1 (by omega) rfl
 have ok2:Ok ((c.drop b).put r (.row ty' es' cs') arr):=Ctx.put_ok ok1 hH1 k1 (by omega) rfl (by omega) fun i hi hi'=>hw i (by omega) hi _ _ (zF3 hok hb' _ _ (k3 i (by omega) hi'))
 have hw2:((c.drop b).put r (.row ty' es' cs') arr).w=c.w:=setRow_self _ _ _ _ _ k1
 refine⟨_,_,hw2,ok2,(c.drop_later b).trans l2,(zJD hok hb' _ _ he).later l2,?_⟩
 show SetR Q _ ((c.H.upd b none).upd r _)
 rw[hc];exact h
def zZS(p:PR)(y:AV)(n:Nat):List AV:=[.int .i64 p.ins,.int .i64 p.regs,zAf p.code false,zAa p.outs false,y,.int .i64 n]
theorem zab{i:Ins}{a b x:List Int}(h:a.length=b.length)(hx:x.length=a.length)(hd: ∀j,j<a.length→doZ i (a.getD j 0) (b.getD j 0)=some (x.getD j 0)):doR i a b=some x:=by
 cases e:doR i a b with
 |none=>
  obtain⟨k,hk,hn⟩:=zdY e
  have:=hd k hk
  rw[hn]at this;cases this
 |some r=>
  have hl:=zG2 h e
  congr 1
  refine List.ext_getElem (by omega) fun j h1 h2=>?_
  have h3:=zM0 h e (k:=j) (by omega)
  rw[hd j (by omega)]at h3
  injection h3 with h3
  simp only[List.getD_eq_getElem?_getD,List.getElem?_eq_getElem h1,List.getElem?_eq_getElem h2,Option.getD_some]at h3
  exact h3.symm
theorem zSs{i:Ins}{a b:List Int}(h:a.length=b.length){j:Nat}(hj:j<a.length)(hd:doZ i (a.getD j 0) (b.getD j 0)=none):doR i a b=none:=by
 cases e:doR i a b with
 |none=>rfl
 |some r=>have:=zM0 h e hj;rw[hd]at this;cases this
theorem zXb{P:Program}{H:AHeap}{K:AV→List Nat→Option (Nat×ABlk)→Prop}{fv:AV}{args:List AV}{r:AV}(rd:List Nat)(h: ∀(H':AHeap)(K':AV→AHeap→Prop),(∀q,q∈rd→H' q=H q)→K' r H'→zBw P fv args H' K')(k:K r rd none){o:Bool}:dcall o P fv args H K:=
 .inl ⟨r,rd,fun H' e=>h H' _ e ⟨rfl,rfl⟩,k⟩
theorem zTk{H:AHeap}{Q:AV→AHeap→Prop}{mb br N n k L:Nat}{tm:Bool}{p:PR}{regs:List (List Int)}(hm:H mb=some (.row 161 0 (zZS p (.own br N 0 N tm) n)))(hb:H br=some (.row 29 1 (GI regs)))(hne:mb≠br)(hN:regs.length=N)(hpN:p.regs=(N:Int))(hr:zBV p)
 (hz:zDg k L regs) (hk:k≤90000) (hL:L≤100000) (hn:n≤p.code.length) (hT: ∀i,i∈p.code→i.op=8→TzH H)
 (hq0:n=p.code.length→Q (.int .i64 ((4:Nat):Int)) H)
 (hq1: ∀h:n<p.code.length,∀x,doR p.code[n] (regs.getD (p.code[n]).a.toNat []) (regs.getD (p.code[n]).b.toNat [])=some x→RB4 (k+3) x→x.length=L→Q (.int .i64 ((0:Nat):Int)) ((H.upd br (some (.row 29 1 (GI (regs.set (p.code[n]).to.toNat x))))).upd mb (some (.row 161 0 (zZS p (.own br N 0 N tm) (n+1))))))
 (hq2: ∀h:n<p.code.length,doR p.code[n] (regs.getD (p.code[n]).a.toNat []) (regs.getD (p.code[n]).b.toNat [])=none→Q (.int .i64 ((20:Nat):Int)) H):
 Run Tryz.prog 33 [.ptr mb 6 0] H Q:=by
 have hh:=hr.1
 unfold zC5 at hh
 have lc:p.code.length<9223372036854775808:=by omega
 have hm':H mb=some (.row 161 0 [.int .i64 p.ins,.int .i64 p.regs,zAf p.code false,zAa p.outs false,.own br N 0 N tm,.int .i64 n]):=hm
 refine zYk (by simp) ?_
 by_cases hnc:n=p.code.length
 ·have d1:decide (n=p.code.length)=true:=decide_eq_true hnc
  simp(disch:=first|exact Xe|fail)only[zf8,hm',zOv lc,zAF,Int.natCast_inj,d1,ze8,↓Xa,Xb,Xc,↓reduceIte,Nat.reduceLT,Nat.reduceEqDiff,Nat.reduceBEq,Nat.reduceLeDiff,Nat.reduceAdd]
  exact SetR.now (hq0 hnc)
 have hn':n<p.code.length:=by omega
 have d1:decide (n=p.code.length)=false:=decide_eq_false hnc
 simp(disch:=first|exact Xe|fail)only[zf8,hm',zOv lc,zAF,Int.natCast_inj,d1,zBN hn',zBb hn',↓Xa,Xb,Xc,↓reduceIte,Nat.reduceLT,Nat.reduceEqDiff,Nat.reduceBEq,Nat.reduceLeDiff,Nat.reduceAdd]
 refine zCp fun p3 n3=>?_
 have m3:=zAW hm n3
 have b3:=zAW hb n3
 simp(disch:=first|exact Xe|fail)only[zAr,zA8,↓Xa,Xb,Xc,↓reduceIte,Nat.reduceLT,Nat.reduceEqDiff,Nat.reduceBEq,Nat.reduceLeDiff,Nat.reduceAdd]
 have hmi:zCe (N:Int) p.code[n]:=by rw[← hpN];exact hr.2.2 _ (List.getElem_mem hn')
 have hq1':=hq1 hn'
 have hq2':=hq2 hn'
 have hT':=hT _ (List.getElem_mem hn')
 generalize p.code[n]=i at*
 refine zaB.call ?_
 have hmb:=zIE hmi
 have hma:=hmi.2.2
 obtain⟨a,ha⟩: ∃a:Nat,i.a=(a:Int):=⟨i.a.toNat,by omega⟩
 obtain⟨c,hc⟩: ∃c:Nat,i.b=(c:Int):=⟨i.b.toNat,by omega⟩
 obtain⟨w,hw⟩: ∃w:Nat,i.to=(w:Int):=⟨i.to.toNat,by omega⟩
 have haN:a<regs.length:=by omega
 have hcN:c<regs.length:=by omega
 have haN':a<N:=by omega
 have hcN':c<N:=by omega
 have hwN:w<N:=by omega
 have ga:regs.getD i.a.toNat []=regs[a]:=by rw[ha,Int.toNat_natCast,List.getD_eq_getElem?_getD,List.getElem?_eq_getElem haN];rfl
 have gc:regs.getD i.b.toNat []=regs[c]:=by rw[hc,Int.toNat_natCast,List.getD_eq_getElem?_getD,List.getElem?_eq_getElem hcN];rfl
 have gw:i.to.toNat=w:=by omega
 rw[ga,gc]at hq1' hq2'
 rw[gw]at hq1'
 obtain⟨lx,bx⟩:=hz _ (List.getElem_mem haN)
 obtain⟨ly,by'⟩:=hz _ (List.getElem_mem hcN)
 have hl:(GI regs).length=N:=by rw[zG4,hN]
 have lx9:(regs[a]).length<9223372036854775808:=by omega
 simp(disch:=first|exact Xe|fail)only[ha,hc,hm',hb,m3,b3,zA6,hl,haN',hcN',zJN hN haN,zJN hN hcN,zBK,lx9,lx,↓Xa,Xb,Xc,↓reduceIte,Nat.reduceLT,Nat.reduceEqDiff,Nat.reduceBEq,Nat.reduceLeDiff,Nat.reduceAdd]
 generalize regs[a]=x at*
 generalize regs[c]=y at*
 rw[zN6 (by omega)]
 intro o ho
 have o3:=(zAB.1 ho).1
 have oH:=(zAB.1 ho).2
 have om:=zAW hm oH
 have ob:=zAW hb oH
 generalize hX:(ABlk.row 76 0 [.int .i64 i.op,.int .i64 i.to,.int .i64 (a:Int),.int .i64 (c:Int),.int .i64 i.c])=X at*
 have hX':X=.row 76 0 [.int .i64 i.op,.int .i64 (w:Int),.int .i64 (a:Int),.int .i64 (c:Int),.int .i64 i.c]:=by rw[← hX,hw]
 have lL:L<9223372036854775808:=by omega
 simp(disch:=first|exact Xe|fail)only[zNa lL,↓Xa,Xb,Xc,↓reduceIte,Nat.reduceLT,Nat.reduceEqDiff,Nat.reduceBEq,Nat.reduceLeDiff,Nat.reduceAdd]
 refine zAO (fun s:Nat×List Int=>⟨[],[(0,.ptr mb 6 0),(3,.ptr p3 5 0),(4,vmF i),(5,rI x),(6,rI y),(7,.own o (L*2) 0 L true),(59,.int .i64 L),(60,.int .i64 s.1)],(H.upd p3 (some X)).upd o (some (.row 48 2 (IC (s.2++List.replicate (L-s.1) 0))))⟩)
  (fun s=>s.1≤L∧s.2.length=s.1∧(∀z,z∈s.2→Bd (k+3) z)∧∀j,j<s.1→doZ i (x.getD j 0) (y.getD j 0)=some (s.2.getD j 0)) (fun s=>L-s.1) (0,[]) (Settle.now (by simp)) ⟨Nat.zero_le _,rfl,fun z h=>by simp at h,fun j h=>absurd h (Nat.not_lt_zero j)⟩ ?_
 rintro⟨j,xs⟩ ⟨h1,h2,h3,h4⟩
 dsimp only at h1 h2 h3 h4 ⊢
 have hcell:(xs++List.replicate (L-j) 0).length=L:=by simp;omega
 by_cases hj:j<L
 ·have hjx:j<x.length:=by omega
  have hjy:j<y.length:=by omega
  have ex:x.getD j 0=x[j]:=by rw[List.getD_eq_getElem?_getD,List.getElem?_eq_getElem hjx];rfl
  have ey:y.getD j 0=y[j]:=by rw[List.getD_eq_getElem?_getD,List.getElem?_eq_getElem hjy];rfl
  obtain⟨z,ok,hbz,hz1,hz2,hcall⟩:=zVZ hmi (bx.at hjx) (by'.at hjy) (by omega)
  have hdn:=h4
  obtain⟨qd,vq,hqd,hcall2⟩: ∃qd vq,H qd=some vq∧∀(H':AHeap)(K:AV→AHeap→Prop),H' qd=H qd→K (.tup [zAl z,.bool ok]) H'→zBw Tryz.prog (vmF i) [zAl x[j],zAl y[j]] H' K:=by
   by_cases o8:i.op=8
   ·exact⟨_,_,hT' o8,fun H' K he hk=>hcall H' K (fun _=>he.trans (hT' o8)) hk⟩
   ·exact⟨mb,_,hm,fun H' K _ hk=>hcall H' K (fun e=>absurd e o8) hk⟩
  have q3:=zAW hqd n3
  have qo:=zAW hqd oH
  simp(disch:=first|exact Xe|fail)only[hj,zEv hjx,zDF hjx,zEv hjy,zDF hjy,↓Xa,Xb,Xc,↓reduceIte,Nat.reduceLT,Nat.reduceEqDiff,Nat.reduceBEq,Nat.reduceLeDiff,Nat.reduceAdd]
  refine zXb [qd] (fun H' K he hk=>hcall2 H' K ((he qd (by simp)).trans (by rw[zAA _ _ (Ne.symm qo),zAA _ _ (Ne.symm q3)])) hk) ?_
  simp(disch:=first|exact Xe|fail)only[↓Xa,Xb,Xc,↓reduceIte,Nat.reduceLT,Nat.reduceEqDiff,Nat.reduceBEq,Nat.reduceLeDiff,Nat.reduceAdd]
  refine zCp fun q9 hq9=>?_
  have q93:=(zAB.1 (zAB.1 hq9).2).1
  have q9H:=(zAB.1 (zAB.1 hq9).2).2
  have q9o:=(zAB.1 hq9).1
  have q9d:=zAW hqd q9H
  simp(disch:=first|exact Xe|fail)only[zAE,↓Xa,Xb,Xc,↓reduceIte,Nat.reduceLT,Nat.reduceEqDiff,Nat.reduceBEq,Nat.reduceLeDiff,Nat.reduceAdd]
  cases ok with
  |false=>
   simp(disch:=first|exact Xe|fail)only[ze8,↓Xa,Xb,Xc,↓reduceIte,Nat.reduceLT,Nat.reduceEqDiff,Nat.reduceBEq,Nat.reduceLeDiff,Nat.reduceAdd]
   refine SetR.dropTo ((((Le.refl H).updB n3).updB oH).updB q9H) (SetR.now (hq2' (zSs (j:=j) (by omega) hjx ?_)))
   rw[ex,ey];exact hz2 rfl
  |true=>
   have hdz:=hz1 rfl
   have eset:(xs++List.replicate (L-j) 0).set j z=(xs++[z])++List.replicate (L-(j+1)) 0:=by
    rw[List.set_append_right _ _ (by omega),h2,Nat.sub_self,show L-j=(L-(j+1))+1 by omega,List.replicate_succ,List.set_cons_zero,List.append_assoc];rfl
   have mo: ∀v w:ABlk,(((H.upd p3 (some X)).upd o (some v)).upd q9 (some w)) o=some v:=fun v w=>by rw[zAA _ _ (Ne.symm q9o),zAC]
   have hlo:(IC (xs++List.replicate (L-j) 0)).length=L*2:=by rw[zBU,hcell]
   simp(disch:=first|exact Xe|fail)only[zAE,zAI,mo,zPC,hlo,hj,↓Xa,Xb,Xc,↓reduceIte,Nat.reduceLT,Nat.reduceEqDiff,Nat.reduceBEq,Nat.reduceLeDiff,Nat.reduceAdd]
   refine(zMB hcell hj).2 ?_
   rw[eset,zAw _ _ _ (show q9≠o from q9o),zAP]
   simp(disch:=first|exact Xe|fail)only[↓Xa,Xb,Xc,↓reduceIte,Nat.reduceLT,Nat.reduceEqDiff,Nat.reduceBEq,Nat.reduceLeDiff,Nat.reduceAdd]
   refine Settle.dropTo ((Le.refl _).updB (zAB.2 ⟨q9o,zAB.2 ⟨q93,q9H⟩⟩)) (Settle.now ⟨(j+1,xs++[z]),by dsimp only;omega,⟨by dsimp only;omega,by dsimp only;simp[h2],fun u hu=>?_,fun i2 hi2=>?_⟩,rfl⟩)
   ·rcases List.mem_append.1 hu with hu|hu
    ·exact h3 u hu
    ·simp at hu;rw[hu];exact hbz
   ·dsimp only at hi2 ⊢
    by_cases e:i2=j
    ·subst e
     have e2:(xs++[z]).getD i2 0=z:=by rw[List.getD_eq_getElem?_getD,List.getElem?_append_right (by omega),h2,Nat.sub_self];rfl
     rw[e2,ex,ey];exact hdz
    ·have e2:(xs++[z]).getD i2 0=xs.getD i2 0:=by rw[List.getD_eq_getElem?_getD,List.getElem?_append_left (by omega),List.getD_eq_getElem?_getD]
     rw[e2];exact h4 i2 (by omega)
 ·obtain rfl:j=L:=by omega
  have hdo:doR i x y=some xs:=zab (by omega) (by omega) fun i2 hi2=>h4 i2 (by omega)
  have hlen0:xs.length<4611686018427387904:=by omega
  have eI:IC (xs++List.replicate (j-j) 0)=IC xs:=by simp
  rw[eI]
  simp(disch:=first|exact Xe|fail)only[hj,↓Xa,Xb,Xc,↓reduceIte,Nat.reduceLT,Nat.reduceEqDiff,Nat.reduceBEq,Nat.reduceLeDiff,Nat.reduceAdd]
  refine Settle.now ?_
  have w3: ∀v:ABlk,((H.upd p3 (some X)).upd o (some v)) p3=some (.row 76 0 [.int .i64 i.op,.int .i64 (w:Int),.int .i64 (a:Int),.int .i64 (c:Int),.int .i64 i.c]):=fun v=>by rw[zAA _ _ (Ne.symm o3),zAC,hX']
  have wm: ∀v:ABlk,((H.upd p3 (some X)).upd o (some v)) mb=some (.row 161 0 [.int .i64 p.ins,.int .i64 p.regs,zAf p.code false,zAa p.outs false,.own br N 0 N tm,.int .i64 n]):=fun v=>by rw[zAA _ _ (Ne.symm om),zAA _ _ (Ne.symm m3)];exact hm'
  have wb: ∀v:ABlk,((H.upd p3 (some X)).upd o (some v)) br=some (.row 29 1 (GI regs)):=fun v=>by rw[zAA _ _ (Ne.symm ob),zAA _ _ (Ne.symm b3)];exact hb
  simp(disch:=first|exact Xe|fail)only[w3,wm,wb,zA6,hl,hwN,↓Xa,Xb,Xc,↓reduceIte,Nat.reduceLT,Nat.reduceEqDiff,Nat.reduceBEq,Nat.reduceLeDiff,Nat.reduceAdd]
  refine(zKL (x:=.own o (j*2) 0 j true) hl hwN).2 ?_
  have wm2: ∀v u:ABlk,(((H.upd p3 (some X)).upd o (some v)).upd br (some u)) mb=some (.row 161 0 [.int .i64 p.ins,.int .i64 p.regs,zAf p.code false,zAa p.outs false,.own br N 0 N tm,.int .i64 n]):=fun v u=>by rw[zAA _ _ hne];exact wm v
  simp(disch:=first|exact Xe|fail)only[wm2,ze8,↓Xa,Xb,Xc,↓reduceIte,Nat.reduceLT,Nat.reduceEqDiff,Nat.reduceBEq,Nat.reduceLeDiff,Nat.reduceAdd]
  have hgl:(GI (regs.set w xs)).length=((GI regs).set w (.own o (j*2) 0 j true)).length:=by rw[zG4,List.length_set,List.length_set,zG4]
  have hHf: ∀(u v:ABlk),((((H.upd p3 (some X)).upd o (some (.row 48 2 (IC xs)))).upd br (some u)).upd mb (some v)) o=some (.row 48 2 (IC xs)):=fun u v=>by rw[zAA _ _ om,zAA _ _ ob,zAC]
  have hHb: ∀(u v:ABlk),((((H.upd p3 (some X)).upd o (some (.row 48 2 (IC xs)))).upd br (some u)).upd mb (some v)) br=some u:=fun u v=>by rw[zAA _ _ (Ne.symm hne),zAC]
  refine SetR.frzC br o (GI (regs.set w xs)) hgl (fun i2 q1 q2=>?_) (hHf _ _) (hHb _ _) (Ne.symm ob) ?_
  ·simp only[GI,List.map_set,List.getElem_set]
   by_cases e:w=i2
   ·rw[if_pos e,if_pos e]
    have e1:zCy o 2 (IC xs) (.own o (j*2) 0 j true)=.seq j (IC xs) true:=by
     simp[zCy,zBU,h2];rw[List.take_of_length_le (by rw[zBU];omega)]
    have e2:rI xs=.seq j (IC xs) false:=by rw[rI,zB7,h2]
    rw[e1,e2];exact Wk.l0
   ·rw[if_neg e,if_neg e]
    simp only[List.getElem_map]
    exact Wk.refl
  ·have e1:Fw.frz o 2 (IC xs) (.int .i64 ((0:Nat):Int))=.int .i64 ((0:Nat):Int):=rfl
   rw[e1]
   refine SetR.dropTo ?_ (SetR.now (hq1' xs hdo ⟨h3,hlen0⟩ (by omega)))
   intro q v hq
   by_cases eb:q=br
   ·subst eb
    rw[zAA _ _ (Ne.symm hne),zAC]at hq
    rw[zAC];exact hq
   by_cases em:q=mb
   ·subst em
    rw[zAC]at hq
    rw[zAA _ _ eb,zAA _ _ (Ne.symm om),zAC];exact hq
   ·rw[zAA _ _ em,zAA _ _ eb]at hq
    have eo:q≠o:=by rintro rfl;rw[oH]at hq;cases hq
    have e3:q≠p3:=by rintro rfl;rw[n3]at hq;cases hq
    rw[zAA _ _ eb,zAA _ _ eo,zAA _ _ em,zAA _ _ eb,zAA _ _ eo,zAA _ _ e3];exact hq
def zHK:List Nat:=[0,1,56,2,57,49,28,3,61,58,42,50,38,29,17,4,62,47,59,36,45,43,51,22,53,39,33,30,24,18,12,5,63,55,48,27,60,41,37,16,46,35,44,21,52,32,23,11,54,26,40,15,34,20,31,10,25,14,19,9,13,8,7,6]
def zDX:List AV:=zHK.map fun(n:Nat)=>AV.int .u8 (n:Int)
def Tz64H(H:AHeap):Prop:=H 1=some (.glob 1 zDX)
theorem Tz64H.le{H H':AHeap}(h:Tz64H H)(hl:Le H H'):Tz64H H':=hl _ _ h
theorem zP3{i:Nat}(h:i<64):(zDX.drop i).take 1=[.int .u8 ((zHK.getD i 0:Nat):Int)]:=by
 have hl:zDX.length=64:=rfl
 rw[List.drop_eq_getElem_cons (by omega),List.take_succ_cons,List.take_zero]
 simp only[zDX,List.getElem_map]
 rw[List.getD_eq_getElem?_getD,List.getElem?_eq_getElem (show i<zHK.length from h),Option.getD_some]
theorem zFs{H:AHeap}{x v n:Nat}{K:AV→AHeap→Prop}(hH:Tz64H H)(h0:0<x)(hx:x<65536)(ha:x &&& (18446744073709551616-x)=x)(hv:x*285870213051353865%18446744073709551616=v)(hi:v / 288230376151711744<64)(ht:zHK.getD (v / 288230376151711744) 0=n)(hn:n<256)(k:K (.int .i64 ((n:Nat):Int)) H):
 Run Tryz.prog 226 [.int .u64 (x:Int)] H K:=by
 refine zVr (by simp) ?_
 have hH':H 1=some (.glob 1 zDX):=hH
 have hne: ¬x=0:=by omega
 have c1: ∀K,unW .neg (.int .u64 (x:Int)) K↔K (.int .u64 ((18446744073709551616-x:Nat):Int)):=fun K=>by
  simp only[unW,zCA];rw[show(0-(x:Int))%18446744073709551616=((18446744073709551616-x:Nat):Int) by omega]
 have c2: ∀K,zAy .and (.int .u64 (x:Int)) (.int .u64 ((18446744073709551616-x:Nat):Int)) K↔K (.int .u64 ((x:Nat):Int)):=fun K=>by
  rw[zGm .u64 (by simp[IntKind.bits];omega) (by simp[IntKind.bits];omega),ha,zDu (by omega)]
 have c3: ∀K,zAy .mul (.int .u64 (x:Int)) (.int .u64 ((285870213051353865:Nat):Int)) K↔K (.int .u64 ((v:Nat):Int)):=fun K=>by
  simp only[zAy,zAi,zCA]
  rw[show(x:Int)*((285870213051353865:Nat):Int)%18446744073709551616=((v:Nat):Int) by rw[← hv];omega]
  simp
 simp(disch:=first|exact Xe|fail)only[zcf,hne,c1,c2,c3,hH',zXF,zNL,↓Xa,Xb,Xc,↓reduceIte,Nat.reduceLT,Nat.reduceEqDiff,Nat.reduceBEq,Nat.reduceLeDiff,Nat.reduceAdd]
 have e58:(2:Nat)^58=288230376151711744:=by decide
 rw[e58]
 have hl:zDX.length=64:=rfl
 refine⟨by omega,?_⟩
 rw[zP3 hi,ht]
 have hw:IntKind.i64.wrap ((n:Nat):Int)=((n:Nat):Int):=zCS (by omega) (by omega)
 simp(disch:=first|exact Xe|fail)only[hw,zet,↓Xa,Xb,Xc,↓reduceIte,Nat.reduceLT,Nat.reduceEqDiff,Nat.reduceBEq,Nat.reduceLeDiff,Nat.reduceAdd]
 exact SetR.now k
def zgK(c:Int)(n:Nat):Prop:=(c=2∧n=1)∨(c=4∧n=2)∨(c=8∧n=3)∨(c=16∧n=4)
theorem zdd{H:AHeap}{c:Int}{n:Nat}{K:AV→AHeap→Prop}(hH:Tz64H H)(hc:zgK c n)(k:K (.int .i64 ((n:Nat):Int)) H):Run Tryz.prog 195 [.int .u64 c] H K:=by
 refine zTp (by simp) ?_
 simp(disch:=first|exact Xe|fail)only[zdL,↓Xa,Xb,Xc,↓reduceIte,Nat.reduceLT,Nat.reduceEqDiff,Nat.reduceBEq,Nat.reduceLeDiff,Nat.reduceAdd]
 rcases hc with⟨rfl,rfl⟩|⟨rfl,rfl⟩|⟨rfl,rfl⟩|⟨rfl,rfl⟩
 ·refine zAM (zFs (x:=2) (n:=1) hH (by decide) (by decide) (by decide) rfl (by decide) (by decide) (by decide) ?_)
  simp(disch:=first|exact Xe|fail)only[zPx,↓Xa,Xb,Xc,↓reduceIte,Nat.reduceLT,Nat.reduceEqDiff,Nat.reduceBEq,Nat.reduceLeDiff,Nat.reduceAdd]
  exact SetR.now k
 ·refine zAM (zFs (x:=4) (n:=2) hH (by decide) (by decide) (by decide) rfl (by decide) (by decide) (by decide) ?_)
  simp(disch:=first|exact Xe|fail)only[zPx,↓Xa,Xb,Xc,↓reduceIte,Nat.reduceLT,Nat.reduceEqDiff,Nat.reduceBEq,Nat.reduceLeDiff,Nat.reduceAdd]
  exact SetR.now k
 ·refine zAM (zFs (x:=8) (n:=3) hH (by decide) (by decide) (by decide) rfl (by decide) (by decide) (by decide) ?_)
  simp(disch:=first|exact Xe|fail)only[zPx,↓Xa,Xb,Xc,↓reduceIte,Nat.reduceLT,Nat.reduceEqDiff,Nat.reduceBEq,Nat.reduceLeDiff,Nat.reduceAdd]
  exact SetR.now k
 ·refine zAM (zFs (x:=16) (n:=4) hH (by decide) (by decide) (by decide) rfl (by decide) (by decide) (by decide) ?_)
  simp(disch:=first|exact Xe|fail)only[zPx,↓Xa,Xb,Xc,↓reduceIte,Nat.reduceLT,Nat.reduceEqDiff,Nat.reduceBEq,Nat.reduceLeDiff,Nat.reduceAdd]
  exact SetR.now k
def zaO(c:Int):Int:=IntKind.i64.wrap (BitVec.ofInt 64 c &&& BitVec.ofInt 64 (c-1)).toNat
theorem zZl{c:Int}{n:Nat}(hc:zgK c n):zaO c=0:=by
 rcases hc with⟨rfl,rfl⟩|⟨rfl,rfl⟩|⟨rfl,rfl⟩|⟨rfl,rfl⟩<;>decide
theorem zZx{c:Int}(h1:3≤c)(h2:c≤15)(h4:c≠4)(h8:c≠8):zaO c≠0:=by
 have:c=3∨c=5∨c=6∨c=7∨c=9∨c=10∨c=11∨c=12∨c=13∨c=14∨c=15:=by omega
 rcases this with rfl|rfl|rfl|rfl|rfl|rfl|rfl|rfl|rfl|rfl|rfl<;>decide
theorem zSD{c:Int}{K:AV→Prop}:zAy .and (.int .i64 c) (.int .i64 (c-1)) K↔K (.int .i64 (zaO c)):=by
 simp only[zAy,zAi,zaO,IntKind.bits,true_and]
 exact Iff.rfl
theorem zMx{c:Int}{K:AV→Prop}(h1: -16≤c)(h2:c≤1000):zAy .sub (.int .i64 c) (.int .i64 ((1:Nat):Int)) K↔K (.int .i64 (c-1)):=by
 simp only[zAy,zAi,true_and]
 rw[show c-((1:Nat):Int)=c-1 from rfl,zCS (by omega) (by omega)]
theorem zK3{H:AHeap}{Q:AV→AHeap→Prop}{to a c:Int}(hT:Tz64H H)(h0:c≠0)(h1: -16≤c)(h2:c≤16)(hq:Q (zFh (zBF to a c)) H):Run Tryz.prog 128 [.int .i64 to,.int .i64 a,.int .i64 c] H Q:=by
 refine zTc (by simp) ?_
 simp(disch:=first|exact Xe|fail)only[za7,↓Xa,Xb,Xc,↓reduceIte,Nat.reduceLT,Nat.reduceEqDiff,Nat.reduceBEq,Nat.reduceLeDiff,Nat.reduceAdd]
 refine zAD fun p6 n6=>?_
 have hle: ∀{x:ABlk},Le H (H.upd p6 (some x)):=(Le.refl H).updB n6
 have t0: ∀{b:Bool},b=true→b=true:=fun h=>h
 by_cases c1:c=1
 ·have e1:decide (c=((1:Nat):Int))=true:=decide_eq_true (by omega)
  have e:zFh (zBF to a c)=.agg [.int .i64 ((1:Nat):Int),.int .i64 to,.int .i64 a,.int .i64 ((0:Nat):Int),.int .i64 ((0:Nat):Int)]:=by rw[zBF,if_pos c1];rfl
  rw[e]at hq
  simp(disch:=first|exact Xe|fail)only[zAF,e1,AV.cells,zNy,↓Xa,Xb,Xc,↓reduceIte,Nat.reduceLT,Nat.reduceEqDiff,Nat.reduceBEq,Nat.reduceLeDiff,Nat.reduceAdd]
  exact SetR.dropTo hle (SetR.now hq)
 have d1:decide (c=((1:Nat):Int))=false:=decide_eq_false (by omega)
 by_cases c2:c= -1
 ·have e1:decide (c= -1)=true:=decide_eq_true (by omega)
  have e:zFh (zBF to a c)=.agg [.int .i64 ((2:Nat):Int),.int .i64 to,.int .i64 a,.int .i64 ((0:Nat):Int),.int .i64 ((0:Nat):Int)]:=by rw[zBF,if_neg c1,if_pos c2];rfl
  rw[e]at hq
  simp(disch:=first|exact Xe|fail)only[zAF,d1,e1,AV.cells,zNy,↓Xa,Xb,Xc,↓reduceIte,Nat.reduceLT,Nat.reduceEqDiff,Nat.reduceBEq,Nat.reduceLeDiff,Nat.reduceAdd]
  exact SetR.dropTo hle (SetR.now hq)
 have d2:decide (c= -1)=false:=decide_eq_false (by omega)
 by_cases hp: ∃n,zgK c n
 ·obtain⟨n,hp⟩:=hp
  have h0:0<c:=by rcases hp with⟨rfl,_⟩|⟨rfl,_⟩|⟨rfl,_⟩|⟨rfl,_⟩<;>decide
  have e0:decide (((0:Nat):Int)<c)=true:=decide_eq_true (by omega)
  have ea:decide (zaO c=((0:Nat):Int))=true:=decide_eq_true (zZl hp)
  have e:zFh (zBF to a c)=.agg [.int .i64 ((7:Nat):Int),.int .i64 to,.int .i64 a,.int .i64 ((0:Nat):Int),.int .i64 ((n:Nat):Int)]:=by
   rcases hp with⟨rfl,rfl⟩|⟨rfl,rfl⟩|⟨rfl,rfl⟩|⟨rfl,rfl⟩<;>rfl
  rw[e]at hq
  have ec: ∀{K:AV→Prop},zEi .u64 (.int .i64 c) K↔K (.int .u64 c):=fun{K}=>by
   simp only[zEi,zCA];rw[Int.emod_eq_of_lt (by omega) (by omega)]
  simp(disch:=first|exact Xe|fail)only[zAF,zAb,d1,d2,e0,zMx h1 (show c≤1000 by omega),zSD,ea,ec,↓Xa,Xb,Xc,↓reduceIte,Nat.reduceLT,Nat.reduceEqDiff,Nat.reduceBEq,Nat.reduceLeDiff,Nat.reduceAdd]
  refine zAM (zdd (hT.le hle) hp ?_)
  simp(disch:=first|exact Xe|fail)only[AV.cells,zNy,↓Xa,Xb,Xc,↓reduceIte,Nat.reduceLT,Nat.reduceEqDiff,Nat.reduceBEq,Nat.reduceLeDiff,Nat.reduceAdd]
  exact SetR.dropTo hle (SetR.now hq)
 ·have e:zFh (zBF to a c)=.agg [.int .i64 ((5:Nat):Int),.int .i64 to,.int .i64 a,.int .i64 ((0:Nat):Int),.int .i64 c]:=by
   rw[zBF,if_neg c1,if_neg c2,if_neg (fun h=>hp ⟨1,.inl ⟨h,rfl⟩⟩),if_neg (fun h=>hp ⟨2,.inr (.inl ⟨h,rfl⟩)⟩),if_neg (fun h=>hp ⟨3,.inr (.inr (.inl ⟨h,rfl⟩))⟩),if_neg (fun h=>hp ⟨4,.inr (.inr (.inr ⟨h,rfl⟩))⟩)];rfl
  rw[e]at hq
  by_cases h0:0<c
  ·have e0:decide (((0:Nat):Int)<c)=true:=decide_eq_true (by omega)
   have hn:=zZx (c:=c) (by
    have n2:c≠2:=fun h=>hp ⟨1,.inl ⟨h,rfl⟩⟩
    omega) (by
    have n16:c≠16:=fun h=>hp ⟨4,.inr (.inr (.inr ⟨h,rfl⟩))⟩
    omega) (fun h=>hp ⟨2,.inr (.inl ⟨h,rfl⟩)⟩) (fun h=>hp ⟨3,.inr (.inr (.inl ⟨h,rfl⟩))⟩)
   have ea:decide (zaO c=((0:Nat):Int))=false:=decide_eq_false hn
   simp(disch:=first|exact Xe|fail)only[zAF,zAb,d1,d2,e0,zMx h1 (show c≤1000 by omega),zSD,ea,AV.cells,zNy,↓Xa,Xb,Xc,↓reduceIte,Nat.reduceLT,Nat.reduceEqDiff,Nat.reduceBEq,Nat.reduceLeDiff,Nat.reduceAdd]
   exact SetR.dropTo hle (SetR.now hq)
  ·have e0:decide (((0:Nat):Int)<c)=false:=decide_eq_false (by omega)
   simp(disch:=first|exact Xe|fail)only[zAF,zAb,d1,d2,e0,AV.cells,zNy,↓Xa,Xb,Xc,↓reduceIte,Nat.reduceLT,Nat.reduceEqDiff,Nat.reduceBEq,Nat.reduceLeDiff,Nat.reduceAdd]
   exact SetR.dropTo hle (SetR.now hq)
def RG(H M:AHeap)(p6 p7 ty es n:Nat)(cells:List AV)(v:AV):Prop:=
 (v=.seq 0 [] true∧n=0∧cells=[])∨(0<n∧cells.length=n*es∧∃b,H b=none∧b≠p6∧b≠p7∧v=.own b (n*es) 0 n false∧M b=some (.row ty es cells))
def zav(b:Nat)(v:AV):Prop:= ∀L off n t,v≠.own b L off n t
structure PM(H M:AHeap)(p6 p7:Nat)(k regs:Int)(code:List Ins)(outs:List Int)(cv ov:AV):Prop where
 p:M p6=some (.row 25 0 [.int .i64 k,.int .i64 regs,cv,ov])
 f:M p7=some (.row 196 0 [.fn (.func 126) [] [.ptr p6 4 0]])
 c:RG H M p6 p7 76 5 code.length (code.flatMap zDC) cv
 o:RG H M p6 p7 3 1 outs.length (outs.map fun n=>.int .i64 n) ov
 ne: ∀b,zav b cv∨zav b ov
 le:Le H M
 h6:H p6=none
 h7:H p7=none
 n67:p6≠p7
theorem RG.cell{H M:AHeap}{p6 p7 ty es n:Nat}{cells:List AV}{v:AV}(h:RG H M p6 p7 ty es n cells v):v.cell=true:=by
 rcases h with⟨rfl,_⟩|⟨_,_,b,_,_,_,rfl,_⟩<;>rfl
theorem RG.fresh{H M:AHeap}{p6 p7 ty es n q:Nat}{cells:List AV}{v:AV}{x:ABlk}(h:RG H M p6 p7 ty es n cells v)(hq:M q=none):RG H (M.upd q (some x)) p6 p7 ty es n cells v:=by
 rcases h with h|⟨h1,h2,b,h3,h4,h5,h6,h7⟩
 ·exact .inl h
 ·exact .inr ⟨h1,h2,b,h3,h4,h5,h6,by rw[zAA _ _ (by rintro rfl;rw[hq]at h7;cases h7)];exact h7⟩
theorem RG.base{H H' M:AHeap}{p6 p7 ty es n:Nat}{cells:List AV}{v:AV}(h:RG H' M p6 p7 ty es n cells v)(hl: ∀b,H' b=none→H b=none):RG H M p6 p7 ty es n cells v:=by
 rcases h with h|⟨h1,h2,b,h3,h4⟩
 ·exact .inl h
 ·exact .inr ⟨h1,h2,b,hl b h3,h4⟩
section
variable {H M:AHeap} {p6 p7:Nat} {k regs:Int} {code:List Ins} {outs:List Int} {cv ov:AV}
theorem PM.fresh{q:Nat}{x:ABlk}(h:PM H M p6 p7 k regs code outs cv ov)(hq:M q=none):PM H (M.upd q (some x)) p6 p7 k regs code outs cv ov:=
 ⟨by rw[zAA _ _ (by rintro rfl;exact absurd h.p (by simp[hq]))];exact h.p,by rw[zAA _ _ (by rintro rfl;exact absurd h.f (by simp[hq]))];exact h.f,h.c.fresh hq,h.o.fresh hq,h.ne,h.le.upd hq,h.h6,h.h7,h.n67⟩
theorem PM.under{q:Nat}{x:ABlk}(h:PM H M p6 p7 k regs code outs cv ov)(hq:M q=none):PM (H.upd q (some x)) (M.upd q (some x)) p6 p7 k regs code outs cv ov:=by
 have q6:p6≠q:=by rintro rfl;exact absurd h.p (by simp[hq])
 have q7:p7≠q:=by rintro rfl;exact absurd h.f (by simp[hq])
 have hf:=h.fresh (x:=x) hq
 have go: ∀{ty es n:Nat}{cells:List AV}{v:AV},RG H M p6 p7 ty es n cells v→RG (H.upd q (some x)) (M.upd q (some x)) p6 p7 ty es n cells v:=fun{ty es n cells v} r=>by
  rcases r with h|⟨h1,h2,b,h3,h4,h5,h6,h7⟩
  ·exact .inl h
  ·have hbq:b≠q:=by rintro rfl;rw[hq]at h7;cases h7
   exact .inr ⟨h1,h2,b,zAB.2 ⟨hbq,h3⟩,h4,h5,h6,by rw[zAA _ _ hbq];exact h7⟩
 refine⟨hf.p,hf.f,go h.c,go h.o,h.ne,fun o y ho=>?_,by rw[zAA _ _ q6];exact h.h6,by rw[zAA _ _ q7];exact h.h7,h.n67⟩
 by_cases e:o=q
 ·subst e;rw[zAC]at ho ⊢; exact ho
 ·rw[zAA _ _ e]at ho ⊢; exact h.le o y ho
theorem PM.drop{H':AHeap}(h:PM H' M p6 p7 k regs code outs cv ov)(hl:Le H H'):PM H M p6 p7 k regs code outs cv ov:=by
 have hn: ∀b,H' b=none→H b=none:=fun b hb=>by
  cases e:H b with
  |none=>rfl
  |some x=>rw[hl b x e]at hb;cases hb
 exact⟨h.p,h.f,h.c.base hn,h.o.base hn,h.ne,fun o x ho=>h.le o x (hl o x ho),hn _ h.h6,hn _ h.h7,h.n67⟩
end
theorem PM.appC{H M:AHeap}{p6 p7:Nat}{k regs:Int}{code:List Ins}{outs:List Int}{cv ov:AV}{i:Ins}{t:Bool}{K:AV→AHeap→Prop}(h:PM H M p6 p7 k regs code outs cv ov)(hb:code.length+1≤1000000)
 (kk: ∀cv' M',M' p6=some (.row 25 0 [.int .i64 k,.int .i64 regs,cv,ov])→cv'.cells=some [cv']→PM H (M'.upd p6 (some (.row 25 0 [.int .i64 k,.int .i64 regs,cv',ov]))) p6 p7 k regs (code++[i]) outs cv' ov→K cv' M'):
 zK9 M 76 5 40 cv (.seq 1 (zDC i) t) K:=by
 have hys:(zDC i).length=1*5:=rfl
 have hcs:(zDC i).all AV.cell=true:=rfl
 have el:(code++[i]).length=code.length+1:=by simp
 have ec:(code++[i]).flatMap zDC=code.flatMap zDC++zDC i:=by simp
 have hc5:(code.flatMap zDC).length=code.length*5:=zDE zCo code
 refine .inl ⟨hys,hcs,?_⟩
 rcases h.c with⟨hv,hn,hcl⟩|⟨hn,hl,b,b1,b2,b3,hv,hb'⟩
 ·have hc0:code=[]:=List.length_eq_zero_iff.1 hn
  subst hc0
  rw[hv]
  refine⟨rfl,by simp,by omega,by omega,fun e=>absurd e (by omega),fun _ b hbn=>?_⟩
  have nb6:b≠p6:=by rintro rfl;rw[h.p]at hbn;cases hbn
  have nb7:b≠p7:=by rintro rfl;rw[h.f]at hbn;cases hbn
  have hbH:H b=none:=by
   cases e:H b with
   |none=>rfl
   |some x=>rw[h.le b x e]at hbn;cases hbn
  refine kk _ _ ?_ rfl ⟨zAC _ _ _,?_,.inr ⟨by simp,by simp[zDC],b,hbH,nb6,nb7,rfl,?_⟩,?_,fun c=>?_,?_,h.h6,h.h7,h.n67⟩
  ·rw[zAA _ _ (Ne.symm nb6),h.p,hv]
  ·rw[zAA _ _ (Ne.symm h.n67),zAA _ _ (Ne.symm nb7)];exact h.f
  ·rw[zAA _ _ nb6,zAC];simp
  ·rcases h.o with ho|⟨o1,o2,c,o3,o4,o5,o6,o7⟩
   ·exact .inl ho
   ·refine .inr ⟨o1,o2,c,o3,o4,o5,o6,?_⟩
    rw[zAA _ _ o4,zAA _ _ (by rintro rfl;rw[hbn]at o7;cases o7)];exact o7
  ·by_cases e:c=b
   ·subst e
    right
    rcases h.o with⟨rfl,_⟩|⟨o1,o2,c',o3,o4,o5,rfl,o7⟩
    ·intro L off n t e;cases e
    ·intro L off n t e;injection e with e;subst e;rw[hbn]at o7;cases o7
   ·left;intro L off n t e2;injection e2 with e2;exact e e2.symm
  ·refine fun o x ho=>?_
   have o6:o≠p6:=by rintro rfl;rw[h.h6]at ho;cases ho
   rw[zAA _ _ o6,zAA _ _ (by rintro rfl;rw[hbH]at ho;cases ho)];exact h.le o x ho
 ·rw[hv]
  dsimp only
  rw[hb']
  refine⟨hl,rfl,rfl,rfl,rfl,by omega,by omega,?_⟩
  refine kk _ _ ?_ rfl ⟨zAC _ _ _,?_,.inr ⟨by simp,by rw[el,ec,List.length_append,hc5];simp[zDC];omega,b,b1,b2,b3,by rw[el],?_⟩,?_,fun c=>?_,?_,h.h6,h.h7,h.n67⟩
  ·rw[zAA _ _ (Ne.symm b2),h.p,hv]
  ·rw[zAA _ _ (Ne.symm h.n67),zAA _ _ (Ne.symm b3)];exact h.f
  ·rw[zAA _ _ b2,zAC,ec]
  ·rcases h.o with ho|⟨o1,o2,c,o3,o4,o5,o6,o7⟩
   ·exact .inl ho
   ·refine .inr ⟨o1,o2,c,o3,o4,o5,o6,?_⟩
    have hcb:c≠b:=by
     rintro rfl
     rcases h.ne c with hh|hh
     ·exact hh _ _ _ _ hv
     ·exact hh _ _ _ _ o6
    rw[zAA _ _ o4,zAA _ _ hcb];exact o7
  ·rcases h.ne c with hh|hh
   ·left;intro L off n t e;injection e with e;subst e;exact hh _ _ _ _ hv
   ·exact .inr hh
  ·refine fun o x ho=>?_
   rw[zAA _ _ (by rintro rfl;rw[h.h6]at ho;cases ho),zAA _ _ (by rintro rfl;rw[b1]at ho;cases ho)];exact h.le o x ho
theorem PM.appO{H M:AHeap}{p6 p7:Nat}{k regs:Int}{code:List Ins}{outs:List Int}{cv ov:AV}{i:Int}{t:Bool}{K:AV→AHeap→Prop}(h:PM H M p6 p7 k regs code outs cv ov)(hb:outs.length+1≤1000000)
 (kk: ∀ov' M',M' p6=some (.row 25 0 [.int .i64 k,.int .i64 regs,cv,ov])→ov'.cells=some [ov']→PM H (M'.upd p6 (some (.row 25 0 [.int .i64 k,.int .i64 regs,cv,ov']))) p6 p7 k regs code (outs++[i]) cv ov'→K ov' M'):
 zK9 M 3 1 8 ov (.seq 1 [.int .i64 i] t) K:=by
 have el:(outs++[i]).length=outs.length+1:=by simp
 have ec:(outs++[i]).map (fun n=>AV.int .i64 n)=(outs.map fun n=>AV.int .i64 n)++[.int .i64 i]:=by simp
 have hc5:(outs.map fun n=>AV.int .i64 n).length=outs.length*1:=by simp
 refine .inl ⟨rfl,rfl,?_⟩
 rcases h.o with⟨hv,hn,hcl⟩|⟨hn,hl,b,b1,b2,b3,hv,hb'⟩
 ·have hc0:outs=[]:=List.length_eq_zero_iff.1 hn
  subst hc0
  rw[hv]
  refine⟨rfl,by simp,by omega,by omega,fun e=>absurd e (by omega),fun _ b hbn=>?_⟩
  have nb6:b≠p6:=by rintro rfl;rw[h.p]at hbn;cases hbn
  have nb7:b≠p7:=by rintro rfl;rw[h.f]at hbn;cases hbn
  have hbH:H b=none:=by
   cases e:H b with
   |none=>rfl
   |some x=>rw[h.le b x e]at hbn;cases hbn
  refine kk _ _ ?_ rfl ⟨zAC _ _ _,?_,?_,.inr ⟨by simp,by simp,b,hbH,nb6,nb7,rfl,?_⟩,fun c=>?_,?_,h.h6,h.h7,h.n67⟩
  ·rw[zAA _ _ (Ne.symm nb6),h.p,hv]
  ·rw[zAA _ _ (Ne.symm h.n67),zAA _ _ (Ne.symm nb7)];exact h.f
  ·rcases h.c with ho|⟨o1,o2,c,o3,o4,o5,o6,o7⟩
   ·exact .inl ho
   ·refine .inr ⟨o1,o2,c,o3,o4,o5,o6,?_⟩
    rw[zAA _ _ o4,zAA _ _ (by rintro rfl;rw[hbn]at o7;cases o7)];exact o7
  ·rw[zAA _ _ nb6,zAC];simp
  ·by_cases e:c=b
   ·subst e
    left
    rcases h.c with⟨rfl,_⟩|⟨o1,o2,c',o3,o4,o5,rfl,o7⟩
    ·intro L off n t e;cases e
    ·intro L off n t e;injection e with e;subst e;rw[hbn]at o7;cases o7
   ·right;intro L off n t e2;injection e2 with e2;exact e e2.symm
  ·refine fun o x ho=>?_
   have o6:o≠p6:=by rintro rfl;rw[h.h6]at ho;cases ho
   rw[zAA _ _ o6,zAA _ _ (by rintro rfl;rw[hbH]at ho;cases ho)];exact h.le o x ho
 ·rw[hv]
  dsimp only
  rw[hb']
  refine⟨hl,rfl,rfl,rfl,rfl,by omega,by omega,?_⟩
  refine kk _ _ ?_ rfl ⟨zAC _ _ _,?_,?_,.inr ⟨by simp,by rw[el,ec,List.length_append,hc5];simp,b,b1,b2,b3,by rw[el],?_⟩,fun c=>?_,?_,h.h6,h.h7,h.n67⟩
  ·rw[zAA _ _ (Ne.symm b2),h.p,hv]
  ·rw[zAA _ _ (Ne.symm h.n67),zAA _ _ (Ne.symm b3)];exact h.f
  ·rcases h.c with ho|⟨o1,o2,c,o3,o4,o5,o6,o7⟩
   ·exact .inl ho
   ·refine .inr ⟨o1,o2,c,o3,o4,o5,o6,?_⟩
    have hcb:c≠b:=by
     rintro rfl
     rcases h.ne c with hh|hh
     ·exact hh _ _ _ _ o6
     ·exact hh _ _ _ _ hv
    rw[zAA _ _ o4,zAA _ _ hcb];exact o7
  ·rw[zAA _ _ b2,zAC,ec]
  ·rcases h.ne c with hh|hh
   ·exact .inl hh
   ·right;intro L off n t e;injection e with e;subst e;exact hh _ _ _ _ hv
  ·refine fun o x ho=>?_
   rw[zAA _ _ (by rintro rfl;rw[h.h6]at ho;cases ho),zAA _ _ (by rintro rfl;rw[b1]at ho;cases ho)];exact h.le o x ho
theorem zg2{a b c d e:AV}:zCM [a,b,c,d,e] 5=[a,b,c,d,e]:=by simp[zCM,List.range,List.range.loop]
theorem zCd{H M:AHeap}{Q:AV→AHeap→Prop}{p6 p7:Nat}{k regs:Int}{code:List Ins}{outs:List Int}{cv ov:AV}{i:Ins}(h:PM H M p6 p7 k regs code outs cv ov)(hb:code.length+1≤1000000)
 (hq: ∀M' cv',PM H M' p6 p7 k regs (zGS code i) outs cv' ov→Q (.tup []) M'):Run Tryz.prog 126 [zFh i,.ptr p6 4 0] M Q:=by
 refine zS3 (by simp) ?_
 simp(disch:=first|exact Xe|fail)only[zeB,zAr,↓Xa,Xb,Xc,↓reduceIte,Nat.reduceLT,Nat.reduceEqDiff,Nat.reduceBEq,Nat.reduceLeDiff,Nat.reduceAdd]
 refine zAD fun p2 n2=>?_
 have h2:=h.fresh (x:=.row 76 0 [.int .i64 i.op,.int .i64 i.to,.int .i64 i.a,.int .i64 i.b,.int .i64 i.c]) n2
 have q6:p6≠p2:=by rintro rfl;exact absurd h.p (by simp[n2])
 generalize hM2:M.upd p2 (some (.row 76 0 [.int .i64 i.op,.int .i64 i.to,.int .i64 i.a,.int .i64 i.b,.int .i64 i.c]))=M2 at*
 have g2:M2 p2=some (.row 76 0 [.int .i64 i.op,.int .i64 i.to,.int .i64 i.a,.int .i64 i.b,.int .i64 i.c]):=by rw[← hM2,zAC]
 by_cases h1:i.op=1∧i.to=i.a
 ·have e1:decide (i.op=((1:Nat):Int))=true:=decide_eq_true h1.1
  have e2:decide (i.to=i.a)=true:=decide_eq_true h1.2
  have e:zGS code i=code:=if_pos h1
  simp(disch:=first|exact Xe|fail)only[g2,zAV,e1,e2,zUJ,↓Xa,Xb,Xc,↓reduceIte,Nat.reduceLT,Nat.reduceEqDiff,Nat.reduceBEq,Nat.reduceLeDiff,Nat.reduceAdd]
  exact SetR.now (hq _ cv (by rw[e];exact h2))
 have e:zGS code i=code++[i]:=if_neg h1
 have g6:=h2.p
 by_cases c1:i.op=1
 ·have e1:decide (i.op=((1:Nat):Int))=true:=decide_eq_true c1
  have e2:decide (i.to=i.a)=false:=decide_eq_false fun h=>h1 ⟨c1,h⟩
  simp(disch:=first|exact Xe|fail)only[g2,g6,zAV,e1,e2,zg2,zA8,zAr,↓Xa,Xb,Xc,↓reduceIte,Nat.reduceLT,Nat.reduceEqDiff,Nat.reduceBEq,Nat.reduceLeDiff,Nat.reduceAdd,Nat.reduceMul]
  refine PM.appC (i:=i) h2 hb fun cv' M' m1 m2 m3=>?_
  simp(disch:=first|exact Xe|fail)only[m1,m2,zUJ,↓Xa,Xb,Xc,↓reduceIte,Nat.reduceLT,Nat.reduceEqDiff,Nat.reduceBEq,Nat.reduceLeDiff,Nat.reduceAdd]
  exact SetR.now (hq _ cv' (by rw[e];exact m3))
 ·have e1:decide (i.op=((1:Nat):Int))=false:=decide_eq_false c1
  simp(disch:=first|exact Xe|fail)only[g2,g6,zAV,e1,zg2,zA8,zAr,↓Xa,Xb,Xc,↓reduceIte,Nat.reduceLT,Nat.reduceEqDiff,Nat.reduceBEq,Nat.reduceLeDiff,Nat.reduceAdd,Nat.reduceMul]
  refine PM.appC (i:=i) h2 hb fun cv' M' m1 m2 m3=>?_
  simp(disch:=first|exact Xe|fail)only[m1,m2,zUJ,↓Xa,Xb,Xc,↓reduceIte,Nat.reduceLT,Nat.reduceEqDiff,Nat.reduceBEq,Nat.reduceLeDiff,Nat.reduceAdd]
  exact SetR.now (hq _ cv' (by rw[e];exact m3))
theorem zCr(code:List Ins)(i:Ins):(zGS code i).length≤code.length+1:=by
 unfold zGS
 split
 ·omega
 ·simp
theorem Tz64H.blk{H M:AHeap}(h:Tz64H H)(hl:Le H M):Tz64H M:=h.le hl
theorem zE3{H:AHeap}{K:AV→List Nat→Option (Nat×ABlk)→Prop}{to a c:Int}(hT:Tz64H H)(h0:c≠0)(h1: -16≤c)(h2:c≤16)(k:K (zFh (zBF to a c)) [1] none){o:Bool}:dcall o Tryz.prog (.fn (.func 128) [] []) [.int .i64 to,.int .i64 a,.int .i64 c] H K:=
 zXb [1] (fun H' K' he hk'=>zAM (zK3 ((he _ (by simp)).trans hT) h0 h1 h2 hk')) k
theorem zDo{H M:AHeap}{Q:AV→AHeap→Prop}{p6 p7 n:Nat}{k regs to a c:Int}{code:List Ins}{outs:List Int}{cv ov:AV}(hT:Tz64H H)(h:PM H M p6 p7 k regs code outs cv ov)(h0:c≠0)(h1: -16≤c)(h2:c≤16)(hn:n≤8)(hb:code.length+8≤1000000)
 (hq: ∀M' cv',PM H M' p6 p7 k regs (zFF to c n a code) outs cv' ov→Q (.tup []) M'):Run Tryz.prog 127 [.int .i64 to,.int .i64 a,.int .i64 c,.int .i64 (n:Int),.ptr p7 1 0] M Q:=by
 refine zTl (by simp) ?_
 simp(disch:=first|exact Xe|fail)only[zeo,↓Xa,Xb,Xc,↓reduceIte,Nat.reduceLT,Nat.reduceEqDiff,Nat.reduceBEq,Nat.reduceLeDiff,Nat.reduceAdd]
 refine zAO (fun s:Nat×Int×List Ins×AV×AHeap=>⟨[],[(0,.int .i64 to),(1,.int .i64 s.2.1),(2,.int .i64 c),(4,.ptr p7 1 0),(9,.int .i64 (n:Int)),(10,.int .i64 s.1)],s.2.2.2.2⟩)
  (fun s=>s.1≤n∧zFF to c (n-s.1) s.2.1 s.2.2.1=zFF to c n a code∧s.2.2.1.length≤code.length+s.1∧PM H s.2.2.2.2 p6 p7 k regs s.2.2.1 outs s.2.2.2.1 ov) (fun s=>n-s.1) (0,a,code,cv,M) (Settle.now rfl) ⟨Nat.zero_le _,rfl,Nat.le_refl _,h⟩ ?_
 rintro⟨s,a',co,cv',M'⟩ ⟨e1,e2,e3,hp⟩
 dsimp only at e1 e2 e3 hp ⊢
 by_cases hs:s<n
 ·have hf:=hp.f
  simp(disch:=first|exact Xe|fail)only[hs,hf,↓Xa,Xb,Xc,↓reduceIte,Nat.reduceLT,Nat.reduceEqDiff,Nat.reduceBEq,Nat.reduceLeDiff,Nat.reduceAdd]
  refine zE3 (hT.le hp.le) h0 h1 h2 ?_
  simp(disch:=first|exact Xe|fail)only[↓Xa,Xb,Xc,↓reduceIte,Nat.reduceLT,Nat.reduceEqDiff,Nat.reduceBEq,Nat.reduceLeDiff,Nat.reduceAdd]
  refine zAM (zCd hp (by omega) fun M2 cv2 hp2=>?_)
  simp(disch:=first|exact Xe|fail)only[↓Xa,Xb,Xc,↓reduceIte,Nat.reduceLT,Nat.reduceEqDiff,Nat.reduceBEq,Nat.reduceLeDiff,Nat.reduceAdd]
  refine Settle.now ⟨(s+1,to,zGS co (zBF to a' c),cv2,M2),by dsimp only;omega,⟨by dsimp only;omega,?_,?_,hp2⟩,rfl⟩
  ·dsimp only
   rw[← e2,show n-s=(n-(s+1))+1 by omega];rfl
  ·dsimp only
   have:=zCr co (zBF to a' c)
   omega
 ·obtain rfl:s=n:=by omega
  rw[Nat.sub_self]at e2
  simp(disch:=first|exact Xe|fail)only[hs,↓Xa,Xb,Xc,↓reduceIte,Nat.reduceLT,Nat.reduceEqDiff,Nat.reduceBEq,Nat.reduceLeDiff,Nat.reduceAdd]
  refine Settle.now ?_
  simp(disch:=first|exact Xe|fail)only[zan,↓Xa,Xb,Xc,↓reduceIte,Nat.reduceLT,Nat.reduceEqDiff,Nat.reduceBEq,Nat.reduceLeDiff,Nat.reduceAdd]
  exact SetR.now (hq _ cv' (by rw[← e2];exact hp))
def zC9(k:Int)(l:List Pt):Prop:=(1≤k∧k≤8)∧zEN l
instance (k:Int)(l:List Pt):Decidable (zC9 k l):=by unfold zC9;infer_instance
def prA(k:Int)(l:List Pt):PR:=if zC9 k l then zB5 k.toNat l else⟨0,0,[],[]⟩
def prE(k:Int)(l:List Pt):Nat:=if zC9 k l then 0 else 2
theorem zLn{a b:Int}{x y:AV}(hx:x.cell=true)(hy:y.cell=true):(AV.agg [.int .i64 a,.int .i64 b,x,y]).cells=some [.int .i64 a,.int .i64 b,x,y]:=by
 have e:([.int .i64 a,.int .i64 b,x,y]:List AV).all AV.cell=true:=by
  rw[List.all_cons,List.all_cons,List.all_cons,List.all_cons,hx,hy];rfl
 show(if([.int .i64 a,.int .i64 b,x,y]:List AV).all AV.cell=true then _ else _)=_
 rw[if_pos e]
theorem zS0{f:Fn}{a b:List AV}:(AV.fn f a b).cells=some [.fn f a b]:=id rfl
theorem zgg:zCM [AV.int .i64 ((0:Nat):Int)] 1=[.int .i64 ((0:Nat):Int)]:=by simp[zCM,List.range,List.range.loop]
theorem zGk:AV.cells (.agg [.int .i64 ((0:Nat):Int),.int .i64 ((0:Nat):Int),.seq 0 [] true,.seq 0 [] true])=some [.int .i64 ((0:Nat):Int),.int .i64 ((0:Nat):Int),.seq 0 [] true,.seq 0 [] true]:=id rfl
theorem zNf{k:Int}{l:List Pt}{t:Bool}(hl:l.length<9223372036854775808)(hno: ¬zC9 k l):PFn Tryz.prog 58 [.int .i64 k,zDd l t] (.tup [zCV ⟨0,0,[],[]⟩,.int .i64 ((2:Nat):Int)]):=by
 intro H Q hq
 refine zQV (by simp) ?_
 simp(disch:=first|exact Xe|fail)only[zfC,↓Xa,Xb,Xc,↓reduceIte,Nat.reduceLT,Nat.reduceEqDiff,Nat.reduceBEq,Nat.reduceLeDiff,Nat.reduceAdd]
 refine zAD fun p4 n4=>?_
 have hle: ∀{x:ABlk},Le H (H.upd p4 (some x)):=(Le.refl H).updB n4
 have fin:SetR Q (.tup [.agg [.int .i64 ((0:Nat):Int),.int .i64 ((0:Nat):Int),.seq 0 [] true,.seq 0 [] true],.int .i64 ((2:Nat):Int)]) H:=by
  refine SetR.mono (SetR.loose (SetR.now hq)) fun _ _ h=>h
 by_cases h1:k<1
 ·have d1:decide (k<((1:Nat):Int))=true:=decide_eq_true (by omega)
  simp(disch:=first|exact Xe|fail)only[zAN,d1,zGk,zce,↓Xa,Xb,Xc,↓reduceIte,Nat.reduceLT,Nat.reduceEqDiff,Nat.reduceBEq,Nat.reduceLeDiff,Nat.reduceAdd]
  exact SetR.dropTo hle fin
 have d1:decide (k<((1:Nat):Int))=false:=decide_eq_false (by omega)
 by_cases h2:8<k
 ·have d2:decide (((8:Nat):Int)<k)=true:=decide_eq_true (by omega)
  simp(disch:=first|exact Xe|fail)only[zAN,zAb,d1,d2,zGk,zce,↓Xa,Xb,Xc,↓reduceIte,Nat.reduceLT,Nat.reduceEqDiff,Nat.reduceBEq,Nat.reduceLeDiff,Nat.reduceAdd]
  exact SetR.dropTo hle fin
 have d2:decide (((8:Nat):Int)<k)=false:=decide_eq_false (by omega)
 have hp: ¬zEN l:=fun h=>hno ⟨⟨by omega,by omega⟩,h⟩
 simp(disch:=first|exact Xe|fail)only[zAN,zAb,d1,d2,↓Xa,Xb,Xc,↓reduceIte,Nat.reduceLT,Nat.reduceEqDiff,Nat.reduceBEq,Nat.reduceLeDiff,Nat.reduceAdd]
 refine(zG5 hl).call ?_
 simp(disch:=first|exact Xe|fail)only[decide_eq_false hp,zGk,zce,↓Xa,Xb,Xc,↓reduceIte,Nat.reduceLT,Nat.reduceEqDiff,Nat.reduceBEq,Nat.reduceLeDiff,Nat.reduceAdd]
 exact SetR.dropTo hle fin
theorem zEt{b n es:Nat}{cells:List AV}(hl:cells.length=n*es):zCy b es cells (.own b (n*es) 0 n false)=.seq n cells false:=by simp[zCy,hl,List.take_of_length_le]
theorem zTO{b c L off n es:Nat}{t:Bool}{cells:List AV}(h:c≠b):zCy b es cells (.own c L off n t)=.own c L off n t:=by simp[zCy,h]
theorem zUp{H M:AHeap}{Q:AV→AHeap→Prop}{p6 p7:Nat}{k regs e:Int}{code:List Ins}{outs:List Int}{cv ov:AV}(h:PM H M p6 p7 k regs code outs cv ov)(hq:Q (.tup [zCV ⟨k,regs,code,outs⟩,.int .i64 e]) H):SetR Q (.tup [.agg [.int .i64 k,.int .i64 regs,cv,ov],.int .i64 e]) M:=by
 have hcl:(code.flatMap zDC).length=code.length*5:=zDE zCo code
 have hle: ∀{M':AHeap}{b:Nat},Le H M'→H b=none→Le H (M'.upd b none):=fun{M' b} hl hb o x ho=>by
  rw[zAA _ _ (by rintro rfl;rw[hb]at ho;cases ho)];exact hl o x ho
 rcases h.c with⟨rfl,hn,hc⟩|⟨hn,hl,b,b1,b2,b3,rfl,hb'⟩
 ·obtain rfl:=List.length_eq_zero_iff.1 hn
  rcases h.o with⟨rfl,hn2,hc2⟩|⟨hn2,hl2,c,c1,c2,c3,rfl,hc'⟩
  ·obtain rfl:=List.length_eq_zero_iff.1 hn2
   exact SetR.loose (SetR.dropTo h.le (SetR.now hq))
  ·refine SetR.loose (SetR.frz c hc' (SetR.dropTo (hle h.le c1) (SetR.now ?_)))
   have e1:=zEt (b:=c) hl2
   simp only[loose,zFX,loose1,frz,zF0,List.map_cons,List.map_nil,e1]
   exact hq
 ·rcases h.o with⟨rfl,hn2,hc2⟩|⟨hn2,hl2,c,c1,c2,c3,rfl,hc'⟩
  ·obtain rfl:=List.length_eq_zero_iff.1 hn2
   refine SetR.loose (SetR.frz b hb' (SetR.dropTo (hle h.le b1) (SetR.now ?_)))
   have e1:=zEt (b:=b) hl
   simp only[loose,zFX,loose1,frz,zF0,List.map_cons,List.map_nil,e1]
   exact hq
  ·have hbc:b≠c:=by
    rintro rfl
    rcases h.ne b with hh|hh
    ·exact hh _ _ _ _ rfl
    ·exact hh _ _ _ _ rfl
   refine SetR.frz b hb' ?_
   have e1:=zEt (b:=b) hl
   have e2:zCy b 5 (code.flatMap zDC) (.own c (outs.length*1) 0 outs.length false)=.own c (outs.length*1) 0 outs.length false:=zTO (Ne.symm hbc)
   have e3:=zEt (b:=c) hl2
   refine SetR.frz c (by rw[zAA _ _ (Ne.symm hbc)];exact hc') (SetR.dropTo (hle (hle h.le b1) c1) (SetR.now ?_))
   simp only[frz,zF0,zCy,List.map_cons,List.map_nil]at e1 e2 e3 ⊢
   simp only[e1,e2,e3]
   exact hq
theorem PM.setO{H M:AHeap}{p6 p7 b i:Nat}{k regs:Int}{code:List Ins}{outs:List Int}{cv ov:AV}{x:Int}(h:PM H M p6 p7 k regs code outs cv ov)(hov:ov=.own b (outs.length*1) 0 outs.length false)(hb:M b=some (.row 3 1 (outs.map fun n=>.int .i64 n)))(b1:H b=none)(b2:b≠p6)(b3:b≠p7)(hn:0<outs.length):
 PM H (M.upd b (some (.row 3 1 ((outs.map fun n=>AV.int .i64 n).set i (.int .i64 x))))) p6 p7 k regs code (outs.set i x) cv ov:=by
 refine⟨by rw[zAA _ _ (Ne.symm b2)];exact h.p,by rw[zAA _ _ (Ne.symm b3)];exact h.f,?_,.inr ⟨by simpa using hn,by simp,b,b1,b2,b3,by rw[List.length_set];exact hov,by rw[zAC,List.map_set]⟩,h.ne,fun o y ho=>?_,h.h6,h.h7,h.n67⟩
 ·rcases h.c with hc|⟨o1,o2,c,o3,o4,o5,o6,o7⟩
  ·exact .inl hc
  ·have hcb:c≠b:=by
    rintro rfl
    rcases h.ne c with hh|hh
    ·exact hh _ _ _ _ o6
    ·exact hh _ _ _ _ hov
   exact .inr ⟨o1,o2,c,o3,o4,o5,o6,by rw[zAA _ _ hcb];exact o7⟩
 ·rw[zAA _ _ (by rintro rfl;rw[b1]at ho;cases ho)];exact h.le o y ho
theorem PM.side{Hb H M:AHeap}{p6 p7 q:Nat}{k regs:Int}{code:List Ins}{outs:List Int}{cv ov:AV}{x y:ABlk}(h:PM Hb M p6 p7 k regs code outs cv ov)(hl:Le H Hb)(hq:H q=none)(hb:Hb q=some y):PM H (M.upd q (some x)) p6 p7 k regs code outs cv ov:=by
 have hd:=h.drop hl
 have go: ∀{ty es n:Nat}{cells:List AV}{v:AV},RG Hb M p6 p7 ty es n cells v→RG H (M.upd q (some x)) p6 p7 ty es n cells v:=fun{ty es n cells v} r=>by
  rcases r with r|⟨h1,h2,b,h3,h4,h5,h6,h7⟩
  ·exact .inl r
  ·have hbq:b≠q:=by rintro rfl;rw[h3]at hb;cases hb
   have hbn:H b=none:=by
    cases e:H b with
    |none=>rfl
    |some z=>rw[hl b z e]at h3;cases h3
   exact .inr ⟨h1,h2,b,hbn,h4,h5,h6,by rw[zAA _ _ hbq];exact h7⟩
 refine⟨?_,?_,go h.c,go h.o,h.ne,fun o z ho=>?_,hd.h6,hd.h7,hd.n67⟩
 ·rw[zAA _ _ (by rintro rfl;rw[h.h6]at hb;cases hb)];exact h.p
 ·rw[zAA _ _ (by rintro rfl;rw[h.h7]at hb;cases hb)];exact h.f
 ·rw[zAA _ _ (by rintro rfl;rw[hq]at ho;cases ho)];exact hd.le o z ho
theorem zEr{to c:Int}: ∀(n:Nat)(a:Int)(code:List Ins),(zFF to c n a code).length≤code.length+n
 |0,a,code=>Nat.le_refl _
 |n+1,a,code=>by
  have h1:=zEr (to:=to) (c:=c) n to (zGS code (zBF to a c))
  have h2:=zCr code (zBF to a c)
  show(zFF to c n to (zGS code (zBF to a c))).length≤_
  omega
theorem zLe{H:AHeap}{Q:AV→AHeap→Prop}{k:Nat}{l:List Pt}{t:Bool}(hT:Tz64H H)(hk1:1≤k)(hk8:k≤8)(hp:zEN l)(hq:Q (.tup [zCV (zB5 k l),.int .i64 ((0:Nat):Int)]) H):Run Tryz.prog 58 [.int .i64 (k:Int),zDd l t] H Q:=by
 have hl:l.length<9223372036854775808:=by have:=hp.2.2;omega
 have hl15:=hp.2.2
 refine zQV (by simp) ?_
 simp(disch:=first|exact Xe|fail)only[zfC,↓Xa,Xb,Xc,↓reduceIte,Nat.reduceLT,Nat.reduceEqDiff,Nat.reduceBEq,Nat.reduceLeDiff,Nat.reduceAdd]
 refine zAD fun p4 n4=>?_
 have d1:decide ((k:Int)<((1:Nat):Int))=false:=decide_eq_false (by omega)
 have d2:decide (((8:Nat):Int)<(k:Int))=false:=decide_eq_false (by omega)
 simp(disch:=first|exact Xe|fail)only[zAN,zAb,d1,d2,↓Xa,Xb,Xc,↓reduceIte,Nat.reduceLT,Nat.reduceEqDiff,Nat.reduceBEq,Nat.reduceLeDiff,Nat.reduceAdd]
 refine(zG5 hl).call ?_
 simp(disch:=first|exact Xe|fail)only[decide_eq_true hp,zBE hl,↓Xa,Xb,Xc,↓reduceIte,Nat.reduceLT,Nat.reduceEqDiff,Nat.reduceBEq,Nat.reduceLeDiff,Nat.reduceAdd]
 generalize hHb:H.upd p4 (some (.row 25 0 [.int .i64 ((0:Nat):Int),.int .i64 ((0:Nat):Int),.seq 0 [] true,.seq 0 [] true]))=Hb at*
 have hleb:Le H Hb:=hHb▸(Le.refl H).updB n4
 refine zAD fun p6 n6=>?_
 simp(disch:=first|exact Xe|fail)only[zLn (x:=.seq 0 [] true) (y:=.seq 0 [] true) rfl rfl,↓Xa,Xb,Xc,↓reduceIte,Nat.reduceLT,Nat.reduceEqDiff,Nat.reduceBEq,Nat.reduceLeDiff,Nat.reduceAdd]
 refine zAD fun p7 n7=>?_
 obtain⟨a76,n7'⟩:=zAB.1 n7
 simp(disch:=first|exact Xe|fail)only[a76,a76.symm,zBE hl,zS0,↓Xa,Xb,Xc,↓reduceIte,Nat.reduceLT,Nat.reduceEqDiff,Nat.reduceBEq,Nat.reduceLeDiff,Nat.reduceAdd]
 have hp0:PM Hb ((Hb.upd p6 (some (.row 25 0 [.int .i64 (k:Int),.int .i64 ((k+l.length+1:Nat):Int),.seq 0 [] true,.seq 0 [] true]))).upd p7 (some (.row 196 0 [.fn (.func 126) [] [.ptr p6 4 0]]))) p6 p7 k ((k+l.length+1:Nat):Int) [] [] (.seq 0 [] true) (.seq 0 [] true):=
  ⟨by rw[zAA _ _ (show p6≠p7 from a76.symm),zAC],zAC _ _ _,.inl ⟨rfl,rfl,rfl⟩,.inl ⟨rfl,rfl,rfl⟩,fun b=>.inl (fun L off n t e=>by cases e),((Le.refl Hb).updB n6).updB n7',n6,n7',a76.symm⟩
 generalize((Hb.upd p6 (some (.row 25 0 [.int .i64 (k:Int),.int .i64 ((k+l.length+1:Nat):Int),.seq 0 [] true,.seq 0 [] true]))).upd p7 (some (.row 196 0 [.fn (.func 126) [] [.ptr p6 4 0]])))=M0 at*
 have hTb:Tz64H Hb:=hT.le hleb
 refine zAO (fun s:Nat×List Ins×AV×AV×AHeap=>⟨[],[(0,.int .i64 (k:Int)),(4,.ptr p4 4 0),(6,.ptr p6 4 0),(7,.ptr p7 1 0),(8,.int .i64 ((k+l.length:Nat):Int)),(9,.fn (.func 127) [] [.ptr p7 1 0]),(41,zDd l t),(42,.int .i64 (l.length:Int)),(43,.int .i64 s.1)],s.2.2.2.2⟩)
  (fun s=>s.1≤l.length∧zFo k l.length (l.drop s.1) s.1 s.2.1=zFo k l.length l 0 []∧s.2.1.length≤s.1*1000∧PM Hb s.2.2.2.2 p6 p7 k ((k+l.length+1:Nat):Int) s.2.1 ((List.range s.1).map (zIi k)) s.2.2.1 s.2.2.2.1) (fun s=>l.length-s.1) (0,[],.seq 0 [] true,.seq 0 [] true,M0) (Settle.now rfl) ⟨Nat.zero_le _,rfl,Nat.zero_le _,hp0⟩ ?_
 rintro⟨i,co,cv,ov,M⟩ ⟨e1,e2,e3,hp1⟩
 dsimp only at e1 e2 e3 hp1 ⊢
 by_cases hi:i<l.length
 ·have hin:=hp.1 _ (List.getElem_mem hi)
  have hAB: -16≤(l[i]).a∧(l[i]).a≤16∧ -16≤(l[i]).b∧(l[i]).b≤16:=of_decide_eq_true hin
  have hdrop:l.drop i=l[i]::l.drop (i+1):=List.drop_eq_getElem_cons hi
  rw[hdrop]at e2
  simp(disch:=first|exact Xe|fail)only[hi,zEd hi,zDs hi,↓Xa,Xb,Xc,↓reduceIte,Nat.reduceLT,Nat.reduceEqDiff,Nat.reduceBEq,Nat.reduceLeDiff,Nat.reduceAdd]
  generalize l[i]=q at*
  refine zAD fun p11 n11=>?_
  have hp2:=hp1.under (x:=.row 112 0 [.int .i64 q.a,.int .i64 q.b]) n11
  have g6:=hp2.p
  have g11:(Hb.upd p11 (some (.row 112 0 [.int .i64 q.a,.int .i64 q.b]))) p11=some (.row 112 0 [.int .i64 q.a,.int .i64 q.b]):=zAC _ _ _
  have hTq:Tz64H (Hb.upd p11 (some (.row 112 0 [.int .i64 q.a,.int .i64 q.b]))):=hTb.le ((Le.refl Hb).updB (by
   cases e:Hb p11 with
   |none=>rfl
   |some x=>rw[hp1.le p11 x e]at n11;cases n11))
  have hlq:Le Hb (Hb.upd p11 (some (.row 112 0 [.int .i64 q.a,.int .i64 q.b]))):=(Le.refl Hb).updB (by
   cases e:Hb p11 with
   |none=>rfl
   |some x=>rw[hp1.le p11 x e]at n11;cases n11)
  generalize(Hb.upd p11 (some (.row 112 0 [.int .i64 q.a,.int .i64 q.b])))=Hq at*
  simp(disch:=first|exact Xe|fail)only[zBp,↓Xa,Xb,Xc,↓reduceIte,Nat.reduceLT,Nat.reduceEqDiff,Nat.reduceBEq,Nat.reduceLeDiff,Nat.reduceAdd]
  generalize(M.upd p11 (some (.row 112 0 [.int .i64 q.a,.int .i64 q.b])))=M1 at*
  simp(disch:=first|exact Xe|fail)only[g6,zgg,↓Xa,Xb,Xc,↓reduceIte,Nat.reduceLT,Nat.reduceEqDiff,Nat.reduceBEq,Nat.reduceLeDiff,Nat.reduceAdd,Nat.reduceMul]
  have hol:((List.range i).map (zIi k)).length=i:=by simp
  refine PM.appO (i:=((k+i:Nat):Int)) hp2 (by omega) fun ov' M2 m1 m2 m3=>?_
  simp(disch:=first|exact Xe|fail)only[m1,m2,↓Xa,Xb,Xc,↓reduceIte,Nat.reduceLT,Nat.reduceEqDiff,Nat.reduceBEq,Nat.reduceLeDiff,Nat.reduceAdd]
  generalize(M2.upd p6 (some (.row 25 0 [.int .i64 (k:Int),.int .i64 ((k+l.length+1:Nat):Int),cv,ov'])))=M3 at*
  have k6:=m3.p
  by_cases hk:k=1
  ·have dk:decide (k=1)=true:=decide_eq_true hk
   rcases m3.o with⟨_,h0,_⟩|⟨h0,hbl,b,b1,b2,b3,hov,hb'⟩
   ·simp at h0
   have hmap:((((List.range i).map (zIi k))++[((k+i:Nat):Int)]).map fun n=>AV.int .i64 n).length=((List.range i).map (zIi k)).length+1:=by simp
   have hset:=m3.setO (i:=i) (x:=0) hov hb' b1 b2 b3 h0
   have eo:(((List.range i).map (zIi k))++[((k+i:Nat):Int)]).set i 0=(List.range (i+1)).map (zIi k):=by
    rw[List.set_append_right _ _ (by simp),List.range_succ,List.map_append,List.map_singleton]
    simp[zIi,hk]
   rw[eo]at hset
   simp(disch:=first|exact Xe|fail)only[zAF,dk,k6,hov,↓Xa,Xb,Xc,↓reduceIte,Nat.reduceLT,Nat.reduceEqDiff,Nat.reduceBEq,Nat.reduceLeDiff,Nat.reduceAdd]
   rw[hb']
   refine⟨hmap,(zKL (x:=.int .i64 ((0:Nat):Int)) hmap (by simp)).2 ?_⟩
   simp(disch:=first|exact Xe|fail)only[↓Xa,Xb,Xc,↓reduceIte,Nat.reduceLT,Nat.reduceEqDiff,Nat.reduceBEq,Nat.reduceLeDiff,Nat.reduceAdd]
   exact Settle.now ⟨(i+1,co,cv,ov',_),by dsimp only;omega,⟨by dsimp only;omega,by dsimp only;rw[← e2,zFo,zDY,if_pos hk],by dsimp only;omega,hset.drop hlq⟩,rfl⟩
  have dk:decide (k=1)=false:=decide_eq_false hk
  have k11:=m3.le _ _ g11
  have eo:((List.range i).map (zIi k))++[((k+i:Nat):Int)]=(List.range (i+1)).map (zIi k):=by
   rw[List.range_succ,List.map_append,List.map_singleton,zIi,if_neg hk]
  rw[eo]at m3
  have next: ∀{co':List Ins}{cv':AV}{M':AHeap},PM Hq M' p6 p7 k ((k+l.length+1:Nat):Int) co' ((List.range (i+1)).map (zIi k)) cv' ov'→zDY k ((k+l.length:Nat):Int) ((k+i:Nat):Int) q.a q.b co=co'→co'.length≤co.length+1000→
   ∃s:Nat×List Ins×AV×AV×AHeap,l.length-s.1<l.length-i∧(s.1≤l.length∧zFo k l.length (l.drop s.1) s.1 s.2.1=zFo k l.length l 0 []∧s.2.1.length≤s.1*1000∧PM Hb s.2.2.2.2 p6 p7 k ((k+l.length+1:Nat):Int) s.2.1 ((List.range s.1).map (zIi k)) s.2.2.1 s.2.2.2.1)∧
    (⟨[],[(0,.int .i64 (k:Int)),(4,.ptr p4 4 0),(6,.ptr p6 4 0),(7,.ptr p7 1 0),(8,.int .i64 ((k+l.length:Nat):Int)),(9,.fn (.func 127) [] [.ptr p7 1 0]),(41,zDd l t),(42,.int .i64 (l.length:Int)),(43,.int .i64 ((i+1:Nat):Int))],M'⟩:St)=
    ⟨[],[(0,.int .i64 (k:Int)),(4,.ptr p4 4 0),(6,.ptr p6 4 0),(7,.ptr p7 1 0),(8,.int .i64 ((k+l.length:Nat):Int)),(9,.fn (.func 127) [] [.ptr p7 1 0]),(41,zDd l t),(42,.int .i64 (l.length:Int)),(43,.int .i64 s.1)],s.2.2.2.2⟩:=fun{co' cv' M'} hm he hlen=>
   ⟨(i+1,co',cv',ov',M'),by dsimp only;omega,⟨by dsimp only;omega,by dsimp only;rw[← he];exact e2,by dsimp only;omega,hm.drop hlq⟩,rfl⟩
  by_cases hA:q.a=0
  ·have dA:decide (q.a=((0:Nat):Int))=true:=decide_eq_true (by omega)
   by_cases hB:q.b=0
   ·have dB:decide (q.b=((0:Nat):Int))=true:=decide_eq_true (by omega)
    simp(disch:=first|exact Xe|fail)only[zAF,dk,k11,dA,dB,m3.f,↓Xa,Xb,Xc,↓reduceIte,Nat.reduceLT,Nat.reduceEqDiff,Nat.reduceBEq,Nat.reduceLeDiff,Nat.reduceAdd]
    refine zAM (zCd (i:=⟨((4:Nat):Int),((k+i:Nat):Int),((0:Nat):Int),((0:Nat):Int),((0:Nat):Int)⟩) m3 (by omega) fun M4 cv4 hp4=>?_)
    simp(disch:=first|exact Xe|fail)only[↓Xa,Xb,Xc,↓reduceIte,Nat.reduceLT,Nat.reduceEqDiff,Nat.reduceBEq,Nat.reduceLeDiff,Nat.reduceAdd]
    exact Settle.now (next hp4 (by rw[zDY,if_neg hk,if_pos ⟨hA,hB⟩];rfl) (by have:=zCr co ⟨((4:Nat):Int),((k+i:Nat):Int),((0:Nat):Int),((0:Nat):Int),((0:Nat):Int)⟩;omega))
   ·have dB:decide (q.b=((0:Nat):Int))=false:=decide_eq_false (by omega)
    simp(disch:=first|exact Xe|fail)only[zAF,dk,k11,dA,dB,m3.f,↓Xa,Xb,Xc,↓reduceIte,Nat.reduceLT,Nat.reduceEqDiff,Nat.reduceBEq,Nat.reduceLeDiff,Nat.reduceAdd]
    refine zAM (zDo (n:=k-1) hTq m3 hB hAB.2.2.1 hAB.2.2.2 (by omega) (by omega) fun M4 cv4 hp4=>?_)
    simp(disch:=first|exact Xe|fail)only[↓Xa,Xb,Xc,↓reduceIte,Nat.reduceLT,Nat.reduceEqDiff,Nat.reduceBEq,Nat.reduceLeDiff,Nat.reduceAdd]
    exact Settle.now (next hp4 (by rw[zDY,if_neg hk,if_neg (fun h=>hB h.2),if_pos hA];rfl) (by have:=zEr (to:=((k+i:Nat):Int)) (c:=q.b) (k-1) ((0:Nat):Int) co;omega))
  have dA:decide (q.a=((0:Nat):Int))=false:=decide_eq_false (by omega)
  by_cases hB:q.b=0
  ·have dB:decide (q.b=((0:Nat):Int))=true:=decide_eq_true (by omega)
   simp(disch:=first|exact Xe|fail)only[zAF,dk,k11,dA,dB,m3.f,↓Xa,Xb,Xc,↓reduceIte,Nat.reduceLT,Nat.reduceEqDiff,Nat.reduceBEq,Nat.reduceLeDiff,Nat.reduceAdd]
   refine zAM (zDo (n:=k-1) hTq m3 hA hAB.1 hAB.2.1 (by omega) (by omega) fun M4 cv4 hp4=>?_)
   simp(disch:=first|exact Xe|fail)only[↓Xa,Xb,Xc,↓reduceIte,Nat.reduceLT,Nat.reduceEqDiff,Nat.reduceBEq,Nat.reduceLeDiff,Nat.reduceAdd]
   exact Settle.now (next hp4 (by rw[zDY,if_neg hk,if_neg (fun h=>hA h.1),if_neg hA,if_pos hB]) (by have:=zEr (to:=((k+i:Nat):Int)) (c:=q.a) (k-1) ((k-1:Nat):Int) co;omega))
  have dB:decide (q.b=((0:Nat):Int))=false:=decide_eq_false (by omega)
  have hstart:((k-2:Nat):Int)=dn (k-1):=by rw[show k-1=(k-2)+1 by omega,zCt]
  simp(disch:=first|exact Xe|fail)only[zAF,dk,k11,dA,dB,m3.f,↓Xa,Xb,Xc,↓reduceIte,Nat.reduceLT,Nat.reduceEqDiff,Nat.reduceBEq,Nat.reduceLeDiff,Nat.reduceAdd]
  have hcl3:co.length≤15000:=by omega
  have ept:zDY k ((k+l.length:Nat):Int) ((k+i:Nat):Int) q.a q.b co=zHJ k ((k+i:Nat):Int) ((k+l.length:Nat):Int) q.a q.b (k-1) ((k-1:Nat):Int) co:=by
   rw[zDY,if_neg hk,if_neg (fun h=>hA h.1),if_neg hA,if_neg hB]
  refine zAO (fun s:Nat×Nat×List Ins×AV×AHeap=>⟨[],[(0,.int .i64 (k:Int)),(4,.ptr p4 4 0),(6,.ptr p6 4 0),(7,.ptr p7 1 0),(8,.int .i64 ((k+l.length:Nat):Int)),(9,.fn (.func 127) [] [.ptr p7 1 0]),(11,.ptr p11 2 0),(12,.int .i64 ((k+i:Nat):Int)),(13,.int .i64 (s.2.1:Int)),(14,.int .i64 (dn s.1)),(41,zDd l t),(42,.int .i64 (l.length:Int)),(43,.int .i64 (i:Int))],s.2.2.2.2⟩)
   (fun s=>s.1≤k-1∧zHJ k ((k+i:Nat):Int) ((k+l.length:Nat):Int) q.a q.b s.1 s.2.1 s.2.2.1=zHJ k ((k+i:Nat):Int) ((k+l.length:Nat):Int) q.a q.b (k-1) ((k-1:Nat):Int) co∧s.2.2.1.length≤co.length+(k-1-s.1)*20∧PM Hq s.2.2.2.2 p6 p7 k ((k+l.length+1:Nat):Int) s.2.2.1 ((List.range (i+1)).map (zIi k)) s.2.2.2.1 ov') (fun s=>s.1) (k-1,k-1,co,cv,M3) (Settle.now (by dsimp only;rw[hstart])) ⟨Nat.le_refl _,rfl,by dsimp only;omega,m3⟩ ?_
  rintro⟨J,fr,c2,cv2,M4⟩ ⟨f1,f2,f3,hp4⟩
  dsimp only at f1 f2 f3 hp4 ⊢
  have j11:=hp4.le _ _ g11
  cases J with
  |zero=>
   have dz:decide (((0:Nat):Int)≤ -1)=false:=by decide
   simp(disch:=first|exact Xe|fail)only[zFN,zBt,dz,↓Xa,Xb,Xc,↓reduceIte,Nat.reduceLT,Nat.reduceEqDiff,Nat.reduceBEq,Nat.reduceLeDiff,Nat.reduceAdd]
   refine Settle.now ?_
   simp(disch:=first|exact Xe|fail)only[↓Xa,Xb,Xc,↓reduceIte,Nat.reduceLT,Nat.reduceEqDiff,Nat.reduceBEq,Nat.reduceLeDiff,Nat.reduceAdd]
   exact Settle.now (next hp4 (by rw[ept,← f2];rfl) (by omega))
  |succ J=>
   have dz:decide (((0:Nat):Int)≤(J:Int))=true:=decide_eq_true (by omega)
   have hJ1:J≤k-1:=by omega
   have hJk:J<9223372036854775808:=by omega
   have hl2:c2.length≤16000:=by omega
   simp(disch:=first|exact Xe|fail)only[zCt,zBt,dz,hp4.f,j11,↓Xa,Xb,Xc,↓reduceIte,Nat.reduceLT,Nat.reduceEqDiff,Nat.reduceBEq,Nat.reduceLeDiff,Nat.reduceAdd]
   refine zE3 (hTq.le hp4.le) hA hAB.1 hAB.2.1 ?_
   simp(disch:=first|exact Xe|fail)only[↓Xa,Xb,Xc,↓reduceIte,Nat.reduceLT,Nat.reduceEqDiff,Nat.reduceBEq,Nat.reduceLeDiff,Nat.reduceAdd]
   refine zAM (zCd hp4 (by omega) fun M5 cv5 hp5=>?_)
   have i11:=hp5.le _ _ g11
   have hl5:=zCr c2 (zBF ((k+i:Nat):Int) (fr:Int) q.a)
   generalize hc5:zGS c2 (zBF ((k+i:Nat):Int) (fr:Int) q.a)=c5 at*
   have back: ∀{c6:List Ins}{cv6:AV}{M6:AHeap},PM Hq M6 p6 p7 k ((k+l.length+1:Nat):Int) c6 ((List.range (i+1)).map (zIi k)) cv6 ov'→zHQ k ((k+i:Nat):Int) ((k+l.length:Nat):Int) q.a q.b (fr:Int) J c2=c6→c6.length≤c5.length+10→
    ∃s:Nat×Nat×List Ins×AV×AHeap,s.1<J+1∧(s.1≤k-1∧zHJ k ((k+i:Nat):Int) ((k+l.length:Nat):Int) q.a q.b s.1 s.2.1 s.2.2.1=zHJ k ((k+i:Nat):Int) ((k+l.length:Nat):Int) q.a q.b (k-1) ((k-1:Nat):Int) co∧s.2.2.1.length≤co.length+(k-1-s.1)*20∧PM Hq s.2.2.2.2 p6 p7 k ((k+l.length+1:Nat):Int) s.2.2.1 ((List.range (i+1)).map (zIi k)) s.2.2.2.1 ov')∧
     (⟨[],[(0,.int .i64 (k:Int)),(4,.ptr p4 4 0),(6,.ptr p6 4 0),(7,.ptr p7 1 0),(8,.int .i64 ((k+l.length:Nat):Int)),(9,.fn (.func 127) [] [.ptr p7 1 0]),(11,.ptr p11 2 0),(12,.int .i64 ((k+i:Nat):Int)),(13,.int .i64 ((k+i:Nat):Int)),(14,.int .i64 (dn J)),(41,zDd l t),(42,.int .i64 (l.length:Int)),(43,.int .i64 (i:Int))],M6⟩:St)=
     ⟨[],[(0,.int .i64 (k:Int)),(4,.ptr p4 4 0),(6,.ptr p6 4 0),(7,.ptr p7 1 0),(8,.int .i64 ((k+l.length:Nat):Int)),(9,.fn (.func 127) [] [.ptr p7 1 0]),(11,.ptr p11 2 0),(12,.int .i64 ((k+i:Nat):Int)),(13,.int .i64 (s.2.1:Int)),(14,.int .i64 (dn s.1)),(41,zDd l t),(42,.int .i64 (l.length:Int)),(43,.int .i64 (i:Int))],s.2.2.2.2⟩:=fun{c6 cv6 M6} hm he hlen=>
    ⟨(J,k+i,c6,cv6,M6),by dsimp only;omega,⟨by dsimp only;omega,by dsimp only;rw[← f2,zHJ,he],by dsimp only;rw[show k-1-J=(k-1-(J+1))+1 by omega];omega,hm⟩,rfl⟩
   by_cases hB1:q.b=1
   ·have dB1:decide (q.b=((1:Nat):Int))=true:=decide_eq_true hB1
    simp(disch:=first|exact Xe|fail)only[zAF,i11,dB1,hp5.f,↓Xa,Xb,Xc,↓reduceIte,Nat.reduceLT,Nat.reduceEqDiff,Nat.reduceBEq,Nat.reduceLeDiff,Nat.reduceAdd]
    refine zAM (zCd (i:=⟨((3:Nat):Int),((k+i:Nat):Int),((k+i:Nat):Int),(J:Int),((0:Nat):Int)⟩) hp5 (by omega) fun M6 cv6 hp6=>?_)
    simp(disch:=first|exact Xe|fail)only[zDQ hJk,↓Xa,Xb,Xc,↓reduceIte,Nat.reduceLT,Nat.reduceEqDiff,Nat.reduceBEq,Nat.reduceLeDiff,Nat.reduceAdd]
    exact Settle.now (back hp6 (by rw[zHQ,if_pos (.inl hB1),hc5];rfl) (by have:=zCr c5 ⟨((3:Nat):Int),((k+i:Nat):Int),((k+i:Nat):Int),(J:Int),((0:Nat):Int)⟩;omega))
   have dB1:decide (q.b=((1:Nat):Int))=false:=decide_eq_false hB1
   by_cases hBm:q.b= -1
   ·have dBm:decide (q.b= -1)=true:=decide_eq_true hBm
    by_cases hev:(k-1-J)%2=0
    ·simp(disch:=first|exact Xe|fail)only[zAF,i11,dB1,dBm,hp5.f,zI3,hev,↓Xa,Xb,Xc,↓reduceIte,Nat.reduceLT,Nat.reduceEqDiff,Nat.reduceBEq,Nat.reduceLeDiff,Nat.reduceAdd]
     refine⟨by decide,?_⟩
     refine zAM (zCd (i:=⟨((3:Nat):Int),((k+i:Nat):Int),((k+i:Nat):Int),(J:Int),((0:Nat):Int)⟩) hp5 (by omega) fun M6 cv6 hp6=>?_)
     simp(disch:=first|exact Xe|fail)only[zDQ hJk,↓Xa,Xb,Xc,↓reduceIte,Nat.reduceLT,Nat.reduceEqDiff,Nat.reduceBEq,Nat.reduceLeDiff,Nat.reduceAdd]
     exact Settle.now (back hp6 (by rw[zHQ,if_pos (.inr ⟨hBm,hev⟩),hc5];rfl) (by have:=zCr c5 ⟨((3:Nat):Int),((k+i:Nat):Int),((k+i:Nat):Int),(J:Int),((0:Nat):Int)⟩;omega))
    ·have dev:decide ((((k-1-J)%2:Nat):Int)=((0:Nat):Int))=false:=decide_eq_false (by omega)
     simp(disch:=first|exact Xe|fail)only[zAF,i11,dB1,dBm,hp5.f,zI3,dev,↓Xa,Xb,Xc,↓reduceIte,Nat.reduceLT,Nat.reduceEqDiff,Nat.reduceBEq,Nat.reduceLeDiff,Nat.reduceAdd]
     refine⟨by decide,?_⟩
     refine zAM (zCd (i:=⟨((4:Nat):Int),((k+i:Nat):Int),((k+i:Nat):Int),(J:Int),((0:Nat):Int)⟩) hp5 (by omega) fun M6 cv6 hp6=>?_)
     simp(disch:=first|exact Xe|fail)only[zDQ hJk,↓Xa,Xb,Xc,↓reduceIte,Nat.reduceLT,Nat.reduceEqDiff,Nat.reduceBEq,Nat.reduceLeDiff,Nat.reduceAdd]
     exact Settle.now (back hp6 (by rw[zHQ,if_neg (fun h=>h.elim hB1 fun h=>hev h.2),if_pos hBm,hc5];rfl) (by have:=zCr c5 ⟨((4:Nat):Int),((k+i:Nat):Int),((k+i:Nat):Int),(J:Int),((0:Nat):Int)⟩;omega))
   have dBm:decide (q.b= -1)=false:=decide_eq_false hBm
   simp(disch:=first|exact Xe|fail)only[zAF,i11,dB1,dBm,hp5.f,↓Xa,Xb,Xc,↓reduceIte,Nat.reduceLT,Nat.reduceEqDiff,Nat.reduceBEq,Nat.reduceLeDiff,Nat.reduceAdd]
   refine zAM (zDo (n:=k-1-J) hTq hp5 hB hAB.2.2.1 hAB.2.2.2 (by omega) (by omega) fun M6 cv6 hp6=>?_)
   have hl6:=zEr (to:=((k+l.length:Nat):Int)) (c:=q.b) (k-1-J) (J:Int) c5
   simp(disch:=first|exact Xe|fail)only[hp6.f,↓Xa,Xb,Xc,↓reduceIte,Nat.reduceLT,Nat.reduceEqDiff,Nat.reduceBEq,Nat.reduceLeDiff,Nat.reduceAdd]
   refine zAM (zCd (i:=⟨((3:Nat):Int),((k+i:Nat):Int),((k+i:Nat):Int),((k+l.length:Nat):Int),((0:Nat):Int)⟩) hp6 (by omega) fun M7 cv7 hp7=>?_)
   simp(disch:=first|exact Xe|fail)only[zDQ hJk,↓Xa,Xb,Xc,↓reduceIte,Nat.reduceLT,Nat.reduceEqDiff,Nat.reduceBEq,Nat.reduceLeDiff,Nat.reduceAdd]
   exact Settle.now (back hp7 (by rw[zHQ,if_neg (fun h=>h.elim hB1 fun h=>hBm h.1),if_neg hBm,hc5];rfl) (by have:=zCr (zFF ((k+l.length:Nat):Int) q.b (k-1-J) (J:Int) c5) ⟨((3:Nat):Int),((k+i:Nat):Int),((k+i:Nat):Int),((k+l.length:Nat):Int),((0:Nat):Int)⟩;omega))
 ·obtain rfl:i=l.length:=by omega
  have g6:=hp1.p
  have g4:Hb p4=some (.row 25 0 [.int .i64 ((0:Nat):Int),.int .i64 ((0:Nat):Int),.seq 0 [] true,.seq 0 [] true]):=by rw[← hHb,zAC]
  have g4':=hp1.le _ _ g4
  rw[List.drop_length]at e2
  have e2':co=zFo k l.length l 0 []:=e2
  simp(disch:=first|exact Xe|fail)only[hi,↓Xa,Xb,Xc,↓reduceIte,Nat.reduceLT,Nat.reduceEqDiff,Nat.reduceBEq,Nat.reduceLeDiff,Nat.reduceAdd]
  refine Settle.now ?_
  simp(disch:=first|exact Xe|fail)only[g6,g4',zLn hp1.c.cell hp1.o.cell,zce,↓Xa,Xb,Xc,↓reduceIte,Nat.reduceLT,Nat.reduceEqDiff,Nat.reduceBEq,Nat.reduceLeDiff,Nat.reduceAdd]
  refine zUp (hp1.side hleb n4 g4) ?_
  rw[e2']
  exact hq
theorem zDT{H:AHeap}{Q:AV→AHeap→Prop}{k:Int}{l:List Pt}{t:Bool}(hT:Tz64H H)(hl:l.length<9223372036854775808)(hq:Q (.tup [zCV (prA k l),.int .i64 ((prE k l:Nat):Int)]) H):Run Tryz.prog 58 [.int .i64 k,zDd l t] H Q:=by
 by_cases h:zC9 k l
 ·obtain⟨n,rfl⟩: ∃n:Nat,k=(n:Int):=⟨k.toNat,by have:=h.1;omega⟩
  rw[prA,prE,if_pos h,if_pos h]at hq
  exact zLe hT (by have:=h.1;omega) (by have:=h.1;omega) h.2 hq
 ·rw[prA,prE,if_neg h,if_neg h]at hq
  exact zNf hl h H Q hq
structure MachIn(H:AHeap)(mb br:Nat)(p:PR)(N n L k:Nat)(regs:List (List Int)):Prop where
 m:H mb=some (.row 161 0 (zZS p (.own br N 0 N false) n))
 b:H br=some (.row 29 1 (GI regs))
 ne:mb≠br
 len:regs.length=N
 pN:p.regs=(N:Int)
 right:zBV p
 good:zDg k L regs
 hk:k≤90000
 hL:L≤100000
 hn:n≤p.code.length
section
variable {H:AHeap} {Q:AV→AHeap→Prop} {mb br N n L k:Nat} {p:PR} {regs:List (List Int)}
theorem MachIn.cells(h:MachIn H mb br p N n L k regs):H mb=some (.row 161 0 [.int .i64 p.ins,.int .i64 p.regs,zAf p.code false,zAa p.outs false,.own br N 0 N false,.int .i64 n]):=h.m
theorem MachIn.lc(h:MachIn H mb br p N n L k regs):p.code.length<9223372036854775808∧p.outs.length<9223372036854775808:=by
 have hh:=h.right.1
 unfold zC5 at hh
 omega
theorem MachIn.step(h:MachIn H mb br p N n L k regs)(hk:k+3≤90000)(hT: ∀i,i∈p.code→i.op=8→TzH H)
 (hq0:n=p.code.length→Q (.int .i64 ((4:Nat):Int)) H)
 (hq1: ∀hn:n<p.code.length,∀x H',doR p.code[n] (regs.getD (p.code[n]).a.toNat []) (regs.getD (p.code[n]).b.toNat [])=some x→MachIn H' mb br p N (n+1) L (k+3) (regs.set (p.code[n]).to.toNat x)→(∀o v,o≠mb→o≠br→H o=some v→H' o=some v)→Q (.int .i64 ((0:Nat):Int)) H')
 (hq2: ∀hn:n<p.code.length,doR p.code[n] (regs.getD (p.code[n]).a.toNat []) (regs.getD (p.code[n]).b.toNat [])=none→Q (.int .i64 ((20:Nat):Int)) H):
 Run Tryz.prog 33 [.ptr mb 6 0] H Q:=by
 refine zTk h.m h.b h.ne h.len h.pN h.right h.good h.hk h.hL h.hn hT hq0 (fun hn x hdo hbx hxl=>hq1 hn x _ hdo ⟨zAC _ _ _,by rw[zAA _ _ (Ne.symm h.ne),zAC],h.ne,by rw[List.length_set,h.len],h.pN,h.right,fun r hm=>?_,hk,h.hL,hn⟩ fun o v h1 h2 ho=>by rw[zAA _ _ h1,zAA _ _ h2];exact ho) hq2
 rcases List.mem_or_eq_of_mem_set hm with hm|rfl
 ·exact⟨(h.good r hm).1,(h.good r hm).2.mono (by omega)⟩
 ·exact⟨hxl,hbx⟩
end
section
variable {g:List (List Int)} {t1 t2:Bool}
end
theorem Wk.prog{p:PR}{a b:Bool}:Wk (AV.agg [.int .i64 p.ins,.int .i64 p.regs,zAf p.code a,zAa p.outs b]) (zCV p):=fun c v he=>by
 cases he with
 |agg _ vs hlen hc=>
  refine .agg _ _ hlen fun i hi hi'=>?_
  have:=hc i hi hi'
  match i,hi with
  |0,_=>exact this
  |1,_=>exact this
  |2,_=>exact Wk.l0 _ _ this
  |3,_=>exact Wk.l0 _ _ this
theorem Fr.row{zs:List Int}{H:AHeap}:Lent H (rI zs) (rI zs):=Lent.same
def zh5(a b:List Int):List Int:=zDe (· + ·) a b
def Add3(L N:Nat)(r s u:List (List Int)):Prop:=r.length=N∧s.length=N∧u.length=N∧∀j,j<N→(r.getD j []).length=L∧(s.getD j []).length=L∧u.getD j []=zh5 (r.getD j []) (s.getD j [])
theorem Add3.set{L N:Nat}{r s u:List (List Int)}(h:Add3 L N r s u){k:Nat}(hk:k<N){x y:List Int}(lx:x.length=L)(ly:y.length=L):Add3 L N (r.set k x) (s.set k y) (u.set k (zh5 x y)):=by
 obtain⟨h1,h2,h3,h4⟩:=h
 refine⟨by rw[List.length_set,h1],by rw[List.length_set,h2],by rw[List.length_set,h3],fun j hj=>?_⟩
 rw[zBM (by omega),zBM (by omega),zBM (by omega)]
 split
 ·exact⟨lx,ly,rfl⟩
 ·exact h4 j hj
theorem zd1{p:PR}{g:List (List Int)}:zDb p g=0↔((zBV p∧(g.length:Int)=p.ins)∧(∀r,r∈g→r.length=(g.getD 0 []).length)∧(g.getD 0 []).length≤4096):=by
 unfold zDb
 by_cases c:zBV p∧(g.length:Int)=p.ins
 ·rw[if_pos c]
  by_cases c2:(∀r,r∈g→r.length=(g.getD 0 []).length)∧(g.getD 0 []).length≤4096
  ·rw[if_pos c2];exact⟨fun _=>⟨c,c2⟩,fun _=>rfl⟩
  ·rw[if_neg c2];exact⟨fun h=>absurd h (by decide),fun h=>absurd h.2 c2⟩
 ·have hne:zSV p (g.length:Int)≠0:=by
   unfold zSV
   by_cases c2:zBV p
   ·rw[if_pos c2,if_neg fun e=>c ⟨c2,e⟩];decide
   ·rw[if_neg c2];decide
  rw[if_neg c];exact⟨fun h=>absurd h hne,fun h=>absurd h.1 c⟩
def zWu(p:PR)(g:List (List Int)):Prop:=(80<p.code.length∧p.code.length≤16384)∨(40<p.regs∧p.regs≤128)∨300<ze0 (g.map fun l=>l.length)
instance (p:PR)(g:List (List Int)):Decidable (zWu p g):=by unfold zWu;infer_instance
theorem zPd{N L:Nat}(hL:L≤100000): ∀(code:List Ins)(r:List (List Int))(k:Nat),(∀i,i∈code→zCe (N:Int) i)→r.length=N→zDg k L r→zDg (k+3*code.length) L (zCO doR [] code r).2
 |[],r,k,_,_,h=>h
 |i::l,r,k,hm,hN,h=>by
  have hi:=hm i (by simp)
  have hb:=zIE hi
  have ha:=hi.2.2
  have up:zDg (k+3*(i::l).length) L r:=fun x hx=>⟨(h x hx).1,fun z hz=>((h x hx).2.1 z hz).mono (by omega),(h x hx).2.2⟩
  have at': ∀m:Nat,m<N→(r.getD m []).length=L∧RB4 k (r.getD m []):=fun m hm'=>by
   rw[List.getD_eq_getElem?_getD,List.getElem?_eq_getElem (by omega)];exact h _ (List.getElem_mem _)
  simp only[zCO]
  cases e:doR i (r.getD i.a.toNat []) (r.getD i.b.toNat [])with
  |none=>exact up
  |some x=>
   obtain⟨la,ba⟩:=at' i.a.toNat (by omega)
   obtain⟨lb,bb⟩:=at' i.b.toNat (by omega)
   have lx:=(zG2 (by rw[la,lb]) e).trans la
   have hg:zDg (k+3) L (r.set i.to.toNat x):=fun y hy=>by
    rcases List.mem_or_eq_of_mem_set hy with hy|rfl
    ·exact⟨(h y hy).1,fun z hz=>((h y hy).2.1 z hz).mono (by omega),(h y hy).2.2⟩
    ·refine⟨lx,fun z hz=>?_,by omega⟩
     obtain⟨m,hm',rfl⟩:=List.getElem_of_mem hz
     have q:=zM0 (by rw[la,lb]) e (k:=m) (by omega)
     have e1:(r.getD i.a.toNat []).getD m 0=(r.getD i.a.toNat [])[m]'(by omega):=by rw[List.getD_eq_getElem?_getD,List.getElem?_eq_getElem (by omega)];rfl
     have e2:(r.getD i.b.toNat []).getD m 0=(r.getD i.b.toNat [])[m]'(by omega):=by rw[List.getD_eq_getElem?_getD,List.getElem?_eq_getElem (by omega)];rfl
     have e3:y.getD m 0=y[m]:=by rw[List.getD_eq_getElem?_getD,List.getElem?_eq_getElem (by omega)];rfl
     rw[e1,e2,e3]at q
     exact zXH hi (ba.1 _ (List.getElem_mem _)) (bb.1 _ (List.getElem_mem _)) q
   have:=zPd hL l _ (k+3) (fun j hj=>hm j (by simp[hj])) (by simpa using hN) hg
   rw[show k+3*(i::l).length=k+3+3*l.length by simp;omega]
   exact this
def zJm(c:List Ins):Prop:= ∀i,i∈c→i.op≠6∧i.op≠8
instance (c:List Ins):Decidable (zJm c):=by unfold zJm;infer_instance
def zDf(k:Nat)(l:List Pt):List (List Int):=l.map fun q=>zBP q.a q.b k
def evQ(p:PR)(k:Int)(l:List Pt):Prop:=p.ins=k∧p.outs.length=l.length∧zJm p.code∧zBm p (zA0 k.toNat) k.toNat=zDf k.toNat l
instance (p:PR)(k:Int)(l:List Pt):Decidable (evQ p k l):=by unfold evQ;infer_instance
def evB(p:PR)(k:Int)(l:List Pt):Bool:=decide (zC9 k l∧zBV p∧evQ p k l)
def evE(p:PR)(k:Int)(l:List Pt):Nat:=if zC9 k l then(if zBV p then 0 else 80)else 2
theorem zBx{n:Nat}:(zA0 n).length=n:=by simp[zA0]
theorem zCB{n:Nat}(hn:n≤8): ∀r,r∈zA0 n→r.length=n∧RB4 1 r:=fun r hr=>by
 obtain⟨i,hi,rfl⟩:=List.mem_map.1 hr
 refine⟨by simp,fun z hz=>?_,by simp;omega⟩
 rcases List.mem_or_eq_of_mem_set hz with hz|rfl
 ·rw[(List.mem_replicate.1 hz).2];exact Bd.zero _
 ·unfold Bd;decide
theorem zII{n:Nat}(h:0<n):((zA0 n).getD 0 []).length=n:=by
 have:0<(zA0 n).length:=by rw[zBx];exact h
 rw[List.getD_eq_getElem?_getD,List.getElem?_eq_getElem this];simp[zA0]
theorem zQA{i:Ins}{a b:List Int}(h:i.op≠6∧i.op≠8): ∃x,doR i a b=some x:=by
 unfold doR
 repeat' split
 all_goals first|exact⟨_,rfl⟩|omega
theorem zEp: ∀(c:List Ins)(r:List (List Int)),zJm c→(zCO doR [] c r).1.length=c.length
 |[],_,_=>rfl
 |i::l,r,h=>by
  obtain⟨x,hx⟩:=zQA (a:=r.getD i.a.toNat []) (b:=r.getD i.b.toNat []) (h i (by simp))
  unfold zCO
  rw[hx]
  simp only[List.length_cons]
  rw[zEp l _ fun j hj=>h j (by simp[hj])]
theorem zNR{p:PR}{g:List (List Int)}{k L:Nat}(hr:zBV p)(hlen:(g.length:Int)=p.ins)(hL:L≤4096)(hg: ∀r,r∈g→r.length=L)(hz: ∀r,r∈g→RB4 k r): ∀r,r∈zBm p g L→r.length=L∧RB4 (k+3*p.code.length) r:=fun r hm=>by
 have hh:=hr.1
 unfold zC5 at hh
 have hN:((p.regs.toNat:Nat):Int)=p.regs:=by omega
 have h1:zDg k L (zAu p g L):=fun x hx=>by
  rcases List.mem_append.1 hx with hx|hx
  ·exact⟨hg x hx,hz x hx⟩
  ·obtain⟨_,rfl⟩:=List.mem_replicate.1 hx
   exact⟨by simp,fun z hz=>by
    obtain⟨_,rfl⟩:=List.mem_replicate.1 hz
    exact Bd.zero _,by simp;omega⟩
 have h2:=zPd (N:=p.regs.toNat) (by omega) p.code (zAu p g L) k (fun i hi=>by rw[hN];exact hr.2.2 i hi) (by simp[zAu];omega) h1
 obtain⟨n,hn,rfl⟩:=List.mem_map.1 hm
 have hn2:=hr.2.1 n hn
 have hlen:(zCO doR [] p.code (zAu p g L)).2.length=p.regs.toNat:=by rw[zJZ];simp[zAu];omega
 have e:(zCO doR [] p.code (zAu p g L)).2.getD n.toNat []=(zCO doR [] p.code (zAu p g L)).2[n.toNat]'(by omega):=by rw[List.getD_eq_getElem?_getD,List.getElem?_eq_getElem (by omega)];rfl
 rw[e]
 exact h2 _ (List.getElem_mem (by omega:n.toNat<(zCO doR [] p.code (zAu p g L)).2.length))
theorem zUf{p:PR}{k:Nat}(hk1:1≤k)(hk8:k≤8)(hr:zBV p)(hi:p.ins=(k:Int))(hd:zJm p.code):zSU p (zA0 k)=(zBm p (zA0 k) k,0,0):=by
 have h0:zDb p (zA0 k)=0:=zd1.2 ⟨⟨hr,by rw[zBx,hi]⟩,fun r hm=>by rw[zII (by omega)];exact(zCB hk8 r hm).1,by rw[zII (by omega)];omega⟩
 rw[zSU,if_pos h0,zII (by omega),if_neg]
 have:=zEp p.code (zAu p (zA0 k) k) hd
 unfold zCG;omega
theorem zLw{A B:Int}{k:Nat}(hk:k≤16)(hin:zFG A B=true):RB4 6 (zBP A B k):=by
 have hb: -16≤A∧A≤16∧ -16≤B∧B≤16:=of_decide_eq_true hin
 refine⟨fun z hz=>?_,by simp[zBP];omega⟩
 obtain⟨i,hi,rfl⟩:=List.mem_map.1 hz
 have:=List.mem_range.1 hi
 exact(zGf (by omega) hb.1 hb.2.1).mul (zGf (by omega) hb.2.2.1 hb.2.2.2)
theorem zEG{p:PR}{k:Int}{l:List Pt}{t:Bool}(hp:p.ok)(hl:l.length<9223372036854775808):PFn Tryz.prog 63 [zCV p,.int .i64 k,zDd l t] (.tup [.bool (evB p k l),.int .i64 ((evE p k l:Nat):Int)]):=by
 intro H Q hq
 have hpc:=hp.2.2.2.1
 have hpo:=hp.2.2.2.2.2
 have lc:p.code.length<9223372036854775808:=by omega
 have lo:p.outs.length<9223372036854775808:=by omega
 refine zZ9 (by simp) ?_
 simp(disch:=first|exact Xe|fail)only[zhm,zAq,↓Xa,Xb,Xc,↓reduceIte,Nat.reduceLT,Nat.reduceEqDiff,Nat.reduceBEq,Nat.reduceLeDiff,Nat.reduceAdd]
 refine zAD fun p3 n3=>?_
 have G3:(H.upd p3 (some (.row 25 0 [.int .i64 p.ins,.int .i64 p.regs,zAf p.code false,zAa p.outs false]))) p3=some (.row 25 0 [.int .i64 p.ins,.int .i64 p.regs,zAf p.code false,zAa p.outs false]):=zAC _ _ _
 have hHG:Le H (H.upd p3 (some (.row 25 0 [.int .i64 p.ins,.int .i64 p.regs,zAf p.code false,zAa p.outs false]))):=(Le.refl H).updB n3
 generalize(H.upd p3 (some (.row 25 0 [.int .i64 p.ins,.int .i64 p.regs,zAf p.code false,zAa p.outs false])))=G at*
 have fin: ∀{b:Bool}{e:Nat}{M:AHeap},evB p k l=b→evE p k l=e→Le G M→SetR Q (.tup [.bool b,.int .i64 ((e:Nat):Int)]) M:=fun{b e M} h1 h2 hm=>by
  rw[h1,h2]at hq
  exact SetR.dropTo (hHG.trans hm) (SetR.now hq)
 have noK: ¬zC9 k l→evB p k l=false∧evE p k l=2:=fun h=>⟨decide_eq_false fun g=>h g.1,if_neg h⟩
 by_cases h1:k<1
 ·have d1:decide (k<((1:Nat):Int))=true:=decide_eq_true (by omega)
  obtain⟨f1,f2⟩:=noK fun h=>by have:=h.1;omega
  simp(disch:=first|exact Xe|fail)only[zAN,d1,zQb,↓Xa,Xb,Xc,↓reduceIte,Nat.reduceLT,Nat.reduceEqDiff,Nat.reduceBEq,Nat.reduceLeDiff,Nat.reduceAdd]
  exact fin f1 f2 (Le.refl _)
 have d1:decide (k<((1:Nat):Int))=false:=decide_eq_false (by omega)
 by_cases h2:8<k
 ·have d2:decide (((8:Nat):Int)<k)=true:=decide_eq_true (by omega)
  obtain⟨f1,f2⟩:=noK fun h=>by have:=h.1;omega
  simp(disch:=first|exact Xe|fail)only[zAN,zAb,d1,d2,zQb,↓Xa,Xb,Xc,↓reduceIte,Nat.reduceLT,Nat.reduceEqDiff,Nat.reduceBEq,Nat.reduceLeDiff,Nat.reduceAdd]
  exact fin f1 f2 (Le.refl _)
 have d2:decide (((8:Nat):Int)<k)=false:=decide_eq_false (by omega)
 obtain⟨n,rfl⟩: ∃n:Nat,k=(n:Int):=⟨k.toNat,by omega⟩
 have hn1:1≤n:=by omega
 have hn8:n≤8:=by omega
 simp(disch:=first|exact Xe|fail)only[zAN,zAb,d1,d2,↓Xa,Xb,Xc,↓reduceIte,Nat.reduceLT,Nat.reduceEqDiff,Nat.reduceBEq,Nat.reduceLeDiff,Nat.reduceAdd]
 refine(zG5 hl).call ?_
 by_cases hpt:zEN l
 rotate_right
 ·obtain⟨f1,f2⟩:=noK fun h=>hpt h.2
  simp(disch:=first|exact Xe|fail)only[decide_eq_false hpt,zQb,↓Xa,Xb,Xc,↓reduceIte,Nat.reduceLT,Nat.reduceEqDiff,Nat.reduceBEq,Nat.reduceLeDiff,Nat.reduceAdd]
  exact fin f1 f2 (Le.refl _)
 have hK:zC9 ((n:Nat):Int) l:=⟨⟨by omega,by omega⟩,hpt⟩
 have h15:=hpt.2.2
 simp(disch:=first|exact Xe|fail)only[decide_eq_true hpt,G3,zBL,↓Xa,Xb,Xc,↓reduceIte,Nat.reduceLT,Nat.reduceEqDiff,Nat.reduceBEq,Nat.reduceLeDiff,Nat.reduceAdd]
 obtain⟨kk,hck⟩:=zNB p hp
 refine hck.call ?_
 by_cases hr:zBV p
 rotate_right
 ·rw[if_neg hr]
  have d0:decide (((80:Nat):Int)=((0:Nat):Int))=false:=rfl
  simp(disch:=first|exact Xe|fail)only[zAV,d0,zQb,↓Xa,Xb,Xc,↓reduceIte,Nat.reduceLT,Nat.reduceEqDiff,Nat.reduceBEq,Nat.reduceLeDiff,Nat.reduceAdd]
  exact fin (decide_eq_false fun g=>hr g.2.1) (by rw[evE,if_pos hK,if_neg hr]) (Le.refl _)
 rw[if_pos hr]
 have d0:decide (((0:Nat):Int)=((0:Nat):Int))=true:=rfl
 have he0:evE p ((n:Nat):Int) l=0:=by rw[evE,if_pos hK,if_pos hr]
 have no: ¬evQ p ((n:Nat):Int) l→evB p ((n:Nat):Int) l=false:=fun h=>decide_eq_false fun g=>h g.2.2
 by_cases hin:p.ins=((n:Nat):Int)
 rotate_right
 ·have d3:decide (p.ins=((n:Nat):Int))=false:=decide_eq_false hin
  simp(disch:=first|exact Xe|fail)only[zAV,d0,d3,G3,zQb,↓Xa,Xb,Xc,↓reduceIte,Nat.reduceLT,Nat.reduceEqDiff,Nat.reduceBEq,Nat.reduceLeDiff,Nat.reduceAdd]
  exact fin (no fun g=>hin g.1) he0 (Le.refl _)
 have d3:decide (p.ins=((n:Nat):Int))=true:=decide_eq_true hin
 by_cases hol:p.outs.length=l.length
 rotate_right
 ·have d4:decide (((p.outs.length:Nat):Int)=((l.length:Nat):Int))=false:=decide_eq_false (by omega)
  simp(disch:=first|exact Xe|fail)only[zAV,d0,d3,d4,G3,zAY lo,zBE hl,zQb,↓Xa,Xb,Xc,↓reduceIte,Nat.reduceLT,Nat.reduceEqDiff,Nat.reduceBEq,Nat.reduceLeDiff,Nat.reduceAdd]
  exact fin (no fun g=>hol g.2.1) he0 (Le.refl _)
 have d4:decide (((p.outs.length:Nat):Int)=((l.length:Nat):Int))=true:=decide_eq_true (by omega)
 simp(disch:=first|exact Xe|fail)only[zAV,d0,d3,d4,G3,zAY lo,zBE hl,zAZ lc,↓Xa,Xb,Xc,↓reduceIte,Nat.reduceLT,Nat.reduceEqDiff,Nat.reduceBEq,Nat.reduceLeDiff,Nat.reduceAdd]
 refine zAO (fun s:Nat=>⟨[],[(1,.int .i64 (n:Int)),(2,zDd l t),(3,.ptr p3 4 0),(52,zAf p.code false),(53,.int .i64 (p.code.length:Int)),(54,.int .i64 s)],G⟩) (fun s=>s≤p.code.length∧zJm (p.code.take s)) (fun s=>p.code.length-s) 0 (Settle.now rfl) ⟨Nat.zero_le _,fun i hi=>by simp at hi⟩ ?_
 rintro s ⟨s1,s2⟩
 by_cases hs:s<p.code.length
 ·simp(disch:=first|exact Xe|fail)only[hs,zBN hs,zBb hs,↓Xa,Xb,Xc,↓reduceIte,Nat.reduceLT,Nat.reduceEqDiff,Nat.reduceBEq,Nat.reduceLeDiff,Nat.reduceAdd]
  refine zAD fun p11 n11=>?_
  simp(disch:=first|exact Xe|fail)only[zAr,↓Xa,Xb,Xc,↓reduceIte,Nat.reduceLT,Nat.reduceEqDiff,Nat.reduceBEq,Nat.reduceLeDiff,Nat.reduceAdd]
  by_cases o6:(p.code[s]).op=6
  ·have e6:decide ((p.code[s]).op=((6:Nat):Int))=true:=decide_eq_true o6
   simp(disch:=first|exact Xe|fail)only[zAF,e6,zQb,↓Xa,Xb,Xc,↓reduceIte,Nat.reduceLT,Nat.reduceEqDiff,Nat.reduceBEq,Nat.reduceLeDiff,Nat.reduceAdd]
   exact fin (no fun g=>(g.2.2.1 _ (List.getElem_mem hs)).1 o6) he0 ((Le.refl G).updB n11)
  have e6:decide ((p.code[s]).op=((6:Nat):Int))=false:=decide_eq_false o6
  by_cases o8:(p.code[s]).op=8
  ·have e8:decide ((p.code[s]).op=((8:Nat):Int))=true:=decide_eq_true o8
   simp(disch:=first|exact Xe|fail)only[zAF,e6,e8,zQb,↓Xa,Xb,Xc,↓reduceIte,Nat.reduceLT,Nat.reduceEqDiff,Nat.reduceBEq,Nat.reduceLeDiff,Nat.reduceAdd]
   exact fin (no fun g=>(g.2.2.1 _ (List.getElem_mem hs)).2 o8) he0 ((Le.refl G).updB n11)
  have e8:decide ((p.code[s]).op=((8:Nat):Int))=false:=decide_eq_false o8
  simp(disch:=first|exact Xe|fail)only[zAF,e6,e8,↓Xa,Xb,Xc,↓reduceIte,Nat.reduceLT,Nat.reduceEqDiff,Nat.reduceBEq,Nat.reduceLeDiff,Nat.reduceAdd]
  refine Settle.dropTo ((Le.refl G).updB n11) (Settle.now ⟨s+1,by omega,⟨by omega,fun i hi=>?_⟩,rfl⟩)
  rw[List.take_succ_eq_append_getElem hs]at hi
  rcases List.mem_append.1 hi with hi|hi
  ·exact s2 i hi
  ·rw[List.mem_singleton.1 hi];exact⟨o6,o8⟩
 obtain rfl:s=p.code.length:=by omega
 rw[List.take_length]at s2
 have hans:=zUf hn1 hn8 hr hin s2
 have hh:=hr.1
 unfold zC5 at hh
 simp(disch:=first|exact Xe|fail)only[hs,↓Xa,Xb,Xc,↓reduceIte,Nat.reduceLT,Nat.reduceEqDiff,Nat.reduceBEq,Nat.reduceLeDiff,Nat.reduceAdd]
 refine Settle.now ?_
 simp(disch:=first|exact Xe|fail)only[G3,zBL,↓Xa,Xb,Xc,↓reduceIte,Nat.reduceLT,Nat.reduceEqDiff,Nat.reduceBEq,Nat.reduceLeDiff,Nat.reduceAdd]
 have hU:=zU9 hn8
 have eU:AV.seq n (GI (zA0 n)) false=GIA (zA0 n) false:=by show _=AV.seq (zA0 n).length _ _;rw[zBx]
 rw[eU]at hU
 refine PFn.dcall hU ?_
 simp(disch:=first|exact Xe|fail)only[↓Xa,Xb,Xc,↓reduceIte,Nat.reduceLT,Nat.reduceEqDiff,Nat.reduceBEq,Nat.reduceLeDiff,Nat.reduceAdd]
 refine zAM (zLj (grid:=zA0 n) (t:=false) (k0:=1) hp (by rw[zII hn1];omega) (fun r hm=>(zCB hn8 r hm).2) (by rw[zBx];omega) (fun _=>by omega) fun y M hy=>?_)
 rw[hans]at hy ⊢
 dsimp only at hy ⊢
 have hRl:(zBm p (zA0 n) n).length=l.length:=by simp[zBm,hol]
 have hRb:=zNR hr (by rw[zBx,hin]) (by omega) (fun r hm=>(zCB hn8 r hm).1) (fun r hm=>(zCB hn8 r hm).2)
 have hev:evQ p ((n:Nat):Int) l↔zBm p (zA0 n) n=zDf n l:=⟨fun g=>g.2.2.2,fun g=>⟨hin,hol,s2,g⟩⟩
 generalize zBm p (zA0 n) n=R at*
 have hwl:(zDf n l).length=l.length:=by simp[zDf]
 simp(disch:=first|exact Xe|fail)only[zAV,d0,zBE hl,↓Xa,Xb,Xc,↓reduceIte,Nat.reduceLT,Nat.reduceEqDiff,Nat.reduceBEq,Nat.reduceLeDiff,Nat.reduceAdd]
 refine zAO (fun s:Nat=>⟨[],[(1,.int .i64 (n:Int)),(12,GIA R false),(77,zDd l t),(78,.int .i64 (l.length:Int)),(79,.int .i64 s)],G⟩) (fun s=>s≤l.length∧R.take s=(zDf n l).take s) (fun s=>l.length-s) 0 (Settle.grownC 12 rfl hy (Settle.now rfl)) ⟨Nat.zero_le _,rfl⟩ ?_
 rintro s ⟨f1,f2⟩
 by_cases hs2:s<l.length
 ·have hq2:=hpt.1 _ (List.getElem_mem hs2)
  have hsR:s<R.length:=by omega
  have hix: ∀{k:IntKind}{K:AV→Prop},zBl 1 (GIA R false) (.int k (s:Int)) K=K (.cptr ((GI R).drop s)):=fun{k K}=>by
   have:=zJF (f:=rI) (l:=R) (t:=false) (k:=k) (K:=K) (i:=s) hsR
   rw[Nat.mul_one]at this;exact this
  have hld: ∀{M:AHeap}{K:AV→Prop},zBC M none (.cptr ((GI R).drop s)) K=K (rI (R[s])):=fun{M K}=>zFr hsR
  obtain⟨rl,rb⟩:=hRb _ (List.getElem_mem hsR)
  have ew:(zDf n l)[s]'(by omega)=zBP (l[s]).a (l[s]).b n:=by simp[zDf]
  have bw:=zLw (k:=n) (by omega) hq2
  have lw:(zBP (l[s]).a (l[s]).b n).length=n:=by simp[zBP]
  simp(disch:=first|exact Xe|fail)only[hs2,zEd hs2,zDs hs2,↓Xa,Xb,Xc,↓reduceIte,Nat.reduceLT,Nat.reduceEqDiff,Nat.reduceBEq,Nat.reduceLeDiff,Nat.reduceAdd]
  refine zAD fun p15 n15=>?_
  simp(disch:=first|exact Xe|fail)only[zBp,zDP,↓Xa,Xb,Xc,↓reduceIte,Nat.reduceLT,Nat.reduceEqDiff,Nat.reduceBEq,Nat.reduceLeDiff,Nat.reduceAdd]
  refine(zKD (n:=n) (by omega) hq2).call ?_
  have stepR:R[s]=zBP (l[s]).a (l[s]).b n→R.take (s+1)=(zDf n l).take (s+1):=fun h=>by
   rw[List.take_succ_eq_append_getElem hsR,List.take_succ_eq_append_getElem (by omega),f2,ew,h]
  have noR:R[s]≠zBP (l[s]).a (l[s]).b n→¬evQ p ((n:Nat):Int) l:=fun h g=>by
   rw[hev]at g
   apply h
   rw[← ew]
   simp only[g]
  have rl':(R[s]).length<9223372036854775808:=by omega
  simp(disch:=first|exact Xe|fail)only[hix,hld,zBK,rl',↓Xa,Xb,Xc,↓reduceIte,Nat.reduceLT,Nat.reduceEqDiff,Nat.reduceBEq,Nat.reduceLeDiff,Nat.reduceAdd]
  generalize hwr:zBP (l[s]).a (l[s]).b n=w at*
  generalize hrr:R[s]=r at*
  refine zAO (fun j:Nat=>⟨[],[(1,.int .i64 (n:Int)),(12,GIA R false),(16,zB7 w true),(77,zDd l t),(78,.int .i64 (l.length:Int)),(79,.int .i64 s),(93,rI r),(94,.int .i64 (r.length:Int)),(95,.int .i64 j)],G⟩) (fun j=>j≤n∧r.take j=w.take j) (fun j=>n-j) 0 (Settle.dropTo ((Le.refl G).updB n15) (Settle.now rfl)) ⟨Nat.zero_le _,rfl⟩ ?_
  rintro j ⟨j1,j2⟩
  by_cases hj:j<n
  ·have hjr:j<r.length:=by omega
   have hjw:j<w.length:=by omega
   simp(disch:=first|exact Xe|fail)only[hjr,zEv,zDF,↓Xa,Xb,Xc,↓reduceIte,Nat.reduceLT,Nat.reduceEqDiff,Nat.reduceBEq,Nat.reduceLeDiff,Nat.reduceAdd]
   refine zAD fun p19 n19=>?_
   simp(disch:=first|exact Xe|fail)only[hjr,hjw,zAE,zAI,zEv,zDF,↓Xa,Xb,Xc,↓reduceIte,Nat.reduceLT,Nat.reduceEqDiff,Nat.reduceBEq,Nat.reduceLeDiff,Nat.reduceAdd]
   refine(zZH (rb.at hjr) (by omega) (bw.at hjw) (by omega)).call ?_
   by_cases he:r[j]=w[j]
   ·have ec:decide (zFt (r[j]) (w[j])=((0:Nat):Int))=true:=decide_eq_true (by rw[he];simp[zFt])
    simp(disch:=first|exact Xe|fail)only[zAV,ec,↓Xa,Xb,Xc,↓reduceIte,Nat.reduceLT,Nat.reduceEqDiff,Nat.reduceBEq,Nat.reduceLeDiff,Nat.reduceAdd]
    refine Settle.dropTo ((Le.refl G).updB n19) (Settle.now ⟨j+1,by omega,⟨by omega,?_⟩,rfl⟩)
    rw[List.take_succ_eq_append_getElem hjr,List.take_succ_eq_append_getElem hjw,j2,he]
   ·have ec:decide (zFt (r[j]) (w[j])=((0:Nat):Int))=false:=decide_eq_false (by
     unfold zFt
     repeat' split
     all_goals omega)
    simp(disch:=first|exact Xe|fail)only[zAV,ec,zQb,↓Xa,Xb,Xc,↓reduceIte,Nat.reduceLT,Nat.reduceEqDiff,Nat.reduceBEq,Nat.reduceLeDiff,Nat.reduceAdd]
    exact fin (no (noR fun h=>he (by simp only[h]))) he0 ((Le.refl G).updB n19)
  ·obtain rfl:j=n:=by omega
   have hjr: ¬j<r.length:=by omega
   simp(disch:=first|exact Xe|fail)only[hjr,↓Xa,Xb,Xc,↓reduceIte,Nat.reduceLT,Nat.reduceEqDiff,Nat.reduceBEq,Nat.reduceLeDiff,Nat.reduceAdd]
   refine Settle.now ?_
   simp(disch:=first|exact Xe|fail)only[↓Xa,Xb,Xc,↓reduceIte,Nat.reduceLT,Nat.reduceEqDiff,Nat.reduceBEq,Nat.reduceLeDiff,Nat.reduceAdd]
   exact Settle.now ⟨s+1,by omega,⟨by omega,stepR (by
    rw[List.take_of_length_le (by omega),List.take_of_length_le (by omega)]at j2;exact j2)⟩,rfl⟩
 ·obtain rfl:s=l.length:=by omega
  rw[List.take_of_length_le (by omega),List.take_of_length_le (by omega)]at f2
  simp(disch:=first|exact Xe|fail)only[hs2,↓Xa,Xb,Xc,↓reduceIte,Nat.reduceLT,Nat.reduceEqDiff,Nat.reduceBEq,Nat.reduceLeDiff,Nat.reduceAdd]
  refine Settle.now ?_
  simp(disch:=first|exact Xe|fail)only[zQb,↓Xa,Xb,Xc,↓reduceIte,Nat.reduceLT,Nat.reduceEqDiff,Nat.reduceBEq,Nat.reduceLeDiff,Nat.reduceAdd]
  exact fin (decide_eq_true ⟨hK,hr,hev.2 f2⟩) he0 (Le.refl _)
def exE:PR:=⟨2,3,[⟨3,2,0,1,0⟩],[0,2,1]⟩
theorem zdV:exE.ok:=by
 refine⟨by unfold I64;decide,by unfold I64;decide,fun i hi=>?_,by decide,fun n hn=>?_,by decide⟩
 ·simp only[exE,List.mem_cons,List.not_mem_nil,or_false]at hi
  rcases hi with rfl;(unfold Ins.ok I64;decide)
 ·simp only[exE,List.mem_cons,List.not_mem_nil,or_false]at hn
  rcases hn with rfl|rfl|rfl<;>(unfold I64;decide)
theorem zKW:PFn Tryz.prog 123 [] (zCV exE):=by
 refine PFn.weak (r:=AV.agg [.int .i64 exE.ins,.int .i64 exE.regs,zAf exE.code true,zAa exE.outs true]) (fun H Q hq=>?_) Wk.prog
 refine zTH (by simp) ?_
 simp(disch:=first|exact Xe|fail)only[zeJ,↓Xa,Xb,Xc,↓reduceIte,Nat.reduceLT,Nat.reduceEqDiff,Nat.reduceBEq,Nat.reduceLeDiff,Nat.reduceAdd]
 refine zAD fun p0 n0=>?_
 simp(disch:=first|exact Xe|fail)only[zg2,↓Xa,Xb,Xc,↓reduceIte,Nat.reduceLT,Nat.reduceEqDiff,Nat.reduceBEq,Nat.reduceLeDiff,Nat.reduceAdd,Nat.reduceMul]
 have eR:List.drop 3 (zCM [AV.int .i64 ((0:Nat):Int)] 3)=[]:=rfl
 simp(disch:=first|exact Xe|fail)only[zch,↓Xa,Xb,Xc,↓reduceIte,Nat.reduceLT,Nat.reduceEqDiff,Nat.reduceBEq,Nat.reduceLeDiff,Nat.reduceAdd]
 exact SetR.dropTo ((Le.refl H).updB n0) (SetR.now hq)
def zfn:List Int:=[((0:Nat):Int),((1:Nat):Int),((1:Nat):Int),((1:Nat):Int),((1:Nat):Int),((0:Nat):Int)]
def zDR:List Pt:=[⟨0,1⟩,⟨1,1⟩,⟨1,0⟩]
theorem zOS:zCK zfn=zDR:=by simp[zCK,zfn,zDR,List.range,List.range.loop]
theorem zRo{k:Int}{l:List Pt}(hl:l.length≤140737488355328):(prA k l).ok:=by
 unfold prA
 split
 ·rename_i h
  obtain⟨n,rfl⟩: ∃n:Nat,k=(n:Int):=⟨k.toNat,by have:=h.1;omega⟩
  have hr:=zEL (k:=n) (by have:=h.1;omega) (by have:=h.1;omega) h.2.2.1 h.2.2.2 h.2.1
  obtain⟨h1,h2,h3⟩:=hr
  unfold zC5 at h1
  rw[Int.toNat_natCast]
  refine⟨by unfold I64;omega,by unfold I64;omega,fun i hi=>?_,by omega,fun m hm=>by have:=h2 m hm;unfold I64;omega,by omega⟩
  have hm:=h3 i hi
  have hb:=zIE hm
  have hc: -512≤i.c∧i.c≤512:=by
   obtain⟨_,_,_,_,_,_,h⟩:=hm
   repeat' split at h
   all_goals omega
  unfold zCe at hm
  unfold Ins.ok I64
  omega
 ·exact⟨by unfold I64;decide,by unfold I64;decide,fun i hi=>(by cases hi),by decide,fun i hi=>(by cases hi),by decide⟩
theorem zPP:evB exE 2 zDR=true∧evE exE 2 zDR=0:=by decide
theorem zLC:prE 2 zDR=0∧evB (prA 2 zDR) 2 zDR=true∧evE (prA 2 zDR) 2 zDR=0:=by decide
theorem zPL:zdr [((1:Nat):Int),((2:Nat):Int),((3:Nat):Int)] 1 2=11∧zes [((1:Nat):Int),((2:Nat):Int),((3:Nat):Int)] 1 2=0:=by decide
theorem zY2:zOF 11=[49,49]:=by simp[zOF,zL9,dec,digs,chr]
theorem zLF{H:AHeap}{Q:AV→AHeap→Prop}(hT:Tz64H H)(hq:Q (.bool true) H):Run Tryz.prog 57 [] H Q:=by
 refine zYa (by simp) ?_
 simp(disch:=first|exact Xe|fail)only[zhh,↓Xa,Xb,Xc,↓reduceIte,Nat.reduceLT,Nat.reduceEqDiff,Nat.reduceBEq,Nat.reduceLeDiff,Nat.reduceAdd]
 have hl3: ∀n,n∈[((1:Nat):Int),((2:Nat):Int),((3:Nat):Int)]→I64 n:=fun n hn=>by
  simp only[List.mem_cons,List.not_mem_nil,or_false]at hn
  rcases hn with rfl|rfl|rfl<;>(unfold I64;decide)
 refine(zOs (l:=[((1:Nat):Int),((2:Nat):Int),((3:Nat):Int)]) (t:=true) (by decide) hl3).call ?_
 simp(disch:=first|exact Xe|fail)only[↓Xa,Xb,Xc,↓reduceIte,Nat.reduceLT,Nat.reduceEqDiff,Nat.reduceBEq,Nat.reduceLeDiff,Nat.reduceAdd]
 have hv:=zNl (A:=((1:Nat):Int)) (B:=((2:Nat):Int)) (xs:=[((1:Nat):Int),((2:Nat):Int),((3:Nat):Int)]) (t:=false) (k0:=2) (by decide) (fun z hz=>Bd.i64 (by have:=hl3 z hz;unfold I64 at this;omega)) (by decide)
 refine hv.call ?_
 have w1:zdr [((1:Nat):Int),((2:Nat):Int),((3:Nat):Int)] ((1:Nat):Int) ((2:Nat):Int)=11:=zPL.1
 have w2:zes [((1:Nat):Int),((2:Nat):Int),((3:Nat):Int)] ((1:Nat):Int) ((2:Nat):Int)=0:=zPL.2
 rw[w1,w2]
 simp(disch:=first|exact Xe|fail)only[↓Xa,Xb,Xc,↓reduceIte,Nat.reduceLT,Nat.reduceEqDiff,Nat.reduceBEq,Nat.reduceLeDiff,Nat.reduceAdd]
 refine zAD fun p1 n1=>?_
 simp(disch:=first|exact Xe|fail)only[zAE,↓Xa,Xb,Xc,↓reduceIte,Nat.reduceLT,Nat.reduceEqDiff,Nat.reduceBEq,Nat.reduceLeDiff,Nat.reduceAdd]
 generalize hM1:H.upd p1 (some (.row 48 0 [zB0 11,zB1 11]))=M1 at*
 have h1:M1 p1=some (.row 48 0 [zB0 11,zB1 11]):=by rw[← hM1,zAC]
 have hl1:Le H M1:=hM1▸(Le.refl H).updB n1
 refine zKW.call ?_
 have hpts:=zLG (l:=zfn) (t:=true) (by decide)
 rw[zOS]at hpts
 simp(disch:=first|exact Xe|fail)only[↓Xa,Xb,Xc,↓reduceIte,Nat.reduceLT,Nat.reduceEqDiff,Nat.reduceBEq,Nat.reduceLeDiff,Nat.reduceAdd]
 refine hpts.call ?_
 simp(disch:=first|exact Xe|fail)only[↓Xa,Xb,Xc,↓reduceIte,Nat.reduceLT,Nat.reduceEqDiff,Nat.reduceBEq,Nat.reduceLeDiff,Nat.reduceAdd]
 refine(zEG (p:=exE) (k:=((2:Nat):Int)) (l:=zDR) (t:=false) zdV (by decide)).call ?_
 have w3:evB exE ((2:Nat):Int) zDR=true:=zPP.1
 have w4:evE exE ((2:Nat):Int) zDR=0:=zPP.2
 rw[w3,w4]
 simp(disch:=first|exact Xe|fail)only[↓Xa,Xb,Xc,↓reduceIte,Nat.reduceLT,Nat.reduceEqDiff,Nat.reduceBEq,Nat.reduceLeDiff,Nat.reduceAdd]
 refine hpts.call ?_
 simp(disch:=first|exact Xe|fail)only[↓Xa,Xb,Xc,↓reduceIte,Nat.reduceLT,Nat.reduceEqDiff,Nat.reduceBEq,Nat.reduceLeDiff,Nat.reduceAdd]
 refine zAM (zDT (hT.le hl1) (by decide) ?_)
 have w5:prE ((2:Nat):Int) zDR=0:=zLC.1
 rw[w5]
 simp(disch:=first|exact Xe|fail)only[↓Xa,Xb,Xc,↓reduceIte,Nat.reduceLT,Nat.reduceEqDiff,Nat.reduceBEq,Nat.reduceLeDiff,Nat.reduceAdd]
 refine zAD fun p5 n5=>?_
 have a51:p5≠p1:=by rintro rfl;rw[h1]at n5;cases n5
 simp(disch:=first|exact Xe|fail)only[zAq,↓Xa,Xb,Xc,↓reduceIte,Nat.reduceLT,Nat.reduceEqDiff,Nat.reduceBEq,Nat.reduceLeDiff,Nat.reduceAdd]
 have G5:(M1.upd p5 (some (.row 25 0 [.int .i64 (prA ((2:Nat):Int) zDR).ins,.int .i64 (prA ((2:Nat):Int) zDR).regs,zAf (prA ((2:Nat):Int) zDR).code false,zAa (prA ((2:Nat):Int) zDR).outs false]))) p5=some (.row 25 0 [.int .i64 (prA ((2:Nat):Int) zDR).ins,.int .i64 (prA ((2:Nat):Int) zDR).regs,zAf (prA ((2:Nat):Int) zDR).code false,zAa (prA ((2:Nat):Int) zDR).outs false]):=zAC _ _ _
 have h15:(M1.upd p5 (some (.row 25 0 [.int .i64 (prA ((2:Nat):Int) zDR).ins,.int .i64 (prA ((2:Nat):Int) zDR).regs,zAf (prA ((2:Nat):Int) zDR).code false,zAa (prA ((2:Nat):Int) zDR).outs false]))) p1=some (.row 48 0 [zB0 11,zB1 11]):=by rw[zAA _ _ (Ne.symm a51),h1]
 have hl5:Le H (M1.upd p5 (some (.row 25 0 [.int .i64 (prA ((2:Nat):Int) zDR).ins,.int .i64 (prA ((2:Nat):Int) zDR).regs,zAf (prA ((2:Nat):Int) zDR).code false,zAa (prA ((2:Nat):Int) zDR).outs false]))):=hl1.upd n5
 generalize(M1.upd p5 (some (.row 25 0 [.int .i64 (prA ((2:Nat):Int) zDR).ins,.int .i64 (prA ((2:Nat):Int) zDR).regs,zAf (prA ((2:Nat):Int) zDR).code false,zAa (prA ((2:Nat):Int) zDR).outs false])))=M5 at*
 simp(disch:=first|exact Xe|fail)only[G5,zBL,↓Xa,Xb,Xc,↓reduceIte,Nat.reduceLT,Nat.reduceEqDiff,Nat.reduceBEq,Nat.reduceLeDiff,Nat.reduceAdd]
 refine PFn.dcall hpts ?_
 simp(disch:=first|exact Xe|fail)only[↓Xa,Xb,Xc,↓reduceIte,Nat.reduceLT,Nat.reduceEqDiff,Nat.reduceBEq,Nat.reduceLeDiff,Nat.reduceAdd]
 refine(zEG (p:=prA ((2:Nat):Int) zDR) (k:=((2:Nat):Int)) (l:=zDR) (t:=false) (zRo (by decide)) (by decide)).call ?_
 have w6:evB (prA ((2:Nat):Int) zDR) ((2:Nat):Int) zDR=true:=zLC.2.1
 have w7:evE (prA ((2:Nat):Int) zDR) ((2:Nat):Int) zDR=0:=zLC.2.2
 rw[w6,w7]
 have d0:decide (((0:Nat):Int)=((0:Nat):Int))=true:=rfl
 simp(disch:=first|exact Xe|fail)only[zAF,d0,h15,zAI,↓Xa,Xb,Xc,↓reduceIte,Nat.reduceLT,Nat.reduceEqDiff,Nat.reduceBEq,Nat.reduceLeDiff,Nat.reduceAdd]
 refine(zUs (x:=11) (k:=1) (by unfold Bd;decide) (by decide)).call ?_
 have s1:AV.str ⟨#[49,49]⟩=Sx [49,49]:=rfl
 simp(disch:=first|exact Xe|fail)only[s1,zY2,zRT,zh7,↓Xa,Xb,Xc,↓reduceIte,Nat.reduceLT,Nat.reduceEqDiff,Nat.reduceBEq,Nat.reduceLeDiff,Nat.reduceAdd]
 exact SetR.dropTo hl5 (SetR.now hq)
theorem zTN{A B:Int}:PFn Tryz.prog 72 [PtV A B] (.bool (zFG A B)):=by
 intro H Q hq
 refine zZ0 (by simp) ?_
 simp(disch:=first|exact Xe|fail)only[zh2,zBp,↓Xa,Xb,Xc,↓reduceIte,Nat.reduceLT,Nat.reduceEqDiff,Nat.reduceBEq,Nat.reduceLeDiff,Nat.reduceAdd]
 refine zAD fun p1 n1=>?_
 have hle: ∀{x:ABlk},Le H (H.upd p1 (some x)):=(Le.refl H).updB n1
 by_cases h1: -16≤A
 ·have e1:decide (-16≤A)=true:=decide_eq_true h1
  by_cases h2:A≤16
  ·have e2:decide (A≤((16:Nat):Int))=true:=decide_eq_true h2
   by_cases h3: -16≤B
   ·have e3:decide (-16≤B)=true:=decide_eq_true h3
    by_cases h4:B≤16
    ·have e4:decide (B≤((16:Nat):Int))=true:=decide_eq_true h4
     rw[show zFG A B=true from decide_eq_true ⟨h1,h2,h3,h4⟩]at hq
     simp(disch:=first|exact Xe|fail)only[zBt,zDc,e1,e2,e3,e4,zaG,↓Xa,Xb,Xc,↓reduceIte,Nat.reduceLT,Nat.reduceEqDiff,Nat.reduceBEq,Nat.reduceLeDiff,Nat.reduceAdd]
     exact SetR.dropTo hle (SetR.now hq)
    ·have e4:decide (B≤((16:Nat):Int))=false:=decide_eq_false h4
     rw[show zFG A B=false from decide_eq_false fun h=>h4 h.2.2.2]at hq
     simp(disch:=first|exact Xe|fail)only[zBt,zDc,e1,e2,e3,e4,zaG,↓Xa,Xb,Xc,↓reduceIte,Nat.reduceLT,Nat.reduceEqDiff,Nat.reduceBEq,Nat.reduceLeDiff,Nat.reduceAdd]
     exact SetR.dropTo hle (SetR.now hq)
   ·have e3:decide (-16≤B)=false:=decide_eq_false h3
    rw[show zFG A B=false from decide_eq_false fun h=>h3 h.2.2.1]at hq
    simp(disch:=first|exact Xe|fail)only[zBt,zDc,e1,e2,e3,zaG,↓Xa,Xb,Xc,↓reduceIte,Nat.reduceLT,Nat.reduceEqDiff,Nat.reduceBEq,Nat.reduceLeDiff,Nat.reduceAdd]
    exact SetR.dropTo hle (SetR.now hq)
  ·have e2:decide (A≤((16:Nat):Int))=false:=decide_eq_false h2
   rw[show zFG A B=false from decide_eq_false fun h=>h2 h.2.1]at hq
   simp(disch:=first|exact Xe|fail)only[zBt,zDc,e1,e2,zaG,↓Xa,Xb,Xc,↓reduceIte,Nat.reduceLT,Nat.reduceEqDiff,Nat.reduceBEq,Nat.reduceLeDiff,Nat.reduceAdd]
   exact SetR.dropTo hle (SetR.now hq)
 ·have e1:decide (-16≤A)=false:=decide_eq_false h1
  rw[show zFG A B=false from decide_eq_false fun h=>h1 h.1]at hq
  simp(disch:=first|exact Xe|fail)only[zBt,zDc,e1,zaG,↓Xa,Xb,Xc,↓reduceIte,Nat.reduceLT,Nat.reduceEqDiff,Nat.reduceBEq,Nat.reduceLeDiff,Nat.reduceAdd]
  exact SetR.dropTo hle (SetR.now hq)
theorem zOV{l:List Pt}{t:Bool}(hl:l.length<9223372036854775808):PFn Tryz.prog 66 [zDd l t] (.bool (decide (zEN l))):=by
 intro H Q hq
 refine zZB (by simp) ?_
 simp(disch:=first|exact Xe|fail)only[ziB,↓Xa,Xb,Xc,↓reduceIte,Nat.reduceLT,Nat.reduceEqDiff,Nat.reduceBEq,Nat.reduceLeDiff,Nat.reduceAdd]
 refine zAO (fun s:Nat=>⟨[],[(0,zDd l t),(3,.int .i64 s)],H⟩) (fun s=>s≤l.length∧zPq (l.take s)) (fun s=>l.length-s) 0 (Settle.now rfl) ⟨Nat.zero_le _,fun q hq=>by simp at hq⟩ ?_
 rintro i ⟨h1,h2⟩
 by_cases hi:i<l.length
 ·simp(disch:=first|exact Xe|fail)only[hi,zBE hl,zEd hi,zDs hi,↓Xa,Xb,Xc,↓reduceIte,Nat.reduceLT,Nat.reduceEqDiff,Nat.reduceBEq,Nat.reduceLeDiff,Nat.reduceAdd]
  refine zTN.call ?_
  cases hin:zFG (l[i]).a (l[i]).b with
  |false=>
   have: ¬zEN l:=fun h=>by have:=h.1 _ (List.getElem_mem hi);rw[hin]at this;cases this
   rw[decide_eq_false this]at hq
   simp(disch:=first|exact Xe|fail)only[zed,↓Xa,Xb,Xc,↓reduceIte,Nat.reduceLT,Nat.reduceEqDiff,Nat.reduceBEq,Nat.reduceLeDiff,Nat.reduceAdd]
   exact SetR.now hq
  |true=>
   simp(disch:=first|exact Xe|fail)only[↓Xa,Xb,Xc,↓reduceIte,Nat.reduceLT,Nat.reduceEqDiff,Nat.reduceBEq,Nat.reduceLeDiff,Nat.reduceAdd]
   refine Settle.now ⟨i+1,by omega,⟨by omega,fun q hq=>?_⟩,rfl⟩
   rw[List.take_succ_eq_append_getElem hi]at hq
   rcases List.mem_append.1 hq with hq|hq
   ·exact h2 q hq
   ·rw[List.mem_singleton.1 hq];exact hin
 ·obtain rfl:i=l.length:=by omega
  rw[List.take_length]at h2
  simp(disch:=first|exact Xe|fail)only[hi,zBE hl,↓Xa,Xb,Xc,↓reduceIte,Nat.reduceLT,Nat.reduceEqDiff,Nat.reduceBEq,Nat.reduceLeDiff,Nat.reduceAdd]
  refine Settle.now ?_
  by_cases g1:1≤l.length
  ·have e1:decide (((1:Nat):Int)≤((l.length:Nat):Int))=true:=decide_eq_true (by omega)
   by_cases g2:l.length≤15
   ·have e2:decide (((l.length:Nat):Int)≤((15:Nat):Int))=true:=decide_eq_true (by omega)
    rw[decide_eq_true (show zEN l from⟨h2,g1,g2⟩)]at hq
    simp(disch:=first|exact Xe|fail)only[zBE hl,zBt,zDc,e1,e2,zed,↓Xa,Xb,Xc,↓reduceIte,Nat.reduceLT,Nat.reduceEqDiff,Nat.reduceBEq,Nat.reduceLeDiff,Nat.reduceAdd]
    exact SetR.now hq
   ·have e2:decide (((l.length:Nat):Int)≤((15:Nat):Int))=false:=decide_eq_false (by omega)
    rw[decide_eq_false (fun h=>g2 h.2.2)]at hq
    simp(disch:=first|exact Xe|fail)only[zBE hl,zBt,zDc,e1,e2,zed,↓Xa,Xb,Xc,↓reduceIte,Nat.reduceLT,Nat.reduceEqDiff,Nat.reduceBEq,Nat.reduceLeDiff,Nat.reduceAdd]
    exact SetR.now hq
  ·have e1:decide (((1:Nat):Int)≤((l.length:Nat):Int))=false:=decide_eq_false (by omega)
   rw[decide_eq_false (fun h=>g1 h.2.1)]at hq
   simp(disch:=first|exact Xe|fail)only[zBE hl,zBt,zDc,e1,zed,↓Xa,Xb,Xc,↓reduceIte,Nat.reduceLT,Nat.reduceEqDiff,Nat.reduceBEq,Nat.reduceLeDiff,Nat.reduceAdd]
   exact SetR.now hq
theorem zQB{k:Int}{l:List Pt}{t:Bool}(hl:l.length<9223372036854775808):PFn Tryz.prog 60 [.int .i64 k,zDd l t] (.bool (decide (zC9 k l))):=by
 intro H Q hq
 refine zYV (by simp) ?_
 by_cases h1:1≤k
 ·have e1:decide (((1:Nat):Int)≤k)=true:=decide_eq_true (by omega)
  by_cases h2:k≤8
  ·have e2:decide (k≤((8:Nat):Int))=true:=decide_eq_true (by omega)
   simp(disch:=first|exact Xe|fail)only[ze7,zBt,zDc,e1,e2,↓Xa,Xb,Xc,↓reduceIte,Nat.reduceLT,Nat.reduceEqDiff,Nat.reduceBEq,Nat.reduceLeDiff,Nat.reduceAdd]
   refine(zOV hl).call ?_
   have e:decide (zEN l)=decide (zC9 k l):=decide_eq_decide.2 ⟨fun h=>⟨⟨h1,h2⟩,h⟩,fun h=>h.2⟩
   rw[e]
   simp(disch:=first|exact Xe|fail)only[ze6,↓Xa,Xb,Xc,↓reduceIte,Nat.reduceLT,Nat.reduceEqDiff,Nat.reduceBEq,Nat.reduceLeDiff,Nat.reduceAdd]
   exact SetR.now hq
  ·have e2:decide (k≤((8:Nat):Int))=false:=decide_eq_false (by omega)
   rw[decide_eq_false (fun h=>h2 h.1.2)]at hq
   simp(disch:=first|exact Xe|fail)only[ze7,zBt,zDc,e1,e2,ze6,↓Xa,Xb,Xc,↓reduceIte,Nat.reduceLT,Nat.reduceEqDiff,Nat.reduceBEq,Nat.reduceLeDiff,Nat.reduceAdd]
   exact SetR.now hq
 ·have e1:decide (((1:Nat):Int)≤k)=false:=decide_eq_false (by omega)
  rw[decide_eq_false (fun h=>h1 h.1.1)]at hq
  simp(disch:=first|exact Xe|fail)only[ze7,zBt,zDc,e1,ze6,↓Xa,Xb,Xc,↓reduceIte,Nat.reduceLT,Nat.reduceEqDiff,Nat.reduceBEq,Nat.reduceLeDiff,Nat.reduceAdd]
  exact SetR.now hq
theorem zNk{A B:Int}{n:Nat}(hn:n≤16)(hin:zFG A B=true):PFn Tryz.prog 130 [PtV A B,.int .i64 (n:Int)] (rR (zBP A B n)):=by
 have hpl:(zBP A B n).length=n:=by simp[zBP]
 have hb: -16≤A∧A≤16∧ -16≤B∧B≤16:=of_decide_eq_true hin
 have er:rR (zBP A B n)=.seq n (RC (zBP A B n)) false:=by simp[rR,hpl]
 rw[er]
 refine PFn.frozen (ty:=44) (es:=2) fun H Q hq=>?_
 refine zSl (by simp) ?_
 simp(disch:=first|exact Xe|fail)only[zbU,zBp,↓Xa,Xb,Xc,↓reduceIte,Nat.reduceLT,Nat.reduceEqDiff,Nat.reduceBEq,Nat.reduceLeDiff,Nat.reduceAdd]
 refine zAD fun p2 n2=>?_
 simp(disch:=first|exact Xe|fail)only[↓Xa,Xb,Xc,↓reduceIte,Nat.reduceLT,Nat.reduceEqDiff,Nat.reduceBEq,Nat.reduceLeDiff,Nat.reduceAdd]
 generalize hG:H.upd p2 (some (.row 112 0 [.int .i64 A,.int .i64 B]))=G at*
 have g2:G p2=some (.row 112 0 [.int .i64 A,.int .i64 B]):=by rw[← hG,zAC]
 have hle:Le H G:=hG▸(Le.refl H).updB n2
 refine zAO (fun s:Nat×AV×AHeap=>⟨[],[(1,.int .i64 (n:Int)),(2,.ptr p2 2 0),(5,s.2.1),(6,.int .i64 s.1)],s.2.2⟩) (fun s=>s.1≤n∧zBI G 44 2 s.1 (RC ((zBP A B n).take s.1)) s.2.1 s.2.2) (fun s=>n-s.1) (0,.seq 0 [] true,G) (Settle.now rfl) ⟨Nat.zero_le _,zAh⟩ ?_
 rintro⟨i,y,M⟩ ⟨h1,hg⟩
 dsimp only at h1 hg ⊢
 by_cases hi:i<n
 ·have hM:=zBq hg g2
  simp(disch:=first|exact Xe|fail)only[hi,hM,↓Xa,Xb,Xc,↓reduceIte,Nat.reduceLT,Nat.reduceEqDiff,Nat.reduceBEq,Nat.reduceLeDiff,Nat.reduceAdd]
  refine PFn.dcall (zDZ (n:=A) (by omega)) ?_
  simp(disch:=first|exact Xe|fail)only[↓Xa,Xb,Xc,↓reduceIte,Nat.reduceLT,Nat.reduceEqDiff,Nat.reduceBEq,Nat.reduceLeDiff,Nat.reduceAdd]
  have bdA:Bd 1 A:=by unfold Bd;omega
  have bdB:Bd 1 B:=by unfold Bd;omega
  refine PFn.dcall (zQf (n:=i) false bdA (by omega) (by omega)) ?_
  simp(disch:=first|exact Xe|fail)only[hM,↓Xa,Xb,Xc,↓reduceIte,Nat.reduceLT,Nat.reduceEqDiff,Nat.reduceBEq,Nat.reduceLeDiff,Nat.reduceAdd]
  refine PFn.dcall (zDZ (n:=B) (by omega)) ?_
  simp(disch:=first|exact Xe|fail)only[↓Xa,Xb,Xc,↓reduceIte,Nat.reduceLT,Nat.reduceEqDiff,Nat.reduceBEq,Nat.reduceLeDiff,Nat.reduceAdd]
  refine PFn.dcall (zQf (n:=n-1-i) false bdB (by omega) (by omega)) ?_
  simp(disch:=first|exact Xe|fail)only[↓Xa,Xb,Xc,↓reduceIte,Nat.reduceLT,Nat.reduceEqDiff,Nat.reduceBEq,Nat.reduceLeDiff,Nat.reduceAdd]
  refine PFn.dcall (zF2 false false (zGf (show i≤16 by omega) hb.1 hb.2.1) (by omega) (zGf (show n-1-i≤16 by omega) hb.2.2.1 hb.2.2.2) (by omega)) ?_
  simp(disch:=first|exact Xe|fail)only[zAe,zIU,↓Xa,Xb,Xc,↓reduceIte,Nat.reduceLT,Nat.reduceEqDiff,Nat.reduceBEq,Nat.reduceLeDiff,Nat.reduceAdd,Nat.reduceMul]
  refine zFV (m:=1) hg rfl rfl (by omega) (by omega) (by omega) fun y' M2 hg4=>?_
  have hil:i<(zBP A B n).length:=by omega
  have et:RC ((zBP A B n).take i)++[zEA (A^i*B^(n-1-i)),zFS (A^i*B^(n-1-i))]=RC ((zBP A B n).take (i+1)):=by
   rw[zKw hil];simp[zBP]
  rw[et]at hg4
  simp(disch:=first|exact Xe|fail)only[↓Xa,Xb,Xc,↓reduceIte,Nat.reduceLT,Nat.reduceEqDiff,Nat.reduceBEq,Nat.reduceLeDiff,Nat.reduceAdd]
  exact Settle.now ⟨(i+1,y',M2),by dsimp only;omega,⟨by dsimp only;omega,hg4⟩,rfl⟩
 ·obtain rfl:i=n:=by omega
  rw[List.take_of_length_le (by omega)]at hg
  simp(disch:=first|exact Xe|fail)only[hi,↓Xa,Xb,Xc,↓reduceIte,Nat.reduceLT,Nat.reduceEqDiff,Nat.reduceBEq,Nat.reduceLeDiff,Nat.reduceAdd]
  refine Settle.now ?_
  simp(disch:=first|exact Xe|fail)only[zds,↓Xa,Xb,Xc,↓reduceIte,Nat.reduceLT,Nat.reduceEqDiff,Nat.reduceBEq,Nat.reduceLeDiff,Nat.reduceAdd]
  obtain⟨M2,hg2,hl2⟩:=zBO hg hle
  exact SetR.dropTo hl2 (SetR.now (hq _ _ hg2))
def WkL(a b:List AV):Prop:=a.length=b.length∧∀i(h1:i<a.length)(h2:i<b.length),Wk (a[i]) (b[i])
theorem WkL.app{a b c d:List AV}(h:WkL a b)(k:WkL c d):WkL (a++c) (b++d):=by
 refine⟨by simp[h.1,k.1],fun i h1 h2=>?_⟩
 by_cases hi:i<a.length
 ·rw[List.getElem_append_left hi,List.getElem_append_left (by rw[← h.1];exact hi)];exact h.2 i _ _
 ·have hb:=h.1
  rw[List.getElem_append_right (by omega),List.getElem_append_right (by omega)]
  have e:i-a.length=i-b.length:=by omega
  simp only[e]
  exact k.2 _ (by simp at h1;omega) _
theorem WkL.rfl{a:List AV}:WkL a a:=⟨Eq.refl _,fun _ _ _=>Wk.refl⟩
theorem WkL.zeros(n:Nat):WkL (IC (List.replicate n 0)) (RC (List.replicate n 0)):=by
 rw[zhe]
 exact⟨by rw[zZO,zR1],zRw _⟩
theorem zPN{n:Nat}(hn:n≤8):PFn Tryz.prog 129 [.int .i64 (n:Int)] (GA (zA0 n) false):=by
 have er:GA (zA0 n) false=.seq n (GC (zA0 n)) false:=by show AV.seq (zA0 n).length _ _=_;rw[zBx]
 rw[er]
 refine PFn.frozen (ty:=31) (es:=1) (n:=n) (cells:=GC (zA0 n)) fun H Q hq=>?_
 have hul:(zA0 n).length=n:=by simp[zA0]
 refine zTE (by simp) ?_
 simp(disch:=first|exact Xe|fail)only[zep,↓Xa,Xb,Xc,↓reduceIte,Nat.reduceLT,Nat.reduceEqDiff,Nat.reduceBEq,Nat.reduceLeDiff,Nat.reduceAdd]
 refine zAO (fun s:Nat×AV×AHeap=>⟨[],[(0,.int .i64 (n:Int)),(3,s.2.1),(4,.int .i64 s.1)],s.2.2⟩) (fun s=>s.1≤n∧zBI H 31 1 s.1 (GC ((zA0 n).take s.1)) s.2.1 s.2.2) (fun s=>n-s.1) (0,.seq 0 [] true,H) (Settle.now rfl) ⟨Nat.zero_le _,zAh⟩ ?_
 rintro⟨i,y,M⟩ ⟨h1,hg1⟩
 dsimp only at h1 hg1 ⊢
 by_cases hi:i<n
 ·have hiu:i<(zA0 n).length:=by omega
  simp(disch:=first|exact Xe|fail)only[hi,zN6 (show n≤100000 by omega),↓Xa,Xb,Xc,↓reduceIte,Nat.reduceLT,Nat.reduceEqDiff,Nat.reduceBEq,Nat.reduceLeDiff,Nat.reduceAdd]
  intro b hb
  have hll:(List.replicate n (0:Int)).length=n:=by simp
  refine(zDZ (n:=1) (by omega)).call ?_
  have hst: ∀{K:AV→AHeap→Prop},stP (M.upd b (some (.row 44 2 (IC (List.replicate n 0))))) 2 b (n*2) (i*2) K (some [zEA 1,zFS 1]) (some (.row 44 2 (IC (List.replicate n 0))))↔K .bot ((M.upd b (some (.row 44 2 (IC (List.replicate n 0))))).upd b (some (.row 44 2 (zAo (IC (List.replicate n 0)) (i*2) [zEA 1,zFS 1])))):=fun{K}=>zLT (n:=2) (l:=[zEA 1,zFS 1]) (by rw[zBU,hll]) (Eq.refl _) (by omega)
  simp(disch:=first|exact Xe|fail)only[hi,zAe,hst,↓Xa,Xb,Xc,↓reduceIte,Nat.reduceLT,Nat.reduceEqDiff,Nat.reduceBEq,Nat.reduceLeDiff,Nat.reduceAdd]
  refine⟨by rw[zBU,hll],?_⟩
  have hX:WkL (List.take (i*2) (IC (List.replicate n 0))++[zEA 1,zFS 1]++List.drop (i*2+2) (IC (List.replicate n 0))) (RC ((List.replicate n 0).set i 1)):=by
   have e1:List.take (i*2) (IC (List.replicate n 0))=IC (List.replicate i 0):=by
    rw[zbS (by omega),List.take_replicate,Nat.min_eq_left (by omega)]
   have e2:List.drop (i*2+2) (IC (List.replicate n 0))=IC (List.replicate (n-(i+1)) 0):=by
    rw[show i*2+2=(i+1)*2 by omega,zYY (by omega),List.drop_replicate]
   have e3:RC ((List.replicate n (0:Int)).set i 1)=RC (List.replicate i 0)++[zEA 1,zFS 1]++RC (List.replicate (n-(i+1)) 0):=by
    rw[List.set_eq_take_append_cons_drop,if_pos (by omega),List.take_replicate,Nat.min_eq_left (by omega),List.drop_replicate]
    simp[RC,List.flatMap_append]
   rw[e1,e2,e3]
   exact((WkL.zeros i).app WkL.rfl).app (WkL.zeros _)
  have hXl:(List.take (i*2) (IC (List.replicate n 0))++[zEA 1,zFS 1]++List.drop (i*2+2) (IC (List.replicate n 0))).length=n*2:=by rw[hX.1,zR1];simp
  generalize(List.take (i*2) (IC (List.replicate n 0))++[zEA 1,zFS 1]++List.drop (i*2+2) (IC (List.replicate n 0)))=X at*
  refine zFV (bytes:=24) (m:=1) (ys:=[.own b (n*2) 0 n true]) (t:=true) (zCf hg1 hb) rfl rfl (by omega) (by omega) (by omega) fun y' M2 hg4=>?_
  have eu:(zA0 n)[i]=(List.replicate n 0).set i 1:=by simp[zA0]
  have hlr:((List.replicate n (0:Int)).set i 1).length=n:=by simp
  obtain⟨M3,hg5,hf,hs⟩:=zJv (x':=rR ((zA0 n)[i])) (zCY hg1 hb) hg4 (by
   rw[eu]
   have e:zCy b 2 X (.own b (n*2) 0 n true)=.seq n X true:=by
    simp only[zCy]
    rw[if_pos trivial,if_pos ⟨hXl.symm,.inr (by omega)⟩,List.drop_zero,List.take_of_length_le (by omega)]
   have e2:rR ((List.replicate n (0:Int)).set i 1)=.seq n (RC ((List.replicate n 0).set i 1)) false:=by simp[rR]
   rw[e,e2]
   exact Wk.cells hX.1 hX.2) (fun c hc=>by
   obtain⟨r,_,rfl⟩:=List.mem_map.1 hc;exact Eq.refl _)
  rw[← zIr hiu]at hg5
  simp(disch:=first|exact Xe|fail)only[↓Xa,Xb,Xc,↓reduceIte,Nat.reduceLT,Nat.reduceEqDiff,Nat.reduceBEq,Nat.reduceLeDiff,Nat.reduceAdd]
  refine hs _ _ _ (by simp only[Env.map,List.map_cons,List.map_nil,hf];exact Eq.refl _) (Settle.now ⟨(i+1,y',M3),by dsimp only;omega,⟨by dsimp only;omega,hg5⟩,Eq.refl _⟩)
 ·obtain rfl:i=n:=by omega
  rw[List.take_of_length_le (by omega)]at hg1
  simp(disch:=first|exact Xe|fail)only[hi,↓Xa,Xb,Xc,↓reduceIte,Nat.reduceLT,Nat.reduceEqDiff,Nat.reduceBEq,Nat.reduceLeDiff,Nat.reduceAdd]
  refine Settle.now ?_
  simp(disch:=first|exact Xe|fail)only[zae,↓Xa,Xb,Xc,↓reduceIte,Nat.reduceLT,Nat.reduceEqDiff,Nat.reduceBEq,Nat.reduceLeDiff,Nat.reduceAdd]
  exact SetR.now (hq _ _ hg1)
theorem zIR{p:PR}{n:Nat}{l:List Pt}{t:Bool}(hp:p.ok)(hr:zBV p)(hn1:1≤n)(hn8:n≤8)(hpt:zEN l):PFn Tryz.prog 62 [zCV p,.int .i64 (n:Int),zDd l t] (.bool (decide (evQ p n l))):=by
 intro H Q hq
 have hh:=hr.1
 unfold zC5 at hh
 have h15:=hpt.2.2
 have lc:p.code.length<9223372036854775808:=by omega
 have lo:p.outs.length<9223372036854775808:=by omega
 have hl:l.length<9223372036854775808:=by omega
 refine zZ2 (by simp) ?_
 simp(disch:=first|exact Xe|fail)only[zh1,zAq,↓Xa,Xb,Xc,↓reduceIte,Nat.reduceLT,Nat.reduceEqDiff,Nat.reduceBEq,Nat.reduceLeDiff,Nat.reduceAdd]
 refine zAD fun p3 n3=>?_
 have G3:(H.upd p3 (some (.row 25 0 [.int .i64 p.ins,.int .i64 p.regs,zAf p.code false,zAa p.outs false]))) p3=some (.row 25 0 [.int .i64 p.ins,.int .i64 p.regs,zAf p.code false,zAa p.outs false]):=zAC _ _ _
 have hHG:Le H (H.upd p3 (some (.row 25 0 [.int .i64 p.ins,.int .i64 p.regs,zAf p.code false,zAa p.outs false]))):=(Le.refl H).updB n3
 generalize(H.upd p3 (some (.row 25 0 [.int .i64 p.ins,.int .i64 p.regs,zAf p.code false,zAa p.outs false])))=G at*
 have fin: ∀{b:Bool},decide (evQ p n l)=b→SetR Q (.bool b) G:=fun{b} h1=>by
  rw[h1]at hq
  exact SetR.dropTo hHG (SetR.now hq)
 by_cases hin:p.ins=((n:Nat):Int)
 rotate_right
 ·have d3:decide (p.ins=((n:Nat):Int))=false:=decide_eq_false hin
  simp(disch:=first|exact Xe|fail)only[zAV,d3,G3,zZs,↓Xa,Xb,Xc,↓reduceIte,Nat.reduceLT,Nat.reduceEqDiff,Nat.reduceBEq,Nat.reduceLeDiff,Nat.reduceAdd]
  exact fin (decide_eq_false fun g=>hin g.1)
 have d3:decide (p.ins=((n:Nat):Int))=true:=decide_eq_true hin
 by_cases hol:p.outs.length=l.length
 rotate_right
 ·have d4:decide (((p.outs.length:Nat):Int)=((l.length:Nat):Int))=false:=decide_eq_false (by omega)
  simp(disch:=first|exact Xe|fail)only[zAV,d3,d4,G3,zAY lo,zBE hl,zZs,↓Xa,Xb,Xc,↓reduceIte,Nat.reduceLT,Nat.reduceEqDiff,Nat.reduceBEq,Nat.reduceLeDiff,Nat.reduceAdd]
  exact fin (decide_eq_false fun g=>hol g.2.1)
 have d4:decide (((p.outs.length:Nat):Int)=((l.length:Nat):Int))=true:=decide_eq_true (by omega)
 simp(disch:=first|exact Xe|fail)only[zAV,d3,d4,G3,zAY lo,zBE hl,↓Xa,Xb,Xc,↓reduceIte,Nat.reduceLT,Nat.reduceEqDiff,Nat.reduceBEq,Nat.reduceLeDiff,Nat.reduceAdd]
 refine zAO (fun s:Nat=>⟨[],[(1,.int .i64 (n:Int)),(2,zDd l t),(3,.ptr p3 4 0),(7,.int .i64 s)],G⟩) (fun s=>s≤p.code.length∧zJm (p.code.take s)) (fun s=>p.code.length-s) 0 (Settle.now rfl) ⟨Nat.zero_le _,fun i hi=>by simp at hi⟩ ?_
 rintro s ⟨s1,s2⟩
 by_cases hs:s<p.code.length
 ·by_cases o6:(p.code[s]).op=6
  ·have e6:decide ((p.code[s]).op=((6:Nat):Int))=true:=decide_eq_true o6
   simp(disch:=first|exact Xe|fail)only[G3,zAZ lc,hs,zBN hs,zDx hs,zAF,e6,zZs,↓Xa,Xb,Xc,↓reduceIte,Nat.reduceLT,Nat.reduceEqDiff,Nat.reduceBEq,Nat.reduceLeDiff,Nat.reduceAdd]
   exact fin (decide_eq_false fun g=>(g.2.2.1 _ (List.getElem_mem hs)).1 o6)
  have e6:decide ((p.code[s]).op=((6:Nat):Int))=false:=decide_eq_false o6
  by_cases o8:(p.code[s]).op=8
  ·have e8:decide ((p.code[s]).op=((8:Nat):Int))=true:=decide_eq_true o8
   simp(disch:=first|exact Xe|fail)only[G3,zAZ lc,hs,zBN hs,zDx hs,zAF,e6,e8,zZs,↓Xa,Xb,Xc,↓reduceIte,Nat.reduceLT,Nat.reduceEqDiff,Nat.reduceBEq,Nat.reduceLeDiff,Nat.reduceAdd]
   exact fin (decide_eq_false fun g=>(g.2.2.1 _ (List.getElem_mem hs)).2 o8)
  have e8:decide ((p.code[s]).op=((8:Nat):Int))=false:=decide_eq_false o8
  simp(disch:=first|exact Xe|fail)only[G3,zAZ lc,hs,zBN hs,zDx hs,zAF,e6,e8,↓Xa,Xb,Xc,↓reduceIte,Nat.reduceLT,Nat.reduceEqDiff,Nat.reduceBEq,Nat.reduceLeDiff,Nat.reduceAdd]
  refine Settle.now ⟨s+1,by omega,⟨by omega,fun i hi=>?_⟩,rfl⟩
  rw[List.take_succ_eq_append_getElem hs]at hi
  rcases List.mem_append.1 hi with hi|hi
  ·exact s2 i hi
  ·rw[List.mem_singleton.1 hi];exact⟨o6,o8⟩
 obtain rfl:s=p.code.length:=by omega
 rw[List.take_length]at s2
 have hst:(zCG p (zA0 n) n).length=p.code.length:=zEp p.code _ s2
 have hf:=zQJ (t:=false) (k0:=1) (L:=n) hp hr (grid:=zA0 n) (fun r hm=>zCB hn8 r hm) (by rw[zBx,hin]) (by omega) (by omega)
 rw[zIY,if_pos hst]at hf
 have hRl:(zBm p (zA0 n) n).length=l.length:=by simp[zBm,hol]
 have hRb:=zNR hr (by rw[zBx,hin]) (by omega) (fun r hm=>(zCB hn8 r hm).1) (fun r hm=>(zCB hn8 r hm).2)
 have hev:evQ p ((n:Nat):Int) l↔zBm p (zA0 n) n=zDf n l:=⟨fun g=>g.2.2.2,fun g=>⟨hin,hol,s2,g⟩⟩
 simp(disch:=first|exact Xe|fail)only[G3,zAZ lc,hs,↓Xa,Xb,Xc,↓reduceIte,Nat.reduceLT,Nat.reduceEqDiff,Nat.reduceBEq,Nat.reduceLeDiff,Nat.reduceAdd]
 refine Settle.now ?_
 simp(disch:=first|exact Xe|fail)only[G3,zBL,↓Xa,Xb,Xc,↓reduceIte,Nat.reduceLT,Nat.reduceEqDiff,Nat.reduceBEq,Nat.reduceLeDiff,Nat.reduceAdd]
 refine PFn.dcall (zPN hn8) ?_
 simp(disch:=first|exact Xe|fail)only[↓Xa,Xb,Xc,↓reduceIte,Nat.reduceLT,Nat.reduceEqDiff,Nat.reduceBEq,Nat.reduceLeDiff,Nat.reduceAdd]
 refine PFn.dcall hf ?_
 generalize zBm p (zA0 n) n=R at*
 have hwl:(zDf n l).length=l.length:=by simp[zDf]
 simp(disch:=first|exact Xe|fail)only[↓Xa,Xb,Xc,↓reduceIte,Nat.reduceLT,Nat.reduceEqDiff,Nat.reduceBEq,Nat.reduceLeDiff,Nat.reduceAdd]
 refine zAO (fun s:Nat=>⟨[],[(1,.int .i64 (n:Int)),(2,zDd l t),(10,GA R false),(11,.int .i64 s)],G⟩) (fun s=>s≤l.length∧R.take s=(zDf n l).take s) (fun s=>l.length-s) 0 (Settle.now rfl) ⟨Nat.zero_le _,rfl⟩ ?_
 rintro s ⟨f1,f2⟩
 by_cases hs2:s<l.length
 ·have hq2:=hpt.1 _ (List.getElem_mem hs2)
  have hsR:s<R.length:=by omega
  have hix: ∀{k:IntKind}{K:AV→Prop},zBl 1 (GA R false) (.int k (s:Int)) K=K (.cptr ((GC R).drop s)):=fun{k K}=>by
   have:=zJF (f:=rR) (l:=R) (t:=false) (k:=k) (K:=K) (i:=s) hsR
   rw[Nat.mul_one]at this;exact this
  have hld: ∀{M:AHeap}{K:AV→Prop},zBC M none (.cptr ((GC R).drop s)) K=K (rR (R[s])):=fun{M K}=>zFr hsR
  obtain⟨rl,rb⟩:=hRb _ (List.getElem_mem hsR)
  have ew:(zDf n l)[s]'(by omega)=zBP (l[s]).a (l[s]).b n:=by simp[zDf]
  have bw:=zLw (k:=n) (by omega) hq2
  have lw:(zBP (l[s]).a (l[s]).b n).length=n:=by simp[zBP]
  simp(disch:=first|exact Xe|fail)only[hs2,zBE hl,zEd hs2,zDs hs2,↓Xa,Xb,Xc,↓reduceIte,Nat.reduceLT,Nat.reduceEqDiff,Nat.reduceBEq,Nat.reduceLeDiff,Nat.reduceAdd]
  refine(zNk (n:=n) (by omega) hq2).call ?_
  have stepR:R[s]=zBP (l[s]).a (l[s]).b n→R.take (s+1)=(zDf n l).take (s+1):=fun h=>by
   rw[List.take_succ_eq_append_getElem hsR,List.take_succ_eq_append_getElem (by omega),f2,ew,h]
  have noR:R[s]≠zBP (l[s]).a (l[s]).b n→¬evQ p ((n:Nat):Int) l:=fun h g=>by
   rw[hev]at g
   apply h
   rw[← ew]
   simp only[g]
  generalize hwr:zBP (l[s]).a (l[s]).b n=w at*
  generalize hrr:R[s]=r at*
  simp(disch:=first|exact Xe|fail)only[↓Xa,Xb,Xc,↓reduceIte,Nat.reduceLT,Nat.reduceEqDiff,Nat.reduceBEq,Nat.reduceLeDiff,Nat.reduceAdd]
  refine zAO (fun j:Nat=>⟨[],[(1,.int .i64 (n:Int)),(2,zDd l t),(10,GA R false),(11,.int .i64 s),(12,rR w),(13,.int .i64 j)],G⟩) (fun j=>j≤n∧r.take j=w.take j) (fun j=>n-j) 0 (Settle.now rfl) ⟨Nat.zero_le _,rfl⟩ ?_
  rintro j ⟨j1,j2⟩
  by_cases hj:j<n
  ·have hjr:j<r.length:=by omega
   have hjw:j<w.length:=by omega
   have ir: ∀{k:IntKind}{K:AV→Prop},zBl 2 (rR r) (.int k (j:Int)) K=K (.cptr ((RC r).drop (j*2))):=fun{k K}=>zJ5 (t:=false) hjr
   have iw: ∀{k:IntKind}{K:AV→Prop},zBl 2 (rR w) (.int k (j:Int)) K=K (.cptr ((RC w).drop (j*2))):=fun{k K}=>zJ5 (t:=false) hjw
   simp(disch:=first|exact Xe|fail)only[hj,hix,hld,ir,iw,zGA hjr,zGA hjw,↓Xa,Xb,Xc,↓reduceIte,Nat.reduceLT,Nat.reduceEqDiff,Nat.reduceBEq,Nat.reduceLeDiff,Nat.reduceAdd]
   refine(zY8 (rb.at hjr) (by omega) (bw.at hjw) (by omega)).call ?_
   by_cases he:r[j]=w[j]
   ·simp(disch:=first|exact Xe|fail)only[decide_eq_true he,↓Xa,Xb,Xc,↓reduceIte,Nat.reduceLT,Nat.reduceEqDiff,Nat.reduceBEq,Nat.reduceLeDiff,Nat.reduceAdd]
    refine Settle.now ⟨j+1,by omega,⟨by omega,?_⟩,rfl⟩
    rw[List.take_succ_eq_append_getElem hjr,List.take_succ_eq_append_getElem hjw,j2,he]
   ·simp(disch:=first|exact Xe|fail)only[decide_eq_false he,zZs,↓Xa,Xb,Xc,↓reduceIte,Nat.reduceLT,Nat.reduceEqDiff,Nat.reduceBEq,Nat.reduceLeDiff,Nat.reduceAdd]
    exact fin (decide_eq_false (noR fun h=>he (by simp only[h])))
  ·obtain rfl:j=n:=by omega
   simp(disch:=first|exact Xe|fail)only[hj,↓Xa,Xb,Xc,↓reduceIte,Nat.reduceLT,Nat.reduceEqDiff,Nat.reduceBEq,Nat.reduceLeDiff,Nat.reduceAdd]
   refine Settle.now ?_
   simp(disch:=first|exact Xe|fail)only[↓Xa,Xb,Xc,↓reduceIte,Nat.reduceLT,Nat.reduceEqDiff,Nat.reduceBEq,Nat.reduceLeDiff,Nat.reduceAdd]
   exact Settle.now ⟨s+1,by omega,⟨by omega,stepR (by
    rw[List.take_of_length_le (by omega),List.take_of_length_le (by omega)]at j2;exact j2)⟩,rfl⟩
 ·obtain rfl:s=l.length:=by omega
  rw[List.take_of_length_le (by omega),List.take_of_length_le (by omega)]at f2
  simp(disch:=first|exact Xe|fail)only[hs2,zBE hl,↓Xa,Xb,Xc,↓reduceIte,Nat.reduceLT,Nat.reduceEqDiff,Nat.reduceBEq,Nat.reduceLeDiff,Nat.reduceAdd]
  refine Settle.now ?_
  simp(disch:=first|exact Xe|fail)only[zZs,↓Xa,Xb,Xc,↓reduceIte,Nat.reduceLT,Nat.reduceEqDiff,Nat.reduceBEq,Nat.reduceLeDiff,Nat.reduceAdd]
  exact fin (decide_eq_true (hev.2 f2))
def zKo(g:List (List Int))(j:Nat):List Int:=g.map fun r=>r.getD j 0
theorem zPc{p:PR}{g:List (List Int)}{L N j:Nat}(hN:p.regs.toNat=N)(hgN:g.length≤N)(hg: ∀r,r∈g→r.length=L)(hj:j<L):
 RR (fun(a:List Int) (x:Int)=>a.length=L∧a.getD j 0=x) N [] 0 (zAu p g L) (zKo g j++List.replicate (p.regs.toNat-(zKo g j).length) 0):=by
 have hc:(zKo g j).length=g.length:=by simp[zKo]
 refine⟨by simp[zAu];omega,by simp[hc];omega,fun i hi=>?_⟩
 unfold zAu
 rw[hc,hN]
 by_cases h:i<g.length
 ·have e1:(g++List.replicate (N-g.length) (List.replicate L 0)).getD i []=g[i]:=by
   simp[List.getD_eq_getElem?_getD,List.getElem?_append_left h,h]
  have e2:(zKo g j++List.replicate (N-g.length) 0).getD i 0=(g[i]).getD j 0:=by
   rw[List.getD_eq_getElem?_getD,List.getElem?_append_left (by omega)];simp[zKo,h]
  rw[e1,e2];exact⟨hg _ (List.getElem_mem h),rfl⟩
 ·have e1:(g++List.replicate (N-g.length) (List.replicate L 0)).getD i []=List.replicate L 0:=by
   rw[List.getD_eq_getElem?_getD,List.getElem?_append_right (by omega),List.getElem?_replicate,if_pos (by omega)];rfl
  have e2:(zKo g j++List.replicate (N-g.length) 0).getD i 0=0:=by
   rw[List.getD_eq_getElem?_getD,List.getElem?_append_right (by omega),List.getElem?_replicate,if_pos (by omega)];rfl
  rw[e1,e2]
  exact⟨by simp,by simp[List.getD_eq_getElem?_getD,hj]⟩
theorem zQ5{p:PR}{g:List (List Int)}{L:Nat}(hr:zBV p)(hlen:(g.length:Int)=p.ins)(hg: ∀r,r∈g→r.length=L)(hf: ¬(zCG p g L).length<p.code.length){j:Nat}(hj:j<L){m:Nat}(hm:m<p.outs.length):
 ((zBm p g L)[m]'(by simpa[zBm]using hm)).length=L∧((zBm p g L)[m]'(by simpa[zBm]using hm)).getD j 0=(zJR p (zKo g j))[m]'(by simpa[zJR]using hm):=by
 have hh:=hr.1
 unfold zC5 at hh
 obtain⟨N,hN⟩: ∃N:Nat,p.regs=(N:Int):=⟨p.regs.toNat,by omega⟩
 have h3:=(zRO (N:=N) (R:=fun(a:List Int) (x:Int)=>a.length=L∧a.getD j 0=x) (d:=doR) (d':=doZ) (z:=[]) (z':=0) p.code _ _ (fun i hi=>by rw[← hN];exact hr.2.2 i hi) (by
  rintro i hi a b _ _ x ⟨la,rfl⟩ ⟨lb,rfl⟩ hx
  exact⟨x.getD j 0,zM0 (la.trans lb.symm) hx (by omega),(zG2 (la.trans lb.symm) hx).trans la,rfl⟩) (zPc (p:=p) (g:=g) (by omega) (by omega) hg hj)).2.2 (by
   have:=zIh (d:=doR) (z:=[]) p.code (zAu p g L)
   unfold zCG at hf;omega)
 have ho:=hr.2.1 _ (List.getElem_mem hm)
 have q:=h3.2.2 (p.outs[m]).toNat (by omega)
 simp only[zBm,zJR,List.getElem_map]
 exact q
theorem zKA{A B:Int}{xs:List Int}{j:Nat}(hx: ∀i,i<xs.length→xs.getD i 0=if i=j then 1 else 0): ∀k,k≤xs.length→zFA A B xs k=if j<k then A^j*B^(xs.length-1-j)else 0
 |0,_=>by simp[zFA]
 |k+1,h=>by
  have ih:=zKA (A:=A) (B:=B) hx k (by omega)
  rw[zFA,ih,hx k (by omega)]
  by_cases e:k=j
  ·subst e;simp
  ·rw[if_neg e]
   by_cases h1:j<k
   ·rw[if_pos h1,if_pos (by omega)];simp
   ·rw[if_neg h1,if_neg (by omega)];simp
theorem zVF{n j:Nat}(hj:j<n):(zKo (zA0 n) j).length=n∧∀i,i<n→(zKo (zA0 n) j).getD i 0=if i=j then 1 else 0:=by
 refine⟨by simp[zKo,zA0],fun i hi=>?_⟩
 have h1:i<(zKo (zA0 n) j).length:=by simpa[zKo,zA0]using hi
 rw[List.getD_eq_getElem?_getD,List.getElem?_eq_getElem h1]
 simp only[zKo,zA0,List.getElem_map,List.getElem_range,Option.getD_some,List.getD_eq_getElem?_getD]
 by_cases e:i=j
 ·subst e;simp[hi]
 ·rw[if_neg e,List.getElem?_set_ne e];simp[hj]
theorem zU6{n:Nat}{l:List Pt}(h1:1≤n)(h8:n≤8)(hp:zEN l):evQ (zB5 n l) n l:=by
 obtain⟨hin,hl1,hl15⟩:=hp
 have hr:=zEL (k:=n) (by omega) h8 (by omega) hl15 hin
 have hs:=zEW (k:=n) (by omega) h8 hin
 have hnd:zJm (zB5 n l).code:=fun i hi=>(hs.1 i hi).2.2.2
 have hol:(zB5 n l).outs.length=l.length:=by simp[zB5]
 refine⟨rfl,hol,hnd,?_⟩
 rw[Int.toNat_natCast]
 have hfull: ¬(zCG (zB5 n l) (zA0 n) n).length<(zB5 n l).code.length:=by
  have:=zEp (zB5 n l).code (zAu (zB5 n l) (zA0 n) n) hnd
  unfold zCG;omega
 have hlR:(zBm (zB5 n l) (zA0 n) n).length=l.length:=by simp[zBm,hol]
 refine List.ext_getElem (by rw[hlR];simp[zDf]) fun m m1 m2=>?_
 have hm:m<l.length:=by omega
 have key: ∀j,j<n→((zBm (zB5 n l) (zA0 n) n)[m]).length=n∧((zBm (zB5 n l) (zA0 n) n)[m]).getD j 0=(l[m]).a^j*(l[m]).b^(n-1-j):=fun j hj=>by
  have q:=zQ5 hr (by rw[zBx];rfl) (fun r hr=>(zCB h8 r hr).1) hfull hj (m:=m) (by omega)
  obtain⟨c1,c2⟩:=zVF (n:=n) hj
  have ho:=(zOb (xs:=zKo (zA0 n) j) (l:=l) (by omega) hin).1
  rw[c1]at ho
  refine⟨q.1,q.2.trans ?_⟩
  simp only[ho,List.getElem_map]
  have:=zKA (A:=(l[m]).a) (B:=(l[m]).b) (xs:=zKo (zA0 n) j) (j:=j) (fun i hi=>c2 i (by omega)) _ (Nat.le_refl _)
  rw[zQ9,this,if_pos (by omega),c1]
 have hlen:=(key 0 (by omega)).1
 refine List.ext_getElem (by simp[zDf,zBP,hlen]) fun j j1 j2=>?_
 have hj:j<n:=by omega
 have k2:=(key j hj).2
 rw[List.getD_eq_getElem?_getD,List.getElem?_eq_getElem j1,Option.getD_some]at k2
 rw[k2]
 simp[zDf,zBP]
theorem zdM{H:AHeap}{ty es bytes m:Nat}{ys:List AV}{t:Bool}{K:AV→AHeap→Prop}(hy:ys.length=m*es)(hc:ys.all AV.cell=true)(hm:0<m)(hb:m*bytes≤281474976710656)(hb2:m≤70368744177664)
 (k: ∀x' H',zBI H ty es m ys x' H'→K x' H'):zK9 H ty es bytes (.seq 0 [] true) (.seq m ys t) K:=by
 refine .inr (.inr (.inr (.inr ⟨hy,hc,?_⟩)))
 refine⟨rfl,by simp,.inl ⟨rfl,hb⟩,by omega,fun e=>absurd e (by omega),fun _ b hb'=>?_⟩
 simp only[Nat.zero_add,List.nil_append]
 exact k _ _ (.inr ⟨hm,hy,b,hb',rfl,rfl⟩)
theorem zLY{l:List Pt}{t:Bool}(hbig:l.length≤8796093021952):PFn Tryz.prog 59 [zDd l t] (zDd l false):=PFn.frozen fun H Q hq=>by
 have hl:(l.flatMap ptC).length=l.length*2:=by rw[zDE (es:=2) (fun _=>rfl)]
 have hc:(l.flatMap ptC).all AV.cell=true:=by
  refine List.all_eq_true.2 fun x hx=>?_
  simp only[List.mem_flatMap,ptC,List.mem_cons,List.not_mem_nil,or_false]at hx
  obtain⟨i,-,rfl|rfl⟩:=hx<;>rfl
 refine zaD (by simp) ?_
 rcases Nat.eq_zero_or_pos l.length with h0|h0
 ·obtain rfl:=List.length_eq_zero_iff.1 h0
  have hn: ∀{g:Bool}{K:AV→Prop},zOp g (zDd [] t) K↔(K (.bool true)∧K (.bool false)):=fun{g K}=>by simp[zOp]
  simp(disch:=first|exact Xe|fail)only[zgZ,hn,↓Xa,Xb,Xc,↓reduceIte,Nat.reduceLT,Nat.reduceEqDiff,Nat.reduceBEq,Nat.reduceLeDiff,Nat.reduceAdd]
  refine⟨?_,?_⟩
  ·simp(disch:=first|exact Xe|fail)only[ze2,↓Xa,Xb,Xc,↓reduceIte,Nat.reduceLT,Nat.reduceEqDiff,Nat.reduceBEq,Nat.reduceLeDiff,Nat.reduceAdd]
   exact SetR.now (hq _ _ zAh)
  ·refine .inl ⟨rfl,rfl,?_⟩
   refine⟨rfl,rfl,by simp,by simp,fun _=>?_,fun e=>absurd e (by simp)⟩
   simp(disch:=first|exact Xe|fail)only[ze2,↓Xa,Xb,Xc,↓reduceIte,Nat.reduceLT,Nat.reduceEqDiff,Nat.reduceBEq,Nat.reduceLeDiff,Nat.reduceAdd]
   exact SetR.now (hq _ _ zAh)
 ·have hn: ∀{g:Bool}{K:AV→Prop},zOp g (zDd l t) K↔K (.bool g):=fun{g K}=>by
   cases l with
   |nil=>simp at h0
   |cons x l=>simp[zOp]
  simp(disch:=first|exact Xe|fail)only[zgZ,hn,↓Xa,Xb,Xc,↓reduceIte,Nat.reduceLT,Nat.reduceEqDiff,Nat.reduceBEq,Nat.reduceLeDiff,Nat.reduceAdd]
  refine zdM hl hc h0 (by omega) (by omega) fun y M hg=>?_
  simp(disch:=first|exact Xe|fail)only[ze2,↓Xa,Xb,Xc,↓reduceIte,Nat.reduceLT,Nat.reduceEqDiff,Nat.reduceBEq,Nat.reduceLeDiff,Nat.reduceAdd]
  exact SetR.now (hq y M hg)
theorem zVN{ng:Bool}{i j:Ins}{K:AV→Prop}:zF7 ng (zFh i) (zFh j) K↔K (.bool (ng !=(decide (i.op=j.op)&&(decide (i.to=j.to)&&(decide (i.a=j.a)&&(decide (i.b=j.b)&&decide (i.c=j.c))))))):=by simp[zF7,zFh]
theorem zH0{p:PR}(hp:p.code.length<9223372036854775808∧p.outs.length<9223372036854775808):PFn Tryz.prog 61 [zCV p,zCV p] (.bool true):=by
 intro H Q hq
 obtain⟨lc,lo⟩:=hp
 refine zYi (by simp) ?_
 simp(disch:=first|exact Xe|fail)only[ziK,zAq,↓Xa,Xb,Xc,↓reduceIte,Nat.reduceLT,Nat.reduceEqDiff,Nat.reduceBEq,Nat.reduceLeDiff,Nat.reduceAdd]
 refine zAD fun p2 n2=>?_
 simp(disch:=first|exact Xe|fail)only[↓Xa,Xb,Xc,↓reduceIte,Nat.reduceLT,Nat.reduceEqDiff,Nat.reduceBEq,Nat.reduceLeDiff,Nat.reduceAdd]
 refine zAD fun p3 n3=>?_
 obtain⟨a32,n3'⟩:=zAB.1 n3
 have d1:decide (p.ins=p.ins)=true:=decide_eq_true rfl
 have d2:decide (p.regs=p.regs)=true:=decide_eq_true rfl
 have d3:decide (((p.code.length:Nat):Int)=((p.code.length:Nat):Int))=true:=decide_eq_true rfl
 have d4:decide (((p.outs.length:Nat):Int)=((p.outs.length:Nat):Int))=true:=decide_eq_true rfl
 have G2:((H.upd p2 (some (.row 25 0 [.int .i64 p.ins,.int .i64 p.regs,zAf p.code false,zAa p.outs false]))).upd p3 (some (.row 25 0 [.int .i64 p.ins,.int .i64 p.regs,zAf p.code false,zAa p.outs false]))) p2=some (.row 25 0 [.int .i64 p.ins,.int .i64 p.regs,zAf p.code false,zAa p.outs false]):=by rw[zAA _ _ (show p2≠p3 from a32.symm),zAC]
 have G3:((H.upd p2 (some (.row 25 0 [.int .i64 p.ins,.int .i64 p.regs,zAf p.code false,zAa p.outs false]))).upd p3 (some (.row 25 0 [.int .i64 p.ins,.int .i64 p.regs,zAf p.code false,zAa p.outs false]))) p3=some (.row 25 0 [.int .i64 p.ins,.int .i64 p.regs,zAf p.code false,zAa p.outs false]):=zAC _ _ _
 have hle:Le H ((H.upd p2 (some (.row 25 0 [.int .i64 p.ins,.int .i64 p.regs,zAf p.code false,zAa p.outs false]))).upd p3 (some (.row 25 0 [.int .i64 p.ins,.int .i64 p.regs,zAf p.code false,zAa p.outs false]))):=((Le.refl H).updB n2).updB n3'
 generalize((H.upd p2 (some (.row 25 0 [.int .i64 p.ins,.int .i64 p.regs,zAf p.code false,zAa p.outs false]))).upd p3 (some (.row 25 0 [.int .i64 p.ins,.int .i64 p.regs,zAf p.code false,zAa p.outs false])))=G at*
 simp(disch:=first|exact Xe|fail)only[G2,G3,zAV,d1,d2,d3,d4,zAZ lc,zAY lo,↓Xa,Xb,Xc,↓reduceIte,Nat.reduceLT,Nat.reduceEqDiff,Nat.reduceBEq,Nat.reduceLeDiff,Nat.reduceAdd]
 refine zAO (fun s:Nat=>⟨[],[(2,.ptr p2 4 0),(3,.ptr p3 4 0),(5,.int .i64 s)],G⟩) (fun s=>s≤p.code.length) (fun s=>p.code.length-s) 0 (Settle.now rfl) (Nat.zero_le _) ?_
 intro s hs0
 by_cases hs:s<p.code.length
 ·have e5: ∀{K:AV→Prop},zF7 true (zFh (p.code[s])) (zFh (p.code[s])) K↔K (.bool false):=fun{K}=>by rw[zVN];simp
  simp(disch:=first|exact Xe|fail)only[G2,G3,zAZ lc,hs,zBN hs,zBb hs,zYz,e5,↓Xa,Xb,Xc,↓reduceIte,Nat.reduceLT,Nat.reduceEqDiff,Nat.reduceBEq,Nat.reduceLeDiff,Nat.reduceAdd]
  exact Settle.now ⟨s+1,by omega,by omega,rfl⟩
 obtain rfl:s=p.code.length:=by omega
 simp(disch:=first|exact Xe|fail)only[G2,zAZ lc,hs,↓Xa,Xb,Xc,↓reduceIte,Nat.reduceLT,Nat.reduceEqDiff,Nat.reduceBEq,Nat.reduceLeDiff,Nat.reduceAdd]
 refine Settle.now ?_
 simp(disch:=first|exact Xe|fail)only[↓Xa,Xb,Xc,↓reduceIte,Nat.reduceLT,Nat.reduceEqDiff,Nat.reduceBEq,Nat.reduceLeDiff,Nat.reduceAdd]
 refine zAO (fun s:Nat=>⟨[],[(2,.ptr p2 4 0),(3,.ptr p3 4 0),(6,.int .i64 s)],G⟩) (fun s=>s≤p.outs.length) (fun s=>p.outs.length-s) 0 (Settle.now rfl) (Nat.zero_le _) ?_
 intro j hj0
 by_cases hj:j<p.outs.length
 ·have e5:decide (p.outs[j]=p.outs[j])=true:=decide_eq_true rfl
  simp(disch:=first|exact Xe|fail)only[G2,G3,zAY lo,hj,zBJ hj,zA3 hj,zAV,e5,↓Xa,Xb,Xc,↓reduceIte,Nat.reduceLT,Nat.reduceEqDiff,Nat.reduceBEq,Nat.reduceLeDiff,Nat.reduceAdd]
  exact Settle.now ⟨j+1,by omega,by omega,rfl⟩
 obtain rfl:j=p.outs.length:=by omega
 simp(disch:=first|exact Xe|fail)only[G2,zAY lo,hj,↓Xa,Xb,Xc,↓reduceIte,Nat.reduceLT,Nat.reduceEqDiff,Nat.reduceBEq,Nat.reduceLeDiff,Nat.reduceAdd]
 refine Settle.now ?_
 simp(disch:=first|exact Xe|fail)only[zh0,↓Xa,Xb,Xc,↓reduceIte,Nat.reduceLT,Nat.reduceEqDiff,Nat.reduceBEq,Nat.reduceLeDiff,Nat.reduceAdd]
 exact SetR.dropTo hle (SetR.now hq)
theorem Wk.prg{p:PR}{a b:Bool}:Wk (AV.agg [.int .i64 p.ins,.int .i64 p.regs,zAf p.code a,zAa p.outs b]) (zCV p):=fun c v he=>by
 cases he with
 |agg _ vs hlen hc=>
  refine .agg _ _ hlen fun i hi hi'=>?_
  have:=hc i hi hi'
  match i,hi with
  |0,_=>exact this
  |1,_=>exact this
  |2,_=>exact zCH _ _ this
  |3,_=>exact zCH _ _ this
theorem zFl(k:Int)(l:List Pt)(ml: ∀n,n∈l→n.ok)(ll:l.length≤8796093021952)(hk: -9223372036854775808≤k∧k<9223372036854775808){H:AHeap}{Q:AV→AHeap→Prop}(hT:Tz64H H)(hq:Q (.bool true) H):Run Tryz.prog 10 [.int .i64 k,zDd l false] H Q:=by
 have hl:l.length<9223372036854775808:=by omega
 refine zYP (by simp) ?_
 simp(disch:=first|exact Xe|fail)only[zhv,↓Xa,Xb,Xc,↓reduceIte,Nat.reduceLT,Nat.reduceEqDiff,Nat.reduceBEq,Nat.reduceLeDiff,Nat.reduceAdd]
 refine zAM (zLF hT ?_)
 simp(disch:=first|exact Xe|fail)only[↓Xa,Xb,Xc,↓reduceIte,Nat.reduceLT,Nat.reduceEqDiff,Nat.reduceBEq,Nat.reduceLeDiff,Nat.reduceAdd]
 refine(zLY (l:=l) (t:=false) (by omega)).call ?_
 simp(disch:=first|exact Xe|fail)only[↓Xa,Xb,Xc,↓reduceIte,Nat.reduceLT,Nat.reduceEqDiff,Nat.reduceBEq,Nat.reduceLeDiff,Nat.reduceAdd]
 refine zAM (zDT hT hl ?_)
 simp(disch:=first|exact Xe|fail)only[↓Xa,Xb,Xc,↓reduceIte,Nat.reduceLT,Nat.reduceEqDiff,Nat.reduceBEq,Nat.reduceLeDiff,Nat.reduceAdd]
 refine zAD fun p5 n5=>?_
 simp(disch:=first|exact Xe|fail)only[zAq,↓Xa,Xb,Xc,↓reduceIte,Nat.reduceLT,Nat.reduceEqDiff,Nat.reduceBEq,Nat.reduceLeDiff,Nat.reduceAdd]
 have hl5: ∀{x:ABlk},Le H (H.upd p5 (some x)):=(Le.refl H).updB n5
 refine zAM (zDT (hT.le hl5) hl ?_)
 simp(disch:=first|exact Xe|fail)only[↓Xa,Xb,Xc,↓reduceIte,Nat.reduceLT,Nat.reduceEqDiff,Nat.reduceBEq,Nat.reduceLeDiff,Nat.reduceAdd]
 refine zAD fun p7 n7=>?_
 obtain⟨a75,n7'⟩:=zAB.1 n7
 simp(disch:=first|exact Xe|fail)only[zAq,↓Xa,Xb,Xc,↓reduceIte,Nat.reduceLT,Nat.reduceEqDiff,Nat.reduceBEq,Nat.reduceLeDiff,Nat.reduceAdd]
 have hpo:(prA k l).ok:=zRo (by omega)
 generalize hP:prA k l=P at*
 have G5:((H.upd p5 (some (.row 25 0 [.int .i64 P.ins,.int .i64 P.regs,zAf P.code false,zAa P.outs false]))).upd p7 (some (.row 25 0 [.int .i64 P.ins,.int .i64 P.regs,zAf P.code false,zAa P.outs false]))) p5=some (.row 25 0 [.int .i64 P.ins,.int .i64 P.regs,zAf P.code false,zAa P.outs false]):=by rw[zAA _ _ (show p5≠p7 from a75.symm),zAC]
 have G7:((H.upd p5 (some (.row 25 0 [.int .i64 P.ins,.int .i64 P.regs,zAf P.code false,zAa P.outs false]))).upd p7 (some (.row 25 0 [.int .i64 P.ins,.int .i64 P.regs,zAf P.code false,zAa P.outs false]))) p7=some (.row 25 0 [.int .i64 P.ins,.int .i64 P.regs,zAf P.code false,zAa P.outs false]):=zAC _ _ _
 have hle:Le H ((H.upd p5 (some (.row 25 0 [.int .i64 P.ins,.int .i64 P.regs,zAf P.code false,zAa P.outs false]))).upd p7 (some (.row 25 0 [.int .i64 P.ins,.int .i64 P.regs,zAf P.code false,zAa P.outs false]))):=((Le.refl H).updB n5).updB n7'
 generalize((H.upd p5 (some (.row 25 0 [.int .i64 P.ins,.int .i64 P.regs,zAf P.code false,zAa P.outs false]))).upd p7 (some (.row 25 0 [.int .i64 P.ins,.int .i64 P.regs,zAf P.code false,zAa P.outs false])))=G at*
 have fin: ∀{M:AHeap},Le G M→SetR Q (.bool true) M:=fun{M} hm=>SetR.dropTo (hle.trans hm) (SetR.now hq)
 refine(zQB (k:=k) (l:=l) (t:=false) hl).call ?_
 have hpc:=hpo.2.2.2.1
 have hpou:=hpo.2.2.2.2.2
 have lc:P.code.length<9223372036854775808:=by omega
 have lo:P.outs.length<9223372036854775808:=by omega
 by_cases hK:zC9 k l
 rotate_right
 ·have e0:prA k l=⟨0,0,[],[]⟩:=if_neg hK
  have e2:prE k l=2:=if_neg hK
  have d2:decide (((2:Nat):Int)=((2:Nat):Int))=true:=decide_eq_true rfl
  rw[e0]at hP
  subst hP
  simp(disch:=first|exact Xe|fail)only[decide_eq_false hK,e2,zAF,d2,G5,zBL,↓Xa,Xb,Xc,↓reduceIte,Nat.reduceLT,Nat.reduceEqDiff,Nat.reduceBEq,Nat.reduceLeDiff,Nat.reduceAdd]
  refine zAM (Run.wk (zH0 (p:=⟨0,0,[],[]⟩) ⟨by decide,by decide⟩ _ _ ?_) (.cons Wk.refl (.cons (Wk.prg (p:=⟨0,0,[],[]⟩) (a:=true) (b:=true)) .nil)))
  simp(disch:=first|exact Xe|fail)only[zf6,↓Xa,Xb,Xc,↓reduceIte,Nat.reduceLT,Nat.reduceEqDiff,Nat.reduceBEq,Nat.reduceLeDiff,Nat.reduceAdd]
  exact fin (Le.refl _)
 obtain⟨n,rfl⟩: ∃n:Nat,k=(n:Int):=⟨k.toNat,by have:=hK.1;omega⟩
 have h15:=hK.2.2.2
 have hn1:1≤n:=by have:=hK.1;omega
 have hn8:n≤8:=by have:=hK.1;omega
 have e0:prA ((n:Nat):Int) l=zB5 n l:=by rw[prA,if_pos hK];rfl
 have e2:prE ((n:Nat):Int) l=0:=if_pos hK
 have hr:=zEL (k:=n) (by omega) hn8 (by have:=hK.2.2.1;omega) h15 hK.2.1
 have hs:=zEW (k:=n) (by omega) hn8 hK.2.1
 have hev:=zU6 hn1 hn8 hK.2
 have hrg:(zB5 n l).regs=((n+l.length+1:Nat):Int):=rfl
 rw[e0]at hP
 rw[hP]at hr hs hev hrg
 have d0:decide (((0:Nat):Int)=((0:Nat):Int))=true:=rfl
 simp(disch:=first|exact Xe|fail)only[decide_eq_true hK,e2,zAV,d0,G5,G7,zBL,↓Xa,Xb,Xc,↓reduceIte,Nat.reduceLT,Nat.reduceEqDiff,Nat.reduceBEq,Nat.reduceLeDiff,Nat.reduceAdd]
 refine(zH0 ⟨lc,lo⟩).call ?_
 simp(disch:=first|exact Xe|fail)only[G5,zBL,↓Xa,Xb,Xc,↓reduceIte,Nat.reduceLT,Nat.reduceEqDiff,Nat.reduceBEq,Nat.reduceLeDiff,Nat.reduceAdd]
 refine(zNx P hpo).call ?_
 simp(disch:=first|exact Xe|fail)only[decide_eq_true hr,G5,zBL,↓Xa,Xb,Xc,↓reduceIte,Nat.reduceLT,Nat.reduceEqDiff,Nat.reduceBEq,Nat.reduceLeDiff,Nat.reduceAdd]
 refine(zIR (p:=P) (n:=n) (l:=l) (t:=false) hpo hr hn1 hn8 hK.2).call ?_
 simp(disch:=first|exact Xe|fail)only[decide_eq_true hev,G5,zAZ lc,↓Xa,Xb,Xc,↓reduceIte,Nat.reduceLT,Nat.reduceEqDiff,Nat.reduceBEq,Nat.reduceLeDiff,Nat.reduceAdd]
 refine zAO (fun s:Nat=>⟨[],[(0,.int .i64 (n:Int)),(1,zDd l false),(5,.ptr p5 4 0),(66,zAf P.code false),(67,.int .i64 (P.code.length:Int)),(68,.int .i64 s)],G⟩) (fun s=>s≤P.code.length) (fun s=>P.code.length-s) 0 (Settle.now rfl) (Nat.zero_le _) ?_
 intro s hs0
 by_cases hsl:s<P.code.length
 ·simp(disch:=first|exact Xe|fail)only[hsl,zBN hsl,zBb hsl,↓Xa,Xb,Xc,↓reduceIte,Nat.reduceLT,Nat.reduceEqDiff,Nat.reduceBEq,Nat.reduceLeDiff,Nat.reduceAdd]
  refine zAD fun p10 n10=>?_
  have hsm:=hs.1 _ (List.getElem_mem hsl)
  generalize P.code[s]=i at*
  simp(disch:=first|exact Xe|fail)only[zAr,↓Xa,Xb,Xc,↓reduceIte,Nat.reduceLT,Nat.reduceEqDiff,Nat.reduceBEq,Nat.reduceLeDiff,Nat.reduceAdd]
  have g10:(G.upd p10 (some (.row 76 0 [.int .i64 i.op,.int .i64 i.to,.int .i64 i.a,.int .i64 i.b,.int .i64 i.c]))) p10=some (.row 76 0 [.int .i64 i.op,.int .i64 i.to,.int .i64 i.a,.int .i64 i.b,.int .i64 i.c]):=zAC _ _ _
  have l10:Le G (G.upd p10 (some (.row 76 0 [.int .i64 i.op,.int .i64 i.to,.int .i64 i.a,.int .i64 i.b,.int .i64 i.c]))):=(Le.refl G).updB n10
  generalize(G.upd p10 (some (.row 76 0 [.int .i64 i.op,.int .i64 i.to,.int .i64 i.a,.int .i64 i.b,.int .i64 i.c])))=M at*
  obtain⟨_,s5,s7,_,_⟩:=hsm
  have cl0: ∀{b:Bool},b=true→b=true:=fun h=>h
  by_cases o5:i.op=5
  ·have a1:decide (i.op=((5:Nat):Int))=true:=decide_eq_true (by rw[o5];rfl)
   have a2:decide (i.c<(-16:Int))=false:=decide_eq_false (by have:=s5 o5;omega)
   have a3:decide (((16:Nat):Int)<i.c)=false:=decide_eq_false (by have:=s5 o5;omega)
   have a4:decide (i.op=((7:Nat):Int))=false:=decide_eq_false (by rw[o5];decide)
   simp(disch:=first|exact Xe|fail)only[g10,zAF,zAN,zAb,a1,a2,a3,a4,↓Xa,Xb,Xc,↓reduceIte,Nat.reduceLT,Nat.reduceEqDiff,Nat.reduceBEq,Nat.reduceLeDiff,Nat.reduceAdd]
   exact Settle.dropTo l10 (Settle.now ⟨s+1,by omega,by omega,rfl⟩)
  ·have a1:decide (i.op=((5:Nat):Int))=false:=decide_eq_false o5
   by_cases o7:i.op=7
   ·have a4:decide (i.op=((7:Nat):Int))=true:=decide_eq_true (by rw[o7];rfl)
    have a5:decide (((4:Nat):Int)<i.c)=false:=decide_eq_false (by have:=s7 o7;omega)
    simp(disch:=first|exact Xe|fail)only[g10,zAF,zAN,zAb,a1,a4,a5,↓Xa,Xb,Xc,↓reduceIte,Nat.reduceLT,Nat.reduceEqDiff,Nat.reduceBEq,Nat.reduceLeDiff,Nat.reduceAdd]
    exact Settle.dropTo l10 (Settle.now ⟨s+1,by omega,by omega,rfl⟩)
   ·have a4:decide (i.op=((7:Nat):Int))=false:=decide_eq_false o7
    simp(disch:=first|exact Xe|fail)only[g10,zAF,zAN,zAb,a1,a4,↓Xa,Xb,Xc,↓reduceIte,Nat.reduceLT,Nat.reduceEqDiff,Nat.reduceBEq,Nat.reduceLeDiff,Nat.reduceAdd]
    exact Settle.dropTo l10 (Settle.now ⟨s+1,by omega,by omega,rfl⟩)
 obtain rfl:s=P.code.length:=by omega
 simp(disch:=first|exact Xe|fail)only[hsl,↓Xa,Xb,Xc,↓reduceIte,Nat.reduceLT,Nat.reduceEqDiff,Nat.reduceBEq,Nat.reduceLeDiff,Nat.reduceAdd]
 refine Settle.now ?_
 have q1:decide (n+l.length≤n+l.length+1)=true:=decide_eq_true (by omega)
 have hcl:P.code.length≤l.length*(n*(n+3)) / 2:=by
  have e:n*(n+3)=2*(n*(n+3) / 2):=by
   have:n*(n+3)%2=0:=by
    rcases Nat.mod_two_eq_zero_or_one n with h|h
    ·rw[Nat.mul_mod,h];simp
    ·rw[Nat.mul_mod,Nat.add_mod,h]
   omega
  have h2:=hs.2
  rw[e,Nat.mul_left_comm,Nat.mul_div_cancel_left _ (by decide)]
  exact h2
 have bb1:l.length*n≤120:=Nat.le_trans (Nat.mul_le_mul h15 hn8) (by decide)
 have bb2:l.length*n*(n+3)≤1320:=Nat.le_trans (Nat.mul_le_mul bb1 (show n+3≤11 by omega)) (by decide)
 rw[← Nat.mul_assoc]at hcl
 have q2:decide (P.code.length≤l.length*n*(n+3) / 2)=true:=decide_eq_true hcl
 simp(disch:=first|exact Xe|fail)only[G5,hrg,zAZ lc,zBE hl,q1,q2,↓Xa,Xb,Xc,↓reduceIte,Nat.reduceLT,Nat.reduceEqDiff,Nat.reduceBEq,Nat.reduceLeDiff,Nat.reduceAdd]
 refine⟨by decide,?_⟩
 simp(disch:=first|exact Xe|fail)only[zf6,↓Xa,Xb,Xc,↓reduceIte,Nat.reduceLT,Nat.reduceEqDiff,Nat.reduceBEq,Nat.reduceLeDiff,Nat.reduceAdd]
 exact fin (Le.refl _)
end Go.Proofs.YtmndejlpfmmaiaaGreatDoor.Fw
