/- The texts Ye Kf Kg Qn Qa Qb Eb Ec Ed Nc Ta Ua Ub Ym Al10 Al12, joined. -/
import Derived.Test.YtmndejlpfmmaiaaGreatDoorZ6
set_option linter.unusedSimpArgs false
set_option linter.unusedVariables false
namespace Go.Proofs.YtmndejlpfmmaiaaGreatDoor.Fw
open Go Go.Proofs.YtmndejlpfmmaiaaGreatDoor.Ma
set_option maxRecDepth 20000
def zKo(i:Nat)(l:List UInt8):List UInt8:=(List.range l.length).map fun j=>if j<i∨l.length-i≤j then l.getD (l.length-1-j) 0 else l.getD j 0
theorem zDB(i:Nat)(l:List UInt8):(zKo i l).length=l.length:=by simp[zKo]
theorem zQ0(l:List UInt8):zKo 0 l=l:=by
 refine List.ext_getElem (zDB 0 l) fun j h1 h2=>?_
 simp only[zKo,List.getElem_map,List.getElem_range]
 rw[if_neg (by omega),List.getD_eq_getElem?_getD,List.getElem?_eq_getElem h2,Option.getD_some]
theorem zEh{i j:Nat}{l:List UInt8}(h:j<l.length):(zKo i l).getD j 0=if j<i∨l.length-i≤j then l.getD (l.length-1-j) 0 else l.getD j 0:=by
 rw[List.getD_eq_getElem?_getD,List.getElem?_eq_getElem (by rw[zDB];exact h),Option.getD_some]
 simp[zKo]
theorem zOi{i:Nat}{l:List UInt8}(h:l.length≤2*i+1):zKo i l=l.reverse:=by
 refine List.ext_getElem (by simp[zDB]) fun j h1 h2=>?_
 have hj:j<l.length:=by simpa using h2
 have e:=zEh (i:=i) hj
 rw[List.getD_eq_getElem?_getD,List.getElem?_eq_getElem h1,Option.getD_some]at e
 rw[e,List.getElem_reverse]
 have hk:l.length-1-j<l.length:=by omega
 by_cases c:j<i∨l.length-i≤j
 ·rw[if_pos c,List.getD_eq_getElem?_getD,List.getElem?_eq_getElem hk,Option.getD_some]
 ·rw[if_neg c,List.getD_eq_getElem?_getD,List.getElem?_eq_getElem hj,Option.getD_some]
  congr 1
  omega
theorem zPJ{i:Nat}{l:List UInt8}(h:i<l.length / 2):((zKo i l).set i (l.getD (l.length-1-i) 0)).set (l.length-1-i) (l.getD i 0)=zKo (i+1) l:=by
 refine List.ext_getElem (by simp[zDB]) fun j h1 h2=>?_
 have hj:j<l.length:=by simpa[zDB]using h2
 have e2:=zEh (i:=i+1) hj
 have e1:=zEh (i:=i) hj
 rw[List.getD_eq_getElem?_getD,List.getElem?_eq_getElem h2,Option.getD_some]at e2
 rw[e2]
 simp only[List.getElem_set]
 by_cases c1:l.length-1-i=j
 ·rw[if_pos c1,if_pos (by omega),← c1];congr 1;omega
 ·rw[if_neg c1]
  by_cases c2:i=j
  ·rw[if_pos c2,if_pos (by omega),c2]
  ·rw[if_neg c2]
   rw[List.getD_eq_getElem?_getD,List.getElem?_eq_getElem (by rw[zDB];exact hj),Option.getD_some]at e1
   rw[e1]
   by_cases c3:j<i∨l.length-i≤j
   ·rw[if_pos c3,if_pos (by omega)]
   ·rw[if_neg c3,if_neg (by omega)]
theorem zbz{n:Nat}(h:n<65536):digs 65536 n=if n=0 then[]else[n]:=by
 split
 ·rename_i e;rw[e,zAL]
 ·rename_i e;rw[zAf (by omega) (by omega),Nat.mod_eq_of_lt h,Nat.div_eq_of_lt h,zAL]
theorem zJJ(l:List UInt8)(i:Nat)(h:i<l.length):(Bt l).drop i=.int .u8 (((l.getD i 0).toNat:Nat):Int)::(Bt l).drop (i+1):=by
 rw[List.drop_eq_getElem_cons (by simpa[zCC]using h)]
 congr 1
 simp[Bt,List.getD_eq_getElem?_getD,List.getElem?_eq_getElem h]
theorem zaS{K:AV→Prop}{L off ty es:Nat}{l:List UInt8}(hL:l.length=L)(h:off<L):ldP none L off K (some (.row ty es (Bt l)))=K (.int .u8 (((l.getD off 0).toNat:Nat):Int)):=by
 subst hL
 have:off+1≤l.length:=h
 simp[ldP,this,zJJ l off h,ldC,zCC]
theorem zQx{off c:Nat}{l:List UInt8}(h:off<l.length)(hc:c<256):zAh (Bt l) off [.int .u8 (c:Int)]=Bt (l.set off (UInt8.ofNat c)):=by
 have e2:(AV.int .u8 (c:Int))=.int .u8 (((UInt8.ofNat c).toNat:Nat):Int):=by
  rw[UInt8.toNat_ofNat',Nat.mod_eq_of_lt hc]
 rw[e2]
 unfold zAh Bt
 rw[List.map_set,List.set_eq_take_append_cons_drop]
 simp[h]
theorem zYH{b L off ty es c:Nat}{l:List UInt8}{K:AV→List Nat→Option (Nat×ABlk)→Prop}(hL:l.length=L)(h:off<L)(hc:c<256):zZE 1 b L off K (some [.int .u8 (c:Int)]) (some (.row ty es (Bt l)))=K .bot [b] (some (b,.row ty es (Bt (l.set off (UInt8.ofNat c))))):=by
 subst hL
 have h1:off+1≤l.length:=h
 simp[zZE,zCC,h1,zQx h hc]
theorem zX5{H:AHeap}{x:Nat}{K:AV→Prop}:zA9 H none (.cptr (U [x])) K=K (.int .u32 (x:Int)):=by simp[zA9,zA4,U]
theorem zSO{K:AV→Prop}:zDr false (.seq 0 [] true) K=K (.int .i64 ((0:Nat):Int)):=by simp[zDr]
theorem zIK{x:Int}{k:Nat}(t:Bool)(hx:Bd k x)(hk:k≤1000000):PFn Tryz.prog 68 [zDg x t] (Sx (zFP x)):=by
 intro H Q hq
 have hdt:=zOT hx
 have hl:=hx.rlen
 obtain⟨N,hN⟩: ∃N,N=x.natAbs:=⟨_,rfl⟩
 have hd10:(digs 10 N).length≤10*k+1:=by
  rw[hN];unfold zIw at hdt
  split at hdt
  ·rename_i e;rw[e,zAL];simp
  ·simpa[dec]using hdt
 refine zXs (by simp) ?_
 obtain⟨neg,hneg⟩: ∃b,b=decide (x<0):=⟨_,rfl⟩
 simp(disch:=first|exact Xe|fail)only[zY4,zDg,← hN,← hneg,↓Xa,Xb,Xc,↓reduceIte,Nat.reduceLT,Nat.reduceEqDiff,Nat.reduceBEq,Nat.reduceLeDiff,Nat.reduceAdd,Nat.reduceMul]
 refine zAD fun p1 hp1=>?_
 have n1:=hp1
 simp(disch:=first|exact Xe|fail)only[↓Xa,Xb,Xc,↓reduceIte,Nat.reduceLT,Nat.reduceEqDiff,Nat.reduceBEq,Nat.reduceLeDiff,Nat.reduceAdd,Nat.reduceMul]
 refine zAO (fun s:Nat×Bool×List Nat×AV×AHeap=>⟨[],[(1,.ptr p1 2 0),(3,s.2.2.2.1),(4,LS (digs 65536 s.1) s.2.1)],s.2.2.2.2⟩)
  (fun s=>s.1≤N∧digs 10 N=s.2.2.1++digs 10 s.1∧zA7 (H.upd p1 (some (.row 44 0 [.bool (neg),LS (digs 65536 N) t]))) 5 1 s.2.2.1.length (Bt (s.2.2.1.map chD)) s.2.2.2.1 s.2.2.2.2) (fun s=>s.1) (N,t,[],.seq 0 [] true,_) (Settle.now rfl) ⟨Nat.le_refl _,rfl,zAl⟩ ?_
 rintro⟨n,t',ds,y,H'⟩ ⟨hn,hds,hg⟩
 dsimp only at hn hds hg ⊢
 have hnl:(digs 65536 n).length≤2*k:=zAu (by omega) _ _ (Nat.lt_of_le_of_lt hn (by
  rw[hN]
  have h:x.natAbs<4294967296^k:=hx
  rwa[show(4294967296:Nat)=65536^2 from rfl,← Nat.pow_mul]at h))
 have hdsl:ds.length+(digs 10 n).length≤10*k+1:=by rw[hds,List.length_append]at hd10;exact hd10
 rcases Nat.eq_zero_or_pos n with rfl|hpos
 ·rw[zAL,List.append_nil]at hds
  subst hds
  simp(disch:=first|exact Xe|fail)only[zAL,List.length_nil,↓Xa,Xb,Xc,↓reduceIte,Nat.reduceLT,Nat.reduceEqDiff,Nat.reduceBEq,Nat.reduceLeDiff,Nat.reduceAdd,Nat.reduceMul]
  refine Settle.now ?_
  have hmap:((digs 10 N).map chD).reverse=dec N:=by rw[← List.map_reverse];rfl
  rcases hg with⟨h0,hc,rfl,rfl⟩|⟨hn0,hcl,b,hb,rfl,rfl⟩
  ·have hN0:N=0:=by
    rcases Nat.eq_zero_or_pos N with e|e
    ·exact e
    ·rw[zAf (by omega) e]at h0;simp at h0
   have hx0:x=0:=by omega
   simp(disch:=first|exact Xe|fail)only[zSO,zFt,zdF,↓Xa,Xb,Xc,↓reduceIte,Nat.reduceLT,Nat.reduceEqDiff,Nat.reduceBEq,Nat.reduceLeDiff,Nat.reduceAdd,Nat.reduceMul]
   refine SetR.dropTo ((Le.refl H).upd n1) (SetR.now ?_)
   rw[hx0]at hq
   exact hq
  ·have hn0': ¬(digs 10 N).length=0:=by omega
   have hbp:=(zAB.1 hb).1
   have hN0:N≠0:=by rintro rfl;rw[zAL]at hn0;simp at hn0
   have tail: ∀(m:List UInt8)(b:Nat),(H.upd p1 (some (.row 44 0 [.bool (neg),LS (digs 65536 N) t]))) b=none→m.length≤10*k+2→m.reverse=zFP x→
    W Tryz.prog (zBV (zBV (zBV (zBV (zBV (zBV zY4)))))) (zFF zdF Q) ⟨[],[(3,.own b m.length 0 m.length false)],(H.upd p1 (some (.row 44 0 [.bool (neg),LS (digs 65536 N) t]))).upd b (some (.row 5 1 (Bt m)))⟩:=by
    intro m b hb hm hrev
    simp(disch:=first|exact Xe|fail)only[zBV,zY4,↓Xa,Xb,Xc,↓reduceIte,Nat.reduceLT,Nat.reduceEqDiff,Nat.reduceBEq,Nat.reduceLeDiff,Nat.reduceAdd,Nat.reduceMul]
    refine zAO (fun i:Nat=>⟨[],[(3,.own b m.length 0 m.length false),(8,.int .i64 (i:Int))],(H.upd p1 (some (.row 44 0 [.bool (neg),LS (digs 65536 N) t]))).upd b (some (.row 5 1 (Bt (zKo i m))))⟩) (fun i=>i≤m.length / 2) (fun i=>m.length / 2-i) 0 (Settle.now (by rw[zQ0])) (Nat.zero_le _) ?_
    intro i hi
    have hlr:=zDB i m
    have hbl:(Bt (zKo i m)).length=m.length:=by rw[zCC,hlr]
    by_cases hlt:i<m.length / 2
    ·have hi2:i<m.length:=by omega
     have hlr2:((zKo i m).set i (UInt8.ofNat ((zKo i m).getD (m.length-1-i) 0).toNat)).length=m.length:=by simp[hlr]
     have u1:((zKo i m).getD (m.length-1-i) 0).toNat<256:=UInt8.toNat_lt _
     have u2:((zKo i m).getD i 0).toNat<256:=UInt8.toNat_lt _
     simp(disch:=first|exact Xe|fail)only[len_ownk,hlt,zaS,zYH,zVk,↓Xa,Xb,Xc,↓reduceIte,Nat.reduceLT,Nat.reduceEqDiff,Nat.reduceBEq,Nat.reduceLeDiff,Nat.reduceAdd,Nat.reduceMul]
     refine⟨by decide,by rw[zCC];exact hlr2,Settle.now ⟨i+1,by omega,by omega,?_⟩⟩
     rw[UInt8.ofNat_toNat,UInt8.ofNat_toNat,zEh (by omega),if_neg (by omega),zEh (by omega),if_neg (by omega),zPJ hlt]
    ·simp(disch:=first|exact Xe|fail)only[len_ownk,hlt,↓Xa,Xb,Xc,↓reduceIte,Nat.reduceLT,Nat.reduceEqDiff,Nat.reduceBEq,Nat.reduceLeDiff,Nat.reduceAdd,Nat.reduceMul]
     refine⟨by decide,Settle.now ?_⟩
     rw[zOi (by omega),hrev]
     have hll:(zFP x).length=m.length:=by rw[← hrev,List.length_reverse]
     have e2:(Bt (zFP x)).length=m.length:=by rw[zCC,hll]
     simp(disch:=first|exact Xe|fail)only[↓Xa,Xb,Xc,↓reduceIte,Nat.reduceLT,Nat.reduceEqDiff,Nat.reduceBEq,Nat.reduceLeDiff,Nat.reduceAdd,Nat.reduceMul]
     rw[List.take_of_length_le (by omega),zCL]
     simp(disch:=first|exact Xe|fail)only[zVT,zFt,zdF,↓Xa,Xb,Xc,↓reduceIte,Nat.reduceLT,Nat.reduceEqDiff,Nat.reduceBEq,Nat.reduceLeDiff,Nat.reduceAdd,Nat.reduceMul]
     exact SetR.dropTo ((Le.refl H).upd n1 |>.upd hb) (SetR.now hq)
   cases neg with
   |true=>
    simp(disch:=first|exact Xe|fail)only[len_ownk,hn0',↓Xa,Xb,Xc,↓reduceIte,Nat.reduceLT,Nat.reduceEqDiff,Nat.reduceBEq,Nat.reduceLeDiff,Nat.reduceAdd,Nat.reduceMul]
    refine zFB (.inr ⟨hn0,hcl,b,hb,by rw[Nat.mul_one],rfl⟩) rfl rfl (by omega) (by omega) (by omega) fun y' H2 hg2=>?_
    rcases hg2 with⟨h0,_⟩|⟨_,hcl2,b2,hb2,rfl,rfl⟩
    ·omega
    have tl:=tail ((digs 10 N).map chD++[45]) b2 hb2 (by simp;omega) (by rw[List.reverse_append,hmap];simp[zFP,of_decide_eq_true hneg.symm,← hN,zIw,hN0])
    rw[List.length_append,List.length_map,zOz]at tl
    simp(disch:=first|exact Xe|fail)only[zBV,zY4,List.length_cons,List.length_nil,↓Xa,Xb,Xc,↓reduceIte,Nat.reduceLT,Nat.reduceEqDiff,Nat.reduceBEq,Nat.reduceLeDiff,Nat.reduceAdd,Nat.reduceMul]at tl
    simp(disch:=first|exact Xe|fail)only[↓Xa,Xb,Xc,↓reduceIte,Nat.reduceLT,Nat.reduceEqDiff,Nat.reduceBEq,Nat.reduceLeDiff,Nat.reduceAdd,Nat.reduceMul]
    exact tl
   |false=>
    have tl:=tail ((digs 10 N).map chD) b hb (by simp;omega) (by rw[hmap];simp[zFP,of_decide_eq_false hneg.symm,← hN,zIw,hN0])
    rw[List.length_map]at tl
    simp(disch:=first|exact Xe|fail)only[zBV,zY4,↓Xa,Xb,Xc,↓reduceIte,Nat.reduceLT,Nat.reduceEqDiff,Nat.reduceBEq,Nat.reduceLeDiff,Nat.reduceAdd,Nat.reduceMul]at tl
    simp(disch:=first|exact Xe|fail)only[len_ownk,hn0',↓Xa,Xb,Xc,↓reduceIte,Nat.reduceLT,Nat.reduceEqDiff,Nat.reduceBEq,Nat.reduceLeDiff,Nat.reduceAdd,Nat.reduceMul]
    exact tl
 ·have h10:digs 65536 10=[10]:=by rw[zbz (by omega)];rfl
  have hdv:=zNU (A:=n) (V:=10) t' true (by omega) (by omega) (by rw[h10];simp)
  rw[h10]at hdv
  have hlp:0<(digs 65536 n).length:=by rw[zAf (by omega) hpos];simp
  simp(disch:=first|exact Xe|fail)only[hlp,zdU,↓Xa,Xb,Xc,↓reduceIte,Nat.reduceLT,Nat.reduceEqDiff,Nat.reduceBEq,Nat.reduceLeDiff,Nat.reduceAdd,Nat.reduceMul]
  refine hdv.call ?_
  have hm:n%10<10:=Nat.mod_lt _ (by omega)
  have hlt:n / 10<n:=Nat.div_lt_self hpos (by omega)
  have fin: ∀(y':AV)(H2:AHeap),zA7 (H.upd p1 (some (.row 44 0 [.bool (neg),LS (digs 65536 N) t]))) 5 1 (ds.length+1) (Bt (ds.map chD)++[.int .u8 ((48+n%10:Nat):Int)]) y' H2→
   Settle (fun s'=> ∃x':Nat×Bool×List Nat×AV×AHeap,x'.1<n∧(x'.1≤N∧digs 10 N=x'.2.2.1++digs 10 x'.1∧zA7 (H.upd p1 (some (.row 44 0 [.bool (neg),LS (digs 65536 N) t]))) 5 1 x'.2.2.1.length (Bt (x'.2.2.1.map chD)) x'.2.2.2.1 x'.2.2.2.2)∧s'=⟨[],[(1,.ptr p1 2 0),(3,x'.2.2.2.1),(4,LS (digs 65536 x'.1) x'.2.1)],x'.2.2.2.2⟩)
    ⟨[],[(1,.ptr p1 2 0),(3,y'),(4,LS (digs 65536 (n / 10)) false)],H2⟩:=by
   intro y' H2 h
   refine Settle.now ⟨(n / 10,false,ds++[n%10],y',H2),hlt,⟨by dsimp only;omega,?_,?_⟩,rfl⟩
   ·dsimp only;rw[hds,zAf (by omega) hpos];simp
   ·dsimp only
    rw[List.map_append,zOz,List.length_append]
    rw[zVc (by omega)]at h
    exact h
  have hb13:ds.length≤10000002:=by omega
  clear hd10 hdt hl hnl hdsl
  by_cases hz:n%10=0
  ·have e:digs 65536 (n%10)=[]:=by rw[hz,zAL]
   rw[e]
   simp(disch:=first|exact Xe|fail)only[List.length_nil,zOW,↓Xa,Xb,Xc,↓reduceIte,Nat.reduceLT,Nat.reduceEqDiff,Nat.reduceBEq,Nat.reduceLeDiff,Nat.reduceAdd,Nat.reduceMul]
   refine zFB hg rfl rfl (by omega) (by omega) (by omega) fun y' H2 hg2=>?_
   simp(disch:=first|exact Xe|fail)only[↓Xa,Xb,Xc,↓reduceIte,Nat.reduceLT,Nat.reduceEqDiff,Nat.reduceBEq,Nat.reduceLeDiff,Nat.reduceAdd,Nat.reduceMul]
   exact fin y' H2 (by rw[hz];exact hg2)
  ·have e:digs 65536 (n%10)=[n%10]:=by rw[zbz (by omega),if_neg hz]
   rw[e]
   simp(disch:=first|exact Xe|fail)only[List.length_cons,List.length_nil,zOW,zX5,↓Xa,Xb,Xc,↓reduceIte,Nat.reduceLT,Nat.reduceEqDiff,Nat.reduceBEq,Nat.reduceLeDiff,Nat.reduceAdd,Nat.reduceMul]
   refine zFB (m:=1) (bytes:=1) hg rfl rfl (by omega) (by omega) (by omega) fun y' H2 hg2=>?_
   simp(disch:=first|exact Xe|fail)only[↓Xa,Xb,Xc,↓reduceIte,Nat.reduceLT,Nat.reduceEqDiff,Nat.reduceBEq,Nat.reduceLeDiff,Nat.reduceAdd,Nat.reduceMul]
   exact fin y' H2 hg2
abbrev zBk(zs:List Int)(t:Bool):AV:=.seq zs.length (IC zs) t
def RC(zs:List Int):List AV:=zs.flatMap fun z=>[zG8 z,zRy z]
abbrev zfu(zs:List Int)(t:Bool):AV:=.seq zs.length (RC zs) t
theorem zcF(zs:List Int):(RC zs).length=zs.length*2:=by
 induction zs with
 |nil=>rfl
 |cons a l ih=>simp only[RC,List.flatMap_cons,List.length_append,List.length_cons,List.length_nil]at *; omega
theorem zYv(zs:List Int)(z:Int):RC (zs++[z])=RC zs++[zG8 z,zRy z]:=by simp[RC,List.flatMap_append]
theorem zOX: ∀(l:List Int)(i:Nat)(h:i<l.length),(RC l).drop (i*2)=zG8 (l[i])::zRy (l[i])::(RC l).drop (i*2+2)
 |a::l,0,_=>rfl
 |a::l,i+1,h=>by
  have:=zOX l i (by simpa using h)
  rw[show(i+1)*2=i*2+2 by omega]
  show((zG8 a::zRy a::RC l).drop (i*2+2))=_
  simp only[List.drop_succ_cons,List.getElem_cons_succ]
  rw[this]
  show _=_::_::((zG8 a::zRy a::RC l).drop (i*2+2+2))
  simp only[List.drop_succ_cons]
section
variable {K:AV→Prop} {H:AHeap} {k:IntKind} {t:Bool} {zs:List Int} {i:Nat}
theorem zDy(h:i<zs.length):zBg 2 (.seq zs.length (IC zs) t) (.int k (i:Int)) K=K (.cptr ((IC zs).drop (i*2))):=zHg (zBQ zs) h
theorem zVV(h:i<zs.length):zBg 2 (.seq zs.length (RC zs) t) (.int k (i:Int)) K=K (.cptr ((RC zs).drop (i*2))):=zHg (zcF zs) h
theorem zCi(h:i<zs.length):zA9 H (some 2) (.cptr ((IC zs).drop (i*2))) K=K (zAe (zs[i])):=by
 simp only[zA9,zA4,zFz zs i h];simp[zE2]
theorem zPL(h:i<zs.length):zA9 H (some 2) (.cptr ((RC zs).drop (i*2))) K=K (zDg (zs[i]) false):=by
 simp only[zA9,zA4,zOX zs i h];simp[zDg,zG8,zRy]
end
def RB4(k:Nat)(zs:List Int):Prop:=(∀z,z∈zs→Bd k z)∧zs.length<4611686018427387904
theorem RB4.at{k:Nat}{zs:List Int}(h:RB4 k zs){i:Nat}(hi:i<zs.length):Bd k (zs[i]):=h.1 _ (List.getElem_mem hi)
theorem zGw{a b:AV}:zB8 [a,b] 2=[a,b]:=by simp[zB8,List.range,List.range.loop]
theorem zXO{z:Int}:[zBO z,zBU z].all AV.cell=true:=rfl
theorem zH6{zs:List Int}{i:Nat}(h:i<zs.length):IC (zs.take (i+1))=IC (zs.take i)++[zBO (zs[i]),zBU (zs[i])]:=by
 rw[List.take_add_one,List.getElem?_eq_getElem h,Option.toList_some,zRu]
theorem zHw{f:Go.Fn}{a b:List AV}:(AV.fn f a b).cells=some [.fn f a b]:=id rfl
theorem zFc{P:Program}{f:FuncId}{first caps args:List AV}{H:AHeap}{K:AV→AHeap→Prop}(h:Run P f (first++args++caps) H K):zBn P (.fn (.func f) first caps) args H K:=h
theorem zLj{H:AHeap}{Q:AV→AHeap→Prop}{f:AV}{zs ws:List Int}{t:Bool}{k:Nat}(hz:RB4 k zs)(hlen:ws.length=zs.length)(hbig:zs.length≤1000000)(G:Nat→AHeap)(h0:G 0=H)(hd: ∀i b,G i b=none↔H b=none)
 (hs: ∀i(h:i<zs.length)(M:AHeap)(K:AV→AHeap→Prop),Le (G i) M→(∀M',Le (G (i+1)) M'→(∀b,H b=none→M b≠none→M' b=M b)→K (zAe (ws[i]'(by omega))) M')→zBn Tryz.prog f [zAe (zs[i])] M K)
 (hq: ∀y M,zA7 (G zs.length) 48 2 zs.length (IC ws) y M→Q y M):Run Tryz.prog 192 [zBk zs t,f] H Q:=by
 have nz:zs.length<9223372036854775808:=by have:=hz.2;omega
 refine zR8 (by simp) ?_
 simp(disch:=first|exact Xe|fail)only[zZr,zBE,↓Xa,Xb,Xc,↓reduceIte,Nat.reduceLT,Nat.reduceEqDiff,Nat.reduceBEq,Nat.reduceLeDiff,Nat.reduceAdd,Nat.reduceMul]
 refine zAO (fun s:Nat×AV×AHeap=>⟨[],[(1,f),(5,s.2.1),(8,zBk zs t),(9,.int .i64 (zs.length:Int)),(10,.int .i64 s.1)],s.2.2⟩) (fun s=>s.1≤zs.length∧zA7 (G s.1) 48 2 s.1 (IC (ws.take s.1)) s.2.1 s.2.2) (fun s=>zs.length-s.1) (0,.seq 0 [] true,H) (Settle.now rfl) ⟨Nat.zero_le _,by rw[← h0];exact zAl⟩ ?_
 rintro⟨i,y,M⟩ ⟨h3,hg⟩
 dsimp only at h3 hg ⊢
 by_cases hi:i<zs.length
 ·simp(disch:=first|exact Xe|fail)only[hi,zDy,zCi,↓Xa,Xb,Xc,↓reduceIte,Nat.reduceLT,Nat.reduceEqDiff,Nat.reduceBEq,Nat.reduceLeDiff,Nat.reduceAdd,Nat.reduceMul]
  refine zAD fun q hq1=>?_
  simp(disch:=first|exact Xe|fail)only[zAE,zAF,↓Xa,Xb,Xc,↓reduceIte,Nat.reduceLT,Nat.reduceEqDiff,Nat.reduceBEq,Nat.reduceLeDiff,Nat.reduceAdd,Nat.reduceMul]
  have hg1:=zCT (r:=.row 48 0 [zBO (zs[i]),zBU (zs[i])]) hg hq1
  refine hs i hi _ _ ((zFe hg).upd hq1) fun M' hM' hsame=>?_
  obtain⟨H1,hg2,hl2⟩:=zNy hg1 fun b hb hb2=>hsame b ((hd i b).1 (zAB.1 hb).2) hb2
  simp(disch:=first|exact Xe|fail)only[zGw,zAE,↓Xa,Xb,Xc,↓reduceIte,Nat.reduceLT,Nat.reduceEqDiff,Nat.reduceBEq,Nat.reduceLeDiff,Nat.reduceAdd,Nat.reduceMul]
  refine zFB (m:=1) hg2 rfl zXO (by omega) (by omega) (by omega) fun y' M2 hg3=>?_
  rw[← zH6]at hg3
  obtain⟨M3,hg4,hl4⟩:=zBp hg3 (hl2 _ hM' fun b hb=>(hd (i+1) b).2 ((hd i b).1 (zAB.1 hb).2))
  simp(disch:=first|exact Xe|fail)only[↓Xa,Xb,Xc,↓reduceIte,Nat.reduceLT,Nat.reduceEqDiff,Nat.reduceBEq,Nat.reduceLeDiff,Nat.reduceAdd,Nat.reduceMul]
  exact Settle.dropTo hl4 (Settle.now ⟨(i+1,y',M3),by dsimp only;omega,⟨by dsimp only;omega,hg4⟩,rfl⟩)
 ·obtain rfl:i=zs.length:=by omega
  rw[List.take_of_length_le (by omega)]at hg
  simp(disch:=first|exact Xe|fail)only[hi,↓Xa,Xb,Xc,↓reduceIte,Nat.reduceLT,Nat.reduceEqDiff,Nat.reduceBEq,Nat.reduceLeDiff,Nat.reduceAdd,Nat.reduceMul]
  refine Settle.now ?_
  simp(disch:=first|exact Xe|fail)only[zZo,↓Xa,Xb,Xc,↓reduceIte,Nat.reduceLT,Nat.reduceEqDiff,Nat.reduceBEq,Nat.reduceLeDiff,Nat.reduceAdd,Nat.reduceMul]
  exact SetR.now (hq y M hg)
theorem zJA{H:AHeap}{Q:AV→AHeap→Prop}{f:AV}{zs ws:List Int}{t:Bool}{k:Nat}(hz:RB4 k zs)(hlen:ws.length=zs.length)(hbig:zs.length≤1000000)
 (hs: ∀i(h:i<zs.length)(M:AHeap)(K:AV→AHeap→Prop),Le H M→K (zAe (ws[i]'(by omega))) M→zBn Tryz.prog f [zAe (zs[i])] M K)
 (hq: ∀y M,zA7 H 48 2 zs.length (IC ws) y M→Q y M):Run Tryz.prog 192 [zBk zs t,f] H Q:=
 zLj hz hlen hbig (fun _=>H) rfl (fun _ _=>Iff.rfl) (fun i h M K hl hk=>hs i h M K hl (hk M hl fun _ _ _=>rfl)) hq
theorem zU7{H:AHeap}{Q:AV→AHeap→Prop}{zs:List Int}{t:Bool}{k:Nat}(hz:RB4 k zs)(hk:k≤1000000)(hbig:zs.length≤1000000)(hq: ∀y M,zA7 H 48 2 zs.length (IC (zs.map (- ·))) y M→Q y M):Run Tryz.prog 180 [zBk zs t] H Q:=by
 refine zTy (by simp) ?_
 simp(disch:=first|exact Xe|fail)only[zZ5,↓Xa,Xb,Xc,↓reduceIte,Nat.reduceLT,Nat.reduceEqDiff,Nat.reduceBEq,Nat.reduceLeDiff,Nat.reduceAdd,Nat.reduceMul]
 refine zAM (zJA hz (ws:=zs.map (- ·)) (by simp) hbig (fun i h M K _ hK=>?_) fun y M hg=>?_)
 ·exact(zQr (hz.at h) (by omega)).call (by simpa using hK)
 ·simp(disch:=first|exact Xe|fail)only[zZP,↓Xa,Xb,Xc,↓reduceIte,Nat.reduceLT,Nat.reduceEqDiff,Nat.reduceBEq,Nat.reduceLeDiff,Nat.reduceAdd,Nat.reduceMul]
  exact SetR.now (hq y M hg)
theorem zRW{H:AHeap}{Q:AV→AHeap→Prop}{zs:List Int}{t:Bool}{c:Int}{k k':Nat}(hz:RB4 k zs)(hc:Bd k' c)(hk:k+k'≤1000000)(hbig:zs.length≤1000000)(hq: ∀y M,zA7 H 48 2 zs.length (IC (zs.map (c* ·))) y M→Q y M):Run Tryz.prog 185 [zBk zs t,zAe c] H Q:=by
 refine zTu (by simp) ?_
 simp(disch:=first|exact Xe|fail)only[zbK,zAE,↓Xa,Xb,Xc,↓reduceIte,Nat.reduceLT,Nat.reduceEqDiff,Nat.reduceBEq,Nat.reduceLeDiff,Nat.reduceAdd,Nat.reduceMul]
 refine zAD fun p1 hp1=>?_
 have n1:=hp1
 simp(disch:=first|exact Xe|fail)only[zAF,↓Xa,Xb,Xc,↓reduceIte,Nat.reduceLT,Nat.reduceEqDiff,Nat.reduceBEq,Nat.reduceLeDiff,Nat.reduceAdd,Nat.reduceMul]
 refine zAM (zJA hz (ws:=zs.map (c* ·)) (by simp) hbig (fun i h M K _ hK=>?_) fun y M hg=>?_)
 ·refine zFc ?_
  exact zIR hc (by omega) (hz.at h) (by omega) _ _ (by simpa using hK)
 ·simp(disch:=first|exact Xe|fail)only[zbn,↓Xa,Xb,Xc,↓reduceIte,Nat.reduceLT,Nat.reduceEqDiff,Nat.reduceBEq,Nat.reduceLeDiff,Nat.reduceAdd,Nat.reduceMul]
  obtain⟨M2,hg2,hl⟩:=zBp hg ((Le.refl H).updB n1)
  exact SetR.dropTo hl (SetR.now (hq y M2 hg2))
theorem Le.both{A B:AHeap}{p:Nat}{x:Option ABlk}(h:Le A B):Le (A.upd p x) (B.upd p x):=fun o y ho=>by
 by_cases e:o=p
 ·subst e;rw[zAC]at ho ⊢; exact ho
 ·rw[zAA _ _ e]at ho ⊢; exact h o y ho
theorem zb5{i:Nat}{K:AV→Prop}(h:i<4611686018427387904):zAv .add (.int .i64 ((i:Int)-1)) (.int .i64 ((1:Nat):Int)) K↔K (.int .i64 (i:Int)):=by
 have e:IntKind.i64.wrap ((i:Int)-1+((1:Nat):Int))=(i:Int):=by rw[show((i:Int)-1+((1:Nat):Int))=(i:Int) by omega];exact zCD (by omega) (by omega)
 have: ∀a b:Int,zAv .add (.int .i64 a) (.int .i64 b) K↔K (.int .i64 (IntKind.i64.wrap (a+b))):=fun a b=>by simp[zAv,zAi]
 rw[this,e]
theorem zQS{M:AHeap}{K:AV→AHeap→Prop}{f:AV}{x y z:Int}{ws:List Int}{t':Bool}{i p1 p2 p3 T1 T2 T3:Nat}(m1:M p1=some (.row T1 0 [zBk ws t']))(m2:M p2=some (.row T2 0 [f]))(m3:M p3=some (.row T3 0 [.int .i64 ((i:Int)-1)]))(h1:Ap p1 p3)(h2:Ap p2 p3)
 (hi:i<ws.length) (hb:ws.length≤1000000) (hy:ws[i]=y)
 (hs: ∀(M2:AHeap)(K:AV→AHeap→Prop),Le (M.upd p3 (some (.row T3 0 [.int .i64 (i:Int)]))) M2→K (zAe z) M2→zBn Tryz.prog f [zAe x,zAe y] M2 K)
 (hK:K (zAe z) (M.upd p3 (some (.row T3 0 [.int .i64 (i:Int)])))):Run Tryz.prog 193 [zAe x,.ptr p3 1 0,.ptr p2 1 0,.ptr p1 1 0] M K:=by
 subst hy
 refine zTk (by simp) ?_
 simp(disch:=first|exact Xe|fail)only[zcM,zAE,↓Xa,Xb,Xc,↓reduceIte,Nat.reduceLT,Nat.reduceEqDiff,Nat.reduceBEq,Nat.reduceLeDiff,Nat.reduceAdd,Nat.reduceMul]
 refine zAD fun a ha=>?_
 have a1:=zAS m1 ha
 have a2:=zAS m2 ha
 have a3:=zAS m3 ha
 simp(disch:=first|exact Xe|fail)only[↓Xa,Xb,Xc,↓reduceIte,Nat.reduceLT,Nat.reduceEqDiff,Nat.reduceBEq,Nat.reduceLeDiff,Nat.reduceAdd,Nat.reduceMul]
 refine zAD fun b hb=>?_
 obtain⟨b4,hb'⟩:=zAB.1 hb
 have b1:=zAS m1 hb'
 have b2:=zAS m2 hb'
 have b3:=zAS m3 hb'
 simp(disch:=first|exact Xe|fail)only[m1,m2,m3,zb5,zDy,zCi,zAF,↓Xa,Xb,Xc,↓reduceIte,Nat.reduceLT,Nat.reduceEqDiff,Nat.reduceBEq,Nat.reduceLeDiff,Nat.reduceAdd,Nat.reduceMul]
 have hle:Le (M.upd p3 (some (.row T3 0 [.int .i64 (i:Int)]))) (((M.upd a (some (.row 48 0 [zBO x,zBU x]))).upd b (some (.row 48 0 [.bool false,.seq 0 [] true]))).upd p3 (some (.row T3 0 [.int .i64 (i:Int)]))):=(((Le.refl M).updB ha).updB hb').both
 refine hs _ _ hle ?_
 simp(disch:=first|exact Xe|fail)only[zAE,zAF,zce,↓Xa,Xb,Xc,↓reduceIte,Nat.reduceLT,Nat.reduceEqDiff,Nat.reduceBEq,Nat.reduceLeDiff,Nat.reduceAdd,Nat.reduceMul]
 exact SetR.dropTo (((Le.refl M).updB ha).updB hb').both (SetR.now hK)
theorem zMi{H:AHeap}{Q:AV→AHeap→Prop}{f:AV}{zs ws us:List Int}{t t':Bool}{k:Nat}(hz:RB4 k zs)(hw:RB4 k ws)(hl1:zs.length=ws.length)(hl2:us.length=zs.length)(hbig:zs.length≤1000000)(hfc:f.cells=some [f])
 (hs: ∀i(h:i<zs.length)(M:AHeap)(K:AV→AHeap→Prop),Le H M→K (zAe (us[i]'(by omega))) M→zBn Tryz.prog f [zAe (zs[i]),zAe (ws[i]'(by omega))] M K)
 (hq: ∀y M,zA7 H 48 2 zs.length (IC us) y M→Q (.tup [y,.int .i64 ((0:Nat):Int)]) M):Run Tryz.prog 120 [zBk zs t,zBk ws t',f] H Q:=by
 have nz:zs.length<9223372036854775808:=by have:=hz.2;omega
 have nw:ws.length<9223372036854775808:=by omega
 have hne:decide (((zs.length:Nat):Int)=((ws.length:Nat):Int))=true:=decide_eq_true (by omega)
 refine zUM (by simp) ?_
 simp(disch:=first|exact Xe|fail)only[zcC,↓Xa,Xb,Xc,↓reduceIte,Nat.reduceLT,Nat.reduceEqDiff,Nat.reduceBEq,Nat.reduceLeDiff,Nat.reduceAdd,Nat.reduceMul]
 refine zAD fun p1 hp1=>?_
 have n1:=hp1
 simp(disch:=first|exact Xe|fail)only[hfc,↓Xa,Xb,Xc,↓reduceIte,Nat.reduceLT,Nat.reduceEqDiff,Nat.reduceBEq,Nat.reduceLeDiff,Nat.reduceAdd,Nat.reduceMul]
 refine zAD fun p2 hp2=>?_
 have n2:=hp2
 simp only[zAB]at n2
 obtain⟨_,n2⟩:=n2
 simp(disch:=first|exact Xe|fail)only[zBE,zAU,hne,↓Xa,Xb,Xc,↓reduceIte,Nat.reduceLT,Nat.reduceEqDiff,Nat.reduceBEq,Nat.reduceLeDiff,Nat.reduceAdd,Nat.reduceMul]
 refine zAD fun p3 hp3=>?_
 have n3:=hp3
 simp only[zAB]at n3
 obtain⟨_,_,n3⟩:=n3
 simp(disch:=first|exact Xe|fail)only[↓Xa,Xb,Xc,↓reduceIte,Nat.reduceLT,Nat.reduceEqDiff,Nat.reduceBEq,Nat.reduceLeDiff,Nat.reduceAdd,Nat.reduceMul]
 let G:Nat→AHeap:=fun i=>((H.upd p1 (some (.row 29 0 [zBk ws t']))).upd p2 (some (.row 144 0 [f]))).upd p3 (some (.row 3 0 [.int .i64 ((i:Int)-1)]))
 have hG: ∀i,G i=((H.upd p1 (some (.row 29 0 [zBk ws t']))).upd p2 (some (.row 144 0 [f]))).upd p3 (some (.row 3 0 [.int .i64 ((i:Int)-1)])):=fun _=>rfl
 refine zAM (zLj hz hl2 hbig G (by rw[hG];rfl) (fun i b=>by rw[hG];simp only[zAB]) (fun i h M K hM hK=>?_) fun y M hg=>?_)
 ·have m1:M p1=some (.row 29 0 [zBk ws t']):=hM _ _ (by rw[hG,zAA _ _ (by apply Ne.symm;assumption),zAA _ _ (by apply Ne.symm;assumption),zAC])
  have m2:M p2=some (.row 144 0 [f]):=hM _ _ (by rw[hG,zAA _ _ (by apply Ne.symm;assumption),zAC])
  have m3:M p3=some (.row 3 0 [.int .i64 ((i:Int)-1)]):=hM _ _ (by rw[hG,zAC])
  have hMH:Le H (M.upd p3 (some (.row 3 0 [.int .i64 (i:Int)]))):=fun o x ho=>by
   have e:o≠p3:=by rintro rfl;rw[n3]at ho;cases ho
   rw[zAA _ _ e]
   refine hM o x ?_
   have e1:o≠p1:=by rintro rfl;rw[n1]at ho;cases ho
   have e2:o≠p2:=by rintro rfl;rw[n2]at ho;cases ho
   rw[hG,zAA _ _ e,zAA _ _ e2,zAA _ _ e1];exact ho
  refine zFc (zQS m1 m2 m3 (by apply Ne.symm;assumption) (by apply Ne.symm;assumption) (by omega) (by omega) rfl (fun M2 K2 hM2 hK2=>hs i h M2 K2 (fun o x ho=>hM2 o x (hMH o x ho)) hK2) (hK _ ?_ fun b hb _=>?_))
  ·intro o x ho
   rw[hG]at ho
   by_cases e:o=p3
   ·subst e
    rw[zAC]at ho ⊢
    rw[← ho,show(((i+1:Nat):Int)-1)=(i:Int) by omega]
   ·rw[zAA _ _ e]at ho ⊢
    refine hM o x ?_
    rw[hG,zAA _ _ e];exact ho
  ·exact zAA _ _ (zAB.1 hb).1
 ·have hle:Le H (G zs.length):=by rw[hG];exact(((Le.refl H).updB n1).updB n2).updB n3
  obtain⟨M2,hg2,hl⟩:=zBp hg hle
  simp(disch:=first|exact Xe|fail)only[zbG,↓Xa,Xb,Xc,↓reduceIte,Nat.reduceLT,Nat.reduceEqDiff,Nat.reduceBEq,Nat.reduceLeDiff,Nat.reduceAdd,Nat.reduceMul]
  exact SetR.dropTo hl (SetR.now (hq y M2 hg2))
section
variable {H:AHeap} {Q:AV→AHeap→Prop} {zs ws:List Int} {t t':Bool} {k:Nat}
theorem zFD{f:Int→Int→Int}(h:zs.length=ws.length):(zHO f zs ws).length=zs.length:=by simp[zHO,h]
theorem zOj{f:Int→Int→Int}(h:zs.length=ws.length){i:Nat}(hi:i<zs.length)(hi2:i<(zHO f zs ws).length):(zHO f zs ws)[i]=f (zs[i]) (ws[i]'(by omega)):=by simp[zHO]
theorem zOC(hz:RB4 k zs)(hw:RB4 k ws)(hk:k≤1000000)(hl:zs.length=ws.length)(hbig:zs.length≤1000000)(hq: ∀y M,zA7 H 48 2 zs.length (IC (zHO (· + ·) zs ws)) y M→Q (.tup [y,.int .i64 ((0:Nat):Int)]) M):Run Tryz.prog 182 [zBk zs t,zBk ws t'] H Q:=by
 refine zSQ (by simp) ?_
 simp(disch:=first|exact Xe|fail)only[zcf,↓Xa,Xb,Xc,↓reduceIte,Nat.reduceLT,Nat.reduceEqDiff,Nat.reduceBEq,Nat.reduceLeDiff,Nat.reduceAdd,Nat.reduceMul]
 refine zAM (zMi hz hw hl (zFD hl) hbig zHw (fun i h M K _ hK=>(zFp (hz.at h) (by omega) (hw.at (by omega)) (by omega)).call (by rw[zOj hl h]at hK;exact hK)) fun y M hg=>?_)
 simp(disch:=first|exact Xe|fail)only[zZ0,↓Xa,Xb,Xc,↓reduceIte,Nat.reduceLT,Nat.reduceEqDiff,Nat.reduceBEq,Nat.reduceLeDiff,Nat.reduceAdd,Nat.reduceMul]
 exact SetR.now (hq y M hg)
theorem zNc(hz:RB4 k zs)(hw:RB4 k ws)(hk:k≤1000000)(hl:zs.length=ws.length)(hbig:zs.length≤1000000)(hq: ∀y M,zA7 H 48 2 zs.length (IC (zHO (· - ·) zs ws)) y M→Q (.tup [y,.int .i64 ((0:Nat):Int)]) M):Run Tryz.prog 184 [zBk zs t,zBk ws t'] H Q:=by
 refine zR7 (by simp) ?_
 simp(disch:=first|exact Xe|fail)only[zau,↓Xa,Xb,Xc,↓reduceIte,Nat.reduceLT,Nat.reduceEqDiff,Nat.reduceBEq,Nat.reduceLeDiff,Nat.reduceAdd,Nat.reduceMul]
 refine zAM (zMi hz hw hl (zFD hl) hbig zHw (fun i h M K _ hK=>(zLC (hz.at h) (by omega) (hw.at (by omega)) (by omega)).call (by rw[zOj hl h]at hK;exact hK)) fun y M hg=>?_)
 simp(disch:=first|exact Xe|fail)only[zbg,↓Xa,Xb,Xc,↓reduceIte,Nat.reduceLT,Nat.reduceEqDiff,Nat.reduceBEq,Nat.reduceLeDiff,Nat.reduceAdd,Nat.reduceMul]
 exact SetR.now (hq y M hg)
end
end Go.Proofs.YtmndejlpfmmaiaaGreatDoor.Fw
namespace Go.Proofs.YtmndejlpfmmaiaaGreatDoor.Fw
open Go Go.Proofs.YtmndejlpfmmaiaaGreatDoor.Ma
abbrev QQ:=_root_.Rat
theorem zfH(q:QQ):0<(q.den:Int):=by have:=q.den_pos;omega
theorem zZY{n:Int}{d:Nat}(hd:0<d):(mkRat n d).num=n / ((Int.gcd n (d:Int):Nat):Int):=by
 rw[_root_.Rat.num_mkRat,if_neg (by omega),Nat.gcd_comm];rfl
theorem zba{n:Int}{d:Nat}(hd:0<d):(((mkRat n d).den:Nat):Int)=(d:Int) / ((Int.gcd n (d:Int):Nat):Int):=by
 rw[_root_.Rat.den_mkRat,if_neg (by omega),Nat.gcd_comm];rfl
theorem q_lt{p q:QQ}:p<q↔p.num*(q.den:Int)<q.num*(p.den:Int):=_root_.Rat.lt_iff p q
theorem Bd.oneQ(k:Nat):Bd (k+1) 1:=by
 unfold Bd
 have:4294967296^1≤4294967296^(k+1):=Nat.pow_le_pow_right (by omega) (by omega)
 have e:(1:Int).natAbs=1:=rfl
 omega
def RB(k:Nat)(q:QQ):Prop:=Bd k q.num∧Bd k (q.den:Int)
theorem RB.mk{n:Int}{d k:Nat}(hn:Bd k n)(hd:Bd k (d:Int))(h0:0<d):RB k (mkRat n d):=by
 refine⟨?_,?_⟩
 ·rw[zZY h0];exact hn.ediv
 ·rw[zba h0];exact hd.ediv
theorem RB.mono{q:QQ}{k k':Nat}(h:RB k q)(hk:k≤k'):RB k' q:=⟨h.1.mono hk,h.2.mono hk⟩
theorem RB.neg{q:QQ}{k:Nat}(h:RB k q):RB k (-q):=⟨h.1.neg,h.2⟩
theorem RB.add{p q:QQ}{k k':Nat}(h:RB k p)(h':RB k' q):RB (k+k'+1) (p+q):=by
 rw[_root_.Rat.add_def']
 refine RB.mk (Bd.add (h.1.mul h'.2) ?_) ?_ (Nat.mul_pos p.den_pos q.den_pos)
 ·have:=h'.1.mul h.2;rw[Nat.add_comm];exact this
 ·rw[Int.natCast_mul];exact(h.2.mul h'.2).mono (by omega)
theorem RB.sub{p q:QQ}{k k':Nat}(h:RB k p)(h':RB k' q):RB (k+k'+1) (p-q):=by
 rw[_root_.Rat.sub_eq_add_neg];exact h.add h'.neg
theorem RB.mul{p q:QQ}{k k':Nat}(h:RB k p)(h':RB k' q):RB (k+k') (p*q):=by
 rw[_root_.Rat.mul_def']
 refine RB.mk (h.1.mul h'.1) ?_ (Nat.mul_pos p.den_pos q.den_pos)
 rw[Int.natCast_mul];exact h.2.mul h'.2
theorem RB.int{z:Int}{k:Nat}(h:Bd (k+1) z):RB (k+1) (z:QQ):=⟨h,Bd.oneQ k⟩
theorem RB.less{q:QQ}{k:Nat}(h:RB k q):Bd k ((q.den:Int)-1):=h.2.le (by have:=zfH q;omega)
end Go.Proofs.YtmndejlpfmmaiaaGreatDoor.Fw
namespace Go.Proofs.YtmndejlpfmmaiaaGreatDoor.Fw
open Go Go.Proofs.YtmndejlpfmmaiaaGreatDoor.Ma
set_option maxRecDepth 20000
end Go.Proofs.YtmndejlpfmmaiaaGreatDoor.Fw
namespace Go.Proofs.YtmndejlpfmmaiaaGreatDoor.Fw
open Go Go.Proofs.YtmndejlpfmmaiaaGreatDoor.Ma
def cst(i:Ins):Int:=if i.op=5∨i.op=6 then i.c else 2^i.c.toNat
def doZ(i:Ins)(a b:Int):Option Int:=
 if i.op=2 then some (-a)else if i.op=3 then some (a+b)else if i.op=4 then some (a-b)
 else if i.op=5∨i.op=7 then some (cst i*a)else if i.op=6∨i.op=8 then(if a%cst i=0 then some (a / cst i)else none)else some a
def doR(i:Ins)(a b:List Int):Option (List Int):=
 if i.op=2 then some (a.map (- ·))else if i.op=3 then some (zHO (· + ·) a b)else if i.op=4 then some (zHO (· - ·) a b)
 else if i.op=5∨i.op=7 then some (a.map (cst i* ·))else if i.op=6∨i.op=8 then(if(∀z,z∈a→z%cst i=0)then some (a.map (· / cst i))else none)else some a
def zFK{α:Type}(d:Ins→α→α→Option α)(z:α):List Ins→List α→List α×List α
 |[],r=>([],r)
 |i::l,r=>match d i (r.getD i.a.toNat z) (r.getD i.b.toNat z)with
  |none=>([],r)
  |some x=>let q:=zFK d z l (r.set i.to.toNat x);(x::q.1,q.2)
theorem zJ5{α:Type}{d:Ins→α→α→Option α}{z:α}: ∀(l:List Ins)(r:List α),(zFK d z l r).2.length=r.length
 |[],r=>rfl
 |i::l,r=>by
  unfold zFK
  split
  ·rfl
  ·dsimp only;rw[zJ5 l,List.length_set]
theorem zYi{α:Type}{d:Ins→α→α→Option α}{z:α}{l:List Ins}{k:Nat}(hk:k<l.length)(r:List α){x:α}(hx:d l[k] (r.getD l[k].a.toNat z) (r.getD l[k].b.toNat z)=some x):zFK d z (l.drop k) r=(x::(zFK d z (l.drop (k+1)) (r.set l[k].to.toNat x)).1,(zFK d z (l.drop (k+1)) (r.set l[k].to.toNat x)).2):=by
 rw[List.drop_eq_getElem_cons hk,zFK,hx]
theorem zYk{α:Type}{d:Ins→α→α→Option α}{z:α}{l:List Ins}{k:Nat}(hk:k<l.length)(r:List α)(hx:d l[k] (r.getD l[k].a.toNat z) (r.getD l[k].b.toNat z)=none):zFK d z (l.drop k) r=([],r):=by
 rw[List.drop_eq_getElem_cons hk,zFK,hx]
def zFO(n:Int)(i:Ins):Prop:=1≤i.op∧i.op≤8∧0≤i.to∧i.to<n∧0≤i.a∧i.a<n∧
 (if i.op=3∨i.op=4 then 0≤i.b∧i.b<n∧i.c=0 else i.b=0∧(if i.op=5∨i.op=6 then i.c≠0∧ -512≤i.c∧i.c≤512 else if i.op=7∨i.op=8 then 1≤i.c∧i.c≤64 else i.c=0))
instance (n:Int)(i:Ins):Decidable (zFO n i):=by unfold zFO;infer_instance
def zET(p:PR):Prop:=1≤p.ins∧p.ins≤p.regs∧p.regs≤128∧p.code.length≤16384∧1≤p.outs.length∧p.outs.length≤128
instance (p:PR):Decidable (zET p):=by unfold zET;infer_instance
def zBl(p:PR):Prop:=zET p∧(∀n,n∈p.outs→0≤n∧n<p.regs)∧∀i,i∈p.code→zFO p.regs i
instance (p:PR):Decidable (zBl p):=by unfold zBl;infer_instance
theorem zLv{n:Int}{i:Ins}(h:zFO n i):0≤i.b∧i.b<n:=by
 obtain⟨_,_,_,_,h1,h2,h3⟩:=h
 split at h3
 ·exact⟨h3.1,h3.2.1⟩
 ·omega
theorem zZU{n:Int}{i:Ins}(h:zFO n i):cst i≠0:=by
 unfold cst
 split
 ·rename_i h5
  obtain⟨_,_,_,_,_,_,h3⟩:=h
  rw[if_neg (by omega),if_pos h5]at h3
  exact h3.2.1
 ·exact Int.ne_of_gt (Int.pow_pos (by omega))
theorem zXz:(2:Nat)^64=4294967296^2:=by decide
theorem zM5{n:Int}{i:Ins}(h:zFO n i)(h5:5≤i.op):Bd 3 (cst i):=by
 obtain⟨_,_,_,_,_,_,h3⟩:=h
 rw[if_neg (by omega)]at h3
 unfold cst Bd
 by_cases e:i.op=5∨i.op=6
 ·rw[if_pos e]
  rw[if_pos e]at h3
  have:(4294967296:Nat)^1≤4294967296^3:=Nat.pow_le_pow_right (by omega) (by omega)
  omega
 ·rw[if_neg e]
  rw[if_neg e,if_pos (by omega)]at h3
  rw[Int.natAbs_pow]
  have h1:(2:Nat)^i.c.toNat≤2^64:=Nat.pow_le_pow_right (by omega) (by omega)
  rw[zXz]at h1
  have h2:(4294967296:Nat)^2<4294967296^3:=Nat.pow_lt_pow_right (by omega) (by omega)
  exact Nat.lt_of_le_of_lt h1 h2
theorem zVb{n:Int}{i:Ins}(h:zFO n i){a b x:Int}{k:Nat}(ha:Bd k a)(hb:Bd k b)(hx:doZ i a b=some x):Bd (k+3) x:=by
 unfold doZ at hx
 split at hx
 ·injection hx with hx;subst hx;exact ha.neg.mono (by omega)
 ·split at hx
  ·injection hx with hx;subst hx;exact(ha.add hb).mono (by omega)
  ·split at hx
   ·injection hx with hx;subst hx;exact(ha.sub hb).mono (by omega)
   ·split at hx
    ·injection hx with hx;subst hx;exact((zM5 h (by omega)).mul ha).mono (by omega)
    ·split at hx
     ·split at hx
      ·injection hx with hx;subst hx;exact(ha.ediv).mono (by omega)
      ·cases hx
     ·injection hx with hx;subst hx;exact ha.mono (by omega)
theorem zIA{f:Int→Int}{l:List Int}{k:Nat}(h:k<l.length):(l.map f).getD k 0=f (l.getD k 0):=by
 simp[List.getD_eq_getElem?_getD,h]
theorem zLe{f:Int→Int→Int}{l m:List Int}{k:Nat}(h:k<l.length)(h':l.length=m.length):(zHO f l m).getD k 0=f (l.getD k 0) (m.getD k 0):=by
 have h2:k<m.length:=by omega
 simp[zHO,List.getD_eq_getElem?_getD,List.getElem?_zipWith,h,h2]
theorem zKd{i:Ins}{a b r:List Int}(h:a.length=b.length)(hr:doR i a b=some r):r.length=a.length:=by
 unfold doR at hr
 repeat' split at hr
 all_goals first|(injection hr with hr;subst hr;simp[zHO,h])|cases hr
theorem zOg{i:Ins}{a b r:List Int}(h:a.length=b.length)(hr:doR i a b=some r){k:Nat}(hk:k<a.length):doZ i (a.getD k 0) (b.getD k 0)=some (r.getD k 0):=by
 unfold doR at hr
 unfold doZ
 split at hr
 ·rename_i e;rw[if_pos e];injection hr with hr;subst hr;rw[zIA hk]
 rename_i e2;rw[if_neg e2]
 split at hr
 ·rename_i e;rw[if_pos e];injection hr with hr;subst hr;rw[zLe hk h]
 rename_i e3;rw[if_neg e3]
 split at hr
 ·rename_i e;rw[if_pos e];injection hr with hr;subst hr;rw[zLe hk h]
 rename_i e4;rw[if_neg e4]
 split at hr
 ·rename_i e;rw[if_pos e];injection hr with hr;subst hr;rw[zIA hk]
 rename_i e5;rw[if_neg e5]
 split at hr
 ·rename_i e;rw[if_pos e]
  split at hr
  ·rename_i ha
   injection hr with hr;subst hr
   have hm:a.getD k 0∈a:=by rw[List.getD_eq_getElem?_getD,List.getElem?_eq_getElem hk];exact List.getElem_mem hk
   rw[if_pos (ha _ hm),zIA hk]
  ·cases hr
 ·rename_i e;rw[if_neg e];injection hr with hr;subst hr;rfl
theorem zZI{i:Ins}{a b:List Int}(hr:doR i a b=none): ∃k,k<a.length∧∀y,doZ i (a.getD k 0) y=none:=by
 unfold doR at hr
 split at hr
 ·cases hr
 split at hr
 ·cases hr
 split at hr
 ·cases hr
 split at hr
 ·cases hr
 rename_i e2 e3 e4 e5
 split at hr
 ·rename_i e
  split at hr
  ·cases hr
  ·rename_i ha
   obtain⟨z,hz⟩:=Classical.not_forall.1 ha
   obtain⟨hm,hz⟩:=Classical.not_imp.1 hz
   obtain⟨k,hk,rfl⟩:=List.getElem_of_mem hm
   refine⟨k,hk,fun y=>?_⟩
   rw[List.getD_eq_getElem?_getD,List.getElem?_eq_getElem hk,Option.getD_some]
   unfold doZ
   rw[if_neg e2,if_neg e3,if_neg e4,if_neg e5,if_pos e,if_neg hz]
 ·cases hr
def RR{α β:Type}(R:α→β→Prop)(N:Nat)(z:α)(z':β)(r:List α)(r':List β):Prop:=r.length=N∧r'.length=N∧∀j,j<N→R (r.getD j z) (r'.getD j z')
theorem zDd{α:Type}{r:List α}{j k:Nat}{x z:α}(hk:k<r.length):(r.set k x).getD j z=if j=k then x else r.getD j z:=by
 simp only[List.getD_eq_getElem?_getD,List.getElem?_set]
 by_cases h:j=k
 ·subst h;simp[hk]
 ·rw[if_neg (Ne.symm h),if_neg h]
theorem RR.set{α β:Type}{R:α→β→Prop}{N:Nat}{z:α}{z':β}{r:List α}{r':List β}(h:RR R N z z' r r'){k:Nat}(hk:k<N){x:α}{x':β}(hx:R x x'):RR R N z z' (r.set k x) (r'.set k x'):=by
 obtain⟨h1,h2,h3⟩:=h
 refine⟨by rw[List.length_set,h1],by rw[List.length_set,h2],fun j hj=>?_⟩
 rw[zDd (by omega),zDd (by omega)]
 split
 ·exact hx
 ·exact h3 j hj
end Go.Proofs.YtmndejlpfmmaiaaGreatDoor.Fw
namespace Go.Proofs.YtmndejlpfmmaiaaGreatDoor.Fw
open Go Go.Proofs.YtmndejlpfmmaiaaGreatDoor.Ma
set_option maxRecDepth 20000
def zIk(i:Ins):AV:=.agg [.int .i64 i.op,.int .i64 i.to,.int .i64 i.a,.int .i64 i.b,.int .i64 i.c]
theorem zA6{i:Ins}:(zIk i).cells=some [.int .i64 i.op,.int .i64 i.to,.int .i64 i.a,.int .i64 i.b,.int .i64 i.c]:=id rfl
theorem zA0{i:Ins}:AV.agg [.int .i64 i.op,.int .i64 i.to,.int .i64 i.a,.int .i64 i.b,.int .i64 i.c]=zIk i:=id rfl
theorem zBj{p:PR}:(zEF p).cells=some [.int .i64 p.ins,.int .i64 p.regs,zBI p.code false,zAr p.outs false]:=id rfl
theorem zCM{p:PR}:AV.agg [.int .i64 p.ins,.int .i64 p.regs,zBI p.code false,zAr p.outs false]=zEF p:=id rfl
section
variable {H:AHeap} {K:AV→Prop} {k:IntKind} {t:Bool} {l:List Ins} {i:Nat}
theorem zBf(h:l.length<9223372036854775808):zDr false (zBI l t) K=K (.int .i64 ((l.length:Nat):Int)):=zBE h
theorem zDb(h:i<l.length):zBg 5 (zBI l t) (.int k (i:Int)) K=K (.cptr ((l.flatMap zDM).drop (i*5))):=zHg (zCf zDs l) h
theorem zCw(h:i<l.length):zA9 H (some 5) (.cptr ((l.flatMap zDM).drop (i*5))) K=K (zIk (l[i])):=by
 rw[zEM zDs l i h];simp[zA9,zA4,zDM,zIk]
theorem zAm{l:List Int}(h:l.length<9223372036854775808):zDr false (zAr l t) K=K (.int .i64 ((l.length:Nat):Int)):=zBE h
theorem zBq{l:List Int}(h:i<l.length):zBg 1 (zAr l t) (.int k (i:Int)) K=K (.cptr ((l.map fun n=>AV.int .i64 n).drop i)):=by rw[zHg (by simp) h,Nat.mul_one]
theorem zBb{l:List Int}(h:i<l.length):zA9 H none (.cptr ((l.map fun n=>AV.int .i64 n).drop i)) K=K (.int .i64 (l[i])):=by
 rw[List.drop_eq_getElem_cons (by simpa using h)];simp[zA9,zA4]
end
theorem zCx{k:IntKind}{n m:Int}{K:AV→Prop}:zAv .geq (.int k n) (.int k m) K↔K (.bool (decide (m≤n))):=by simp[zAv,zAi]
theorem zE0{k:IntKind}{n m:Int}{K:AV→Prop}:zAv .leq (.int k n) (.int k m) K↔K (.bool (decide (n≤m))):=by simp[zAv,zAi]
theorem zZt{n:Int}:PFn Tryz.prog 219 [.int .i64 n] (.bool (decide (n=3∨n=4))):=by
 intro H Q hq
 refine zTW (by simp) ?_
 by_cases h:n=3
 ·rw[decide_eq_true (show n=3∨n=4 from .inl h)]at hq
  have c1:decide (n=((3:Nat):Int))=true:=decide_eq_true h
  simp(disch:=first|exact Xe|fail)only[zYB,zXG,zAK,c1,↓Xa,Xb,Xc,↓reduceIte,Nat.reduceLT,Nat.reduceEqDiff,Nat.reduceBEq,Nat.reduceLeDiff,Nat.reduceAdd,Nat.reduceMul]
  exact SetR.now hq
 ·have c1:decide (n=((3:Nat):Int))=false:=decide_eq_false h
  have c2:decide (n=((4:Nat):Int))=decide (n=3∨n=4):=decide_eq_decide.2 (by omega)
  simp(disch:=first|exact Xe|fail)only[zYB,zXG,zAK,c1,c2,↓Xa,Xb,Xc,↓reduceIte,Nat.reduceLT,Nat.reduceEqDiff,Nat.reduceBEq,Nat.reduceLeDiff,Nat.reduceAdd,Nat.reduceMul]
  exact SetR.now hq
def zKH(i:Ins):Prop:=if i.op=5∨i.op=6 then i.c≠0∧ -512≤i.c∧i.c≤512 else if i.op=7∨i.op=8 then 1≤i.c∧i.c≤64 else i.c=0
instance (i:Ins):Decidable (zKH i):=by unfold zKH;infer_instance
theorem zKb(i:Ins):PFn Tryz.prog 220 [zIk i] (.bool (decide (zKH i))):=by
 intro H Q hq
 refine zUu (by simp) ?_
 have big:(i.op=5∨i.op=6)→∀(p:Nat)(x:Option ABlk),H p=none→SetR Q (.bool (!decide (i.c=((0:Nat):Int))&&(decide (-512≤i.c)&&decide (i.c≤((512:Nat):Int))))) (H.upd p x):=fun h p x hp=>by
  have hc:zKH i↔i.c≠0∧ -512≤i.c∧i.c≤512:=by unfold zKH;rw[if_pos h]
  have e:decide (zKH i)=(!decide (i.c=((0:Nat):Int))&&(decide (-512≤i.c)&&decide (i.c≤((512:Nat):Int)))):=by
   rw[Bool.eq_iff_iff]
   simp only[decide_eq_true_eq,Bool.and_eq_true,Bool.not_eq_true',decide_eq_false_iff_not]
   exact hc
  rw[e]at hq
  exact SetR.dropTo ((Le.refl H).updB hp) (SetR.now hq)
 have sml: ¬(i.op=5∨i.op=6)→(i.op=7∨i.op=8)→∀(p:Nat)(x:Option ABlk),H p=none→SetR Q (.bool (decide (((1:Nat):Int)≤i.c)&&decide (i.c≤((64:Nat):Int)))) (H.upd p x):=fun h h' p x hp=>by
  have hc:zKH i↔1≤i.c∧i.c≤64:=by unfold zKH;rw[if_neg h,if_pos h']
  have e:decide (zKH i)=(decide (((1:Nat):Int)≤i.c)&&decide (i.c≤((64:Nat):Int))):=by
   rw[Bool.eq_iff_iff]
   simp only[decide_eq_true_eq,Bool.and_eq_true]
   exact hc
  rw[e]at hq
  exact SetR.dropTo ((Le.refl H).updB hp) (SetR.now hq)
 simp(disch:=first|exact Xe|fail)only[zZL,zA6,↓Xa,Xb,Xc,↓reduceIte,Nat.reduceLT,Nat.reduceEqDiff,Nat.reduceBEq,Nat.reduceLeDiff,Nat.reduceAdd,Nat.reduceMul]
 refine zAD fun p1 hp1=>?_
 have n1:=hp1
 simp(disch:=first|exact Xe|fail)only[zAK,↓Xa,Xb,Xc,↓reduceIte,Nat.reduceLT,Nat.reduceEqDiff,Nat.reduceBEq,Nat.reduceLeDiff,Nat.reduceAdd,Nat.reduceMul]
 have c512: ∀b,b=decide (i.c=((0:Nat):Int))→True:=fun _ _=>trivial
 by_cases h5:i.op=5
 ·have f:=big (.inl h5)
  have e5:decide (i.op=((5:Nat):Int))=true:=decide_eq_true h5
  by_cases z1:i.c=((0:Nat):Int)
  ·rw[decide_eq_true z1]at f
   simp(disch:=first|exact Xe|fail)only[zAK,e5,zAU,zCx,zE0,decide_eq_true z1,zFR,↓Xa,Xb,Xc,↓reduceIte,Nat.reduceLT,Nat.reduceEqDiff,Nat.reduceBEq,Nat.reduceLeDiff,Nat.reduceAdd,Nat.reduceMul]
   exact f _ _ n1
  ·rw[decide_eq_false z1]at f
   by_cases z2: -512≤i.c
   ·rw[decide_eq_true z2]at f
    simp(disch:=first|exact Xe|fail)only[zAK,e5,zAU,zCx,zE0,decide_eq_false z1,decide_eq_true z2,zFR,↓Xa,Xb,Xc,↓reduceIte,Nat.reduceLT,Nat.reduceEqDiff,Nat.reduceBEq,Nat.reduceLeDiff,Nat.reduceAdd,Nat.reduceMul]
    exact f _ _ n1
   ·rw[decide_eq_false z2]at f
    simp(disch:=first|exact Xe|fail)only[zAK,e5,zAU,zCx,zE0,decide_eq_false z1,decide_eq_false z2,zFR,↓Xa,Xb,Xc,↓reduceIte,Nat.reduceLT,Nat.reduceEqDiff,Nat.reduceBEq,Nat.reduceLeDiff,Nat.reduceAdd,Nat.reduceMul]
    exact f _ _ n1
 have e5:decide (i.op=((5:Nat):Int))=false:=decide_eq_false h5
 by_cases h6:i.op=6
 ·have f:=big (.inr h6)
  have e6:decide (i.op=((6:Nat):Int))=true:=decide_eq_true h6
  by_cases z1:i.c=((0:Nat):Int)
  ·rw[decide_eq_true z1]at f
   simp(disch:=first|exact Xe|fail)only[zAK,e5,e6,zAU,zCx,zE0,decide_eq_true z1,zFR,↓Xa,Xb,Xc,↓reduceIte,Nat.reduceLT,Nat.reduceEqDiff,Nat.reduceBEq,Nat.reduceLeDiff,Nat.reduceAdd,Nat.reduceMul]
   exact f _ _ n1
  ·rw[decide_eq_false z1]at f
   by_cases z2: -512≤i.c
   ·rw[decide_eq_true z2]at f
    simp(disch:=first|exact Xe|fail)only[zAK,e5,e6,zAU,zCx,zE0,decide_eq_false z1,decide_eq_true z2,zFR,↓Xa,Xb,Xc,↓reduceIte,Nat.reduceLT,Nat.reduceEqDiff,Nat.reduceBEq,Nat.reduceLeDiff,Nat.reduceAdd,Nat.reduceMul]
    exact f _ _ n1
   ·rw[decide_eq_false z2]at f
    simp(disch:=first|exact Xe|fail)only[zAK,e5,e6,zAU,zCx,zE0,decide_eq_false z1,decide_eq_false z2,zFR,↓Xa,Xb,Xc,↓reduceIte,Nat.reduceLT,Nat.reduceEqDiff,Nat.reduceBEq,Nat.reduceLeDiff,Nat.reduceAdd,Nat.reduceMul]
    exact f _ _ n1
 have e6:decide (i.op=((6:Nat):Int))=false:=decide_eq_false h6
 have n56: ¬(i.op=5∨i.op=6):=by omega
 by_cases h7:i.op=7
 ·have f:=sml n56 (.inl h7)
  have e7:decide (i.op=((7:Nat):Int))=true:=decide_eq_true h7
  by_cases z1:((1:Nat):Int)≤i.c
  ·rw[decide_eq_true z1]at f
   simp(disch:=first|exact Xe|fail)only[zAK,e5,e6,e7,zCx,zE0,decide_eq_true z1,zFR,↓Xa,Xb,Xc,↓reduceIte,Nat.reduceLT,Nat.reduceEqDiff,Nat.reduceBEq,Nat.reduceLeDiff,Nat.reduceAdd,Nat.reduceMul]
   exact f _ _ n1
  ·rw[decide_eq_false z1]at f
   simp(disch:=first|exact Xe|fail)only[zAK,e5,e6,e7,zCx,zE0,decide_eq_false z1,zFR,↓Xa,Xb,Xc,↓reduceIte,Nat.reduceLT,Nat.reduceEqDiff,Nat.reduceBEq,Nat.reduceLeDiff,Nat.reduceAdd,Nat.reduceMul]
   exact f _ _ n1
 have e7:decide (i.op=((7:Nat):Int))=false:=decide_eq_false h7
 by_cases h8:i.op=8
 ·have f:=sml n56 (.inr h8)
  have e8:decide (i.op=((8:Nat):Int))=true:=decide_eq_true h8
  by_cases z1:((1:Nat):Int)≤i.c
  ·rw[decide_eq_true z1]at f
   simp(disch:=first|exact Xe|fail)only[zAK,e5,e6,e7,e8,zCx,zE0,decide_eq_true z1,zFR,↓Xa,Xb,Xc,↓reduceIte,Nat.reduceLT,Nat.reduceEqDiff,Nat.reduceBEq,Nat.reduceLeDiff,Nat.reduceAdd,Nat.reduceMul]
   exact f _ _ n1
  ·rw[decide_eq_false z1]at f
   simp(disch:=first|exact Xe|fail)only[zAK,e5,e6,e7,e8,zCx,zE0,decide_eq_false z1,zFR,↓Xa,Xb,Xc,↓reduceIte,Nat.reduceLT,Nat.reduceEqDiff,Nat.reduceBEq,Nat.reduceLeDiff,Nat.reduceAdd,Nat.reduceMul]
   exact f _ _ n1
 have e8:decide (i.op=((8:Nat):Int))=false:=decide_eq_false h8
 have e:decide (zKH i)=decide (i.c=((0:Nat):Int)):=decide_eq_decide.2 (by unfold zKH;rw[if_neg n56,if_neg (by omega)];rfl)
 rw[e]at hq
 simp(disch:=first|exact Xe|fail)only[zAK,e5,e6,e7,e8,zAK,zFR,↓Xa,Xb,Xc,↓reduceIte,Nat.reduceLT,Nat.reduceEqDiff,Nat.reduceBEq,Nat.reduceLeDiff,Nat.reduceAdd,Nat.reduceMul]
 exact SetR.dropTo ((Le.refl H).updB n1) (SetR.now hq)
def zCk(i:Ins):List Int:=if i.op=3∨i.op=4 then[i.a,i.b]else if 1≤i.op∧i.op≤8 then[i.a]else[]
theorem zXk(i:Ins)(h1:1≤i.op)(h2:i.op≤8):PFn Tryz.prog 221 [zIk i] (zAr (zCk i) true):=by
 intro H Q hq
 refine zTx (by simp) ?_
 simp(disch:=first|exact Xe|fail)only[zco,zA6,↓Xa,Xb,Xc,↓reduceIte,Nat.reduceLT,Nat.reduceEqDiff,Nat.reduceBEq,Nat.reduceLeDiff,Nat.reduceAdd,Nat.reduceMul]
 refine zAD fun p1 hp1=>?_
 have n1:=hp1
 simp(disch:=first|exact Xe|fail)only[zAK,↓Xa,Xb,Xc,↓reduceIte,Nat.reduceLT,Nat.reduceEqDiff,Nat.reduceBEq,Nat.reduceLeDiff,Nat.reduceAdd,Nat.reduceMul]
 have r1: ∀{x:AV},zB8 [x] 1=[x]:=by simp[zB8,List.range,List.range.loop]
 have r2: ∀{x y:AV},zB8 [x] 2=[x,x]:=by simp[zB8,List.range,List.range.loop]
 have fin: ∀{p:Nat}{x:Option ABlk},H p=none→SetR Q (zAr (zCk i) true) (H.upd p x):=fun hp=>SetR.dropTo ((Le.refl H).updB hp) (SetR.now hq)
 have e0: ∀m:Int,i.op=m→decide (i.op=m)=true:=fun m h=>decide_eq_true h
 by_cases h3:i.op=3
 ·unfold zCk at fin
  rw[if_pos (.inl h3)]at fin
  have e3:decide (i.op=((3:Nat):Int))=true:=decide_eq_true h3
  simp(disch:=first|exact Xe|fail)only[zAK,e3,zB8,List.range,List.range.loop,zHt,↓Xa,Xb,Xc,↓reduceIte,Nat.reduceLT,Nat.reduceEqDiff,Nat.reduceBEq,Nat.reduceLeDiff,Nat.reduceAdd,Nat.reduceMul]
  exact fin n1
 have e3:decide (i.op=((3:Nat):Int))=false:=decide_eq_false h3
 by_cases h4:i.op=4
 ·unfold zCk at fin
  rw[if_pos (.inr h4)]at fin
  have e4:decide (i.op=((4:Nat):Int))=true:=decide_eq_true h4
  simp(disch:=first|exact Xe|fail)only[zAK,e3,e4,zB8,List.range,List.range.loop,zHt,↓Xa,Xb,Xc,↓reduceIte,Nat.reduceLT,Nat.reduceEqDiff,Nat.reduceBEq,Nat.reduceLeDiff,Nat.reduceAdd,Nat.reduceMul]
  exact fin n1
 have e4:decide (i.op=((4:Nat):Int))=false:=decide_eq_false h4
 unfold zCk at fin
 rw[if_neg (by omega),if_pos ⟨h1,h2⟩]at fin
 by_cases g1:i.op=1
 ·have e5:decide (i.op=((1:Nat):Int))=true:=decide_eq_true g1
  simp(disch:=first|exact Xe|fail)only[zAK,e3,e4,e5,r1,zHt,↓Xa,Xb,Xc,↓reduceIte,Nat.reduceLT,Nat.reduceEqDiff,Nat.reduceBEq,Nat.reduceLeDiff,Nat.reduceAdd,Nat.reduceMul]
  exact fin n1
 have f1:decide (i.op=((1:Nat):Int))=false:=decide_eq_false g1
 by_cases g2:i.op=2
 ·have e5:decide (i.op=((2:Nat):Int))=true:=decide_eq_true g2
  simp(disch:=first|exact Xe|fail)only[zAK,e3,e4,f1,e5,r1,zHt,↓Xa,Xb,Xc,↓reduceIte,Nat.reduceLT,Nat.reduceEqDiff,Nat.reduceBEq,Nat.reduceLeDiff,Nat.reduceAdd,Nat.reduceMul]
  exact fin n1
 have f2:decide (i.op=((2:Nat):Int))=false:=decide_eq_false g2
 by_cases g5:i.op=5
 ·have e5:decide (i.op=((5:Nat):Int))=true:=decide_eq_true g5
  simp(disch:=first|exact Xe|fail)only[zAK,e3,e4,f1,f2,e5,r1,zHt,↓Xa,Xb,Xc,↓reduceIte,Nat.reduceLT,Nat.reduceEqDiff,Nat.reduceBEq,Nat.reduceLeDiff,Nat.reduceAdd,Nat.reduceMul]
  exact fin n1
 have f5:decide (i.op=((5:Nat):Int))=false:=decide_eq_false g5
 by_cases g6:i.op=6
 ·have e5:decide (i.op=((6:Nat):Int))=true:=decide_eq_true g6
  simp(disch:=first|exact Xe|fail)only[zAK,e3,e4,f1,f2,f5,e5,r1,zHt,↓Xa,Xb,Xc,↓reduceIte,Nat.reduceLT,Nat.reduceEqDiff,Nat.reduceBEq,Nat.reduceLeDiff,Nat.reduceAdd,Nat.reduceMul]
  exact fin n1
 have f6:decide (i.op=((6:Nat):Int))=false:=decide_eq_false g6
 by_cases g7:i.op=7
 ·have e5:decide (i.op=((7:Nat):Int))=true:=decide_eq_true g7
  simp(disch:=first|exact Xe|fail)only[zAK,e3,e4,f1,f2,f5,f6,e5,r1,zHt,↓Xa,Xb,Xc,↓reduceIte,Nat.reduceLT,Nat.reduceEqDiff,Nat.reduceBEq,Nat.reduceLeDiff,Nat.reduceAdd,Nat.reduceMul]
  exact fin n1
 have f7:decide (i.op=((7:Nat):Int))=false:=decide_eq_false g7
 have e5:decide (i.op=((8:Nat):Int))=true:=decide_eq_true (by omega)
 simp(disch:=first|exact Xe|fail)only[zAK,e3,e4,f1,f2,f5,f6,f7,e5,r1,zHt,↓Xa,Xb,Xc,↓reduceIte,Nat.reduceLT,Nat.reduceEqDiff,Nat.reduceBEq,Nat.reduceLeDiff,Nat.reduceAdd,Nat.reduceMul]
 exact fin n1
theorem zSh(n:Int)(i:Ins):zFO n i↔1≤i.op∧i.op≤8∧0≤i.to∧i.to<n∧(¬(i.op=3∨i.op=4)→i.b=0)∧zKH i∧∀r,r∈zCk i→0≤r∧r<n:=by
 unfold zFO zKH zCk
 by_cases h:i.op=3∨i.op=4
 ·rw[if_pos h,if_neg (by omega),if_neg (by omega),if_pos h]
  simp;omega
 ·rw[if_neg h,if_neg h]
  constructor
  ·rintro⟨a,b,c,d,e,f,g,k⟩
   refine⟨a,b,c,d,fun _=>g,k,fun r hr=>?_⟩
   rw[if_pos ⟨a,b⟩]at hr
   rw[List.mem_singleton.1 hr];exact⟨e,f⟩
  ·rintro⟨a,b,c,d,g,k,m⟩
   rw[if_pos ⟨a,b⟩]at m
   have:=m i.a (by simp)
   exact⟨a,b,c,d,this.1,this.2,g h,k⟩
theorem zWH(i:Ins)(n:Int):PFn Tryz.prog 163 [zIk i,.int .i64 n] (.bool (decide (zFO n i))):=by
 intro H Q hq
 have bad: ¬zFO n i→∀{p:Nat}{x:Option ABlk},H p=none→SetR Q (.bool false) (H.upd p x):=fun h p x hp=>by
  rw[decide_eq_false h]at hq
  exact SetR.dropTo ((Le.refl H).updB hp) (SetR.now hq)
 have hm:=zSh n i
 have tw:=zZt (n:=i.op)
 refine zSf (by simp) ?_
 simp(disch:=first|exact Xe|fail)only[zNz,zA6,↓Xa,Xb,Xc,↓reduceIte,Nat.reduceLT,Nat.reduceEqDiff,Nat.reduceBEq,Nat.reduceLeDiff,Nat.reduceAdd,Nat.reduceMul]
 refine zAD fun p1 hp1=>?_
 have n1:=hp1
 by_cases h1:i.op<((1:Nat):Int)
 ·simp(disch:=first|exact Xe|fail)only[zAc,decide_eq_true h1,zFS,↓Xa,Xb,Xc,↓reduceIte,Nat.reduceLT,Nat.reduceEqDiff,Nat.reduceBEq,Nat.reduceLeDiff,Nat.reduceAdd,Nat.reduceMul]
  exact bad (fun h=>by have:=hm.1 h;omega) n1
 by_cases h2:((8:Nat):Int)<i.op
 ·simp(disch:=first|exact Xe|fail)only[zAc,zAw,decide_eq_false h1,decide_eq_true h2,zFS,↓Xa,Xb,Xc,↓reduceIte,Nat.reduceLT,Nat.reduceEqDiff,Nat.reduceBEq,Nat.reduceLeDiff,Nat.reduceAdd,Nat.reduceMul]
  exact bad (fun h=>by have:=hm.1 h;omega) n1
 by_cases h3:i.to<((0:Nat):Int)
 ·simp(disch:=first|exact Xe|fail)only[zAc,zAw,decide_eq_false h1,decide_eq_false h2,decide_eq_true h3,zFS,↓Xa,Xb,Xc,↓reduceIte,Nat.reduceLT,Nat.reduceEqDiff,Nat.reduceBEq,Nat.reduceLeDiff,Nat.reduceAdd,Nat.reduceMul]
  exact bad (fun h=>by have:=hm.1 h;omega) n1
 by_cases h4:n≤i.to
 ·simp(disch:=first|exact Xe|fail)only[zAc,zAw,zCx,decide_eq_false h1,decide_eq_false h2,decide_eq_false h3,decide_eq_true h4,zFS,↓Xa,Xb,Xc,↓reduceIte,Nat.reduceLT,Nat.reduceEqDiff,Nat.reduceBEq,Nat.reduceLeDiff,Nat.reduceAdd,Nat.reduceMul]
  exact bad (fun h=>by have:=hm.1 h;omega) n1
 simp(disch:=first|exact Xe|fail)only[zAc,zAw,zCx,decide_eq_false h1,decide_eq_false h2,decide_eq_false h3,decide_eq_false h4,↓Xa,Xb,Xc,↓reduceIte,Nat.reduceLT,Nat.reduceEqDiff,Nat.reduceBEq,Nat.reduceLeDiff,Nat.reduceAdd,Nat.reduceMul]
 refine tw.call ?_
 have rest:(¬(i.op=3∨i.op=4)→i.b=0)→zKH i→∀M,M=H.upd p1 (some (.row 76 0 [.int .i64 i.op,.int .i64 i.to,.int .i64 i.a,.int .i64 i.b,.int .i64 i.c]))→
  W Tryz.prog (zBV (zBV zNz)) (zFF zFS Q) ⟨[],[(1,.int .i64 n),(2,.ptr p1 5 0)],M⟩:=by
  rintro hb hc M rfl
  have la:(zCk i).length<9223372036854775808:=by unfold zCk;split;simp;split<;>simp
  simp(disch:=first|exact Xe|fail)only[zBV,zNz,zA0,↓Xa,Xb,Xc,↓reduceIte,Nat.reduceLT,Nat.reduceEqDiff,Nat.reduceBEq,Nat.reduceLeDiff,Nat.reduceAdd,Nat.reduceMul]
  refine(zXk i (by omega) (by omega)).call ?_
  simp(disch:=first|exact Xe|fail)only[zAm,la,↓Xa,Xb,Xc,↓reduceIte,Nat.reduceLT,Nat.reduceEqDiff,Nat.reduceBEq,Nat.reduceLeDiff,Nat.reduceAdd,Nat.reduceMul]
  refine zAO (fun s:Nat=>⟨[],[(1,.int .i64 n),(43,zAr (zCk i) true),(44,.int .i64 (zCk i).length),(45,.int .i64 s)],H.upd p1 (some (.row 76 0 [.int .i64 i.op,.int .i64 i.to,.int .i64 i.a,.int .i64 i.b,.int .i64 i.c]))⟩)
   (fun s=>s≤(zCk i).length∧∀j(h:j<(zCk i).length),j<s→0≤(zCk i)[j]∧(zCk i)[j]<n) (fun s=>(zCk i).length-s) 0 (Settle.now rfl) ⟨Nat.zero_le _,fun j _ h=>absurd h (by omega)⟩ ?_
  rintro s ⟨h5,h6⟩
  by_cases hi:s<(zCk i).length
  ·simp(disch:=first|exact Xe|fail)only[hi,zBq,zBb,↓Xa,Xb,Xc,↓reduceIte,Nat.reduceLT,Nat.reduceEqDiff,Nat.reduceBEq,Nat.reduceLeDiff,Nat.reduceAdd,Nat.reduceMul]
   have hmem:=List.getElem_mem hi
   have nb: ¬(0≤(zCk i)[s]∧(zCk i)[s]<n)→¬zFO n i:=fun h hm2=>h ((hm.1 hm2).2.2.2.2.2.2 _ hmem)
   by_cases c1:(zCk i)[s]<((0:Nat):Int)
   ·simp(disch:=first|exact Xe|fail)only[zAc,decide_eq_true c1,zFS,↓Xa,Xb,Xc,↓reduceIte,Nat.reduceLT,Nat.reduceEqDiff,Nat.reduceBEq,Nat.reduceLeDiff,Nat.reduceAdd,Nat.reduceMul]
    exact bad (nb (by omega)) n1
   by_cases c2:n≤(zCk i)[s]
   ·simp(disch:=first|exact Xe|fail)only[zAc,zCx,decide_eq_false c1,decide_eq_true c2,zFS,↓Xa,Xb,Xc,↓reduceIte,Nat.reduceLT,Nat.reduceEqDiff,Nat.reduceBEq,Nat.reduceLeDiff,Nat.reduceAdd,Nat.reduceMul]
    exact bad (nb (by omega)) n1
   simp(disch:=first|exact Xe|fail)only[zAc,zCx,decide_eq_false c1,decide_eq_false c2,↓Xa,Xb,Xc,↓reduceIte,Nat.reduceLT,Nat.reduceEqDiff,Nat.reduceBEq,Nat.reduceLeDiff,Nat.reduceAdd,Nat.reduceMul]
   refine Settle.now ⟨s+1,by omega,⟨by omega,fun j hj hjs=>?_⟩,rfl⟩
   by_cases e:j=s
   ·subst e;omega
   ·exact h6 j hj (by omega)
  ·simp(disch:=first|exact Xe|fail)only[hi,↓Xa,Xb,Xc,↓reduceIte,Nat.reduceLT,Nat.reduceEqDiff,Nat.reduceBEq,Nat.reduceLeDiff,Nat.reduceAdd,Nat.reduceMul]
   refine Settle.now ?_
   have hyes:zFO n i:=hm.2 ⟨by omega,by omega,by omega,by omega,hb,hc,fun r hr=>by
    obtain⟨j,hj,rfl⟩:=List.getElem_of_mem hr
    exact h6 j hj (by omega)⟩
   rw[decide_eq_true hyes]at hq
   simp(disch:=first|exact Xe|fail)only[zFS,↓Xa,Xb,Xc,↓reduceIte,Nat.reduceLT,Nat.reduceEqDiff,Nat.reduceBEq,Nat.reduceLeDiff,Nat.reduceAdd,Nat.reduceMul]
   exact SetR.dropTo ((Le.refl H).updB n1) (SetR.now hq)
 have cf:=zKb i
 by_cases ht:i.op=3∨i.op=4
 ·rw[decide_eq_true ht]
  by_cases hc:zKH i
  ·rw[decide_eq_true hc]at cf
   simp(disch:=first|exact Xe|fail)only[zA0,↓Xa,Xb,Xc,↓reduceIte,Nat.reduceLT,Nat.reduceEqDiff,Nat.reduceBEq,Nat.reduceLeDiff,Nat.reduceAdd,Nat.reduceMul]
   refine cf.call ?_
   have r:=rest (fun h=>absurd ht h) hc _ rfl
   simp(disch:=first|exact Xe|fail)only[zBV,zNz,zA0,↓Xa,Xb,Xc,↓reduceIte,Nat.reduceLT,Nat.reduceEqDiff,Nat.reduceBEq,Nat.reduceLeDiff,Nat.reduceAdd,Nat.reduceMul]at r
   simp(disch:=first|exact Xe|fail)only[zA0,↓Xa,Xb,Xc,↓reduceIte,Nat.reduceLT,Nat.reduceEqDiff,Nat.reduceBEq,Nat.reduceLeDiff,Nat.reduceAdd,Nat.reduceMul]
   exact r
  ·rw[decide_eq_false hc]at cf
   simp(disch:=first|exact Xe|fail)only[zA0,↓Xa,Xb,Xc,↓reduceIte,Nat.reduceLT,Nat.reduceEqDiff,Nat.reduceBEq,Nat.reduceLeDiff,Nat.reduceAdd,Nat.reduceMul]
   refine cf.call ?_
   simp(disch:=first|exact Xe|fail)only[zA0,zFS,↓Xa,Xb,Xc,↓reduceIte,Nat.reduceLT,Nat.reduceEqDiff,Nat.reduceBEq,Nat.reduceLeDiff,Nat.reduceAdd,Nat.reduceMul]
   exact bad (fun h=>hc (hm.1 h).2.2.2.2.2.1) n1
 ·rw[decide_eq_false ht]
  by_cases hb:i.b=((0:Nat):Int)
  ·by_cases hc:zKH i
   ·rw[decide_eq_true hc]at cf
    simp(disch:=first|exact Xe|fail)only[zAU,decide_eq_true hb,zA0,↓Xa,Xb,Xc,↓reduceIte,Nat.reduceLT,Nat.reduceEqDiff,Nat.reduceBEq,Nat.reduceLeDiff,Nat.reduceAdd,Nat.reduceMul]
    refine cf.call ?_
    have r:=rest (fun _=>hb) hc _ rfl
    simp(disch:=first|exact Xe|fail)only[zBV,zNz,zA0,↓Xa,Xb,Xc,↓reduceIte,Nat.reduceLT,Nat.reduceEqDiff,Nat.reduceBEq,Nat.reduceLeDiff,Nat.reduceAdd,Nat.reduceMul]at r
    simp(disch:=first|exact Xe|fail)only[zA0,↓Xa,Xb,Xc,↓reduceIte,Nat.reduceLT,Nat.reduceEqDiff,Nat.reduceBEq,Nat.reduceLeDiff,Nat.reduceAdd,Nat.reduceMul]
    exact r
   ·rw[decide_eq_false hc]at cf
    simp(disch:=first|exact Xe|fail)only[zAU,decide_eq_true hb,zA0,↓Xa,Xb,Xc,↓reduceIte,Nat.reduceLT,Nat.reduceEqDiff,Nat.reduceBEq,Nat.reduceLeDiff,Nat.reduceAdd,Nat.reduceMul]
    refine cf.call ?_
    simp(disch:=first|exact Xe|fail)only[zA0,zFS,↓Xa,Xb,Xc,↓reduceIte,Nat.reduceLT,Nat.reduceEqDiff,Nat.reduceBEq,Nat.reduceLeDiff,Nat.reduceAdd,Nat.reduceMul]
    exact bad (fun h=>hc (hm.1 h).2.2.2.2.2.1) n1
  ·simp(disch:=first|exact Xe|fail)only[zAU,decide_eq_false hb,zFS,↓Xa,Xb,Xc,↓reduceIte,Nat.reduceLT,Nat.reduceEqDiff,Nat.reduceBEq,Nat.reduceLeDiff,Nat.reduceAdd,Nat.reduceMul]
   exact bad (fun h=>hb ((hm.1 h).2.2.2.2.1 ht)) n1
theorem zMP(p:PR)(hp:p.ok): ∃k:Int,PFn Tryz.prog 99 [zEF p] (.tup [.int .i64 k,.int .i64 (((if zBl p then 0 else 80:Nat)):Int)]):=by
 obtain⟨hp1,hp2,hp3,hp4,hp5,hp6⟩:=hp
 have lc:p.code.length<9223372036854775808:=by omega
 have lo:p.outs.length<9223372036854775808:=by omega
 by_cases hh:zET p
 rotate_left
 ·refine⟨-1,fun H Q hq=>?_⟩
  rw[if_neg (fun h=>hh h.1)]at hq
  have out: ∀(q:Nat)(x:Option ABlk),H q=none→SetR Q (.tup [.int .i64 (-1),.int .i64 ((80:Nat):Int)]) (H.upd q x):=fun q x h=>SetR.dropTo ((Le.refl H).updB h) (SetR.now hq)
  refine zOr (by simp) ?_
  simp(disch:=first|exact Xe|fail)only[zPj,zBj,↓Xa,Xb,Xc,↓reduceIte,Nat.reduceLT,Nat.reduceEqDiff,Nat.reduceBEq,Nat.reduceLeDiff,Nat.reduceAdd,Nat.reduceMul]
  refine zAD fun p1 hp1=>?_
  have n1:=hp1
  unfold zET at hh
  by_cases h1:p.ins<((1:Nat):Int)
  ·simp(disch:=first|exact Xe|fail)only[zAc,decide_eq_true h1,zN3,↓Xa,Xb,Xc,↓reduceIte,Nat.reduceLT,Nat.reduceEqDiff,Nat.reduceBEq,Nat.reduceLeDiff,Nat.reduceAdd,Nat.reduceMul]
   exact out _ _ n1
  by_cases h2:p.regs<p.ins
  ·simp(disch:=first|exact Xe|fail)only[zAc,zAw,decide_eq_false h1,decide_eq_true h2,zN3,↓Xa,Xb,Xc,↓reduceIte,Nat.reduceLT,Nat.reduceEqDiff,Nat.reduceBEq,Nat.reduceLeDiff,Nat.reduceAdd,Nat.reduceMul]
   exact out _ _ n1
  by_cases h3:((128:Nat):Int)<p.regs
  ·simp(disch:=first|exact Xe|fail)only[zAc,zAw,decide_eq_false h1,decide_eq_false h2,decide_eq_true h3,zN3,↓Xa,Xb,Xc,↓reduceIte,Nat.reduceLT,Nat.reduceEqDiff,Nat.reduceBEq,Nat.reduceLeDiff,Nat.reduceAdd,Nat.reduceMul]
   exact out _ _ n1
  by_cases h4:((16384:Nat):Int)<((p.code.length:Nat):Int)
  ·simp(disch:=first|exact Xe|fail)only[zAc,zAw,decide_eq_false h1,decide_eq_false h2,decide_eq_false h3,zBf,lc,decide_eq_true h4,zN3,↓Xa,Xb,Xc,↓reduceIte,Nat.reduceLT,Nat.reduceEqDiff,Nat.reduceBEq,Nat.reduceLeDiff,Nat.reduceAdd,Nat.reduceMul]
   exact out _ _ n1
  by_cases h5:((p.outs.length:Nat):Int)<((1:Nat):Int)
  ·simp(disch:=first|exact Xe|fail)only[zAc,zAw,decide_eq_false h1,decide_eq_false h2,decide_eq_false h3,zBf,lc,decide_eq_false h4,zAm,lo,decide_eq_true h5,zN3,↓Xa,Xb,Xc,↓reduceIte,Nat.reduceLT,Nat.reduceEqDiff,Nat.reduceBEq,Nat.reduceLeDiff,Nat.reduceAdd,Nat.reduceMul]
   exact out _ _ n1
  have h6:((128:Nat):Int)<((p.outs.length:Nat):Int):=by
   have:=fun h=>hh h
   omega
  simp(disch:=first|exact Xe|fail)only[zAc,zAw,decide_eq_false h1,decide_eq_false h2,decide_eq_false h3,zBf,lc,decide_eq_false h4,zAm,lo,decide_eq_false h5,decide_eq_true h6,zN3,↓Xa,Xb,Xc,↓reduceIte,Nat.reduceLT,Nat.reduceEqDiff,Nat.reduceBEq,Nat.reduceLeDiff,Nat.reduceAdd,Nat.reduceMul]
  exact out _ _ n1
 ·have hh':=hh
  unfold zET at hh'
  have h1: ¬p.ins<((1:Nat):Int):=by omega
  have h2: ¬p.regs<p.ins:=by omega
  have h3: ¬((128:Nat):Int)<p.regs:=by omega
  have h4: ¬((16384:Nat):Int)<((p.code.length:Nat):Int):=by omega
  have h5: ¬((p.outs.length:Nat):Int)<((1:Nat):Int):=by omega
  have h6: ¬((128:Nat):Int)<((p.outs.length:Nat):Int):=by omega
  have start: ∀{H:AHeap}{Q:AV→AHeap→Prop},(∀p1,H p1=none→W Tryz.prog (zBV (zBV zPj)) (zFF zN3 Q) ⟨[],[(1,.ptr p1 4 0)],H.upd p1 (some (.row 25 0 [.int .i64 p.ins,.int .i64 p.regs,zBI p.code false,zAr p.outs false]))⟩)→Run Tryz.prog 99 [zEF p] H Q:=by
   intro H Q hw
   refine zOr (by simp) ?_
   simp(disch:=first|exact Xe|fail)only[zPj,zBj,↓Xa,Xb,Xc,↓reduceIte,Nat.reduceLT,Nat.reduceEqDiff,Nat.reduceBEq,Nat.reduceLeDiff,Nat.reduceAdd,Nat.reduceMul]
   refine zAD fun p1 hp1=>?_
   have n1:=hp1
   have r:=hw p1 n1
   simp(disch:=first|exact Xe|fail)only[zBV,zPj,zAm,lo,↓Xa,Xb,Xc,↓reduceIte,Nat.reduceLT,Nat.reduceEqDiff,Nat.reduceBEq,Nat.reduceLeDiff,Nat.reduceAdd,Nat.reduceMul]at r
   simp(disch:=first|exact Xe|fail)only[zAc,zAw,decide_eq_false h1,decide_eq_false h2,decide_eq_false h3,zBf,lc,decide_eq_false h4,zAm,lo,decide_eq_false h5,decide_eq_false h6,↓Xa,Xb,Xc,↓reduceIte,Nat.reduceLT,Nat.reduceEqDiff,Nat.reduceBEq,Nat.reduceLeDiff,Nat.reduceAdd,Nat.reduceMul]
   exact r
  by_cases ho: ∀n,n∈p.outs→0≤n∧n<p.regs
  rotate_left
  ·refine⟨-1,fun H Q hq=>start fun p1 n1=>?_⟩
   rw[if_neg (fun h=>ho h.2.1)]at hq
   simp(disch:=first|exact Xe|fail)only[zBV,zPj,zAm,lo,↓Xa,Xb,Xc,↓reduceIte,Nat.reduceLT,Nat.reduceEqDiff,Nat.reduceBEq,Nat.reduceLeDiff,Nat.reduceAdd,Nat.reduceMul]
   refine zAO (fun s:Nat=>⟨[],[(1,.ptr p1 4 0),(42,zAr p.outs false),(43,.int .i64 p.outs.length),(44,.int .i64 s)],H.upd p1 (some (.row 25 0 [.int .i64 p.ins,.int .i64 p.regs,zBI p.code false,zAr p.outs false]))⟩)
    (fun s=>s≤p.outs.length∧∀j(h:j<p.outs.length),j<s→0≤p.outs[j]∧p.outs[j]<p.regs) (fun s=>p.outs.length-s) 0 (Settle.now rfl) ⟨Nat.zero_le _,fun j _ h=>absurd h (by omega)⟩ ?_
   rintro s ⟨g1,g2⟩
   by_cases hi:s<p.outs.length
   ·simp(disch:=first|exact Xe|fail)only[hi,zBq,zBb,↓Xa,Xb,Xc,↓reduceIte,Nat.reduceLT,Nat.reduceEqDiff,Nat.reduceBEq,Nat.reduceLeDiff,Nat.reduceAdd,Nat.reduceMul]
    by_cases c1:p.outs[s]<((0:Nat):Int)
    ·simp(disch:=first|exact Xe|fail)only[zAc,decide_eq_true c1,zN3,↓Xa,Xb,Xc,↓reduceIte,Nat.reduceLT,Nat.reduceEqDiff,Nat.reduceBEq,Nat.reduceLeDiff,Nat.reduceAdd,Nat.reduceMul]
     exact SetR.dropTo ((Le.refl H).updB n1) (SetR.now hq)
    by_cases c2:p.regs≤p.outs[s]
    ·simp(disch:=first|exact Xe|fail)only[zAc,zCx,decide_eq_false c1,decide_eq_true c2,zN3,↓Xa,Xb,Xc,↓reduceIte,Nat.reduceLT,Nat.reduceEqDiff,Nat.reduceBEq,Nat.reduceLeDiff,Nat.reduceAdd,Nat.reduceMul]
     exact SetR.dropTo ((Le.refl H).updB n1) (SetR.now hq)
    simp(disch:=first|exact Xe|fail)only[zAc,zCx,decide_eq_false c1,decide_eq_false c2,↓Xa,Xb,Xc,↓reduceIte,Nat.reduceLT,Nat.reduceEqDiff,Nat.reduceBEq,Nat.reduceLeDiff,Nat.reduceAdd,Nat.reduceMul]
    refine Settle.now ⟨s+1,by omega,⟨by omega,fun j hj hjs=>?_⟩,rfl⟩
    by_cases e:j=s
    ·subst e;omega
    ·exact g2 j hj (by omega)
   ·exact absurd (fun n hn=>by
     obtain⟨j,hj,rfl⟩:=List.getElem_of_mem hn
     exact g2 j hj (by omega)) ho
  have start2: ∀{H:AHeap}{Q:AV→AHeap→Prop},(∀p1,H p1=none→W Tryz.prog (zBV (zBV (zBV zPj))) (zFF zN3 Q) ⟨[],[(1,.ptr p1 4 0),(42,zAr p.outs false),(43,.int .i64 p.outs.length),(44,.int .i64 p.outs.length),(45,.bool false)],H.upd p1 (some (.row 25 0 [.int .i64 p.ins,.int .i64 p.regs,zBI p.code false,zAr p.outs false]))⟩)→Run Tryz.prog 99 [zEF p] H Q:=by
   intro H Q hw
   refine start fun p1 n1=>?_
   have r:=hw p1 n1
   simp(disch:=first|exact Xe|fail)only[zBV,zPj,zBf,lc,↓Xa,Xb,Xc,↓reduceIte,Nat.reduceLT,Nat.reduceEqDiff,Nat.reduceBEq,Nat.reduceLeDiff,Nat.reduceAdd,Nat.reduceMul]at r
   simp(disch:=first|exact Xe|fail)only[zBV,zPj,zAm,lo,↓Xa,Xb,Xc,↓reduceIte,Nat.reduceLT,Nat.reduceEqDiff,Nat.reduceBEq,Nat.reduceLeDiff,Nat.reduceAdd,Nat.reduceMul]
   refine zAO (fun s:Nat=>⟨[],[(1,.ptr p1 4 0),(42,zAr p.outs false),(43,.int .i64 p.outs.length),(44,.int .i64 s)],H.upd p1 (some (.row 25 0 [.int .i64 p.ins,.int .i64 p.regs,zBI p.code false,zAr p.outs false]))⟩)
    (fun s=>s≤p.outs.length) (fun s=>p.outs.length-s) 0 (Settle.now rfl) (Nat.zero_le _) ?_
   rintro s g1
   by_cases hi:s<p.outs.length
   ·have hm:=ho _ (List.getElem_mem hi)
    have c1: ¬p.outs[s]<((0:Nat):Int):=by omega
    have c2: ¬p.regs≤p.outs[s]:=by omega
    simp(disch:=first|exact Xe|fail)only[hi,zBq,zBb,↓Xa,Xb,Xc,↓reduceIte,Nat.reduceLT,Nat.reduceEqDiff,Nat.reduceBEq,Nat.reduceLeDiff,Nat.reduceAdd,Nat.reduceMul]
    simp(disch:=first|exact Xe|fail)only[zAc,zCx,decide_eq_false c1,decide_eq_false c2,↓Xa,Xb,Xc,↓reduceIte,Nat.reduceLT,Nat.reduceEqDiff,Nat.reduceBEq,Nat.reduceLeDiff,Nat.reduceAdd,Nat.reduceMul]
    exact Settle.now ⟨s+1,by omega,by omega,rfl⟩
   ·obtain rfl:s=p.outs.length:=by omega
    simp(disch:=first|exact Xe|fail)only[hi,↓Xa,Xb,Xc,↓reduceIte,Nat.reduceLT,Nat.reduceEqDiff,Nat.reduceBEq,Nat.reduceLeDiff,Nat.reduceAdd,Nat.reduceMul]
    refine Settle.now ?_
    simp(disch:=first|exact Xe|fail)only[zBf,lc,↓Xa,Xb,Xc,↓reduceIte,Nat.reduceLT,Nat.reduceEqDiff,Nat.reduceBEq,Nat.reduceLeDiff,Nat.reduceAdd,Nat.reduceMul]
    exact r
  have step: ∀{H:AHeap}{p1 s:Nat},H p1=none→True:=fun _=>trivial
  rcases zMw (P:=fun j=> ∃h:j<p.code.length,¬zFO p.regs (p.code[j])) 0 p.code.length with⟨c,_,hc,⟨hc',hbad⟩,hmin⟩|hall
  ·refine⟨(c:Int),fun H Q hq=>start2 fun p1 n1=>?_⟩
   rw[if_neg (fun h=>hbad (h.2.2 _ (List.getElem_mem hc')))]at hq
   simp(disch:=first|exact Xe|fail)only[zBV,zPj,zBf,lc,↓Xa,Xb,Xc,↓reduceIte,Nat.reduceLT,Nat.reduceEqDiff,Nat.reduceBEq,Nat.reduceLeDiff,Nat.reduceAdd,Nat.reduceMul]
   refine zAO (fun s:Nat=>⟨[],[(1,.ptr p1 4 0),(58,zBI p.code false),(59,.int .i64 p.code.length),(60,.int .i64 s)],H.upd p1 (some (.row 25 0 [.int .i64 p.ins,.int .i64 p.regs,zBI p.code false,zAr p.outs false]))⟩)
    (fun s=>s≤c) (fun s=>p.code.length-s) 0 (Settle.now rfl) (Nat.zero_le _) ?_
   rintro s g1
   have hs:s<p.code.length:=by omega
   have mf:=zWH (p.code[s]) p.regs
   simp(disch:=first|exact Xe|fail)only[hs,zDb,zCw,↓Xa,Xb,Xc,↓reduceIte,Nat.reduceLT,Nat.reduceEqDiff,Nat.reduceBEq,Nat.reduceLeDiff,Nat.reduceAdd,Nat.reduceMul]
   refine zAD fun p2 hp2=>?_
   have n2:=hp2
   simp only[zAB]at n2
   obtain⟨_,n2⟩:=n2
   simp(disch:=first|exact Xe|fail)only[zA6,zA0,↓Xa,Xb,Xc,↓reduceIte,Nat.reduceLT,Nat.reduceEqDiff,Nat.reduceBEq,Nat.reduceLeDiff,Nat.reduceAdd,Nat.reduceMul]
   by_cases e:s=c
   ·subst e
    rw[decide_eq_false hbad]at mf
    refine mf.call ?_
    simp(disch:=first|exact Xe|fail)only[zN3,↓Xa,Xb,Xc,↓reduceIte,Nat.reduceLT,Nat.reduceEqDiff,Nat.reduceBEq,Nat.reduceLeDiff,Nat.reduceAdd,Nat.reduceMul]
    exact SetR.dropTo (((Le.refl H).updB n1).updB n2) (SetR.now hq)
   ·have hok:zFO p.regs (p.code[s]):=Classical.not_not.1 fun h=>hmin s (by omega) (by omega) ⟨hs,h⟩
    rw[decide_eq_true hok]at mf
    refine mf.call ?_
    simp(disch:=first|exact Xe|fail)only[↓Xa,Xb,Xc,↓reduceIte,Nat.reduceLT,Nat.reduceEqDiff,Nat.reduceBEq,Nat.reduceLeDiff,Nat.reduceAdd,Nat.reduceMul]
    refine Settle.dropTo ((Le.refl _).updB (zAB.2 ⟨by assumption,n2⟩)) ?_
    exact Settle.now ⟨s+1,by omega,by omega,rfl⟩
  ·refine⟨0,fun H Q hq=>start2 fun p1 n1=>?_⟩
   have hok: ∀i,i∈p.code→zFO p.regs i:=fun i hi=>by
    obtain⟨j,hj,rfl⟩:=List.getElem_of_mem hi
    exact Classical.not_not.1 fun h=>hall j (by omega) (by omega) ⟨hj,h⟩
   rw[if_pos ⟨hh,ho,hok⟩]at hq
   simp(disch:=first|exact Xe|fail)only[zBV,zPj,zBf,lc,↓Xa,Xb,Xc,↓reduceIte,Nat.reduceLT,Nat.reduceEqDiff,Nat.reduceBEq,Nat.reduceLeDiff,Nat.reduceAdd,Nat.reduceMul]
   refine zAO (fun s:Nat=>⟨[],[(1,.ptr p1 4 0),(58,zBI p.code false),(59,.int .i64 p.code.length),(60,.int .i64 s)],H.upd p1 (some (.row 25 0 [.int .i64 p.ins,.int .i64 p.regs,zBI p.code false,zAr p.outs false]))⟩)
    (fun s=>s≤p.code.length) (fun s=>p.code.length-s) 0 (Settle.now rfl) (Nat.zero_le _) ?_
   rintro s g1
   by_cases hs:s<p.code.length
   ·have mf:=zWH (p.code[s]) p.regs
    rw[decide_eq_true (hok _ (List.getElem_mem hs))]at mf
    simp(disch:=first|exact Xe|fail)only[hs,zDb,zCw,↓Xa,Xb,Xc,↓reduceIte,Nat.reduceLT,Nat.reduceEqDiff,Nat.reduceBEq,Nat.reduceLeDiff,Nat.reduceAdd,Nat.reduceMul]
    refine zAD fun p2 hp2=>?_
    have n2:=hp2
    simp only[zAB]at n2
    obtain⟨_,n2⟩:=n2
    simp(disch:=first|exact Xe|fail)only[zA6,zA0,↓Xa,Xb,Xc,↓reduceIte,Nat.reduceLT,Nat.reduceEqDiff,Nat.reduceBEq,Nat.reduceLeDiff,Nat.reduceAdd,Nat.reduceMul]
    refine mf.call ?_
    simp(disch:=first|exact Xe|fail)only[↓Xa,Xb,Xc,↓reduceIte,Nat.reduceLT,Nat.reduceEqDiff,Nat.reduceBEq,Nat.reduceLeDiff,Nat.reduceAdd,Nat.reduceMul]
    refine Settle.dropTo ((Le.refl _).updB (zAB.2 ⟨by assumption,n2⟩)) ?_
    exact Settle.now ⟨s+1,by omega,by omega,rfl⟩
   ·simp(disch:=first|exact Xe|fail)only[hs,↓Xa,Xb,Xc,↓reduceIte,Nat.reduceLT,Nat.reduceEqDiff,Nat.reduceBEq,Nat.reduceLeDiff,Nat.reduceAdd,Nat.reduceMul]
    refine Settle.now ?_
    simp(disch:=first|exact Xe|fail)only[zN3,↓Xa,Xb,Xc,↓reduceIte,Nat.reduceLT,Nat.reduceEqDiff,Nat.reduceBEq,Nat.reduceLeDiff,Nat.reduceAdd,Nat.reduceMul]
    exact SetR.dropTo ((Le.refl H).updB n1) (SetR.now hq)
end Go.Proofs.YtmndejlpfmmaiaaGreatDoor.Fw
namespace Go.Proofs.YtmndejlpfmmaiaaGreatDoor.Ma
def tz(n:Nat):Nat:=if h:n=0∨n%2=1 then 0 else tz (n / 2)+1
termination_by n
decreasing_by omega
theorem zWw{n:Nat}(h:n%2=1):tz n=0:=by rw[tz];simp[h]
theorem zYP:tz 0=0:=by rw[tz];simp
theorem zVL{n:Nat}(h:0<n):tz (2*n)=tz n+1:=by
 rw[tz,dif_neg (by omega),Nat.mul_div_cancel_left _ (by omega)]
theorem zbT(k m:Nat):tz (2^k*(2*m+1))=k:=by
 induction k with
 |zero=>rw[Nat.pow_zero,Nat.one_mul];exact zWw (by omega)
 |succ k ih=>
  have e:2^(k+1)*(2*m+1)=2*(2^k*(2*m+1)):=by rw[Nat.pow_succ,Nat.mul_comm (2^k) 2,Nat.mul_assoc]
  rw[e,zVL (Nat.mul_pos (Nat.pow_pos (by omega)) (by omega)),ih]
theorem zIb(n:Nat):0<n→∃m,n=2^tz n*(2*m+1):=by
 induction n using Nat.strongRecOn with
 |_ n ih=>
  intro h
  by_cases ho:n%2=1
  ·exact⟨n / 2,by rw[zWw ho,Nat.pow_zero,Nat.one_mul];omega⟩
  ·obtain⟨m,hm⟩:=ih (n / 2) (by omega) (by omega)
   have e:n=2*(n / 2):=by omega
   refine⟨m,?_⟩
   have e2:tz n=tz (n / 2)+1:=by
    conv=>lhs;rw[e]
    exact zVL (by omega)
   rw[e2,Nat.pow_succ,Nat.mul_comm (2^_) 2,Nat.mul_assoc,← hm]
   exact e
theorem zU1{n k:Nat}(h:0<n)(hn:n<2^k):tz n<k:=by
 obtain⟨m,hm⟩:=zIb n h
 have h1:2^tz n≤n:=by
  conv=>rhs;rw[hm]
  exact Nat.le_mul_of_pos_right _ (by omega)
 exact(Nat.pow_lt_pow_iff_right (by omega)).1 (Nat.lt_of_le_of_lt h1 hn)
theorem zYo{x:Nat}(h:0<x)(hx:x<4294967296):x &&& (4294967296-x)=2^tz x:=by
 obtain⟨m,hm⟩:=zIb x h
 have hk:=zU1 (k:=32) h hx
 generalize tz x=k at*
 have hp:(4294967296:Nat)=2^k*2^(32-k):=by rw[← Nat.pow_add,show k+(32-k)=32 by omega]
 have hlt:2*m+1<2^(32-k):=by
  rw[hm,hp]at hx
  exact Nat.lt_of_mul_lt_mul_left hx
 obtain⟨j,hj⟩: ∃j,32-k=j+1:=⟨31-k,by omega⟩
 rw[hj]at hlt hp
 have hm2:m<2^j:=by rw[Nat.pow_succ]at hlt;omega
 have e1:x=(2*m+1) <<< k:=by rw[Nat.shiftLeft_eq,hm,Nat.mul_comm]
 have e2:4294967296-x=(2*(2^j-(m+1))+1) <<< k:=by
  rw[Nat.shiftLeft_eq,hm,hp,← Nat.mul_sub,Nat.mul_comm]
  congr 1
  rw[Nat.pow_succ];omega
 rw[e2]
 conv=>lhs;lhs;rw[e1]
 rw[← Nat.shiftLeft_and_distrib,Nat.shiftLeft_eq]
 have e3:(2*m+1) &&& (2*(2^j-(m+1))+1)=1:=by
  apply Nat.eq_of_testBit_eq
  intro i
  rw[Nat.testBit_and]
  cases i with
  |zero=>simp
  |succ i=>
   have a1:(2*m+1).testBit (i+1)=m.testBit i:=by rw[Nat.testBit_succ];congr 1;omega
   have a2:(2*(2^j-(m+1))+1).testBit (i+1)=(2^j-(m+1)).testBit i:=by rw[Nat.testBit_succ];congr 1;omega
   rw[a1,a2,Nat.testBit_two_pow_sub_succ hm2]
   cases m.testBit i<;>simp[Nat.testBit_succ]
 rw[e3,Nat.one_mul]
def deB:List Nat:=[0,1,28,2,29,14,24,3,30,22,20,15,25,17,4,8,31,27,13,23,21,19,16,7,26,12,18,6,11,5,10,9]
theorem zcA{k:Nat}(h:k<32):deB.getD (2^k*125613361%4294967296 / 134217728) 0=k:=by
 have: ∀k,k<32→deB.getD (2^k*125613361%4294967296 / 134217728) 0=k:=by decide
 exact this k h
theorem zcb{k:Nat}(h:k<32):2^k*125613361%4294967296 / 134217728<32:=by omega
theorem zTF{a:List Nat}{i:Nat}(ha:Lim 4294967296 a)(hi:i<a.length)(h0:val 4294967296 (a.take i)=0)(hx:0<a.getD i 0):tz (val 4294967296 a)=32*i+tz (a.getD i 0)∧0<val 4294967296 a:=by
 have hxl:=ha.getD (by omega) i
 have hk:=zU1 (k:=32) hx hxl
 obtain⟨m,hm⟩:=zIb _ hx
 have e:=zCS 4294967296 a i (by omega)
 rw[h0,Nat.zero_add,zBh 4294967296 hi]at e
 generalize a.getD i 0=x at*
 generalize val 4294967296 (a.drop (i+1))=r at*
 generalize tz x=k at*
 obtain⟨j,hj⟩: ∃j,32=k+(j+1):=⟨31-k,by omega⟩
 have e2:val 4294967296 a=2^(32*i+k)*(2*(m+2^j*r)+1):=by
  rw[e,hm,show(4294967296:Nat)=2^32 from rfl,← Nat.pow_mul,Nat.pow_add,Nat.mul_assoc]
  congr 1
  conv=>lhs;rw[hj]
  rw[Nat.pow_add,Nat.pow_succ,Nat.mul_assoc,← Nat.mul_add]
  congr 1
  rw[Nat.mul_add 2,← Nat.mul_assoc 2,Nat.mul_comm 2 (2^j)]
  omega
 exact⟨by rw[e2,zbT],by rw[e2];exact Nat.mul_pos (Nat.pow_pos (by omega)) (by omega)⟩
end Go.Proofs.YtmndejlpfmmaiaaGreatDoor.Ma
namespace Go.Proofs.YtmndejlpfmmaiaaGreatDoor.Fw
open Go Go.Proofs.YtmndejlpfmmaiaaGreatDoor.Ma
set_option maxRecDepth 20000
def zY9:List AV:=deB.map fun(n:Nat)=>AV.int .u8 (n:Int)
def TzH(H:AHeap):Prop:=H 0=some (.glob 0 zY9)
theorem TzH.le{H H':AHeap}(h:TzH H)(hl:Le H H'):TzH H':=hl _ _ h
theorem zYr{i:Nat}(h:i<32):(zY9.drop i).take 1=[.int .u8 ((deB.getD i 0:Nat):Int)]:=by
 have hl:zY9.length=32:=rfl
 rw[List.drop_eq_getElem_cons (by omega),List.take_succ_cons,List.take_zero]
 simp only[zY9,List.getElem_map]
 rw[List.getD_eq_getElem?_getD,List.getElem?_eq_getElem (show i<deB.length from h),Option.getD_some]
theorem zVq{g n es i:Nat}{K:AV→Prop}{cells:List AV}(h:i<n):zdO g n es K (i:Int) (some (.glob g cells))=K (.ptr g cells.length (i*es)):=by
 simp[zdO,h]
theorem zU6{H:AHeap}{x:Nat}{K:AV→AHeap→Prop}(hH:TzH H)(h0:0<x)(hx:x<4294967296)(k:K (.int .i64 ((tz x:Nat):Int)) H):Run Tryz.prog 225 [.int .u32 (x:Int)] H K:=by
 refine zSs (by simp) ?_
 have hH':H 0=some (.glob 0 zY9):=hH
 have hk:=zU1 (k:=32) h0 hx
 have hlt:=zcb hk
 have hat:=zcA hk
 have han:=zYo h0 hx
 generalize tz x=t at*
 have hne: ¬x=0:=by omega
 have c1: ∀K,unW .neg (.int .u32 (x:Int)) K↔K (.int .u32 ((4294967296-x:Nat):Int)):=fun K=>by
  simp only[unW,zIJ];rw[show(0-(x:Int))%4294967296=((4294967296-x:Nat):Int) by omega]
 have c2: ∀K,zAv .and (.int .u32 (x:Int)) (.int .u32 ((4294967296-x:Nat):Int)) K↔K (.int .u32 ((2^t:Nat):Int)):=fun K=>by
  rw[zGf .u32 (by simp[IntKind.bits];omega) (by simp[IntKind.bits];omega),han,zEN (by
   have:2^t<2^32:=Nat.pow_lt_pow_right (by omega) hk
   omega)]
 simp(disch:=first|exact Xe|fail)only[zaV,hne,c1,c2,hH',zVq,zMf,↓Xa,Xb,Xc,↓reduceIte,Nat.reduceLT,Nat.reduceEqDiff,Nat.reduceBEq,Nat.reduceLeDiff,Nat.reduceAdd,Nat.reduceMul]
 have e27:(2:Nat)^27=134217728:=by decide
 rw[e27]
 have hl:zY9.length=32:=rfl
 refine⟨by omega,?_⟩
 rw[zYr hlt,hat]
 simp(disch:=first|exact Xe|fail)only[zap,↓Xa,Xb,Xc,↓reduceIte,Nat.reduceLT,Nat.reduceEqDiff,Nat.reduceBEq,Nat.reduceLeDiff,Nat.reduceAdd,Nat.reduceMul]
 exact SetR.now k
theorem zGn{a:List Nat}{i:Nat}(h:val 4294967296 (a.take i)=0)(h0:a.getD i 0=0):val 4294967296 (a.take (i+1))=0:=by
 rw[zAa,h,h0];omega
theorem zTG{H:AHeap}{a:List Nat}{t:Bool}{K:AV→AHeap→Prop}(hH:TzH H)(ha:Lim 4294967296 a)(hl:a.length≤1099511627776)(k:K (.int .i64 ((tz (val 4294967296 a):Nat):Int)) H):Run Tryz.prog 235 [LS a t] H K:=by
 refine zSd (by simp) ?_
 simp(disch:=first|exact Xe|fail)only[zcr,↓Xa,Xb,Xc,↓reduceIte,Nat.reduceLT,Nat.reduceEqDiff,Nat.reduceBEq,Nat.reduceLeDiff,Nat.reduceAdd,Nat.reduceMul]
 refine zAO (fun i:Nat=>⟨[],[(5,LS a t),(6,.int .i64 (a.length:Nat)),(7,.int .i64 (i:Nat))],H⟩) (fun i=>i≤a.length∧val 4294967296 (a.take i)=0) (fun i=>a.length-i) 0 (Settle.now rfl) ⟨by simp,by simp[val]⟩ ?_
 rintro i ⟨h1,h2⟩
 by_cases hi:i<a.length
 ·have hxl:=ha.getD (by omega) i
  by_cases hx:0<a.getD i 0
  ·obtain⟨e1,e2⟩:=zTF ha hi h2 hx
   have hk:=zU1 (k:=32) hx hxl
   simp(disch:=first|exact Xe|fail)only[hi,hx,↓Xa,Xb,Xc,↓reduceIte,Nat.reduceLT,Nat.reduceEqDiff,Nat.reduceBEq,Nat.reduceLeDiff,Nat.reduceAdd,Nat.reduceMul]
   refine zAM (zU6 hH hx hxl ?_)
   rw[e1]at k
   simp(disch:=first|exact Xe|fail)only[zX0,↓Xa,Xb,Xc,↓reduceIte,Nat.reduceLT,Nat.reduceEqDiff,Nat.reduceBEq,Nat.reduceLeDiff,Nat.reduceAdd,Nat.reduceMul]
   exact SetR.now k
  ·have hx0:a.getD i 0=0:=by omega
   simp(disch:=first|exact Xe|fail)only[hi,hx,↓Xa,Xb,Xc,↓reduceIte,Nat.reduceLT,Nat.reduceEqDiff,Nat.reduceBEq,Nat.reduceLeDiff,Nat.reduceAdd,Nat.reduceMul]
   exact Settle.now ⟨i+1,by omega,⟨by omega,zGn h2 hx0⟩,rfl⟩
 ·rw[List.take_of_length_le (by omega)]at h2
  rw[h2,zYP]at k
  simp(disch:=first|exact Xe|fail)only[hi,↓Xa,Xb,Xc,↓reduceIte,Nat.reduceLT,Nat.reduceEqDiff,Nat.reduceBEq,Nat.reduceLeDiff,Nat.reduceAdd,Nat.reduceMul]
  refine Settle.now ?_
  simp(disch:=first|exact Xe|fail)only[zX0,↓Xa,Xb,Xc,↓reduceIte,Nat.reduceLT,Nat.reduceEqDiff,Nat.reduceBEq,Nat.reduceLeDiff,Nat.reduceAdd,Nat.reduceMul]
  exact SetR.now k
def twV(x:Int):Int:=if x=0 then -1 else((tz x.natAbs:Nat):Int)
theorem zPF{H:AHeap}{Q:AV→AHeap→Prop}{x:Int}{k:Nat}(hH:TzH H)(hx:Bd k x)(hk:k≤1000000)(hq:Q (.int .i64 (twV x)) H):Run Tryz.prog 223 [zAe x] H Q:=by
 have hl:=hx.len
 refine zU5 (by simp) ?_
 simp(disch:=first|exact Xe|fail)only[zae,zAE,↓Xa,Xb,Xc,↓reduceIte,Nat.reduceLT,Nat.reduceEqDiff,Nat.reduceBEq,Nat.reduceLeDiff,Nat.reduceAdd,Nat.reduceMul]
 refine zAD fun p1 hp1=>?_
 have n1:=hp1
 have fin: ∀{v:AV}{a:Option ABlk},Q v H→SetR Q v (H.upd p1 a):=fun h=>SetR.dropTo ((Le.refl H).updB n1) (SetR.now h)
 simp(disch:=first|exact Xe|fail)only[zAF,↓Xa,Xb,Xc,↓reduceIte,Nat.reduceLT,Nat.reduceEqDiff,Nat.reduceBEq,Nat.reduceLeDiff,Nat.reduceAdd,Nat.reduceMul]
 refine(zC2 hx (by omega)).call ?_
 unfold twV at hq
 by_cases h0:x=0
 ·rw[if_pos h0]at hq
  have e:decide (x=0)=true:=decide_eq_true h0
  simp(disch:=first|exact Xe|fail)only[zFa,e,zYZ,↓Xa,Xb,Xc,↓reduceIte,Nat.reduceLT,Nat.reduceEqDiff,Nat.reduceBEq,Nat.reduceLeDiff,Nat.reduceAdd,Nat.reduceMul]
  exact fin hq
 ·rw[if_neg h0]at hq
  have e:decide (x=0)=false:=decide_eq_false h0
  simp(disch:=first|exact Xe|fail)only[zFa,e,zQh,zPG,zOv,zRn,↓Xa,Xb,Xc,↓reduceIte,Nat.reduceLT,Nat.reduceEqDiff,Nat.reduceBEq,Nat.reduceLeDiff,Nat.reduceAdd,Nat.reduceMul]
  refine zAM (zTG (hH.le ((Le.refl H).updB n1)) (zAG (by omega) _) (by omega) ?_)
  rw[zAJ (by omega)]
  simp(disch:=first|exact Xe|fail)only[zYZ,↓Xa,Xb,Xc,↓reduceIte,Nat.reduceLT,Nat.reduceEqDiff,Nat.reduceBEq,Nat.reduceLeDiff,Nat.reduceAdd,Nat.reduceMul]
  exact fin hq
theorem zc6{x:Int}{n k:Nat}(hx:Bd k x)(hn:n≤32*(k+2048))(j:Nat)(hj:n≤32*j):Bd (k+(j+1)) (x*2^n):=by
 refine Bd.mul hx ?_
 unfold Bd
 rw[Int.natAbs_pow,show(4294967296:Nat)=2^32 from rfl,← Nat.pow_mul]
 exact Nat.pow_lt_pow_right (by omega) (by omega)
theorem zVg{x:Int}{n:Nat}:sg (decide (x<0)) (x.natAbs*2^n)=x*2^n:=by
 have h:((x.natAbs*2^n:Nat):Int)=(x.natAbs:Int)*2^n:=by push_cast;rfl
 unfold sg
 by_cases hx:x<0
 ·rw[decide_eq_true hx,if_pos rfl,h,← Int.neg_mul];congr 1;omega
 ·rw[decide_eq_false hx,if_neg (by simp),h];congr 1;omega
theorem zO8{x:Int}{n k:Nat}(hx:Bd k x)(hk:k≤1000000)(hn:n≤65536):PFn Tryz.prog 174 [zAe x,.int .i64 (n:Int)] (.tup [zAe (x*2^n),.int .i64 ((0:Nat):Int)]):=by
 intro H Q hq
 have hl:=hx.len
 have hbs:=(zc6 hx (n:=n) (by omega) 2048 (by omega)).len
 have hbe:(x*2^n).natAbs=x.natAbs*2^n:=by rw[← zVg,zCv]
 rw[hbe]at hbs
 refine zUf (by simp) ?_
 simp(disch:=first|exact Xe|fail)only[zZO,zAE,↓Xa,Xb,Xc,↓reduceIte,Nat.reduceLT,Nat.reduceEqDiff,Nat.reduceBEq,Nat.reduceLeDiff,Nat.reduceAdd,Nat.reduceMul]
 refine zAD fun p1 hp1=>?_
 have n1:=hp1
 simp(disch:=first|exact Xe|fail)only[↓Xa,Xb,Xc,↓reduceIte,Nat.reduceLT,Nat.reduceEqDiff,Nat.reduceBEq,Nat.reduceLeDiff,Nat.reduceAdd,Nat.reduceMul]
 refine zAD fun p2 hp2=>?_
 have n2:=hp2
 simp only[zAB]at n2
 obtain⟨_,n2⟩:=n2
 have fin: ∀{v:AV}{a b:Option ABlk},Q v H→SetR Q v ((H.upd p1 a).upd p2 b):=fun h=>SetR.dropTo (((Le.refl H).updB n1).updB n2) (SetR.now h)
 simp(disch:=first|exact Xe|fail)only[zBU,zBO,↓Xa,Xb,Xc,↓reduceIte,Nat.reduceLT,Nat.reduceEqDiff,Nat.reduceBEq,Nat.reduceLeDiff,Nat.reduceAdd,Nat.reduceMul]
 refine(zQm true (zAG (by omega) _) hn (by omega)).call ?_
 rw[zAJ (by omega)]
 simp(disch:=first|exact Xe|fail)only[zBU,zBO,↓Xa,Xb,Xc,↓reduceIte,Nat.reduceLT,Nat.reduceEqDiff,Nat.reduceBEq,Nat.reduceLeDiff,Nat.reduceAdd,Nat.reduceMul]
 refine(zCA _ _ (by omega)).call ?_
 rw[zVg]
 simp(disch:=first|exact Xe|fail)only[zAE,zAF,zcO,↓Xa,Xb,Xc,↓reduceIte,Nat.reduceLT,Nat.reduceEqDiff,Nat.reduceBEq,Nat.reduceLeDiff,Nat.reduceAdd,Nat.reduceMul]
 exact fin hq
theorem zdB{x:Int}{n:Nat}(h:(2:Int)^n ∣ x):sg (decide (x<0)) (x.natAbs / 2^n)=x / 2^n:=by
 obtain⟨y,rfl⟩:=h
 have hp:(0:Int)<2^n:=Int.pow_pos (by omega)
 rw[Int.mul_ediv_cancel_left _ (by omega),Int.natAbs_mul,Int.natAbs_pow,show(2:Int).natAbs=2 from rfl,Nat.mul_div_cancel_left _ (Nat.pow_pos (by omega))]
 have:decide (2^n*y<0)=decide (y<0):=decide_eq_decide.2 ⟨fun h=>by
  by_cases h0:y<0
  ·exact h0
  ·exact absurd (Int.mul_nonneg (Int.le_of_lt hp) (by omega:0≤y)) (by omega),fun h=>Int.mul_neg_of_pos_of_neg hp h⟩
 rw[this,zXp]
theorem zVm{x:Int}{n:Nat}(h0:x≠0):(2:Int)^n ∣ x↔n≤tz x.natAbs:=by
 have hp:0<x.natAbs:=by omega
 rw[show((2:Int)^n ∣ x)↔2^n ∣ x.natAbs by rw[← Int.natAbs_dvd_natAbs,Int.natAbs_pow];rfl]
 obtain⟨m,hm⟩:=zIb x.natAbs hp
 constructor
 ·intro h
  apply Nat.le_of_not_lt
  intro hlt
  have h1:2^(tz x.natAbs+1) ∣ x.natAbs:=Nat.dvd_trans (Nat.pow_dvd_pow 2 hlt) h
  rw[hm,zbT,Nat.pow_succ]at h1
  have h2:=(Nat.mul_dvd_mul_iff_left (Nat.pow_pos (n:=tz x.natAbs) (show 0<2 by omega))).1 h1
  omega
 ·intro h
  rw[hm]
  exact Nat.dvd_trans (Nat.pow_dvd_pow 2 h) (Nat.dvd_mul_right _ _)
def zdT(x:Int)(n:Int):AV:=
 if n<0 then .tup [zAe 0,.int .i64 ((2:Nat):Int)]else if x=0 then .tup [zAe 0,.int .i64 ((0:Nat):Int)]
 else if twV x<n then .tup [zAe 0,.int .i64 ((20:Nat):Int)]else .tup [zAe (x / 2^n.toNat),.int .i64 ((0:Nat):Int)]
theorem zTz{H:AHeap}{Q:AV→AHeap→Prop}{x n:Int}{k:Nat}(hH:TzH H)(hx:Bd k x)(hk:k≤1000000)(hn:n<9223372036854775808)(hq:Q (zdT x n) H):Run Tryz.prog 176 [zAe x,.int .i64 n] H Q:=by
 have hl:=hx.len
 refine zUq (by simp) ?_
 simp(disch:=first|exact Xe|fail)only[za6,zAE,↓Xa,Xb,Xc,↓reduceIte,Nat.reduceLT,Nat.reduceEqDiff,Nat.reduceBEq,Nat.reduceLeDiff,Nat.reduceAdd,Nat.reduceMul]
 refine zAD fun p1 hp1=>?_
 have n1:=hp1
 simp(disch:=first|exact Xe|fail)only[↓Xa,Xb,Xc,↓reduceIte,Nat.reduceLT,Nat.reduceEqDiff,Nat.reduceBEq,Nat.reduceLeDiff,Nat.reduceAdd,Nat.reduceMul]
 refine zAD fun p2 hp2=>?_
 have n2:=hp2
 simp only[zAB]at n2
 obtain⟨_,n2⟩:=n2
 have fin: ∀{v:AV}{a b:Option ABlk},Q v H→SetR Q v ((H.upd p1 a).upd p2 b):=fun h=>SetR.dropTo (((Le.refl H).updB n1).updB n2) (SetR.now h)
 have hT: ∀a b,TzH ((H.upd p1 a).upd p2 b):=fun a b=>hH.le (((Le.refl H).updB n1).updB n2)
 unfold zdT at hq
 by_cases h1:n<0
 ·rw[if_pos h1]at hq
  have e:decide (n<0)=true:=decide_eq_true h1
  simp(disch:=first|exact Xe|fail)only[zIg,e,zLR,zAE,zAF,zQu,↓Xa,Xb,Xc,↓reduceIte,Nat.reduceLT,Nat.reduceEqDiff,Nat.reduceBEq,Nat.reduceLeDiff,Nat.reduceAdd,Nat.reduceMul]
  exact fin hq
 rw[if_neg h1]at hq
 have e1:decide (n<0)=false:=decide_eq_false h1
 simp(disch:=first|exact Xe|fail)only[zIg,e1,zAF,↓Xa,Xb,Xc,↓reduceIte,Nat.reduceLT,Nat.reduceEqDiff,Nat.reduceBEq,Nat.reduceLeDiff,Nat.reduceAdd,Nat.reduceMul]
 refine(zC2 hx (by omega)).call ?_
 by_cases h2:x=0
 ·rw[if_pos h2]at hq
  have e:decide (x=0)=true:=decide_eq_true h2
  simp(disch:=first|exact Xe|fail)only[zFa,e,zLR,zAE,zAF,zQu,↓Xa,Xb,Xc,↓reduceIte,Nat.reduceLT,Nat.reduceEqDiff,Nat.reduceBEq,Nat.reduceLeDiff,Nat.reduceAdd,Nat.reduceMul]
  exact fin hq
 rw[if_neg h2]at hq
 have e2:decide (x=0)=false:=decide_eq_false h2
 simp(disch:=first|exact Xe|fail)only[zFa,e2,zAF,↓Xa,Xb,Xc,↓reduceIte,Nat.reduceLT,Nat.reduceEqDiff,Nat.reduceBEq,Nat.reduceLeDiff,Nat.reduceAdd,Nat.reduceMul]
 refine zAM (zPF (hT _ _) hx hk ?_)
 have c3: ∀K,zAv .lss (.int .i64 (twV x)) (.int .i64 n) K↔K (.bool (decide (twV x<n))):=fun K=>by
  simp only[zAv,zAi,true_and]
 by_cases h3:twV x<n
 ·rw[if_pos h3]at hq
  rw[decide_eq_true h3]at c3
  simp(disch:=first|exact Xe|fail)only[c3,zLR,zAE,zAF,zQu,↓Xa,Xb,Xc,↓reduceIte,Nat.reduceLT,Nat.reduceEqDiff,Nat.reduceBEq,Nat.reduceLeDiff,Nat.reduceAdd,Nat.reduceMul]
  exact fin hq
 ·rw[if_neg h3]at hq
  rw[decide_eq_false h3]at c3
  obtain⟨m,rfl⟩: ∃m:Nat,n=(m:Int):=⟨n.toNat,by omega⟩
  have hd:(2:Int)^m ∣ x:=(zVm h2).2 (by unfold twV at h3;rw[if_neg h2]at h3;omega)
  have hle:(digs 4294967296 (x.natAbs / 2^m)).length≤k:=zAu (by omega) _ _ (Nat.lt_of_le_of_lt (Nat.div_le_self _ _) hx)
  simp(disch:=first|exact Xe|fail)only[c3,zBU,zBO,↓Xa,Xb,Xc,↓reduceIte,Nat.reduceLT,Nat.reduceEqDiff,Nat.reduceBEq,Nat.reduceLeDiff,Nat.reduceAdd,Nat.reduceMul]
  refine(zVC true (zAG (by omega) _) (by omega) (by omega)).call ?_
  rw[zAJ (by omega)]
  simp(disch:=first|exact Xe|fail)only[zBU,zBO,↓Xa,Xb,Xc,↓reduceIte,Nat.reduceLT,Nat.reduceEqDiff,Nat.reduceBEq,Nat.reduceLeDiff,Nat.reduceAdd,Nat.reduceMul]
  refine(zCA _ _ (by omega)).call ?_
  rw[zdB hd]
  simp(disch:=first|exact Xe|fail)only[zAE,zAF,zQu,↓Xa,Xb,Xc,↓reduceIte,Nat.reduceLT,Nat.reduceEqDiff,Nat.reduceBEq,Nat.reduceLeDiff,Nat.reduceAdd,Nat.reduceMul]
  exact fin hq
end Go.Proofs.YtmndejlpfmmaiaaGreatDoor.Fw
namespace Go.Proofs.YtmndejlpfmmaiaaGreatDoor.Fw
open Go
set_option maxRecDepth 100000
def zgn:ACode:=Js [Jo 4 (.mov (.k (.bool false)))] [0,1] (.seq (Js [Jo 14 (Jc 57 []),Jo 15 (.un .not (.t 14))] [0,1,15] (.cond (.t 15) (Js [Jo 4 (.mov (.k (.bool false)))] [4] .ret) .skip)) (.seq (Js [Jm 16 0,Jv 17 16,Jo 18 (.bin .gtr (.t 17) (Jk 64))] [0,1,18] (.cond (.t 18) (Js [Jo 4 (.mov (.k (.bool true)))] [4] .ret) .skip)) (Js [Jm 19 1,Jo 20 (Jc 59 [.t 19]),Jo 21 (.build [Jn 0,Jn 0] [(0,1,Jk 99)]),Jo 22 (.bsl [Jn 0,Jn 0] 1 2 [(0,2,.t 21)]),Jo 23 (.app 112 2 16 (.t 20) (.t 22)),Jm 24 1,Jv 25 24,Jo 26 (.slc 2 (.t 23) none (some (.t 25)) none),Jm 5 26] [0,1,5] (Js [Jm 28 0,Jo 29 (Jc 65 [.t 28]),Jm 30 5,Jo 31 (Jc 64 [.t 29,.t 30]),Jm 27 31,Je 32 27 0,Je 33 27 1,Jm 6 32,Jm 7 33] [0,1,5,6,7] (Js [Jm 34 0,Jv 35 34,Jo 36 (.bin .geq (.t 35) (Jk 1)),Jm 37 36,⟨some 38,some (37,true),.mov (.t 0)⟩,⟨some 39,some (37,true),.len false (.t 38)⟩,⟨some 40,some (37,true),.bin .leq (.t 39) (Jk 16)⟩,Jo 41 (.pick (.t 37) (.t 40) (.k (.bool false))),Jm 8 41] [0,1,5,6,7,8] (.seq (Js [Jm 42 8,Jm 43 42,⟨some 44,some (43,true),.mov (.t 1)⟩,⟨some 45,some (43,true),Jc 66 [.t 44]⟩,Jo 46 (.pick (.t 43) (.t 45) (.k (.bool false)))] [0,1,5,6,7,8,46] (.cond (.t 46) (.seq (Js [Jm 47 7,Jo 48 (.bin .neq (.t 47) (Jk 0)),Jm 49 48,⟨some 50,some (49,false),.mov (.t 6)⟩,⟨some 51,some (49,false),.len false (.t 50)⟩,⟨some 52,some (49,false),.mov (.t 1)⟩,⟨some 53,some (49,false),.len false (.t 52)⟩,⟨some 54,some (49,false),.bin .neq (.t 51) (.t 53)⟩,Jo 55 (.pick (.t 49) (.k (.bool true)) (.t 54))] [0,1,5,6,8,55] (.cond (.t 55) (Js [Jo 4 (.mov (.k (.bool false)))] [4] .ret) .skip)) (Js [Jm 56 1,Jv 57 56,Jo 58 (.mov (Jk 0))] [0,1,5,6,8,57,58] (.block 0 (.loop (Js [Jb 59 .lss 58 57] [0,1,5,6,8,57,58,59] (.seq (.cond (.t 59) .skip (.exit 0)) (.seq (.block 1 (Js [Jm 60 58,Jm 9 60] [0,1,5,6,8,9,57,58] (.seq (.draw [Jm 61 6,Jm 62 9,Ji 63 2 61 62,Jo 64 (.load (some 2) (.t 63)),Jo 65 (Jc 67 [.t 64]),Jm 66 0,Jo 67 (Jc 70 [.t 66]),Jm 68 1,Jm 69 9,Ji 70 2 68 69,Jo 71 (.load (some 2) (.t 70))] [Jo 72 (Jc 69 [.t 67,.t 71]),Jo 73 (Jc 68 [.t 72]),Jb 74 .neq 65 73] [0,1,0,0,0,31,0,127,255,127,127] [0,1,5,6,8,57,58,74]) (.cond (.t 74) (Js [Jo 4 (.mov (.k (.bool false)))] [4] .ret) .skip)))) (.reg [Jo 75 (.bin .add (.t 58) (Jk 1)),Jm 58 75] [0,1,5,6,8,57,58])))))))) (Js [Jm 76 6,Jv 77 76,Jo 78 (.bin .neq (.t 77) (Jk 0)),Jm 79 78,⟨some 80,some (79,false),.mov (.t 7)⟩,⟨some 81,some (79,false),.bin .neq (.t 80) (Jk 2)⟩,Jo 82 (.pick (.t 79) (.k (.bool true)) (.t 81))] [0,1,5,8,82] (.cond (.t 82) (Js [Jo 4 (.mov (.k (.bool false)))] [4] .ret) .skip)))) (.seq (Js [Jm 83 1,Jm 84 1,Jv 85 84,Jo 86 (.gr false (.t 85) (Jk 20)),Jo 87 (.slc 2 (.t 83) none (some (.t 86)) none),Jv 88 87,Jo 89 (.mov (Jk 0))] [0,1,5,8,87,88,89] (.block 2 (.loop (Js [Jb 90 .lss 89 88] [0,1,5,8,87,88,89,90] (.seq (.cond (.t 90) .skip (.exit 2)) (.seq (.block 3 (Js [Ji 91 2 87 89,Jo 92 (.load (some 2) (.t 91)),Jo 11 (.alloc 112 0 [Jn 0,Jn 0]),⟨none,none,.store 2 (.t 11) (.t 92)⟩] [0,1,5,8,11,87,88,89] (.seq (.draw [Jm 94 0,Jo 95 (Jc 65 [.t 94]),Jo 96 (.load (some 2) (.t 11)),Jo 97 (Jc 71 [.t 95,.t 96]),Jm 93 97,Je 98 93 0,Je 99 93 1,Jo 12 (.alloc 48 0 [.bool false,.seq 0 [] true]),⟨none,none,.store 2 (.t 12) (.t 98)⟩] [Jm 13 99] [0,0,3,0,0,0,32,127,64] [0,1,5,8,11,12,13,87,88,89]) (Js [Jm 100 8,Jo 101 (.un .not (.t 100)),Jm 102 101,⟨some 103,some (102,false),.load (some 2) (.t 11)⟩,⟨some 104,some (102,false),Jc 72 [.t 103]⟩,⟨some 105,some (102,false),.un .not (.t 104)⟩,Jo 106 (.pick (.t 102) (.k (.bool true)) (.t 105))] [0,1,5,8,11,12,13,87,88,89,106] (.cond (.t 106) (Js [Jo 107 (.load (some 2) (.t 12)),Jo 108 (Jc 52 [.t 107]),Jo 109 (.bin .neq (.t 108) (Jk 0)),Jm 110 109,⟨some 111,some (110,false),.mov (.t 13)⟩,⟨some 112,some (110,false),.bin .neq (.t 111) (Jk 2)⟩,Jo 113 (.pick (.t 110) (.k (.bool true)) (.t 112))] [0,1,5,8,87,88,89,113] (.cond (.t 113) (Js [Jo 4 (.mov (.k (.bool false)))] [4] .ret) .skip)) (.seq (.draw [Jm 114 13,Jo 115 (.bin .neq (.t 114) (Jk 0)),Jm 116 115,⟨some 117,some (116,false),.load (some 2) (.t 12)⟩,⟨some 118,some (116,false),Jc 67 [.t 117]⟩,⟨some 119,some (116,false),.mov (.t 0)⟩,⟨some 120,some (116,false),Jc 70 [.t 119]⟩,⟨some 121,some (116,false),.load (some 2) (.t 11)⟩] [⟨some 122,some (116,false),Jc 69 [.t 120,.t 121]⟩,⟨some 123,some (116,false),Jc 68 [.t 122]⟩,⟨some 124,some (116,false),.bin .neq (.t 118) (.t 123)⟩,Jo 125 (.pick (.t 116) (.k (.bool true)) (.t 124))] [0,0,0,0,0,24,0,120] [0,1,5,8,87,88,89,125]) (.cond (.t 125) (Js [Jo 4 (.mov (.k (.bool false)))] [4] .ret) .skip))))))) (.reg [Jo 126 (.bin .add (.t 89) (Jk 1)),Jm 89 126] [0,1,5,8,87,88,89]))))))) (Js [Jm 127 5,Jm 128 1,Jo 129 (Jc 73 [.t 127,.t 128]),Jm 4 129] [4] .ret))))))))
def zc4:List RV:=[.t 4]
end Go.Proofs.YtmndejlpfmmaiaaGreatDoor.Fw
