/- The texts Lj Lb Lk Ll Lm In Re Rf Rg Ri Rj Rk Rl Rm Rn Ro Io Rp Rq Rr Rs Rt Ru Rv Rw Ka Kn Kb Nb Sa, joined. -/
import Derived.Test.YtmndejlpfmmaiaaGreatDoorZ5
set_option linter.unusedSimpArgs false
set_option linter.unusedVariables false
namespace Go.Proofs.YtmndejlpfmmaiaaGreatDoor.Fw
open Go Go.Proofs.YtmndejlpfmmaiaaGreatDoor.Ma
set_option maxRecDepth 20000
theorem zL7{a b:List Nat}{ta tb:Bool}{H:AHeap}{Q:AV→AHeap→Prop}(hab:b.length≤a.length)(ha:Lim 4294967296 a)(hb:Lim 4294967296 b)(hl:a.length≤1099511627776)
 (hq:Q (LS (digs 4294967296 (val 4294967296 a+val 4294967296 b)) true) H):W Tryz.prog (zIc (zBZ (zBZ zIs))) (zFg zZI Q) ⟨[],[(0,LS a ta),(1,LS b tb)],H⟩:=by
 simp(disch:=first|exact Xe|fail)only[zIs,zIc,zBZ,↓Xa,Xb,Xc,↓reduceIte,Nat.reduceLT,Nat.reduceEqDiff,Nat.reduceBEq,Nat.reduceLeDiff,Nat.reduceAdd]
 refine zDW fun o ho=>?_
 simp(disch:=first|exact Xe|fail)only[↓Xa,Xb,Xc,↓reduceIte,Nat.reduceLT,Nat.reduceEqDiff,Nat.reduceBEq,Nat.reduceLeDiff,Nat.reduceAdd]
 refine zAO (fun p:Nat×Nat×List Nat=>⟨[],[(0,LS a ta),(1,LS b tb),(5,.own o (a.length+1) 0 (a.length+1) true),(6,.int .u64 p.2.1),(20,LS a ta),(21,.int .i64 a.length),(22,.int .i64 p.1)],
  H.upd o (some (.row 168 1 (U (p.2.2++List.replicate (a.length+1-p.1) 0))))⟩)
  (fun p=>p.1≤a.length∧AddI a b p.1 p.2.1 p.2.2) (fun p=>a.length-p.1) (0,0,[]) (Settle.now rfl) ⟨by simp,AddI.zero a b⟩ ?_
 rintro⟨i,c,done⟩ ⟨h1,h2⟩
 dsimp only at h1 h2 ⊢
 have hdl:=h2.1
 have hc:=h2.2.2.1
 by_cases hi:i<a.length
 ·have hx:=ha.getD (by omega) i
  have hy:=hb.getD (by omega) i
  by_cases hj:i<b.length
  ·simp(disch:=first|exact Xe|fail)only[hi,hj,↓Xa,Xb,Xc,↓reduceIte,Nat.reduceLT,Nat.reduceEqDiff,Nat.reduceBEq,Nat.reduceLeDiff,Nat.reduceAdd]
   refine Settle.now ⟨(i+1,_,done++[_]),by dsimp only;omega,⟨by dsimp only;omega,h2.step ha hb rfl⟩,?_⟩
   rw[zCX _ _ _ _ hdl (by omega)]
  ·simp(disch:=first|exact Xe|fail)only[hi,hj,↓Xa,Xb,Xc,↓reduceIte,Nat.reduceLT,Nat.reduceEqDiff,Nat.reduceBEq,Nat.reduceLeDiff,Nat.reduceAdd]
   have:=zAp (show b.length≤i by omega)
   refine Settle.now ⟨(i+1,_,done++[_]),by dsimp only;omega,⟨by dsimp only;omega,h2.step ha hb (s:=c+a.getD i 0) (by omega)⟩,?_⟩
   rw[zCX _ _ _ _ hdl (by omega)]
 ·obtain rfl:i=a.length:=by omega
  simp(disch:=first|exact Xe|fail)only[hi,↓Xa,Xb,Xc,↓reduceIte,Nat.reduceLT,Nat.reduceEqDiff,Nat.reduceBEq,Nat.reduceLeDiff,Nat.reduceAdd]
  refine Settle.now ?_
  simp(disch:=first|exact Xe|fail)only[↓Xa,Xb,Xc,↓reduceIte,Nat.reduceLT,Nat.reduceEqDiff,Nat.reduceBEq,Nat.reduceLeDiff,Nat.reduceAdd]
  rw[zJX _ _ _ _ hdl (by omega),show a.length+1-a.length-1=0 by omega,List.replicate_zero,List.append_nil]
  refine zCZ (zAC _ _ _) (by simp[hdl]) ?_
  simp(disch:=first|exact Xe|fail)only[zZI,↓Xa,Xb,Xc,↓reduceIte,Nat.reduceLT,Nat.reduceEqDiff,Nat.reduceBEq,Nat.reduceLeDiff,Nat.reduceAdd]
  exact zWU ho (by simp[hdl]) (by rw[h2.end hab];exact hq)
theorem zbD{a b:List Nat}(ta tb:Bool)(ha:Lim 4294967296 a)(hb:Lim 4294967296 b)(hla:a.length≤1099511627776)(hlb:b.length≤1099511627776):PFn Tryz.prog 204 [LS a ta,LS b tb] (LS (digs 4294967296 (val 4294967296 a+val 4294967296 b)) true):=by
 intro H Q hq
 refine zVq (by simp) ?_
 rw[show zIs=.seq (zWa zIs) (.seq (zWa (zBZ zIs)) (zIc (zBZ (zBZ zIs))))from rfl]
 by_cases c:a.length<b.length
 ·simp(disch:=first|exact Xe|fail)only[c,zWa,zBZ,zIs,↓Xa,Xb,Xc,↓reduceIte,Nat.reduceLT,Nat.reduceEqDiff,Nat.reduceBEq,Nat.reduceLeDiff,Nat.reduceAdd]
  exact zL7 (by omega) hb ha hlb (by rw[Nat.add_comm];exact hq)
 ·simp(disch:=first|exact Xe|fail)only[c,zWa,zBZ,zIs,↓Xa,Xb,Xc,↓reduceIte,Nat.reduceLT,Nat.reduceEqDiff,Nat.reduceBEq,Nat.reduceLeDiff,Nat.reduceAdd]
  exact zL7 (by omega) ha hb hla hq
theorem zWi{a b:List Nat}(ta tb:Bool)(ha:Lim 4294967296 a)(hb:Lim 4294967296 b)(hab:val 4294967296 b≤val 4294967296 a)(hl:a.length≤1099511627776)(hlb:b.length≤1099511627776):
 PFn Tryz.prog 205 [LS a ta,LS b tb] (.tup [LS (digs 4294967296 (val 4294967296 a-val 4294967296 b)) true,.int .i64 ((0:Nat):Int)]):=by
 intro H Q hq
 refine zUq (by simp) ?_
 simp(disch:=first|exact Xe|fail)only[zaa,↓Xa,Xb,Xc,↓reduceIte,Nat.reduceLT,Nat.reduceEqDiff,Nat.reduceBEq,Nat.reduceLeDiff,Nat.reduceAdd]
 refine(zGn ta tb ha hb).call ?_
 have hc: ∃n:Nat,zBy (val 4294967296 a) (val 4294967296 b)=(n:Int):=by
  by_cases e:val 4294967296 b<val 4294967296 a
  ·exact⟨1,by simp[zBy,e,Nat.not_lt_of_lt e]⟩
  ·exact⟨0,by simp[zBy,show val 4294967296 a=val 4294967296 b by omega]⟩
 obtain⟨n,hc⟩:=hc
 simp(disch:=first|exact Xe|fail)only[hc,↓Xa,Xb,Xc,↓reduceIte,Nat.reduceLT,Nat.reduceEqDiff,Nat.reduceBEq,Nat.reduceLeDiff,Nat.reduceAdd]
 refine zDW fun o ho=>?_
 simp(disch:=first|exact Xe|fail)only[↓Xa,Xb,Xc,↓reduceIte,Nat.reduceLT,Nat.reduceEqDiff,Nat.reduceBEq,Nat.reduceLeDiff,Nat.reduceAdd]
 refine zAO (fun p:Nat×Nat×List Nat=>⟨[],[(1,LS b tb),(6,.own o a.length 0 a.length true),(7,.int .u64 p.2.1),(19,LS a ta),(20,.int .i64 a.length),(21,.int .i64 p.1)],
  H.upd o (some (.row 168 1 (U (p.2.2++List.replicate (a.length-p.1) 0))))⟩)
  (fun p=>p.1≤a.length∧SubI a b p.1 p.2.1 p.2.2) (fun p=>a.length-p.1) (0,0,[]) (Settle.now rfl) ⟨by simp,SubI.zero a b⟩ ?_
 rintro⟨i,c,done⟩ ⟨h1,h2⟩
 dsimp only at h1 h2 ⊢
 have hdl:=h2.1
 have hc:=h2.2.2.1
 by_cases hi:i<a.length
 ·have hx:=ha.getD (by omega) i
  have hy:=hb.getD (by omega) i
  by_cases hj:i<b.length
  ·simp(disch:=first|exact Xe|fail)only[hi,hj,↓Xa,Xb,Xc,↓reduceIte,Nat.reduceLT,Nat.reduceEqDiff,Nat.reduceBEq,Nat.reduceLeDiff,Nat.reduceAdd]
   refine Settle.now ⟨(i+1,_,done++[_]),by dsimp only;omega,⟨by dsimp only;omega,h2.step ha hb rfl rfl⟩,?_⟩
   rw[zCX _ _ _ _ hdl (by omega)]
  ·simp(disch:=first|exact Xe|fail)only[hi,hj,↓Xa,Xb,Xc,↓reduceIte,Nat.reduceLT,Nat.reduceEqDiff,Nat.reduceBEq,Nat.reduceLeDiff,Nat.reduceAdd]
   have:=zAp (show b.length≤i by omega)
   refine Settle.now ⟨(i+1,_,done++[_]),by dsimp only;omega,⟨by dsimp only;omega,h2.step ha hb (y:=c) (by omega) rfl⟩,?_⟩
   rw[zCX _ _ _ _ hdl (by omega)]
 ·obtain rfl:i=a.length:=by omega
  simp(disch:=first|exact Xe|fail)only[hi,↓Xa,Xb,Xc,↓reduceIte,Nat.reduceLT,Nat.reduceEqDiff,Nat.reduceBEq,Nat.reduceLeDiff,Nat.reduceAdd]
  refine Settle.now ?_
  simp(disch:=first|exact Xe|fail)only[Nat.sub_self,List.replicate_zero,↓Xa,Xb,Xc,↓reduceIte,Nat.reduceLT,Nat.reduceEqDiff,Nat.reduceBEq,Nat.reduceLeDiff,Nat.reduceAdd]
  refine zCZ (zAC _ _ _) hdl ?_
  simp(disch:=first|exact Xe|fail)only[zcG,↓Xa,Xb,Xc,↓reduceIte,Nat.reduceLT,Nat.reduceEqDiff,Nat.reduceBEq,Nat.reduceLeDiff,Nat.reduceAdd]
  exact zLV ho hdl (by rw[h2.end ha hab];exact hq)
theorem zc2{a b:List Nat}(ta tb:Bool)(ha:Lim 4294967296 a)(hb:Lim 4294967296 b)(hla:a.length≤1099511627776)(hlb:b.length≤1099511627776):
 PFn Tryz.prog 194 [LS a ta,LS b tb] (LS (digs 4294967296 (val 4294967296 a*val 4294967296 b)) true):=by
 intro H Q hq
 refine zTC (by simp) ?_
 simp(disch:=first|exact Xe|fail)only[zbh,↓Xa,Xb,Xc,↓reduceIte,Nat.reduceLT,Nat.reduceEqDiff,Nat.reduceBEq,Nat.reduceLeDiff,Nat.reduceAdd]
 refine zDW fun o ho=>?_
 simp(disch:=first|exact Xe|fail)only[↓Xa,Xb,Xc,↓reduceIte,Nat.reduceLT,Nat.reduceEqDiff,Nat.reduceBEq,Nat.reduceLeDiff,Nat.reduceAdd]
 refine zAO (fun p:Nat×List Nat=>⟨[],[(1,LS b tb),(5,.own o (a.length+b.length) 0 (a.length+b.length) true),(17,LS a ta),(18,.int .i64 a.length),(19,.int .i64 p.1)],
  H.upd o (some (.row 168 1 (U p.2)))⟩)
  (fun p=>p.1≤a.length∧MulI a b p.1 p.2) (fun p=>a.length-p.1) (0,List.replicate (a.length+b.length) 0) (Settle.now rfl) ⟨by simp,MulI.zero a b⟩ ?_
 rintro⟨i,out⟩ ⟨h1,h2⟩
 dsimp only at h1 h2 ⊢
 have hol:=h2.1
 by_cases hi:i<a.length
 ·simp(disch:=first|exact Xe|fail)only[hi,↓Xa,Xb,Xc,↓reduceIte,Nat.reduceLT,Nat.reduceEqDiff,Nat.reduceBEq,Nat.reduceLeDiff,Nat.reduceAdd]
  refine zAO (fun p:Nat×Nat×List Nat=>⟨[],[(1,LS b tb),(5,.own o (a.length+b.length) 0 (a.length+b.length) true),(6,.int .i64 i),(7,.int .u32 (a.getD i 0:Nat)),(8,.int .u64 p.2.1),(17,LS a ta),(18,.int .i64 a.length),(19,.int .i64 i),(24,LS b tb),(25,.int .i64 b.length),(26,.int .i64 p.1)],
   H.upd o (some (.row 168 1 (U p.2.2)))⟩)
   (fun p=>p.1≤b.length∧MulK a b i p.1 p.2.1 p.2.2) (fun p=>b.length-p.1) (0,0,out) (Settle.now rfl) ⟨by simp,MulK.start h2⟩ ?_
  rintro⟨k,c,out⟩ ⟨g1,g2⟩
  dsimp only at g1 g2 ⊢
  have gol:=g2.1
  have gc:=g2.2.2.1
  have hx:=ha.getD (by omega) i
  by_cases hk:k<b.length
  ·have hy:=hb.getD (by omega) k
   have ho:=g2.2.1.getD (by omega) (i+k)
   have hm:a.getD i 0*b.getD k 0≤4294967295*4294967295:=Nat.mul_le_mul (by omega) (by omega)
   simp(disch:=first|exact Xe|fail)only[hk,↓Xa,Xb,Xc,↓reduceIte,Nat.reduceLT,Nat.reduceEqDiff,Nat.reduceBEq,Nat.reduceLeDiff,Nat.reduceAdd]
   refine Settle.now ⟨(k+1,_,_),by dsimp only;omega,⟨by dsimp only;omega,g2.step hi hk ha hb rfl⟩,rfl⟩
  ·obtain rfl:k=b.length:=by omega
   simp(disch:=first|exact Xe|fail)only[hk,↓Xa,Xb,Xc,↓reduceIte,Nat.reduceLT,Nat.reduceEqDiff,Nat.reduceBEq,Nat.reduceLeDiff,Nat.reduceAdd]
   refine Settle.now ?_
   simp(disch:=first|exact Xe|fail)only[↓Xa,Xb,Xc,↓reduceIte,Nat.reduceLT,Nat.reduceEqDiff,Nat.reduceBEq,Nat.reduceLeDiff,Nat.reduceAdd]
   refine Settle.now ⟨(i+1,_),by dsimp only;omega,⟨by dsimp only;omega,g2.end hi⟩,rfl⟩
 ·obtain rfl:i=a.length:=by omega
  simp(disch:=first|exact Xe|fail)only[hi,↓Xa,Xb,Xc,↓reduceIte,Nat.reduceLT,Nat.reduceEqDiff,Nat.reduceBEq,Nat.reduceLeDiff,Nat.reduceAdd]
  refine Settle.now ?_
  simp(disch:=first|exact Xe|fail)only[↓Xa,Xb,Xc,↓reduceIte,Nat.reduceLT,Nat.reduceEqDiff,Nat.reduceBEq,Nat.reduceLeDiff,Nat.reduceAdd]
  refine zCZ (zAC _ _ _) hol ?_
  simp(disch:=first|exact Xe|fail)only[zcu,↓Xa,Xb,Xc,↓reduceIte,Nat.reduceLT,Nat.reduceEqDiff,Nat.reduceBEq,Nat.reduceLeDiff,Nat.reduceAdd]
  exact zWU ho hol (by rw[h2.end];exact hq)
theorem zGq{a:List Nat}{d:Nat}(ta:Bool)(ha:Lim 4294967296 a)(hd:0<d)(hd':d<4294967296)(hla:a.length≤1099511627776):
 PFn Tryz.prog 227 [LS a ta,.int .u32 (d:Nat)] (.tup [LS (digs 4294967296 (val 4294967296 a / d)) true,.int .u32 ((val 4294967296 a%d:Nat):Int),.int .i64 ((0:Nat):Int)]):=by
 intro H Q hq
 refine zVe (by simp) ?_
 have hne:(d=0)=False:=by simp;omega
 simp(disch:=first|exact Xe|fail)only[zdy,hne,↓Xa,Xb,Xc,↓reduceIte,Nat.reduceLT,Nat.reduceEqDiff,Nat.reduceBEq,Nat.reduceLeDiff,Nat.reduceAdd]
 refine zDW fun o ho=>?_
 simp(disch:=first|exact Xe|fail)only[↓Xa,Xb,Xc,↓reduceIte,Nat.reduceLT,Nat.reduceEqDiff,Nat.reduceBEq,Nat.reduceLeDiff,Nat.reduceAdd]
 refine zAO (fun p:Nat×Nat×List Nat=>⟨[],[(0,LS a ta),(1,.int .u32 (d:Nat)),(7,.own o a.length 0 a.length true),(8,.int .u64 p.2.1),(9,.int .i64 (dn p.1))],
  H.upd o (some (.row 168 1 (U p.2.2)))⟩)
  (fun p=>p.1≤a.length∧DivI a d p.1 p.2.1 p.2.2) (fun p=>p.1) (a.length,0,List.replicate a.length 0) (Settle.now rfl) ⟨by simp,DivI.zero a hd⟩ ?_
 rintro⟨k,r,out⟩ ⟨h1,h2⟩
 dsimp only at h1 h2 ⊢
 have hol:=h2.1
 have hr:=h2.2.2.1
 cases k with
 |zero=>
  simp(disch:=first|exact Xe|fail)only[↓Xa,Xb,Xc,↓reduceIte,Nat.reduceLT,Nat.reduceEqDiff,Nat.reduceBEq,Nat.reduceLeDiff,Nat.reduceAdd]
  refine Settle.now ?_
  simp(disch:=first|exact Xe|fail)only[↓Xa,Xb,Xc,↓reduceIte,Nat.reduceLT,Nat.reduceEqDiff,Nat.reduceBEq,Nat.reduceLeDiff,Nat.reduceAdd]
  refine zCZ (zAC _ _ _) hol ?_
  simp(disch:=first|exact Xe|fail)only[zaw,↓Xa,Xb,Xc,↓reduceIte,Nat.reduceLT,Nat.reduceEqDiff,Nat.reduceBEq,Nat.reduceLeDiff,Nat.reduceAdd]
  rw[h2.end.2]
  exact zXy ho hol (by rw[h2.end.1];exact hq)
 |succ k=>
  have hx:=ha.getD (by omega) k
  have hs:r*2^32+a.getD k 0<18446744073709551616:=by omega
  have hq:(r*2^32+a.getD k 0) / d<18446744073709551616:=Nat.lt_of_le_of_lt (Nat.div_le_self _ _) hs
  simp(disch:=first|exact Xe|fail)only[hne,ne_eq,↓Xa,Xb,Xc,↓reduceIte,Nat.reduceLT,Nat.reduceEqDiff,Nat.reduceBEq,Nat.reduceLeDiff,Nat.reduceAdd]
  refine Settle.now ⟨(k,_,_),by dsimp only;omega,⟨by dsimp only;omega,h2.step (by omega) ha hd' rfl⟩,rfl⟩
theorem zay{n:Nat}{K:AV→Prop}:zAy .lss (.int .i64 (n:Int)) (.int .i64 ((0:Nat):Int)) K↔K (.bool false):=by rw[zLL];simp
theorem zUI{s:ByteArray}{k:IntKind}{j:Nat}{K:AV→Prop}(h:j<s.size):zGy (.str s) (.int k (j:Int)) K=K (.int .u8 ((zCE s j:Nat):Int)):=by
 simp[zGy,h]
theorem zih: ∀j,j<256→zCE ⟨#[0,1,2,2,3,3,3,3,4,4,4,4,4,4,4,4,5,5,5,5,5,5,5,5,5,5,5,5,5,5,5,5,6,6,6,6,6,6,6,6,6,6,6,6,6,6,6,6,6,6,6,6,6,6,6,6,6,6,6,6,6,6,6,6,7,7,7,7,7,7,7,7,7,7,7,7,7,7,7,7,7,7,7,7,7,7,7,7,7,7,7,7,7,7,7,7,7,7,7,7,7,7,7,7,7,7,7,7,7,7,7,7,7,7,7,7,7,7,7,7,7,7,7,7,7,7,7,7,8,8,8,8,8,8,8,8,8,8,8,8,8,8,8,8,8,8,8,8,8,8,8,8,8,8,8,8,8,8,8,8,8,8,8,8,8,8,8,8,8,8,8,8,8,8,8,8,8,8,8,8,8,8,8,8,8,8,8,8,8,8,8,8,8,8,8,8,8,8,8,8,8,8,8,8,8,8,8,8,8,8,8,8,8,8,8,8,8,8,8,8,8,8,8,8,8,8,8,8,8,8,8,8,8,8,8,8,8,8,8,8,8,8,8,8,8,8,8,8,8,8,8,8,8,8,8,8]⟩ j=blen j:=by decide+kernel
theorem ze4{k:IntKind}{j:Nat}{K:AV→Prop}(h:j<256):zGy (.str ⟨#[0,1,2,2,3,3,3,3,4,4,4,4,4,4,4,4,5,5,5,5,5,5,5,5,5,5,5,5,5,5,5,5,6,6,6,6,6,6,6,6,6,6,6,6,6,6,6,6,6,6,6,6,6,6,6,6,6,6,6,6,6,6,6,6,7,7,7,7,7,7,7,7,7,7,7,7,7,7,7,7,7,7,7,7,7,7,7,7,7,7,7,7,7,7,7,7,7,7,7,7,7,7,7,7,7,7,7,7,7,7,7,7,7,7,7,7,7,7,7,7,7,7,7,7,7,7,7,7,8,8,8,8,8,8,8,8,8,8,8,8,8,8,8,8,8,8,8,8,8,8,8,8,8,8,8,8,8,8,8,8,8,8,8,8,8,8,8,8,8,8,8,8,8,8,8,8,8,8,8,8,8,8,8,8,8,8,8,8,8,8,8,8,8,8,8,8,8,8,8,8,8,8,8,8,8,8,8,8,8,8,8,8,8,8,8,8,8,8,8,8,8,8,8,8,8,8,8,8,8,8,8,8,8,8,8,8,8,8,8,8,8,8,8,8,8,8,8,8,8,8,8,8,8,8,8,8]⟩) (.int k (j:Int)) K=K (.int .u8 ((blen j:Nat):Int)):=by
 have sz:(⟨#[0,1,2,2,3,3,3,3,4,4,4,4,4,4,4,4,5,5,5,5,5,5,5,5,5,5,5,5,5,5,5,5,6,6,6,6,6,6,6,6,6,6,6,6,6,6,6,6,6,6,6,6,6,6,6,6,6,6,6,6,6,6,6,6,7,7,7,7,7,7,7,7,7,7,7,7,7,7,7,7,7,7,7,7,7,7,7,7,7,7,7,7,7,7,7,7,7,7,7,7,7,7,7,7,7,7,7,7,7,7,7,7,7,7,7,7,7,7,7,7,7,7,7,7,7,7,7,7,8,8,8,8,8,8,8,8,8,8,8,8,8,8,8,8,8,8,8,8,8,8,8,8,8,8,8,8,8,8,8,8,8,8,8,8,8,8,8,8,8,8,8,8,8,8,8,8,8,8,8,8,8,8,8,8,8,8,8,8,8,8,8,8,8,8,8,8,8,8,8,8,8,8,8,8,8,8,8,8,8,8,8,8,8,8,8,8,8,8,8,8,8,8,8,8,8,8,8,8,8,8,8,8,8,8,8,8,8,8,8,8,8,8,8,8,8,8,8,8,8,8,8,8,8,8,8,8]⟩:ByteArray).size=256:=by decide+kernel
 rw[zUI (by rw[sz];exact h),zih j h]
theorem zS8{x:Nat}(hx:x<4294967296):PFn Tryz.prog 243 [.int .u32 (x:Int)] (.int .i64 ((blen x:Nat):Int)):=by
 intro H Q hq
 have hb:blen x≤32:=zBc.2 (by omega)
 refine zSb (by simp) ?_
 by_cases h1:65536≤x
 ·have e1:=zD7 (n:=x) (s:=16) h1
  by_cases h2:256≤x / 2^16
  ·have e2:=zD7 (n:=x / 2^16) (s:=8) h2
   have h3:x / 2^16 / 2^8<256:=by omega
   have hl:blen (x / 2^16 / 2^8)≤8:=zBc.2 h3
   simp(disch:=first|exact Xe|fail)only[zP4,h1,h2,ze4,zQL,↓Xa,Xb,Xc,↓reduceIte,Nat.reduceLT,Nat.reduceEqDiff,Nat.reduceBEq,Nat.reduceLeDiff,Nat.reduceAdd]
   refine SetR.now ?_
   rwa[show 16+8+blen (x / 2^16 / 2^8)=blen x by omega]
  ·have h3:x / 2^16<256:=by omega
   have hl:blen (x / 2^16)≤8:=zBc.2 h3
   simp(disch:=first|exact Xe|fail)only[zP4,h1,h2,ze4,zQL,↓Xa,Xb,Xc,↓reduceIte,Nat.reduceLT,Nat.reduceEqDiff,Nat.reduceBEq,Nat.reduceLeDiff,Nat.reduceAdd]
   refine SetR.now ?_
   rwa[show 16+blen (x / 2^16)=blen x by omega]
 ·by_cases h2:256≤x
  ·have e2:=zD7 (n:=x) (s:=8) h2
   have h3:x / 2^8<256:=by omega
   have hl:blen (x / 2^8)≤8:=zBc.2 h3
   simp(disch:=first|exact Xe|fail)only[zP4,h1,h2,ze4,zQL,↓Xa,Xb,Xc,↓reduceIte,Nat.reduceLT,Nat.reduceEqDiff,Nat.reduceBEq,Nat.reduceLeDiff,Nat.reduceAdd]
   refine SetR.now ?_
   rwa[show 0+8+blen (x / 2^8)=blen x by omega]
  ·have hl:blen x≤8:=zBc.2 (by omega)
   simp(disch:=first|exact Xe|fail)only[zP4,h1,h2,ze4,zQL,↓Xa,Xb,Xc,↓reduceIte,Nat.reduceLT,Nat.reduceEqDiff,Nat.reduceBEq,Nat.reduceLeDiff,Nat.reduceAdd]
   refine SetR.now ?_
   exact hq
theorem zfu{x:Nat}(hx:x<4294967296):PFn Tryz.prog 232 [.int .u32 (x:Int)] (.int .i64 ((32-blen x:Nat):Int)):=by
 intro H Q hq
 have hb:blen x≤32:=zBc.2 (by omega)
 refine zSk (by simp) ?_
 simp(disch:=first|exact Xe|fail)only[zax,↓Xa,Xb,Xc,↓reduceIte,Nat.reduceLT,Nat.reduceEqDiff,Nat.reduceBEq,Nat.reduceLeDiff,Nat.reduceAdd]
 refine(zS8 hx).call ?_
 simp(disch:=first|exact Xe|fail)only[zbN,↓Xa,Xb,Xc,↓reduceIte,Nat.reduceLT,Nat.reduceEqDiff,Nat.reduceBEq,Nat.reduceLeDiff,Nat.reduceAdd]
 exact SetR.now hq
theorem zQW{a:List Nat}{s:Nat}(t:Bool)(ha:Lim 4294967296 a)(hs:s≤65536)(hn:a.length≤1099511627776):PFn Tryz.prog 222 [LS a t,.int .i64 (s:Int)] (.tup [LS (digs 4294967296 (val 4294967296 a*2^s)) true,.int .i64 ((0:Nat):Int)]):=by
 intro H Q hq
 have hnl: ¬65536<s:=by omega
 refine zUK (by simp) ?_
 simp(disch:=first|exact Xe|fail)only[zd5,zay,hnl,ne_eq,Nat.reduceEqDiff,↓Xa,Xb,Xc,↓reduceIte,Nat.reduceLT,Nat.reduceEqDiff,Nat.reduceBEq,Nat.reduceLeDiff,Nat.reduceAdd]
 refine zDW fun o ho=>?_
 simp(disch:=first|exact Xe|fail)only[ne_eq,Nat.reduceEqDiff,↓Xa,Xb,Xc,↓reduceIte,Nat.reduceLT,Nat.reduceEqDiff,Nat.reduceBEq,Nat.reduceLeDiff,Nat.reduceAdd]
 have hr:s%32<32:=Nat.mod_lt _ (by omega)
 have hse:32*(s / 32)+s%32=s:=Nat.div_add_mod s 32
 generalize hq32:s / 32=q at*
 generalize hp32:s%32=p at*
 refine zAO (fun x:Nat×Nat×List Nat=>⟨[],[(1,.int .i64 s),(6,.own o (a.length+q+1) 0 (a.length+q+1) true),(7,.int .i64 p),(24,LS a t),(25,.int .i64 a.length),(26,.int .i64 x.1)],
  H.upd o (some (.row 168 1 (U (zHY q x.2.2 x.2.1 (a.length-x.1)))))⟩)
  (fun x=>x.1≤a.length∧ShlI a p x.1 x.2.1 x.2.2) (fun x=>a.length-x.1) (0,0,[]) (Settle.now (by rw[Nat.sub_zero,zRH,show q+(a.length+1)=a.length+q+1 by omega])) ⟨by simp,ShlI.zero a p⟩ ?_
 rintro⟨i,c,done⟩ ⟨h1,h2⟩
 dsimp only at h1 h2 ⊢
 have hd:=h2.1
 by_cases hi:i<a.length
 ·have hx:=ha.getD (by omega) i
  subst hd
  obtain⟨k1,k2,k3⟩:=h2.step hr ha rfl
  have hc:=h2.2.2.1
  obtain⟨m,hm⟩: ∃m,a.length-done.length=m+1:=⟨a.length-done.length-1,by omega⟩
  have hy:a.getD done.length 0*2^p<18446744073709551616:=by
   have:a.getD done.length 0*2^p≤4294967295*2^31:=Nat.mul_le_mul (by omega) (Nat.pow_le_pow_right (by omega) (by omega))
   omega
  have hp64:p≤64:=by omega
  have hpl:(2:Nat)^p≤2^31:=Nat.pow_le_pow_right (by omega) (by omega)
  have lo:=zW7 (m:=a.getD done.length 0*2^p%4294967296) hc (zRn hr)
  generalize hY:a.getD done.length 0*2^p=y at*
  have len1: ∀c,(zHY q done c (m+1)).length=a.length+q+1:=fun c=>by rw[zMX];omega
  have len2:=len1 c
  have len3:=len1 (c+y%4294967296)
  have or1: ∀K,zAy .or (.int .u32 (c:Int)) (.int .u32 ((y%4294967296:Nat):Int)) K↔K (.int .u32 ((c+y%4294967296:Nat):Int)):=fun K=>by
   rw[zHk .u32 (by simp only[IntKind.bits];omega) (by simp only[IntKind.bits];omega),lo,zE6 k1]
  have or2: ∀K,zAy .or (.int .u32 ((0:Nat):Int)) (.int .u32 ((y / 2^32:Nat):Int)) K↔K (.int .u32 ((y / 2^32:Nat):Int)):=fun K=>by
   rw[zHk .u32 (by simp[IntKind.bits]) (by simp only[IntKind.bits];omega),Nat.zero_or,zE6 (by omega)]
  rw[hm]
  simp(disch:=first|exact Xe|fail)only[hi,hq32,hp32,hY,zKN,zTP,zUz,zPA,zO3,or1,or2,ne_eq,Nat.reduceEqDiff,↓Xa,Xb,Xc,↓reduceIte,Nat.reduceLT,Nat.reduceEqDiff,Nat.reduceBEq,Nat.reduceLeDiff,Nat.reduceAdd]
  refine Settle.now ⟨(done.length+1,_,_),by dsimp only;omega,⟨by dsimp only;omega,k3⟩,?_⟩
  rw[show a.length-(done.length+1)=m by omega]
 ·obtain rfl:i=a.length:=by omega
  simp(disch:=first|exact Xe|fail)only[hi,Nat.sub_self,↓Xa,Xb,Xc,↓reduceIte,Nat.reduceLT,Nat.reduceEqDiff,Nat.reduceBEq,Nat.reduceLeDiff,Nat.reduceAdd]
  refine Settle.now ?_
  have len0:(zHY q done c 0).length=a.length+q+1:=by rw[zMX];omega
  simp(disch:=first|exact Xe|fail)only[↓Xa,Xb,Xc,↓reduceIte,Nat.reduceLT,Nat.reduceEqDiff,Nat.reduceBEq,Nat.reduceLeDiff,Nat.reduceAdd]
  refine zCZ (zAC _ _ _) len0 ?_
  simp(disch:=first|exact Xe|fail)only[zc4,↓Xa,Xb,Xc,↓reduceIte,Nat.reduceLT,Nat.reduceEqDiff,Nat.reduceBEq,Nat.reduceLeDiff,Nat.reduceAdd]
  have e:=h2.end (q:=q) hr
  rw[hse]at e
  exact zLV ho len0 (by rw[e];exact hq)
theorem zXX{a:List Nat}{s:Nat}(t:Bool)(ha:Lim 4294967296 a)(hs:s<9223372036854775808)(hn:a.length≤1099511627776):PFn Tryz.prog 224 [LS a t,.int .i64 (s:Int)] (.tup [LS (digs 4294967296 (val 4294967296 a / 2^s)) true,.int .i64 ((0:Nat):Int)]):=by
 intro H Q hq
 refine zUX (by simp) ?_
 simp(disch:=first|exact Xe|fail)only[zdO,zay,ne_eq,Nat.reduceEqDiff,↓Xa,Xb,Xc,↓reduceIte,Nat.reduceLT,Nat.reduceEqDiff,Nat.reduceBEq,Nat.reduceLeDiff,Nat.reduceAdd]
 refine(zEM a t).call ?_
 have ht:=zFe a
 rw[zAv (by omega) ha]at ht ⊢
 generalize val 4294967296 a=N at*
 have hse:32*(s / 32)+s%32=s:=Nat.div_add_mod s 32
 have hr:s%32<32:=Nat.mod_lt _ (by omega)
 have hsq:s / 32<9223372036854775808:=by omega
 generalize hq32:s / 32=q at*
 generalize hp32:s%32=p at*
 have hN:=zAJ (B:=4294967296) (by omega) N
 have hX:=zAG (B:=4294967296) (by omega) N
 have hpow:(2:Nat)^s=4294967296^q*2^p:=by rw[← hse,Nat.pow_add,Nat.pow_mul]
 by_cases hql:(digs 4294967296 N).length≤q
 ·simp(disch:=first|exact Xe|fail)only[hq32,hql,ne_eq,Nat.reduceEqDiff,zZA,↓Xa,Xb,Xc,↓reduceIte,Nat.reduceLT,Nat.reduceEqDiff,Nat.reduceBEq,Nat.reduceLeDiff,Nat.reduceAdd]
  have h0:N / 2^s=0:=by
   apply Nat.div_eq_of_lt
   have h1:=zBG hX
   rw[hN]at h1
   have h2:(4294967296:Nat)^(digs 4294967296 N).length≤4294967296^q:=Nat.pow_le_pow_right (by omega) hql
   have h3:4294967296^q*1≤4294967296^q*2^p:=Nat.mul_le_mul_left _ (Nat.pow_pos (by omega))
   omega
  rw[h0,zAQ]at hq
  exact SetR.now hq
 ·have hvd:=zCm (B:=4294967296) (by omega) hX (q:=q) (by omega)
  rw[hN]at hvd
  have hXd:=hX.drop q
  have hdl:((digs 4294967296 N).drop q).length≤a.length:=by rw[List.length_drop];omega
  simp(disch:=first|exact Xe|fail)only[hq32,hql,ne_eq,Nat.reduceEqDiff,↓Xa,Xb,Xc,↓reduceIte,Nat.reduceLT,Nat.reduceEqDiff,Nat.reduceBEq,Nat.reduceLeDiff,Nat.reduceAdd]
  generalize(digs 4294967296 N).drop q=x at*
  simp(disch:=first|exact Xe|fail)only[hq32,hp32,ne_eq,Nat.reduceEqDiff,↓Xa,Xb,Xc,↓reduceIte,Nat.reduceLT,Nat.reduceEqDiff,Nat.reduceBEq,Nat.reduceLeDiff,Nat.reduceAdd]
  refine zDW fun o ho=>?_
  simp(disch:=first|exact Xe|fail)only[↓Xa,Xb,Xc,↓reduceIte,Nat.reduceLT,Nat.reduceEqDiff,Nat.reduceBEq,Nat.reduceLeDiff,Nat.reduceAdd]
  refine zAO (fun z:Nat×List Nat=>⟨[],[(0,LS x true),(6,.int .i64 p),(7,.own o x.length 0 x.length true),(29,LS x true),(30,.int .i64 x.length),(31,.int .i64 z.1)],
   H.upd o (some (.row 168 1 (U (z.2++List.replicate (x.length-z.1) 0))))⟩)
   (fun z=>z.1≤x.length∧ShrI (val 4294967296 x) p z.1 z.2) (fun z=>x.length-z.1) (0,[]) (Settle.now rfl) ⟨by simp,rfl,Lim.nil _,by simp[val,Nat.mod_one]⟩ ?_
  rintro⟨i,done⟩ ⟨h1,h2⟩
  dsimp only at h1 h2 ⊢
  have hd:=h2.1
  by_cases hi:i<x.length
  ·have hx0:=hXd.getD (by omega) i
   have hx1:=hXd.getD (by omega) (i+1)
   have hp64:p≤64:=by omega
   by_cases hj:i+1<x.length
   ·have hyb:(x.getD i 0+x.getD (i+1) 0*2^32) / 2^p<18446744073709551616:=Nat.lt_of_le_of_lt (Nat.div_le_self _ _) (by omega)
    simp(disch:=first|exact Xe|fail)only[hi,hj,↓Xa,Xb,Xc,↓reduceIte,Nat.reduceLT,Nat.reduceEqDiff,Nat.reduceBEq,Nat.reduceLeDiff,Nat.reduceAdd]
    refine Settle.now ⟨(i+1,done++[_]),by dsimp only;omega,⟨by dsimp only;omega,h2.step hr hXd hi rfl⟩,?_⟩
    rw[zCX _ _ _ _ hd hi]
   ·have h0:=zAp (show x.length≤i+1 by omega)
    have e0:x.getD i 0 / 2^p<18446744073709551616:=Nat.lt_of_le_of_lt (Nat.div_le_self _ _) (by omega)
    simp(disch:=first|exact Xe|fail)only[hi,hj,↓Xa,Xb,Xc,↓reduceIte,Nat.reduceLT,Nat.reduceEqDiff,Nat.reduceBEq,Nat.reduceLeDiff,Nat.reduceAdd]
    refine Settle.now ⟨(i+1,done++[_]),by dsimp only;omega,⟨by dsimp only;omega,h2.step hr hXd hi (y:=x.getD i 0) (by rw[h0];omega)⟩,?_⟩
    rw[zCX _ _ _ _ hd hi]
  ·obtain rfl:i=x.length:=by omega
   simp(disch:=first|exact Xe|fail)only[hi,Nat.sub_self,List.replicate_zero,↓Xa,Xb,Xc,↓reduceIte,Nat.reduceLT,Nat.reduceEqDiff,Nat.reduceBEq,Nat.reduceLeDiff,Nat.reduceAdd]
   refine Settle.now ?_
   simp(disch:=first|exact Xe|fail)only[↓Xa,Xb,Xc,↓reduceIte,Nat.reduceLT,Nat.reduceEqDiff,Nat.reduceBEq,Nat.reduceLeDiff,Nat.reduceAdd]
   refine zCZ (zAC _ _ _) hd ?_
   simp(disch:=first|exact Xe|fail)only[zZA,↓Xa,Xb,Xc,↓reduceIte,Nat.reduceLT,Nat.reduceEqDiff,Nat.reduceBEq,Nat.reduceLeDiff,Nat.reduceAdd]
   refine zLV ho hd ?_
   rw[h2.end hXd,hvd,Nat.div_div_eq_div_mul,← hpow];exact hq
section
variable {H:AHeap} {b ty off L n:Nat} {ti:Bool} {pre u post:List Nat}
theorem zUj{v:List Nat}{t:Nat}(tv:Bool){Q:AV→AHeap→Prop}(hH:H b=some (.row ty 1 (U (pre++(u++post)))))(hL:L=pre.length+(u.length+post.length))(ho:off=pre.length)(hn:n=u.length)
 (hu:Lim 4294967296 u) (hv:Lim 4294967296 v) (ht:t<4294967296) (hvu:v.length<u.length) (hul:L≤2199023255552)
 (hq: ∀(w:List Nat)(bo:Nat),w.length=u.length→Lim 4294967296 w→bo≤1→val 4294967296 u+4294967296^u.length*bo=val 4294967296 w+t*val 4294967296 v→Q (.bool (decide (0<bo))) (H.upd b (some (.row ty 1 (U (pre++(w++post))))))):
 Run Tryz.prog 244 [.own b L off n ti,LS v tv,.int .u64 (t:Int)] H Q:=by
 subst hL;subst ho;subst hn
 refine zT0 (by simp) ?_
 simp(disch:=first|exact Xe|fail)only[za6,↓Xa,Xb,Xc,↓reduceIte,Nat.reduceLT,Nat.reduceEqDiff,Nat.reduceBEq,Nat.reduceLeDiff,Nat.reduceAdd]
 refine zAO (fun s:Nat×Nat×Nat×List Nat=>⟨[],[(0,.own b (pre.length+(u.length+post.length)) pre.length u.length ti),(1,LS v tv),(2,.int .u64 t),(7,.int .u64 s.2.1),(8,.int .u64 s.2.2.1),(12,.int .i64 u.length),(13,.int .i64 s.1)],
  H.upd b (some (.row ty 1 (U (pre++((s.2.2.2++u.drop s.1)++post)))))⟩)
  (fun s=>s.1≤u.length∧LessI u v t s.1 s.2.1 s.2.2.1 s.2.2.2) (fun s=>u.length-s.1) (0,0,0,[]) (Settle.now (by simp[zAU _ hH])) ⟨by simp,LessI.zero u v t⟩ ?_
 rintro⟨i,c,bo,done⟩ ⟨h1,h2⟩
 dsimp only at h1 h2 ⊢
 have hd:=h2.1
 have hc:=h2.2.2.1
 have hbo:=h2.2.2.2.1
 by_cases hi:i<u.length
 ·have hx:=hu.getD (by omega) i
  have hy:=hv.getD (by omega) i
  have hm:v.getD i 0*t≤4294967295*4294967295:=Nat.mul_le_mul (by omega) (by omega)
  have hcl:(done++u.drop i).length=u.length:=by simp[hd];omega
  have len1:(pre++((done++u.drop i)++post)).length=pre.length+(u.length+post.length):=by simp only[List.length_append,hd,List.length_drop];omega
  have g1:(pre++((done++u.drop i)++post)).getD (pre.length+i) 0=u.getD i 0:=by rw[zLf (by omega),zIo hd hi]
  have s1: ∀x,(pre++((done++u.drop i)++post)).set (pre.length+i) x=pre++(((done++[x])++u.drop (i+1))++post):=fun x=>by rw[zPW (by omega),zIj hd hi]
  generalize hrow:pre++((done++u.drop i)++post)=row at*
  by_cases hj:i<v.length
  ·simp(disch:=first|exact Xe|fail)only[hi,hj,g1,↓Xa,Xb,Xc,↓reduceIte,Nat.reduceLT,Nat.reduceEqDiff,Nat.reduceBEq,Nat.reduceLeDiff,Nat.reduceAdd]
   rw[s1]
   refine Settle.now ⟨(i+1,_,_,_),by dsimp only;omega,⟨by dsimp only;omega,h2.step hu hv ht rfl rfl⟩,rfl⟩
  ·have h0:=zAp (show v.length≤i by omega)
   simp(disch:=first|exact Xe|fail)only[hi,hj,g1,↓Xa,Xb,Xc,↓reduceIte,Nat.reduceLT,Nat.reduceEqDiff,Nat.reduceBEq,Nat.reduceLeDiff,Nat.reduceAdd]
   rw[s1]
   refine Settle.now ⟨(i+1,_,_,_),by dsimp only;omega,⟨by dsimp only;omega,h2.step hu hv ht (c1:=c) (by rw[h0];omega) rfl⟩,rfl⟩
 ·obtain rfl:i=u.length:=by omega
  simp(disch:=first|exact Xe|fail)only[hi,↓Xa,Xb,Xc,↓reduceIte,Nat.reduceLT,Nat.reduceEqDiff,Nat.reduceBEq,Nat.reduceLeDiff,Nat.reduceAdd]
  refine Settle.now ?_
  simp(disch:=first|exact Xe|fail)only[zc0,↓Xa,Xb,Xc,↓reduceIte,Nat.reduceLT,Nat.reduceEqDiff,Nat.reduceBEq,Nat.reduceLeDiff,Nat.reduceAdd]
  refine SetR.now ?_
  rw[List.drop_of_length_le (Nat.le_refl _),List.append_nil]
  exact hq done bo hd h2.2.1 hbo (h2.end hvu)
def scC:ACode→ACode
 |.scope0 c=>c
 |x=>x
theorem zPB{v:List Nat}{m:Nat}(tv:Bool){Q:AV→AHeap→Prop}(h:DigI u v m)(hH:H b=some (.row ty 1 (U (pre++(u++post)))))(hL:L=pre.length+(u.length+post.length))(ho:off=pre.length)(hn:n=u.length)(hul:L≤2199023255552)
 (hq: ∀(w:List Nat),w.length=u.length→Lim 4294967296 w→val 4294967296 w=val 4294967296 u%val 4294967296 v→Q (.int .u32 ((val 4294967296 u / val 4294967296 v:Nat):Int)) (H.upd b (some (.row ty 1 (U (pre++(w++post))))))):
 Run Tryz.prog 233 [.own b L off n ti,LS v tv] H Q:=by
 subst hL;subst ho;subst hn
 have hlu:=h.hu
 have hlv:=h.hv
 have hq1:=h.q_lt
 have hl:=h.lims
 have htop:=h.top
 have hqm:val 4294967296 u / val 4294967296 v*val 4294967296 v+val 4294967296 u%val 4294967296 v=val 4294967296 u:=Nat.div_add_mod' _ _
 have hml:=Nat.mod_lt (val 4294967296 u) h.vpos
 have hvl:=zBG h.lu
 refine zUh (by simp) ?_
 have fin: ∀g,val 4294967296 u / val 4294967296 v≤g→g≤val 4294967296 u / val 4294967296 v+1→g<4294967296→W Tryz.prog (zBZ (zBZ (zBZ (zBZ (zBZ (scC (zBZ zVz))))))) (zHE (zFg zU5 Q)) ⟨[],[(0,.own b (pre.length+(u.length+post.length)) pre.length u.length ti),(1,LS v tv),(5,.int .i64 v.length),(7,.int .u64 g)],H⟩:=by
  intro g g1 g2 g3
  simp(disch:=first|exact Xe|fail)only[zVz,zBZ,scC,↓Xa,Xb,Xc,↓reduceIte,Nat.reduceLT,Nat.reduceEqDiff,Nat.reduceBEq,Nat.reduceLeDiff,Nat.reduceAdd]
  refine zAM (zUj tv hH rfl rfl rfl h.lu h.lv g3 (by omega) hul fun w bo hw1 hw2 hb e=>?_)
  have hwl:=zBG hw2
  rw[hw1]at hwl
  generalize val 4294967296 u / val 4294967296 v=q at*
  have hgv:g=q∨g=q+1:=by omega
  have hgm:g*val 4294967296 v=q*val 4294967296 v∨g*val 4294967296 v=q*val 4294967296 v+val 4294967296 v:=by
   rcases hgv with e|e
   ·left;rw[e]
   ·right;rw[e,Nat.add_mul,Nat.one_mul]
  have hbc:bo=0∨bo=1:=by omega
  rcases hbc with rfl|rfl
  ·have hg:g=q:=by
    rcases hgv with e1|e1
    ·exact e1
    ·rw[e1,Nat.add_mul,Nat.one_mul]at e;omega
   simp(disch:=first|exact Xe|fail)only[zU5,↓Xa,Xb,Xc,↓reduceIte,Nat.reduceLT,Nat.reduceEqDiff,Nat.reduceBEq,Nat.reduceLeDiff,Nat.reduceAdd]
   refine SetR.now ?_
   rw[hg]
   exact hq w hw1 hw2 (by rw[hg]at e;omega)
  ·have hg:g=q+1:=by
    rcases hgv with e1|e1
    ·rw[e1]at e;omega
    ·exact e1
   subst hg
   simp(disch:=first|exact Xe|fail)only[↓Xa,Xb,Xc,↓reduceIte,Nat.reduceLT,Nat.reduceEqDiff,Nat.reduceBEq,Nat.reduceLeDiff,Nat.reduceAdd]
   refine zAO (fun s:Nat×Nat×List Nat=>⟨[],[(0,.own b (pre.length+(u.length+post.length)) pre.length u.length ti),(1,LS v tv),(5,.int .i64 v.length),(7,.int .u64 q),(9,.int .u64 s.2.1),(88,.int .i64 u.length),(89,.int .i64 s.1)],
    H.upd b (some (.row ty 1 (U (pre++((s.2.2++w.drop s.1)++post)))))⟩)
    (fun s=>s.1≤u.length∧AddI w v s.1 s.2.1 s.2.2) (fun s=>u.length-s.1) (0,0,[]) (Settle.now rfl) ⟨by simp,AddI.zero w v⟩ ?_
   rintro⟨i,c,done⟩ ⟨h1,h2⟩
   dsimp only at h1 h2 ⊢
   have hd:=h2.1
   have hc:=h2.2.2.1
   by_cases hi:i<u.length
   ·have hiw:i<w.length:=by omega
    have hx:=hw2.getD (by omega) i
    have hy:=h.lv.getD (by omega) i
    have len1:(pre++((done++w.drop i)++post)).length=pre.length+(u.length+post.length):=by simp only[List.length_append,hd,List.length_drop];omega
    have hcl:i<(done++w.drop i).length:=by simp only[List.length_append,hd,List.length_drop];omega
    have g1:(pre++((done++w.drop i)++post)).getD (pre.length+i) 0=w.getD i 0:=by rw[zLf hcl,zIo hd hiw]
    have s1: ∀x,(pre++((done++w.drop i)++post)).set (pre.length+i) x=pre++(((done++[x])++w.drop (i+1))++post):=fun x=>by rw[zPW hcl,zIj hd hiw]
    generalize hrow:pre++((done++w.drop i)++post)=row at*
    by_cases hj:i<v.length
    ·simp(disch:=first|exact Xe|fail)only[hi,hj,g1,↓Xa,Xb,Xc,↓reduceIte,Nat.reduceLT,Nat.reduceEqDiff,Nat.reduceBEq,Nat.reduceLeDiff,Nat.reduceAdd]
     rw[s1]
     refine Settle.now ⟨(i+1,_,_),by dsimp only;omega,⟨by dsimp only;omega,h2.step hw2 h.lv rfl⟩,rfl⟩
    ·have h0:=zAp (show v.length≤i by omega)
     simp(disch:=first|exact Xe|fail)only[hi,hj,g1,↓Xa,Xb,Xc,↓reduceIte,Nat.reduceLT,Nat.reduceEqDiff,Nat.reduceBEq,Nat.reduceLeDiff,Nat.reduceAdd]
     rw[s1]
     refine Settle.now ⟨(i+1,_,_),by dsimp only;omega,⟨by dsimp only;omega,h2.step hw2 h.lv (s:=c+w.getD i 0) (by omega)⟩,rfl⟩
   ·obtain rfl:i=u.length:=by omega
    simp(disch:=first|exact Xe|fail)only[hi,↓Xa,Xb,Xc,↓reduceIte,Nat.reduceLT,Nat.reduceEqDiff,Nat.reduceBEq,Nat.reduceLeDiff,Nat.reduceAdd]
    refine Settle.now ?_
    simp(disch:=first|exact Xe|fail)only[zU5,↓Xa,Xb,Xc,↓reduceIte,Nat.reduceLT,Nat.reduceEqDiff,Nat.reduceBEq,Nat.reduceLeDiff,Nat.reduceAdd]
    refine SetR.now ?_
    rw[List.drop_of_length_le (by omega),List.append_nil]
    refine hq done hd h2.2.1 ?_
    have e2:=h2.2.2.2
    rw[List.take_of_length_le (by omega),List.take_of_length_le (by omega)]at e2
    have hdl:=zBG h2.2.1
    rw[hd]at hdl
    rw[Nat.add_mul,Nat.one_mul]at e
    have hcc:c=0∨c=1:=by omega
    rcases hcc with rfl|rfl<;>omega
 have gl: ∀i,i<u.length→(pre++(u++post)).getD (pre.length+i) 0=u.getD i 0:=fun i hi=>zLf hi
 have hul2:(pre++(u++post)).length=pre.length+(u.length+post.length):=by simp
 have g1:=gl (m+2) (by omega)
 have g2:=gl (m+1) (by omega)
 have g3:=gl m (by omega)
 have e1:m+2-1=m+1:=by omega
 have e2:m+2-2=m:=by omega
 have hst:=h.start
 have hU2:U2 u m=u.getD (m+2) 0*2^32+u.getD (m+1) 0:=rfl
 have hne:(v.getD (m+1) 0=0)=False:=eq_false (by omega)
 have hrl:U2 u m%v.getD (m+1) 0<v.getD (m+1) 0:=Nat.mod_lt _ (by omega)
 have hgl:U2 u m / v.getD (m+1) 0<18446744073709551616:=Nat.lt_of_le_of_lt (Nat.div_le_self _ _) (by rw[hU2];omega)
 generalize hrow:pre++(u++post)=row at*
 simp(disch:=first|exact Xe|fail)only[zVz,hH,hlv,e1,e2,g1,g2,← hU2,hne,ne_eq,↓Xa,Xb,Xc,↓reduceIte,Nat.reduceLT,Nat.reduceEqDiff,Nat.reduceBEq,Nat.reduceLeDiff,Nat.reduceAdd]
 simp only[hlv]at fin
 refine zAO (fun s:Nat×Nat=>⟨[],[(0,.own b (pre.length+(u.length+post.length)) pre.length u.length ti),(1,LS v tv),(5,.int .i64 ((m+2:Nat):Int)),(7,.int .u64 s.1),(8,.int .u64 s.2)],H⟩)
  (fun s=>GuessI u v m s.1 s.2∧s.2<4294967296) (fun s=>s.1) (U2 u m / v.getD (m+1) 0,U2 u m%v.getD (m+1) 0) (Settle.now rfl) ⟨hst,by dsimp only;omega⟩ ?_
 rintro⟨g,r⟩ ⟨hg,hr⟩
 dsimp only at hg hr ⊢
 have hgm:=hg.2.2
 have next:(4294967296≤g∨r*2^32+u.getD m 0<g*v.getD m 0)→0<g∧GuessI u v m (g-1) (r+v.getD (m+1) 0):=fun hc=>hg.step h hc
 have leave:(4294967296≤g∨r*2^32+u.getD m 0<g*v.getD m 0)→4294967296≤r+v.getD (m+1) 0→val 4294967296 u / val 4294967296 v≤g-1∧g-1≤val 4294967296 u / val 4294967296 v+1∧g-1<4294967296:=fun hc hr'=>by
  have h1:=next hc
  have h2:=h1.2.endB h hr' (by omega)
  have h3:=h1.2.2.1
  exact⟨h3,by omega,Nat.lt_of_le_of_lt h2 hq1⟩
 by_cases hgB:4294967296≤g
 ·have c1:0<g / 2^32:=by omega
  have hp:=(next (.inl hgB)).1
  by_cases hr':4294967296≤r+v.getD (m+1) 0
  ·have c2:0<(r+v.getD (m+1) 0) / 2^32:=by omega
   obtain⟨f1,f2,f3⟩:=leave (.inl hgB) hr'
   simp(disch:=first|exact Xe|fail)only[hH,e1,e2,g1,g2,g3,c1,c2,↓Xa,Xb,Xc,↓reduceIte,Nat.reduceLT,Nat.reduceEqDiff,Nat.reduceBEq,Nat.reduceLeDiff,Nat.reduceAdd]
   exact Settle.keep [0,1,5,7] (fin (g-1) f1 f2 f3)
  ·have c2: ¬0<(r+v.getD (m+1) 0) / 2^32:=by omega
   simp(disch:=first|exact Xe|fail)only[hH,e1,e2,g1,g2,g3,c1,c2,↓Xa,Xb,Xc,↓reduceIte,Nat.reduceLT,Nat.reduceEqDiff,Nat.reduceBEq,Nat.reduceLeDiff,Nat.reduceAdd]
   exact Settle.keep [0,1,5,7,8] ⟨(g-1,r+v.getD (m+1) 0),by dsimp only;omega,⟨(next (.inl hgB)).2,by dsimp only;omega⟩,rfl⟩
 ·have c1: ¬0<g / 2^32:=by omega
  have hm2:g*v.getD m 0≤4294967295*4294967295:=Nat.mul_le_mul (by omega) (by omega)
  by_cases hc:r*2^32+u.getD m 0<g*v.getD m 0
  ·have hp:=(next (.inr hc)).1
   by_cases hr':4294967296≤r+v.getD (m+1) 0
   ·have c2:0<(r+v.getD (m+1) 0) / 2^32:=by omega
    obtain⟨f1,f2,f3⟩:=leave (.inr hc) hr'
    simp(disch:=first|exact Xe|fail)only[hH,e1,e2,g1,g2,g3,c1,c2,hc,↓Xa,Xb,Xc,↓reduceIte,Nat.reduceLT,Nat.reduceEqDiff,Nat.reduceBEq,Nat.reduceLeDiff,Nat.reduceAdd]
    exact Settle.keep [0,1,5,7] (fin (g-1) f1 f2 f3)
   ·have c2: ¬0<(r+v.getD (m+1) 0) / 2^32:=by omega
    simp(disch:=first|exact Xe|fail)only[hH,e1,e2,g1,g2,g3,c1,c2,hc,↓Xa,Xb,Xc,↓reduceIte,Nat.reduceLT,Nat.reduceEqDiff,Nat.reduceBEq,Nat.reduceLeDiff,Nat.reduceAdd]
    exact Settle.keep [0,1,5,7,8] ⟨(g-1,r+v.getD (m+1) 0),by dsimp only;omega,⟨(next (.inr hc)).2,by dsimp only;omega⟩,rfl⟩
  ·simp(disch:=first|exact Xe|fail)only[hH,e1,e2,g1,g2,g3,c1,hc,↓Xa,Xb,Xc,↓reduceIte,Nat.reduceLT,Nat.reduceEqDiff,Nat.reduceBEq,Nat.reduceLeDiff,Nat.reduceAdd]
   exact Settle.keep [0,1,5,7] (fin g hg.2.1 (hg.endA h (by omega) (by omega)) (by omega))
end
theorem zbv(B:Nat):AV.seq 0 [] true=LS (digs B 0) true:=by rw[zAQ];rfl
theorem zK8{m n:Nat}{K:AV→Prop}:zAy .lss (.int .i64 (zBy m n)) (.int .i64 ((0:Nat):Int)) K↔K (.bool (decide (m<n))):=by
 have:(zBy m n<((0:Nat):Int))↔m<n:=by unfold zBy;split<;>simp_all;split<;>omega
 simp only[zAy,zAi,true_and,this]
theorem zX7{l x:List Nat}{b ty n:Nat}{t:Bool}{H:AHeap}{Q:AV→AHeap→Prop}{k:IntKind}{m:Int}(hb:H b=none)(hn:l.length=n)(hq:Q (.tup [LS (tr l) true,LS x t,.int k m]) H):SetR Q (.tup [.own b n 0 (tr l).length true,LS x t,.int k m]) (H.upd b (some (.row ty 1 (U l)))):=by
 refine SetR.frz b (zAC _ _ _) ?_
 rw[zAP,zAU _ hb,frz,List.map_cons,List.map_cons,List.map_cons,List.map_nil,zKy hn,zFp]
 exact SetR.now hq
theorem zcr{H:AHeap}{ty n:Nat}{l m:List Nat}{t:Bool}{K:AV→AHeap→Prop}(hn:n=m.length)(hm:m≠[])(hb:l.length+m.length≤17592186044416)
 (k: ∀b,H b=none→K (.own b (l.length+m.length) 0 (l.length+m.length) false) (H.upd b (some (.row ty 1 (U (l++m)))))):zK9 H ty 1 4 (LS l true) (.seq n (U m) t) K:=by
 subst hn
 have hpos:0<m.length:=List.length_pos_iff.2 hm
 refine .inl ⟨by simp,zMC m,rfl,by simp,by omega,by omega,fun e=>absurd e (by omega),fun _ b hb'=>?_⟩
 have:=k b hb'
 rw[zZL]at this
 simpa using this
theorem zQG{a b:List Nat}(ta tb:Bool)(ha:Lim 4294967296 a)(hb:Lim 4294967296 b)(h0:0<val 4294967296 b)(hla:a.length≤549755813888)(hlb:b.length≤549755813888)(hlt:val 4294967296 a<val 4294967296 b):
 PFn Tryz.prog 213 [LS a ta,LS b tb] (.tup [LS (digs 4294967296 (val 4294967296 a / val 4294967296 b)) true,LS (digs 4294967296 (val 4294967296 a%val 4294967296 b)) true,.int .i64 ((0:Nat):Int)]):=by
 intro H Q hq
 refine zIJ (by simp) ?_
 simp(disch:=first|exact Xe|fail)only[zUk,↓Xa,Xb,Xc,↓reduceIte,Nat.reduceLT,Nat.reduceEqDiff,Nat.reduceBEq,Nat.reduceLeDiff,Nat.reduceAdd]
 refine(zEM b tb).call ?_
 have htb:=zFe b
 rw[zAv (by omega) hb]at htb ⊢
 generalize val 4294967296 b=Bv at*
 have hY:=zAG (B:=4294967296) (by omega) Bv
 have hYv:=zAJ (B:=4294967296) (by omega) Bv
 have hYp:0<(digs 4294967296 Bv).length:=by rw[zA1 (by omega) h0];simp
 generalize digs 4294967296 Bv=Y at*
 have hY0:(Y.length=0)=False:=eq_false (by omega)
 simp(disch:=first|exact Xe|fail)only[hY0,↓Xa,Xb,Xc,↓reduceIte,Nat.reduceLT,Nat.reduceEqDiff,Nat.reduceBEq,Nat.reduceLeDiff,Nat.reduceAdd]
 refine(zGn ta true ha hY).call ?_
 rw[hYv]
 simp(disch:=first|exact Xe|fail)only[zK8,hlt,↓Xa,Xb,Xc,↓reduceIte,Nat.reduceLT,Nat.reduceEqDiff,Nat.reduceBEq,Nat.reduceLeDiff,Nat.reduceAdd]
 refine(zI0 ta (by omega)).call ?_
 rw[zAv (by omega) ha]
 simp(disch:=first|exact Xe|fail)only[zSw,↓Xa,Xb,Xc,↓reduceIte,Nat.reduceLT,Nat.reduceEqDiff,Nat.reduceBEq,Nat.reduceLeDiff,Nat.reduceAdd]
 rw[Nat.div_eq_of_lt hlt,Nat.mod_eq_of_lt hlt,← zbv 4294967296]at hq
 exact SetR.now hq
theorem zOX{a b:List Nat}(ta tb:Bool)(ha:Lim 4294967296 a)(hb:Lim 4294967296 b)(h0:0<val 4294967296 b)(hla:a.length≤549755813888)(hlb:b.length≤549755813888)(hlt: ¬val 4294967296 a<val 4294967296 b)(h1:(digs 4294967296 (val 4294967296 b)).length=1):
 PFn Tryz.prog 213 [LS a ta,LS b tb] (.tup [LS (digs 4294967296 (val 4294967296 a / val 4294967296 b)) true,LS (digs 4294967296 (val 4294967296 a%val 4294967296 b)) true,.int .i64 ((0:Nat):Int)]):=by
 intro H Q hq
 refine zIJ (by simp) ?_
 simp(disch:=first|exact Xe|fail)only[zUk,↓Xa,Xb,Xc,↓reduceIte,Nat.reduceLT,Nat.reduceEqDiff,Nat.reduceBEq,Nat.reduceLeDiff,Nat.reduceAdd]
 refine(zEM b tb).call ?_
 rw[zAv (by omega) hb]
 generalize val 4294967296 b=Bv at*
 have hY:=zAG (B:=4294967296) (by omega) Bv
 have hYv:=zAJ (B:=4294967296) (by omega) Bv
 generalize digs 4294967296 Bv=Y at*
 simp(disch:=first|exact Xe|fail)only[h1,↓Xa,Xb,Xc,↓reduceIte,Nat.reduceLT,Nat.reduceEqDiff,Nat.reduceBEq,Nat.reduceLeDiff,Nat.reduceAdd]
 refine(zGn ta true ha hY).call ?_
 rw[hYv]
 have hd:val 4294967296 Y=Y.getD 0 0:=by
  have:=zAc 4294967296 Y (0+1) (by omega)
  rw[← this,zAg];simp[val]
 rw[hYv]at hd
 have hBl:Bv<4294967296:=by rw[hd];exact hY.getD (by omega) 0
 simp(disch:=first|exact Xe|fail)only[zK8,hlt,h1,zJB,← hd,↓Xa,Xb,Xc,↓reduceIte,Nat.reduceLT,Nat.reduceEqDiff,Nat.reduceBEq,Nat.reduceLeDiff,Nat.reduceAdd]
 refine(zGq ta ha h0 hBl (by omega)).call ?_
 simp(disch:=first|exact Xe|fail)only[↓Xa,Xb,Xc,↓reduceIte,Nat.reduceLT,Nat.reduceEqDiff,Nat.reduceBEq,Nat.reduceLeDiff,Nat.reduceAdd]
 have hm:val 4294967296 a%Bv<4294967296:=Nat.lt_trans (Nat.mod_lt _ h0) hBl
 refine(zI0 (l:=[val 4294967296 a%Bv]) true (by simp)).call ?_
 rw[zAv (by omega) (Lim.one hm),zFC]
 simp(disch:=first|exact Xe|fail)only[zSw,↓Xa,Xb,Xc,↓reduceIte,Nat.reduceLT,Nat.reduceEqDiff,Nat.reduceBEq,Nat.reduceLeDiff,Nat.reduceAdd]
 exact SetR.now hq
theorem zLD{a b:List Nat}(ta tb:Bool)(ha:Lim 4294967296 a)(hb:Lim 4294967296 b)(h0:0<val 4294967296 b)(hla:a.length≤549755813888)(hlb:b.length≤549755813888)(hlt: ¬val 4294967296 a<val 4294967296 b)(h1: ¬(digs 4294967296 (val 4294967296 b)).length=1):
 PFn Tryz.prog 213 [LS a ta,LS b tb] (.tup [LS (digs 4294967296 (val 4294967296 a / val 4294967296 b)) true,LS (digs 4294967296 (val 4294967296 a%val 4294967296 b)) true,.int .i64 ((0:Nat):Int)]):=by
 intro H Q hq
 refine zIJ (by simp) ?_
 simp(disch:=first|exact Xe|fail)only[zUk,↓Xa,Xb,Xc,↓reduceIte,Nat.reduceLT,Nat.reduceEqDiff,Nat.reduceBEq,Nat.reduceLeDiff,Nat.reduceAdd]
 refine(zEM b tb).call ?_
 have htb:=zFe b
 rw[zAv (by omega) hb]at htb ⊢
 generalize val 4294967296 b=Bv at*
 have hY:=zAG (B:=4294967296) (by omega) Bv
 have hYv:=zAJ (B:=4294967296) (by omega) Bv
 have hYp:0<(digs 4294967296 Bv).length:=by rw[zA1 (by omega) h0];simp
 have hY0:((digs 4294967296 Bv).length=0)=False:=eq_false (by omega)
 simp(disch:=first|exact Xe|fail)only[hY0,↓Xa,Xb,Xc,↓reduceIte,Nat.reduceLT,Nat.reduceEqDiff,Nat.reduceBEq,Nat.reduceLeDiff,Nat.reduceAdd]
 refine(zGn ta true ha hY).call ?_
 rw[hYv]
 have hn2:2≤(digs 4294967296 Bv).length:=by omega
 have htop:=hY.getD (by omega) ((digs 4294967296 Bv).length-1)
 have htl:blen ((digs 4294967296 Bv).getD ((digs 4294967296 Bv).length-1) 0)≤32:=zBc.2 (by omega)
 simp(disch:=first|exact Xe|fail)only[zK8,hlt,h1,↓Xa,Xb,Xc,↓reduceIte,Nat.reduceLT,Nat.reduceEqDiff,Nat.reduceBEq,Nat.reduceLeDiff,Nat.reduceAdd]
 refine(zfu htop).call ?_
 generalize hs:32-blen ((digs 4294967296 Bv).getD ((digs 4294967296 Bv).length-1) 0)=s at*
 have hs32:s≤32:=by omega
 obtain⟨w1,w2,w3⟩:=zZz h0 hs.symm
 simp(disch:=first|exact Xe|fail)only[↓Xa,Xb,Xc,↓reduceIte,Nat.reduceLT,Nat.reduceEqDiff,Nat.reduceBEq,Nat.reduceLeDiff,Nat.reduceAdd]
 refine(zQW true hY (by omega) (by omega)).call ?_
 rw[hYv]
 simp(disch:=first|exact Xe|fail)only[↓Xa,Xb,Xc,↓reduceIte,Nat.reduceLT,Nat.reduceEqDiff,Nat.reduceBEq,Nat.reduceLeDiff,Nat.reduceAdd]
 refine(zQW ta ha (by omega) (by omega)).call ?_
 have hV0:0<Bv*2^s:=Nat.mul_pos h0 (Nat.pow_pos (by omega))
 have hlv:=zAG (B:=4294967296) (by omega) (Bv*2^s)
 have hvv:=zAJ (B:=4294967296) (by omega) (Bv*2^s)
 have hlu:=zAG (B:=4294967296) (by omega) (val 4294967296 a*2^s)
 have hvu:=zAJ (B:=4294967296) (by omega) (val 4294967296 a*2^s)
 have hAB:Bv*2^s≤val 4294967296 a*2^s:=Nat.mul_le_mul_right _ (by omega)
 have hll:(digs 4294967296 (Bv*2^s)).length≤(digs 4294967296 (val 4294967296 a*2^s)).length:=by
  rcases Nat.lt_or_ge (digs 4294967296 (val 4294967296 a*2^s)).length (digs 4294967296 (Bv*2^s)).length with h|h
  ·have:=zBY (by omega) h;omega
  ·exact h
 have hul:(digs 4294967296 (val 4294967296 a*2^s)).length≤a.length+1:=zA5 (by omega) _ _ (by
  have h1:=zBG ha
  have h2:(2:Nat)^s≤2^32:=Nat.pow_le_pow_right (by omega) hs32
  rw[Nat.pow_succ]
  exact Nat.mul_lt_mul_of_lt_of_le h1 h2 (by omega))
 rw[w1]at hll
 have hdiv:val 4294967296 a*2^s / (Bv*2^s)=val 4294967296 a / Bv:=Nat.mul_div_mul_right _ _ (Nat.pow_pos (by omega))
 have hmod:val 4294967296 a*2^s%(Bv*2^s) / 2^s=val 4294967296 a%Bv:=by
  rw[Nat.mul_mod_mul_right,Nat.mul_div_cancel _ (Nat.pow_pos (by omega))]
 generalize val 4294967296 a*2^s=T at*
 generalize Bv*2^s=V at*
 generalize digs 4294967296 V=v at*
 generalize hn:(digs 4294967296 Bv).length=n at*
 generalize digs 4294967296 T=u0 at*
 simp(disch:=first|exact Xe|fail)only[↓Xa,Xb,Xc,↓reduceIte,Nat.reduceLT,Nat.reduceEqDiff,Nat.reduceBEq,Nat.reduceLeDiff,Nat.reduceAdd]
 refine zcr (l:=u0) (m:=[0]) rfl (by simp) (by simp;omega) fun bu hbu=>?_
 obtain⟨k0,hk0⟩: ∃k0,u0.length=n+k0:=⟨u0.length-n,by omega⟩
 have hum:u0.length+[0].length=n+k0+1:=by simp[hk0]
 rw[hum]
 have hdn:n+k0+1-n=k0+1:=by omega
 simp(disch:=first|exact Xe|fail)only[w1,hdn,↓Xa,Xb,Xc,↓reduceIte,Nat.reduceLT,Nat.reduceEqDiff,Nat.reduceBEq,Nat.reduceLeDiff,Nat.reduceAdd]
 refine zDW fun bq hbq=>?_
 have nb:=hbq
 simp only[zAB]at nb
 obtain⟨nbA,nbq⟩:=nb
 simp(disch:=first|exact Xe|fail)only[hdn,Nat.add_sub_cancel,↓Xa,Xb,Xc,↓reduceIte,Nat.reduceLT,Nat.reduceEqDiff,Nat.reduceBEq,Nat.reduceLeDiff,Nat.reduceAdd]
 have hlz:(u0++[0]).length=n+k0+1:=by simp[hk0]
 refine zAO (fun z:Nat×List Nat×List Nat=>⟨[],[(10,.int .i64 s),(11,LS v true),(13,.own bu (n+k0+1) 0 (n+k0+1) false),(15,.int .i64 n),(16,.own bq (k0+1) 0 (k0+1) true),(17,.int .i64 (dn z.1))],
  (H.upd bu (some (.row 168 1 (U z.2.1)))).upd bq (some (.row 168 1 (U z.2.2)))⟩)
  (fun z=>DivK T V n k0 z.1 z.2.1 z.2.2) (fun z=>z.1) (k0+1,u0++[0],List.replicate (k0+1) 0) (Settle.now rfl) ?_ ?_
 ·refine⟨Nat.le_refl _,hlz,zBk hlu (by omega),by simp,zCI (by omega) _,?_,?_⟩
  ·
   have e:=zBT 4294967296 (u0.drop (k0+1)) [0]
   have h1:=zBG (hlu.drop (k0+1))
   rw[List.length_drop]at h1
   have h2:(u0++[0]).drop (k0+1)=u0.drop (k0+1)++[0]:=by rw[List.drop_append_of_le_length (by omega)]
   rw[h2,e,zFC,Nat.mul_zero,Nat.add_zero]
   have h3:=zJE (B:=4294967296) (l:=v) (n:=n-1) (by omega)
   rw[hvv]at h3
   have h4:4294967296^(n-1)*1≤4294967296^(n-1)*v.getD (n-1) 0:=Nat.mul_le_mul_left _ (by omega)
   rw[show u0.length-(k0+1)=n-1 by omega]at h1
   omega
  ·have z:val 4294967296 []=0:=rfl
   show T=V*(4294967296^(k0+1)*val 4294967296 ((List.replicate (k0+1) 0).drop (k0+1)))+val 4294967296 (u0++[0])
   rw[List.drop_of_length_le (Nat.le_of_eq List.length_replicate),zBX,hvu,z,Nat.mul_zero,Nat.mul_zero,Nat.mul_zero,Nat.zero_add,Nat.add_zero]
 rintro⟨M,ul,ql⟩ hk
 dsimp only at hk ⊢
 have hu1:=hk.ulen
 have hq1:=hk.qlen
 cases M with
 |zero=>
  obtain⟨d1,d2⟩:=hk.end
  simp(disch:=first|exact Xe|fail)only[↓Xa,Xb,Xc,↓reduceIte,Nat.reduceLT,Nat.reduceEqDiff,Nat.reduceBEq,Nat.reduceLeDiff,Nat.reduceAdd]
  refine Settle.freeze 13 rfl (by rw[zBj nbA.symm,zAC]) (by simp[hu1]) (.inr (by simp)) ?_
  have e1:AV.seq (n+k0+1) (((U ul).drop 0).take ((n+k0+1)*1)) false=LS ul false:=by
   rw[List.drop_zero,Nat.mul_one,← hu1,List.take_of_length_le (by simp)];rfl
  rw[e1,zD1 nbA,zAU H hbu]
  refine Settle.now ?_
  simp(disch:=first|exact Xe|fail)only[↓Xa,Xb,Xc,↓reduceIte,Nat.reduceLT,Nat.reduceEqDiff,Nat.reduceBEq,Nat.reduceLeDiff,Nat.reduceAdd]
  refine(zXX false hk.ulim (by omega) (by omega)).call ?_
  rw[d2,hmod]
  simp(disch:=first|exact Xe|fail)only[↓Xa,Xb,Xc,↓reduceIte,Nat.reduceLT,Nat.reduceEqDiff,Nat.reduceBEq,Nat.reduceLeDiff,Nat.reduceAdd]
  refine zCZ (zAC _ _ _) hq1 ?_
  simp(disch:=first|exact Xe|fail)only[zSw,↓Xa,Xb,Xc,↓reduceIte,Nat.reduceLT,Nat.reduceEqDiff,Nat.reduceBEq,Nat.reduceLeDiff,Nat.reduceAdd]
  refine zX7 nbq hq1 ?_
  rw[zAv (by omega) hk.qlim,d1,hdiv]
  exact hq
 |succ k=>
  have hM:=hk.hM
  have hkl:k≤k0:=by omega
  obtain⟨s1,s2,s3⟩:=hk.seg w2
  have hseg:((ul.drop k).take (n+1)).length=n+1:=by rw[List.length_take,List.length_drop];omega
  have hparts:ul=ul.take k++((ul.drop k).take (n+1)++ul.drop (k+(n+1))):=by
   rw[← List.drop_drop,List.take_append_drop,List.take_append_drop]
  have hD:DigI ((ul.drop k).take (n+1)) v (n-2):=by
   refine⟨by omega,by omega,(hk.ulim.drop k).take _,hlv,?_,?_⟩
   ·rw[show n-2+1=n-1 by omega];exact w3
   ·rw[s1,hvv];exact s2
  have hkn:k+n+1-k=n+1:=by omega
  have hpre:(ul.take k).length=k:=by rw[List.length_take];omega
  simp(disch:=first|exact Xe|fail)only[hkn,↓Xa,Xb,Xc,↓reduceIte,Nat.reduceLT,Nat.reduceEqDiff,Nat.reduceBEq,Nat.reduceLeDiff,Nat.reduceAdd]
  refine zAM (zPB (pre:=ul.take k) (u:=(ul.drop k).take (n+1)) (post:=ul.drop (k+(n+1))) true hD (by rw[zBj nbA.symm,zAC,← hparts]) (by rw[hpre,hseg,List.length_drop];omega) hpre.symm hseg.symm (by omega) fun w g1 g2 g3=>?_)
  rw[hseg]at g1
  rw[hvv]at g3 ⊢
  have hqd:val 4294967296 ((ul.drop k).take (n+1)) / V<4294967296:=Nat.div_lt_of_lt_mul (by rw[s1,Nat.mul_comm];exact s2)
  have stp:=hk.step w2 hV0 g1 g2 g3 rfl
  rw[Nat.mod_eq_of_lt hqd]at stp
  generalize val 4294967296 ((ul.drop k).take (n+1)) / V=qd at*
  simp(disch:=first|exact Xe|fail)only[↓Xa,Xb,Xc,↓reduceIte,Nat.reduceLT,Nat.reduceEqDiff,Nat.reduceBEq,Nat.reduceLeDiff,Nat.reduceAdd]
  exact Settle.keep [10,11,13,15,16,17] ⟨(k,_,_),by dsimp only;omega,stp,rfl⟩
theorem zKV{a b:List Nat}(ta tb:Bool)(ha:Lim 4294967296 a)(hb:Lim 4294967296 b)(h0:0<val 4294967296 b)(hla:a.length≤549755813888)(hlb:b.length≤549755813888):
 PFn Tryz.prog 213 [LS a ta,LS b tb] (.tup [LS (digs 4294967296 (val 4294967296 a / val 4294967296 b)) true,LS (digs 4294967296 (val 4294967296 a%val 4294967296 b)) true,.int .i64 ((0:Nat):Int)]):=by
 by_cases hlt:val 4294967296 a<val 4294967296 b
 ·exact zQG ta tb ha hb h0 hla hlb hlt
 ·by_cases h1:(digs 4294967296 (val 4294967296 b)).length=1
  ·exact zOX ta tb ha hb h0 hla hlb hlt h1
  ·exact zLD ta tb ha hb h0 hla hlb hlt h1
def zAl(z:Int):AV:=.agg [.bool (decide (z<0)),LS (digs 4294967296 z.natAbs) true]
def sg(neg:Bool)(n:Nat):Int:=if neg then -(n:Int)else n
theorem zCq(neg:Bool)(n:Nat):(sg neg n).natAbs=n:=by cases neg<;>simp[sg]
theorem zW4(neg:Bool)(n:Nat):decide (sg neg n<0)=(neg&&decide (0<n)):=by cases neg<;>simp[sg]<;>omega
theorem zZQ(z:Int):sg (decide (z<0)) z.natAbs=z:=by unfold sg;by_cases h:z<0<;>simp[h];omega;omega
theorem zND{z:Int}(h:0≤z):((z.natAbs:Nat):Int)=z:=by omega
theorem zLo{z:Int}(h:z≤0): -((z.natAbs:Nat):Int)=z:=by omega
theorem zY0(neg:Bool)(n:Nat):zAl (sg neg n)=.agg [.bool (neg&&decide (0<(digs 4294967296 n).length)),LS (digs 4294967296 n) true]:=by
 simp only[zAl,zCq,zW4,zFa (B:=4294967296) (n:=n) (by omega)]
def zB0(z:Int):AV:=.bool (decide (z<0))
def zB1(z:Int):AV:=LS (digs 4294967296 z.natAbs) true
theorem zFH{z:Int}:zAl z=.agg [zB0 z,zB1 z]:=id rfl
theorem zAE{z:Int}:(zAl z).cells=some [zB0 z,zB1 z]:=id rfl
theorem zAI{z:Int}:AV.agg [zB0 z,zB1 z]=zAl z:=id rfl
theorem zMy:AV.agg [.bool false,.seq 0 [] true]=zAl 0:=by simp[zAl,zAQ,LS,U]
theorem zR4{z:Int}:(zB0 z).cells=some [zB0 z]:=id rfl
theorem zR5{z:Int}:(zB1 z).cells=some [zB1 z]:=id rfl
theorem zRm{z:Int}:(zB0 z).cell=true:=id rfl
theorem zQx{z:Int}:(zB1 z).cell=true:=id rfl
theorem zCP(neg:Bool)(n:Nat)(hl:(digs 4294967296 n).length≤1099511627776):PFn Tryz.prog 161 [.bool neg,LS (digs 4294967296 n) true] (zAl (sg neg n)):=by
 intro H Q hq
 refine zS6 (by simp) ?_
 rw[zY0]at hq
 simp(disch:=first|exact Xe|fail)only[zcp,↓Xa,Xb,Xc,↓reduceIte,Nat.reduceLT,Nat.reduceEqDiff,Nat.reduceBEq,Nat.reduceLeDiff,Nat.reduceAdd]
 refine zAD fun p hp=>?_
 cases neg
 ·simp(disch:=first|exact Xe|fail)only[zZ3,↓Xa,Xb,Xc,↓reduceIte,Nat.reduceLT,Nat.reduceEqDiff,Nat.reduceBEq,Nat.reduceLeDiff,Nat.reduceAdd]
  exact SetR.dropTo ((Le.refl H).upd hp) (SetR.now hq)
 ·simp(disch:=first|exact Xe|fail)only[zZ3,↓Xa,Xb,Xc,↓reduceIte,Nat.reduceLT,Nat.reduceEqDiff,Nat.reduceBEq,Nat.reduceLeDiff,Nat.reduceAdd]
  exact SetR.dropTo ((Le.refl H).upd hp) (SetR.now hq)
def Bd(k:Nat)(z:Int):Prop:=z.natAbs<4294967296^k
theorem Bd.len{k:Nat}{z:Int}(h:Bd k z):(digs 4294967296 z.natAbs).length≤k:=zA5 (by omega) k _ h
theorem Bd.mono{k k':Nat}{z:Int}(h:Bd k z)(hk:k≤k'):Bd k' z:=Nat.lt_of_lt_of_le h (Nat.pow_le_pow_right (by omega) hk)
theorem Bd.neg{k:Nat}{z:Int}(h:Bd k z):Bd k (-z):=by unfold Bd at *; omega
theorem Bd.sgn{k n:Nat}{b:Bool}(h:n<4294967296^k):Bd k (sg b n):=by unfold Bd;rw[zCq];exact h
theorem Bd.abs{k:Nat}{z:Int}(h:Bd k z):Bd k (z.natAbs:Int):=by unfold Bd at *; omega
theorem Bd.add{k:Nat}{x y:Int}(h:Bd k x)(h':Bd k y):Bd (k+1) (x+y):=by
 unfold Bd at *; rw[Nat.pow_succ];omega
theorem Bd.sub{k:Nat}{x y:Int}(h:Bd k x)(h':Bd k y):Bd (k+1) (x-y):=by
 unfold Bd at *; rw[Nat.pow_succ];omega
theorem Bd.mul{k k':Nat}{x y:Int}(h:Bd k x)(h':Bd k' y):Bd (k+k') (x*y):=by
 unfold Bd at *; rw[Int.natAbs_mul,Nat.pow_add]
 exact Nat.mul_lt_mul_of_lt_of_lt h h'
theorem Bd.zero(k:Nat):Bd k 0:=by unfold Bd;exact Nat.pow_pos (by omega)
theorem Bd.i64{n:Int}(h: -9223372036854775808≤n∧n<9223372036854775808):Bd 2 n:=by unfold Bd;omega
theorem zX0{l:List Nat}(neg t:Bool)(hl:Lim 4294967296 l)(hn:l.length≤1099511627776):PFn Tryz.prog 98 [.bool neg,LS l t] (zAl (sg neg (val 4294967296 l))):=by
 intro H Q hq
 refine zYH (by simp) ?_
 simp(disch:=first|exact Xe|fail)only[zhc,↓Xa,Xb,Xc,↓reduceIte,Nat.reduceLT,Nat.reduceEqDiff,Nat.reduceBEq,Nat.reduceLeDiff,Nat.reduceAdd]
 refine zAD fun p hp=>?_
 simp(disch:=first|exact Xe|fail)only[↓Xa,Xb,Xc,↓reduceIte,Nat.reduceLT,Nat.reduceEqDiff,Nat.reduceBEq,Nat.reduceLeDiff,Nat.reduceAdd]
 refine(zI0 t (by omega)).call ?_
 rw[zAv (by omega) hl]
 simp(disch:=first|exact Xe|fail)only[↓Xa,Xb,Xc,↓reduceIte,Nat.reduceLT,Nat.reduceEqDiff,Nat.reduceBEq,Nat.reduceLeDiff,Nat.reduceAdd]
 refine(zCP neg _ (by have:=zFe l;rw[zAv (by omega) hl]at this;omega)).call ?_
 simp(disch:=first|exact Xe|fail)only[zhZ,zAl,↓Xa,Xb,Xc,↓reduceIte,Nat.reduceLT,Nat.reduceEqDiff,Nat.reduceBEq,Nat.reduceLeDiff,Nat.reduceAdd]
 exact SetR.dropTo ((Le.refl H).upd hp) (SetR.now hq)
theorem zHI{n:Int}(hn: -9223372036854775808≤n∧n<9223372036854775808):PFn Tryz.prog 31 [.int .i64 n] (zAl n):=by
 intro H Q hq
 refine zZZ (by simp) ?_
 have v2: ∀u:Nat,u<18446744073709551616→val 4294967296 [u%4294967296,u / 2^32]=u:=by
  intro u hu;simp only[val];omega
 have l2: ∀u:Nat,u<18446744073709551616→Lim 4294967296 [u%4294967296,u / 2^32]:=fun u hu=>Lim.cons (Nat.mod_lt _ (by omega)) (Lim.one (by omega))
 simp(disch:=first|exact Xe|fail)only[zhS,↓Xa,Xb,Xc,↓reduceIte,Nat.reduceLT,Nat.reduceEqDiff,Nat.reduceBEq,Nat.reduceLeDiff,Nat.reduceAdd]
 refine zAD fun p hp=>?_
 have key': ∀(u:Nat)(neg:Bool),u<18446744073709551616→sg neg u=n→∀{H K},K (zAl n) H→zBw Tryz.prog (.fn (.func 98) [] []) [.bool neg,.seq 2 [.int .u32 ((u%4294967296:Nat):Int),.int .u32 ((u / 2^32:Nat):Int)] true] H K:=by
  intro u neg hu hs H K hk
  have:=zX0 neg true (l2 u hu) (by simp)
  rw[v2 u hu,hs]at this
  exact this.call hk
 by_cases h0:n<0
 ·obtain⟨m,rfl⟩: ∃m:Nat,n= -(m:Int):=⟨n.natAbs,by omega⟩
  have c1: ∀K,zEi .u64 (.int .i64 (-(m:Int))) K↔K (.int .u64 ((18446744073709551616-m:Nat):Int)):=fun K=>by
   simp only[zEi,zCA];rw[show(-(m:Int))%18446744073709551616=((18446744073709551616-m:Nat):Int) by omega]
  have c2: ∀K,unW .neg (.int .u64 ((18446744073709551616-m:Nat):Int)) K↔K (.int .u64 (m:Int)):=fun K=>by
   simp only[unW,zCA];rw[show(0-((18446744073709551616-m:Nat):Int))%18446744073709551616=(m:Int) by omega]
  have c3: ∀K,zAy .lss (.int .i64 (-(m:Int))) (.int .i64 ((0:Nat):Int)) K↔K (.bool true):=fun K=>by
   simp only[zAy,zAi,true_and];rw[decide_eq_true (by omega)]
  simp(disch:=first|exact Xe|fail)only[c1,c2,c3,↓Xa,Xb,Xc,↓reduceIte,Nat.reduceLT,Nat.reduceEqDiff,Nat.reduceBEq,Nat.reduceLeDiff,Nat.reduceAdd]
  refine key' m true (by omega) (by simp[sg]) ?_
  simp(disch:=first|exact Xe|fail)only[zfv,zAl,↓Xa,Xb,Xc,↓reduceIte,Nat.reduceLT,Nat.reduceEqDiff,Nat.reduceBEq,Nat.reduceLeDiff,Nat.reduceAdd]
  exact SetR.dropTo ((Le.refl H).upd hp) (SetR.now hq)
 ·obtain⟨m,rfl⟩: ∃m:Nat,n=(m:Int):=⟨n.natAbs,by omega⟩
  simp(disch:=first|exact Xe|fail)only[↓Xa,Xb,Xc,↓reduceIte,Nat.reduceLT,Nat.reduceEqDiff,Nat.reduceBEq,Nat.reduceLeDiff,Nat.reduceAdd]
  refine key' m false (by omega) (by simp[sg]) ?_
  simp(disch:=first|exact Xe|fail)only[zfv,zAl,↓Xa,Xb,Xc,↓reduceIte,Nat.reduceLT,Nat.reduceEqDiff,Nat.reduceBEq,Nat.reduceLeDiff,Nat.reduceAdd]
  exact SetR.dropTo ((Le.refl H).upd hp) (SetR.now hq)
theorem zSA{x:Int}{k:Nat}(hx:Bd k x)(hk:k≤549755813888):PFn Tryz.prog 149 [zAl x] (zAl (-x)):=by
 intro H Q hq
 have hl:=hx.len
 have e: -x=sg (!decide (x<0)) x.natAbs:=by unfold sg;by_cases h:x<0<;>simp[h]<;>omega
 rw[e]at hq
 refine zTL (by simp) ?_
 simp(disch:=first|exact Xe|fail)only[zbx,zAl,↓Xa,Xb,Xc,↓reduceIte,Nat.reduceLT,Nat.reduceEqDiff,Nat.reduceBEq,Nat.reduceLeDiff,Nat.reduceAdd]
 refine zAD fun p hp=>?_
 simp(disch:=first|exact Xe|fail)only[↓Xa,Xb,Xc,↓reduceIte,Nat.reduceLT,Nat.reduceEqDiff,Nat.reduceBEq,Nat.reduceLeDiff,Nat.reduceAdd]
 refine zAD fun p2 hp2=>?_
 have hne:=(zAB.1 hp2).1
 simp(disch:=first|exact Xe|fail)only[↓Xa,Xb,Xc,↓reduceIte,Nat.reduceLT,Nat.reduceEqDiff,Nat.reduceBEq,Nat.reduceLeDiff,Nat.reduceAdd]
 refine(zCP _ _ (by omega)).call ?_
 simp(disch:=first|exact Xe|fail)only[zbi,zAl,↓Xa,Xb,Xc,↓reduceIte,Nat.reduceLT,Nat.reduceEqDiff,Nat.reduceBEq,Nat.reduceLeDiff,Nat.reduceAdd]
 exact SetR.dropTo (((Le.refl H).upd hp).upd hp2) (SetR.now hq)
theorem zcT{x:Int}{k:Nat}(hx:Bd k x)(hk:k≤549755813888):PFn Tryz.prog 188 [zAl x] (zAl (x.natAbs:Int)):=by
 intro H Q hq
 have hl:=hx.len
 refine zTo (by simp) ?_
 simp(disch:=first|exact Xe|fail)only[zc7,zAl,↓Xa,Xb,Xc,↓reduceIte,Nat.reduceLT,Nat.reduceEqDiff,Nat.reduceBEq,Nat.reduceLeDiff,Nat.reduceAdd]
 refine zAD fun p hp=>?_
 simp(disch:=first|exact Xe|fail)only[↓Xa,Xb,Xc,↓reduceIte,Nat.reduceLT,Nat.reduceEqDiff,Nat.reduceBEq,Nat.reduceLeDiff,Nat.reduceAdd]
 refine zAD fun p2 hp2=>?_
 have hne:=(zAB.1 hp2).1
 simp(disch:=first|exact Xe|fail)only[↓Xa,Xb,Xc,↓reduceIte,Nat.reduceLT,Nat.reduceEqDiff,Nat.reduceBEq,Nat.reduceLeDiff,Nat.reduceAdd]
 refine(zCP false _ (by omega)).call ?_
 simp(disch:=first|exact Xe|fail)only[zbj,zAl,↓Xa,Xb,Xc,↓reduceIte,Nat.reduceLT,Nat.reduceEqDiff,Nat.reduceBEq,Nat.reduceLeDiff,Nat.reduceAdd]
 exact SetR.dropTo (((Le.refl H).upd hp).upd hp2) (SetR.now (by simpa[zAl,sg]using hq))
def zD4(x:Int):Int:=if x=0 then((0:Nat):Int)else if x<0 then -1 else((1:Nat):Int)
theorem zGa{x:Int}{k:Nat}(hx:Bd k x)(hk:k≤549755813888):PFn Tryz.prog 52 [zAl x] (.int .i64 (zD4 x)):=by
 intro H Q hq
 have hl:=hx.len
 have h0:=zCx (B:=4294967296) (n:=x.natAbs) (by omega)
 refine zYc (by simp) ?_
 simp(disch:=first|exact Xe|fail)only[zh9,zAl,↓Xa,Xb,Xc,↓reduceIte,Nat.reduceLT,Nat.reduceEqDiff,Nat.reduceBEq,Nat.reduceLeDiff,Nat.reduceAdd]
 refine zAD fun p hp=>?_
 by_cases hz:x=0
 ·have h1:(digs 4294967296 x.natAbs).length=0:=by rw[h0];omega
  simp(disch:=first|exact Xe|fail)only[ze5,h1,↓Xa,Xb,Xc,↓reduceIte,Nat.reduceLT,Nat.reduceEqDiff,Nat.reduceBEq,Nat.reduceLeDiff,Nat.reduceAdd]
  refine SetR.dropTo ((Le.refl H).upd hp) (SetR.now ?_)
  simpa[zD4,hz]using hq
 ·have h1:((digs 4294967296 x.natAbs).length=0)=False:=by rw[h0];simp;omega
  by_cases hn:x<0
  ·simp(disch:=first|exact Xe|fail)only[ze5,h1,hn,↓Xa,Xb,Xc,↓reduceIte,Nat.reduceLT,Nat.reduceEqDiff,Nat.reduceBEq,Nat.reduceLeDiff,Nat.reduceAdd]
   refine SetR.dropTo ((Le.refl H).upd hp) (SetR.now ?_)
   simpa[zD4,hz,hn]using hq
  ·simp(disch:=first|exact Xe|fail)only[ze5,h1,hn,↓Xa,Xb,Xc,↓reduceIte,Nat.reduceLT,Nat.reduceEqDiff,Nat.reduceBEq,Nat.reduceLeDiff,Nat.reduceAdd]
   refine SetR.dropTo ((Le.refl H).upd hp) (SetR.now ?_)
   simpa[zD4,hz,hn]using hq
def zFt(x y:Int):Int:=if x<y then -1 else if y<x then((1:Nat):Int)else((0:Nat):Int)
theorem zZH{x y:Int}{k k':Nat}(hx:Bd k x)(hk:k≤549755813888)(hy:Bd k' y)(hk':k'≤549755813888):PFn Tryz.prog 46 [zAl x,zAl y] (.int .i64 (zFt x y)):=by
 intro H Q hq
 have hl:=hx.len
 have hl':=hy.len
 have vx:=zAJ (B:=4294967296) (by omega) x.natAbs
 have vy:=zAJ (B:=4294967296) (by omega) y.natAbs
 have lx:=zAG (B:=4294967296) (by omega) x.natAbs
 have ly:=zAG (B:=4294967296) (by omega) y.natAbs
 refine zZo (by simp) ?_
 simp(disch:=first|exact Xe|fail)only[zhd,zAl,↓Xa,Xb,Xc,↓reduceIte,Nat.reduceLT,Nat.reduceEqDiff,Nat.reduceBEq,Nat.reduceLeDiff,Nat.reduceAdd]
 refine zAD fun p hp=>?_
 simp(disch:=first|exact Xe|fail)only[↓Xa,Xb,Xc,↓reduceIte,Nat.reduceLT,Nat.reduceEqDiff,Nat.reduceBEq,Nat.reduceLeDiff,Nat.reduceAdd]
 refine zAD fun p2 hp2=>?_
 have hne:=(zAB.1 hp2).1
 have fin: ∀v,zFt x y=v→SetR Q (.int .i64 v) ((H.upd p (some (.row 48 0 [.bool (decide (x<0)),LS (digs 4294967296 x.natAbs) true]))).upd p2 (some (.row 48 0 [.bool (decide (y<0)),LS (digs 4294967296 y.natAbs) true]))):=fun v hv=>SetR.dropTo (((Le.refl H).upd hp).upd hp2) (SetR.now (hv▸hq))
 by_cases hn:x<0
 ·by_cases hn':y<0
  ·simp(disch:=first|exact Xe|fail)only[hn,hn',↓Xa,Xb,Xc,↓reduceIte,Nat.reduceLT,Nat.reduceEqDiff,Nat.reduceBEq,Nat.reduceLeDiff,Nat.reduceAdd]
   refine(zGn true true ly lx).call ?_
   rw[vx,vy]
   have:zFt x y=zBy y.natAbs x.natAbs:=by unfold zFt zBy;split<;>split<;>first|rfl|omega|(split<;>first|rfl|omega|(split<;>first|rfl|omega))
   simp only[hn,hn',decide_true]at fin
   simp(disch:=first|exact Xe|fail)only[zdT,↓Xa,Xb,Xc,↓reduceIte,Nat.reduceLT,Nat.reduceEqDiff,Nat.reduceBEq,Nat.reduceLeDiff,Nat.reduceAdd]
   exact fin _ this
  ·simp(disch:=first|exact Xe|fail)only[hn,hn',zdT,↓Xa,Xb,Xc,↓reduceIte,Nat.reduceLT,Nat.reduceEqDiff,Nat.reduceBEq,Nat.reduceLeDiff,Nat.reduceAdd]
   simp only[hn,hn',decide_true,decide_false]at fin
   exact fin _ (by unfold zFt;rw[if_pos (by omega)])
 ·by_cases hn':y<0
  ·simp(disch:=first|exact Xe|fail)only[hn,hn',zdT,↓Xa,Xb,Xc,↓reduceIte,Nat.reduceLT,Nat.reduceEqDiff,Nat.reduceBEq,Nat.reduceLeDiff,Nat.reduceAdd]
   simp only[hn,hn',decide_true,decide_false]at fin
   exact fin _ (by unfold zFt;rw[if_neg (by omega),if_pos (by omega)])
  ·simp(disch:=first|exact Xe|fail)only[hn,hn',↓Xa,Xb,Xc,↓reduceIte,Nat.reduceLT,Nat.reduceEqDiff,Nat.reduceBEq,Nat.reduceLeDiff,Nat.reduceAdd]
   refine(zGn true true lx ly).call ?_
   rw[vx,vy]
   have:zFt x y=zBy x.natAbs y.natAbs:=by unfold zFt zBy;split<;>split<;>first|rfl|omega|(split<;>first|rfl|omega|(split<;>first|rfl|omega))
   simp only[hn,hn',decide_false]at fin
   simp(disch:=first|exact Xe|fail)only[zdT,↓Xa,Xb,Xc,↓reduceIte,Nat.reduceLT,Nat.reduceEqDiff,Nat.reduceBEq,Nat.reduceLeDiff,Nat.reduceAdd]
   exact fin _ this
theorem zGd{x y:Int}{k k':Nat}(hx:Bd k x)(hk:k≤549755813888)(hy:Bd k' y)(hk':k'≤549755813888):PFn Tryz.prog 138 [zAl x,zAl y] (zAl (x+y)):=by
 intro H Q hq
 have hl:=hx.len
 have hl':=hy.len
 have vx:=zAJ (B:=4294967296) (by omega) x.natAbs
 have vy:=zAJ (B:=4294967296) (by omega) y.natAbs
 have lx:=zAG (B:=4294967296) (by omega) x.natAbs
 have ly:=zAG (B:=4294967296) (by omega) y.natAbs
 have hxm:=hx.mono (Nat.le_max_left k k')
 have hym:=hy.mono (Nat.le_max_right k k')
 refine zU3 (by simp) ?_
 simp(disch:=first|exact Xe|fail)only[zeI,zAl,↓Xa,Xb,Xc,↓reduceIte,Nat.reduceLT,Nat.reduceEqDiff,Nat.reduceBEq,Nat.reduceLeDiff,Nat.reduceAdd]
 refine zAD fun p hp=>?_
 simp(disch:=first|exact Xe|fail)only[↓Xa,Xb,Xc,↓reduceIte,Nat.reduceLT,Nat.reduceEqDiff,Nat.reduceBEq,Nat.reduceLeDiff,Nat.reduceAdd]
 refine zAD fun p2 hp2=>?_
 simp(disch:=first|exact Xe|fail)only[↓Xa,Xb,Xc,↓reduceIte,Nat.reduceLT,Nat.reduceEqDiff,Nat.reduceBEq,Nat.reduceLeDiff,Nat.reduceAdd]
 refine zAD fun p3 hp3=>?_
 have hne:=(zAB.1 hp2).1
 have hne3:=(zAB.1 hp3).1
 have hne4:=(zAB.1 (zAB.1 hp3).2).1
 by_cases hs:decide (x<0)=decide (y<0)
 ·have hsb:(decide (x<0)==decide (y<0))=true:=by rw[hs];simp
  simp(disch:=first|exact Xe|fail)only[hsb,↓Xa,Xb,Xc,↓reduceIte,Nat.reduceLT,Nat.reduceEqDiff,Nat.reduceBEq,Nat.reduceLeDiff,Nat.reduceAdd]
  refine PFn.dcall (zbD true true lx ly (by omega) (by omega)) ?_
  rw[vx,vy]
  simp(disch:=first|exact Xe|fail)only[↓Xa,Xb,Xc,↓reduceIte,Nat.reduceLT,Nat.reduceEqDiff,Nat.reduceBEq,Nat.reduceLeDiff,Nat.reduceAdd]
  have hb:Bd (max k k'+1) (sg (decide (x<0)) (x.natAbs+y.natAbs)):=Bd.sgn (by unfold Bd at hxm hym;rw[Nat.pow_succ];omega)
  have hb':=hb.len
  rw[zCq]at hb'
  refine(zCP _ _ (by omega)).call ?_
  simp(disch:=first|exact Xe|fail)only[zVo,zAl,↓Xa,Xb,Xc,↓reduceIte,Nat.reduceLT,Nat.reduceEqDiff,Nat.reduceBEq,Nat.reduceLeDiff,Nat.reduceAdd]
  have e:x+y=sg (decide (x<0)) (x.natAbs+y.natAbs):=by
   have:=decide_eq_decide.1 hs
   unfold sg;by_cases h:x<0<;>simp[h]<;>omega
  rw[e]at hq
  exact SetR.dropTo ((((Le.refl H).upd hp).upd hp2).upd hp3) (SetR.now hq)
 ·have hsb:(decide (x<0)==decide (y<0))=false:=by simpa using hs
  have hs': ¬((x<0)↔(y<0)):=fun h=>hs (decide_eq_decide.2 h)
  simp(disch:=first|exact Xe|fail)only[hsb,↓Xa,Xb,Xc,↓reduceIte,Nat.reduceLT,Nat.reduceEqDiff,Nat.reduceBEq,Nat.reduceLeDiff,Nat.reduceAdd]
  refine(zGn true true lx ly).call ?_
  rw[vx,vy]
  by_cases hc:x.natAbs<y.natAbs
  ·have c3: ∀K,zAy .lss (.int .i64 (zBy x.natAbs y.natAbs)) (.int .i64 ((0:Nat):Int)) K↔K (.bool true):=fun K=>by
    simp[zAy,zAi,zBy,hc]
   simp(disch:=first|exact Xe|fail)only[c3,↓Xa,Xb,Xc,↓reduceIte,Nat.reduceLT,Nat.reduceEqDiff,Nat.reduceBEq,Nat.reduceLeDiff,Nat.reduceAdd]
   refine(zWi true true ly lx (by rw[vx,vy];omega) (by omega) (by omega)).call ?_
   rw[vx,vy]
   simp(disch:=first|exact Xe|fail)only[↓Xa,Xb,Xc,↓reduceIte,Nat.reduceLT,Nat.reduceEqDiff,Nat.reduceBEq,Nat.reduceLeDiff,Nat.reduceAdd]
   have hb:Bd k' (sg (decide (y<0)) (y.natAbs-x.natAbs)):=Bd.sgn (by unfold Bd at hy;omega)
   have hb':=hb.len
   rw[zCq]at hb'
   refine(zCP _ _ (by omega)).call ?_
   simp(disch:=first|exact Xe|fail)only[zVo,zAl,↓Xa,Xb,Xc,↓reduceIte,Nat.reduceLT,Nat.reduceEqDiff,Nat.reduceBEq,Nat.reduceLeDiff,Nat.reduceAdd]
   have e:x+y=sg (decide (y<0)) (y.natAbs-x.natAbs):=by
    unfold sg;by_cases h:y<0<;>simp[h]<;>omega
   rw[e]at hq
   exact SetR.dropTo ((((Le.refl H).updB hp).updB (zAB.1 hp2).2).updB (zAB.1 (zAB.1 hp3).2).2) (SetR.now hq)
  ·have c3: ∀K,zAy .lss (.int .i64 (zBy x.natAbs y.natAbs)) (.int .i64 ((0:Nat):Int)) K↔K (.bool false):=fun K=>by
    have: ¬(zBy x.natAbs y.natAbs<0):=by unfold zBy;rw[if_neg hc];split<;>omega
    simp[zAy,zAi];rw[decide_eq_false this]
   simp(disch:=first|exact Xe|fail)only[c3,↓Xa,Xb,Xc,↓reduceIte,Nat.reduceLT,Nat.reduceEqDiff,Nat.reduceBEq,Nat.reduceLeDiff,Nat.reduceAdd]
   refine(zWi true true lx ly (by rw[vx,vy];omega) (by omega) (by omega)).call ?_
   rw[vx,vy]
   simp(disch:=first|exact Xe|fail)only[↓Xa,Xb,Xc,↓reduceIte,Nat.reduceLT,Nat.reduceEqDiff,Nat.reduceBEq,Nat.reduceLeDiff,Nat.reduceAdd]
   have hb:Bd k (sg (decide (x<0)) (x.natAbs-y.natAbs)):=Bd.sgn (by unfold Bd at hx;omega)
   have hb':=hb.len
   rw[zCq]at hb'
   refine(zCP _ _ (by omega)).call ?_
   simp(disch:=first|exact Xe|fail)only[zVo,zAl,↓Xa,Xb,Xc,↓reduceIte,Nat.reduceLT,Nat.reduceEqDiff,Nat.reduceBEq,Nat.reduceLeDiff,Nat.reduceAdd]
   have e:x+y=sg (decide (x<0)) (x.natAbs-y.natAbs):=by
    unfold sg;by_cases h:x<0<;>simp[h]<;>omega
   rw[e]at hq
   exact SetR.dropTo ((((Le.refl H).upd hp).upd hp2).upd hp3) (SetR.now hq)
theorem zLb{x y:Int}{k k':Nat}(hx:Bd k x)(hk:k≤549755813888)(hy:Bd k' y)(hk':k'≤549755813888):PFn Tryz.prog 150 [zAl x,zAl y] (zAl (x-y)):=by
 intro H Q hq
 refine zTa (by simp) ?_
 simp(disch:=first|exact Xe|fail)only[zef,zAl,↓Xa,Xb,Xc,↓reduceIte,Nat.reduceLT,Nat.reduceEqDiff,Nat.reduceBEq,Nat.reduceLeDiff,Nat.reduceAdd]
 refine zAD fun p hp=>?_
 simp(disch:=first|exact Xe|fail)only[↓Xa,Xb,Xc,↓reduceIte,Nat.reduceLT,Nat.reduceEqDiff,Nat.reduceBEq,Nat.reduceLeDiff,Nat.reduceAdd]
 refine zAD fun p2 hp2=>?_
 simp(disch:=first|exact Xe|fail)only[↓Xa,Xb,Xc,↓reduceIte,Nat.reduceLT,Nat.reduceEqDiff,Nat.reduceBEq,Nat.reduceLeDiff,Nat.reduceAdd]
 refine zAD fun p3 hp3=>?_
 have hne:=(zAB.1 hp2).1
 have hne3:=(zAB.1 hp3).1
 have hne4:=(zAB.1 (zAB.1 hp3).2).1
 simp(disch:=first|exact Xe|fail)only[↓Xa,Xb,Xc,↓reduceIte,Nat.reduceLT,Nat.reduceEqDiff,Nat.reduceBEq,Nat.reduceLeDiff,Nat.reduceAdd]
 refine PFn.dcall (zSA hy hk') ?_
 simp(disch:=first|exact Xe|fail)only[↓Xa,Xb,Xc,↓reduceIte,Nat.reduceLT,Nat.reduceEqDiff,Nat.reduceBEq,Nat.reduceLeDiff,Nat.reduceAdd]
 refine(zGd hx hk hy.neg hk').call ?_
 simp(disch:=first|exact Xe|fail)only[zb4,zAl,↓Xa,Xb,Xc,↓reduceIte,Nat.reduceLT,Nat.reduceEqDiff,Nat.reduceBEq,Nat.reduceLeDiff,Nat.reduceAdd]
 exact SetR.dropTo ((((Le.refl H).upd hp).upd hp2).upd hp3) (SetR.now hq)
theorem zIp{x y:Int}{k k':Nat}(hx:Bd k x)(hk:k≤549755813888)(hy:Bd k' y)(hk':k'≤549755813888):PFn Tryz.prog 121 [zAl x,zAl y] (zAl (x*y)):=by
 intro H Q hq
 have hl:=hx.len
 have hl':=hy.len
 have vx:=zAJ (B:=4294967296) (by omega) x.natAbs
 have vy:=zAJ (B:=4294967296) (by omega) y.natAbs
 have lx:=zAG (B:=4294967296) (by omega) x.natAbs
 have ly:=zAG (B:=4294967296) (by omega) y.natAbs
 have hb:=(hx.mul hy).len
 refine zVJ (by simp) ?_
 simp(disch:=first|exact Xe|fail)only[zdn,zAl,↓Xa,Xb,Xc,↓reduceIte,Nat.reduceLT,Nat.reduceEqDiff,Nat.reduceBEq,Nat.reduceLeDiff,Nat.reduceAdd]
 refine zAD fun p hp=>?_
 simp(disch:=first|exact Xe|fail)only[↓Xa,Xb,Xc,↓reduceIte,Nat.reduceLT,Nat.reduceEqDiff,Nat.reduceBEq,Nat.reduceLeDiff,Nat.reduceAdd]
 refine zAD fun p2 hp2=>?_
 simp(disch:=first|exact Xe|fail)only[↓Xa,Xb,Xc,↓reduceIte,Nat.reduceLT,Nat.reduceEqDiff,Nat.reduceBEq,Nat.reduceLeDiff,Nat.reduceAdd]
 refine zAD fun p3 hp3=>?_
 have hne:=(zAB.1 hp2).1
 have hne3:=(zAB.1 hp3).1
 have hne4:=(zAB.1 (zAB.1 hp3).2).1
 simp(disch:=first|exact Xe|fail)only[↓Xa,Xb,Xc,↓reduceIte,Nat.reduceLT,Nat.reduceEqDiff,Nat.reduceBEq,Nat.reduceLeDiff,Nat.reduceAdd]
 refine PFn.dcall (zc2 true true lx ly (by omega) (by omega)) ?_
 rw[vx,vy]
 simp(disch:=first|exact Xe|fail)only[↓Xa,Xb,Xc,↓reduceIte,Nat.reduceLT,Nat.reduceEqDiff,Nat.reduceBEq,Nat.reduceLeDiff,Nat.reduceAdd]
 rw[Int.natAbs_mul]at hb
 refine(zCP _ _ (by omega)).call ?_
 have e:sg (!(decide (x<0)==decide (y<0))) (x.natAbs*y.natAbs)=x*y:=by
  rw[← Int.natAbs_mul]
  unfold sg
  by_cases h:x<0<;>by_cases h':y<0<;>simp[h,h']
  ·rw[zND (Int.mul_nonneg_of_nonpos_of_nonpos (by omega) (by omega))]
  ·rw[zLo (Int.mul_nonpos_of_nonpos_of_nonneg (by omega) (by omega))]
  ·rw[zLo (Int.mul_nonpos_of_nonneg_of_nonpos (by omega) (by omega))]
  ·rw[zND (Int.mul_nonneg (by omega) (by omega))]
 rw[e]
 simp(disch:=first|exact Xe|fail)only[zbH,zAl,↓Xa,Xb,Xc,↓reduceIte,Nat.reduceLT,Nat.reduceEqDiff,Nat.reduceBEq,Nat.reduceLeDiff,Nat.reduceAdd]
 exact SetR.dropTo ((((Le.refl H).upd hp).upd hp2).upd hp3) (SetR.now hq)
theorem zGM{x n:Int}{k:Nat}(hx:Bd k x)(hk:k≤549755813888)(hn: -9223372036854775808≤n∧n<9223372036854775808):PFn Tryz.prog 170 [zAl x,.int .i64 n] (zAl (x*n)):=by
 intro H Q hq
 refine zV4 (by simp) ?_
 simp(disch:=first|exact Xe|fail)only[zcH,zAl,↓Xa,Xb,Xc,↓reduceIte,Nat.reduceLT,Nat.reduceEqDiff,Nat.reduceBEq,Nat.reduceLeDiff,Nat.reduceAdd]
 refine zAD fun p hp=>?_
 simp(disch:=first|exact Xe|fail)only[↓Xa,Xb,Xc,↓reduceIte,Nat.reduceLT,Nat.reduceEqDiff,Nat.reduceBEq,Nat.reduceLeDiff,Nat.reduceAdd]
 refine zAD fun p2 hp2=>?_
 have hne:=(zAB.1 hp2).1
 simp(disch:=first|exact Xe|fail)only[↓Xa,Xb,Xc,↓reduceIte,Nat.reduceLT,Nat.reduceEqDiff,Nat.reduceBEq,Nat.reduceLeDiff,Nat.reduceAdd]
 refine PFn.dcall (zHI hn) ?_
 simp(disch:=first|exact Xe|fail)only[↓Xa,Xb,Xc,↓reduceIte,Nat.reduceLT,Nat.reduceEqDiff,Nat.reduceBEq,Nat.reduceLeDiff,Nat.reduceAdd]
 refine(zIp hx hk (Bd.i64 hn) (by omega)).call ?_
 simp(disch:=first|exact Xe|fail)only[zdo,zAl,↓Xa,Xb,Xc,↓reduceIte,Nat.reduceLT,Nat.reduceEqDiff,Nat.reduceBEq,Nat.reduceLeDiff,Nat.reduceAdd]
 exact SetR.dropTo (((Le.refl H).upd hp).upd hp2) (SetR.now hq)
def zBd(z:Int)(t:Bool):AV:=.agg [.bool (decide (z<0)),LS (digs 65536 z.natAbs) t]
theorem zYR(neg:Bool)(n:Nat)(t:Bool):zBd (sg neg n) t=.agg [.bool (neg&&decide (0<(digs 65536 n).length)),LS (digs 65536 n) t]:=by
 simp only[zBd,zCq,zW4,zFa (B:=65536) (n:=n) (by omega)]
theorem zBs{l:List Nat}(neg t:Bool)(hl:Lim 65536 l)(hn:l.length≤8796093022208):PFn Tryz.prog 147 [.bool neg,LS l t] (zBd (sg neg (val 65536 l)) false):=by
 intro H Q hq
 rw[zYR]at hq
 refine zMO (by simp) ?_
 simp(disch:=first|exact Xe|fail)only[zIx,↓Xa,Xb,Xc,↓reduceIte,Nat.reduceLT,Nat.reduceEqDiff,Nat.reduceBEq,Nat.reduceLeDiff,Nat.reduceAdd]
 refine zAD fun p hp=>?_
 simp(disch:=first|exact Xe|fail)only[↓Xa,Xb,Xc,↓reduceIte,Nat.reduceLT,Nat.reduceEqDiff,Nat.reduceBEq,Nat.reduceLeDiff,Nat.reduceAdd]
 refine zAO (fun n:Nat=>⟨[],[(0,.bool neg),(1,LS l t),(4,.ptr p 2 0),(5,.int .i64 n)],H.upd p (some (.row 44 0 [.bool false,.seq 0 [] true]))⟩) (fun n=>n≤l.length∧∀i,n≤i→i<l.length→l.getD i 0=0) id l.length (Settle.now rfl) ⟨Nat.le_refl _,fun i h1 h2=>absurd h1 (by omega)⟩ ?_
 rintro n ⟨h1,hz⟩
 have fin: ∀ti,(n=0∨l.getD (n-1) 0≠0)→SetR Q (.agg [.bool (neg&&decide (0<n)),LS (l.take n) ti]) (H.upd p (some (.row 44 0 [.bool (neg&&decide (0<n)),LS (l.take n) ti]))):=fun ti h=>by
  have e:=zGz h1 hz h
  have e2:n=(digs 65536 (val 65536 l)).length:=by
   have:=congrArg List.length e
   rw[List.length_take,Nat.min_eq_left h1,zAv (by omega) hl]at this;exact this
  rw[e,zAv (by omega) hl,e2]
  exact SetR.dropTo ((Le.refl H).upd hp) (SetR.loose (SetR.now hq))
 have last:(n=0∨l.getD (n-1) 0≠0)→W Tryz.prog (zBZ (zBZ (zBZ zIx))) (zFg zLc Q) ⟨[],[(0,.bool neg),(1,LS l t),(4,.ptr p 2 0),(5,.int .i64 n),(17,.bool false)],H.upd p (some (.row 44 0 [.bool false,.seq 0 [] true]))⟩:=fun h=>by
  have f:=fun ti=>fin ti h
  cases neg
  ·simp(disch:=first|exact Xe|fail)only[zIx,zLc,zBZ,↓Xa,Xb,Xc,↓reduceIte,Nat.reduceLT,Nat.reduceEqDiff,Nat.reduceBEq,Nat.reduceLeDiff,Nat.reduceAdd]
   exact f _
  ·simp(disch:=first|exact Xe|fail)only[zIx,zLc,zBZ,↓Xa,Xb,Xc,↓reduceIte,Nat.reduceLT,Nat.reduceEqDiff,Nat.reduceBEq,Nat.reduceLeDiff,Nat.reduceAdd]
   exact f _
 by_cases h0:0<n
 ·by_cases h2:l.getD (n-1) 0=0
  ·simp(disch:=first|exact Xe|fail)only[h0,h2,↓Xa,Xb,Xc,↓reduceIte,Nat.reduceLT,Nat.reduceEqDiff,Nat.reduceBEq,Nat.reduceLeDiff,Nat.reduceAdd]
   refine Settle.now ⟨n-1,?_,⟨by omega,fun i hi hl'=>?_⟩,rfl⟩
   ·show n-1<n;omega
   ·rcases Nat.lt_or_ge i n with h|h
    ·rw[show i=n-1 by omega];exact h2
    ·exact hz i h hl'
  ·simp(disch:=first|exact Xe|fail)only[h0,h2,↓Xa,Xb,Xc,↓reduceIte,Nat.reduceLT,Nat.reduceEqDiff,Nat.reduceBEq,Nat.reduceLeDiff,Nat.reduceAdd]
   exact Settle.now (last (.inr h2))
 ·simp(disch:=first|exact Xe|fail)only[h0,↓Xa,Xb,Xc,↓reduceIte,Nat.reduceLT,Nat.reduceEqDiff,Nat.reduceBEq,Nat.reduceLeDiff,Nat.reduceAdd]
  exact Settle.now (last (.inl (by omega)))
theorem zIq{n:Int}{K:AV→Prop}:zAy .lss (.int .i64 n) (.int .i64 ((0:Nat):Int)) K↔K (.bool (decide (n<0))):=by
 simp only[zAy,zAi,true_and];exact Iff.rfl
theorem zDZ{n:Int}(hn: -9223372036854775808≤n∧n<9223372036854775808):PFn Tryz.prog 82 [.int .i64 n] (zBd n false):=by
 intro H Q hq
 refine zZN (by simp) ?_
 rw[show zTf=.seq (zWa zTf) (.seq (zWa (zBZ zTf)) (.seq (zWa (zBZ (zBZ zTf))) (zIc (zBZ (zBZ (zBZ zTf))))))from rfl]
 simp(disch:=first|exact Xe|fail)only[zWa,zBZ,zTf,↓Xa,Xb,Xc,↓reduceIte,Nat.reduceLT,Nat.reduceEqDiff,Nat.reduceBEq,Nat.reduceLeDiff,Nat.reduceAdd]
 refine zAD fun p hp=>?_
 have tail: ∀(u0:Nat),u0<18446744073709551616→sg (decide (n<0)) u0=n→W Tryz.prog (zIc (zBZ (zBZ (zBZ zTf)))) (zFg zg4 Q) ⟨[],[(0,.int .i64 n),(2,.ptr p 2 0),(3,.int .u64 u0)],H.upd p (some (.row 44 0 [.bool false,.seq 0 [] true]))⟩:=by
  intro u0 hu0 hs
  simp(disch:=first|exact Xe|fail)only[zTf,zBZ,zIc,↓Xa,Xb,Xc,↓reduceIte,Nat.reduceLT,Nat.reduceEqDiff,Nat.reduceBEq,Nat.reduceLeDiff,Nat.reduceAdd]
  refine zAO (fun s:Nat×List Nat×AV×AHeap=>⟨[],[(0,.int .i64 n),(2,.ptr p 2 0),(3,.int .u64 s.1),(4,s.2.2.1)],s.2.2.2⟩)
   (fun s=>grow (H.upd p (some (.row 44 0 [.bool false,.seq 0 [] true]))) 168 s.2.1 s.2.2.1 s.2.2.2∧Lim 65536 s.2.1∧val 65536 s.2.1+65536^s.2.1.length*s.1=u0∧s.2.1.length≤4∧s.1<65536^(4-s.2.1.length)) (fun s=>s.1)
   (u0,[],_,_) (Settle.now rfl) ⟨zEB,Lim.nil _,by simp[val],by simp,by simpa using hu0⟩ ?_
  rintro⟨u,done,x,H'⟩ ⟨hg,h1,h2,h3,h4⟩
  dsimp only at hg h1 h2 h3 h4 ⊢
  have hu:u<18446744073709551616:=by
   have:(65536:Nat)^(4-done.length)≤65536^4:=Nat.pow_le_pow_right (by omega) (by omega)
   omega
  by_cases h0:0<u
  ·have hm:u / 65536<18446744073709551616:=by omega
   have hr:u%65536<4294967296:=by omega
   simp(disch:=first|exact Xe|fail)only[h0,ne_eq,Nat.reduceEqDiff,↓Xa,Xb,Xc,↓reduceIte,Nat.reduceLT,Nat.reduceEqDiff,Nat.reduceBEq,Nat.reduceLeDiff,Nat.reduceAdd]
   refine zBS (m:=[u%65536]) hg rfl (by simp) (by simp;omega) fun x' H2 hg2=>?_
   simp(disch:=first|exact Xe|fail)only[ne_eq,Nat.reduceEqDiff,↓Xa,Xb,Xc,↓reduceIte,Nat.reduceLT,Nat.reduceEqDiff,Nat.reduceBEq,Nat.reduceLeDiff,Nat.reduceAdd]
   refine Settle.now ⟨(u / 65536,_,_,_),Nat.div_lt_self h0 (by omega),⟨hg2,zBk h1 (Nat.mod_lt _ (by omega)),?_,?_,?_⟩,rfl⟩
   ·rw[zBX,List.length_append,List.length_singleton,Nat.pow_succ,Nat.add_assoc,Nat.mul_assoc,← Nat.mul_add,Nat.mod_add_div];exact h2
   ·simp only[List.length_append,List.length_singleton]
    rcases Nat.lt_or_ge done.length 4 with e|e
    ·omega
    ·rw[show 4-done.length=0 by omega]at h4;simp at h4;omega
   ·simp only[List.length_append,List.length_singleton]
    rcases Nat.lt_or_ge done.length 4 with e|e
    ·rw[show 4-done.length=4-(done.length+1)+1 by omega,Nat.pow_succ]at h4
     exact Nat.div_lt_of_lt_mul (by rw[Nat.mul_comm];exact h4)
    ·rw[show 4-done.length=0 by omega]at h4;simp at h4;omega
  ·obtain rfl:u=0:=by omega
   rw[Nat.mul_zero,Nat.add_zero]at h2
   simp(disch:=first|exact Xe|fail)only[h0,↓Xa,Xb,Xc,↓reduceIte,Nat.reduceLT,Nat.reduceEqDiff,Nat.reduceBEq,Nat.reduceLeDiff,Nat.reduceAdd]
   refine Settle.grown 4 rfl hg (Settle.now ?_)
   simp(disch:=first|exact Xe|fail)only[zIq,↓Xa,Xb,Xc,↓reduceIte,Nat.reduceLT,Nat.reduceEqDiff,Nat.reduceBEq,Nat.reduceLeDiff,Nat.reduceAdd]
   refine(zBs _ false h1 (by omega)).call ?_
   rw[h2,hs]
   simp(disch:=first|exact Xe|fail)only[zg4,zBd,↓Xa,Xb,Xc,↓reduceIte,Nat.reduceLT,Nat.reduceEqDiff,Nat.reduceBEq,Nat.reduceLeDiff,Nat.reduceAdd]
   exact SetR.dropTo ((Le.refl H).upd hp) (SetR.now hq)
 by_cases h0:n<0
 ·obtain⟨m,rfl⟩: ∃m:Nat,n= -(m:Int):=⟨n.natAbs,by omega⟩
  have c1: ∀K,zEi .u64 (.int .i64 (-(m:Int))) K↔K (.int .u64 ((18446744073709551616-m:Nat):Int)):=fun K=>by
   simp only[zEi,zCA];rw[show(-(m:Int))%18446744073709551616=((18446744073709551616-m:Nat):Int) by omega]
  have c2: ∀K,unW .neg (.int .u64 ((18446744073709551616-m:Nat):Int)) K↔K (.int .u64 (m:Int)):=fun K=>by
   simp only[unW,zCA];rw[show(0-((18446744073709551616-m:Nat):Int))%18446744073709551616=(m:Int) by omega]
  simp(disch:=first|exact Xe|fail)only[c1,c2,zIq,h0,↓Xa,Xb,Xc,↓reduceIte,Nat.reduceLT,Nat.reduceEqDiff,Nat.reduceBEq,Nat.reduceLeDiff,Nat.reduceAdd]
  exact tail m (by omega) (by simp only[sg,h0,decide_true,if_true])
 ·obtain⟨m,rfl⟩: ∃m:Nat,n=(m:Int):=⟨n.natAbs,by omega⟩
  simp(disch:=first|exact Xe|fail)only[h0,↓Xa,Xb,Xc,↓reduceIte,Nat.reduceLT,Nat.reduceEqDiff,Nat.reduceBEq,Nat.reduceLeDiff,Nat.reduceAdd]
  exact tail m (by omega) (by simp only[sg,h0,decide_false,Bool.false_eq_true,if_false])
theorem Bd.rlen{k:Nat}{z:Int}(h:Bd k z):(digs 65536 z.natAbs).length≤2*k:=zA5 (by omega) _ _ (by
 unfold Bd at h;rw[Nat.pow_mul];exact h)
theorem zI4{x:Int}{k:Nat}(t:Bool)(hx:Bd k x)(hk:k≤549755813888):PFn Tryz.prog 190 [zBd x t] (.int .i64 (zD4 x)):=by
 intro H Q hq
 have hl:=hx.rlen
 have h0:=zCx (B:=65536) (n:=x.natAbs) (by omega)
 refine zTr (by simp) ?_
 simp(disch:=first|exact Xe|fail)only[za8,zBd,↓Xa,Xb,Xc,↓reduceIte,Nat.reduceLT,Nat.reduceEqDiff,Nat.reduceBEq,Nat.reduceLeDiff,Nat.reduceAdd]
 refine zAD fun p hp=>?_
 by_cases hz:x=0
 ·have h1:(digs 65536 x.natAbs).length=0:=by rw[h0];omega
  simp(disch:=first|exact Xe|fail)only[zUo,h1,↓Xa,Xb,Xc,↓reduceIte,Nat.reduceLT,Nat.reduceEqDiff,Nat.reduceBEq,Nat.reduceLeDiff,Nat.reduceAdd]
  refine SetR.dropTo ((Le.refl H).upd hp) (SetR.now ?_)
  simpa[zD4,hz]using hq
 ·have h1:((digs 65536 x.natAbs).length=0)=False:=by rw[h0];simp;omega
  by_cases hn:x<0
  ·simp(disch:=first|exact Xe|fail)only[zUo,h1,hn,↓Xa,Xb,Xc,↓reduceIte,Nat.reduceLT,Nat.reduceEqDiff,Nat.reduceBEq,Nat.reduceLeDiff,Nat.reduceAdd]
   refine SetR.dropTo ((Le.refl H).upd hp) (SetR.now ?_)
   simpa[zD4,hz,hn]using hq
  ·simp(disch:=first|exact Xe|fail)only[zUo,h1,hn,↓Xa,Xb,Xc,↓reduceIte,Nat.reduceLT,Nat.reduceEqDiff,Nat.reduceBEq,Nat.reduceLeDiff,Nat.reduceAdd]
   refine SetR.dropTo ((Le.refl H).upd hp) (SetR.now ?_)
   simpa[zD4,hz,hn]using hq
theorem zGw(m n:Nat)(ta tb:Bool)(hm:(digs 65536 m).length≤1099511627776)(hn:(digs 65536 n).length≤1099511627776):PFn Tryz.prog 191 [LS (digs 65536 m) ta,LS (digs 65536 n) tb] (.int .i64 (zBy m n)):=by
 intro H Q hq
 have hx:=zAG (B:=65536) (by omega) m
 have hy:=zAG (B:=65536) (by omega) n
 have vx:=zAJ (B:=65536) (by omega) m
 have vy:=zAJ (B:=65536) (by omega) n
 have lt1:=zBY (B:=65536) (a:=m) (b:=n) (by omega)
 have lt2:=zBY (B:=65536) (a:=n) (b:=m) (by omega)
 generalize digs 65536 m=x at*
 generalize digs 65536 n=y at*
 have less:m<n→SetR Q (.int .i64 (-1)) H:=fun h=>by
  have:zBy m n= -1:=by simp[zBy,h]
  rw[← this];exact SetR.now hq
 have more:n<m→SetR Q (.int .i64 ((1:Nat):Int)) H:=fun h=>by
  have:zBy m n=((1:Nat):Int):=by simp[zBy,h,Nat.not_lt_of_lt h]
  rw[← this];exact SetR.now hq
 refine zNV (by simp) ?_
 by_cases c0:x.length=y.length
 ·simp(disch:=first|exact Xe|fail)only[zLN,c0,↓Xa,Xb,Xc,↓reduceIte,Nat.reduceLT,Nat.reduceEqDiff,Nat.reduceBEq,Nat.reduceLeDiff,Nat.reduceAdd]
  refine zAO (fun k:Nat=>⟨[],[(0,LS x ta),(1,LS y tb),(5,.int .i64 (dn k))],H⟩) (fun k=>k≤x.length∧x.drop k=y.drop k) id y.length (Settle.now rfl) ⟨by omega,by rw[List.drop_of_length_le (by omega),List.drop_of_length_le (by omega)]⟩ ?_
  rintro k ⟨hk,hd⟩
  cases k with
  |zero=>
   simp(disch:=first|exact Xe|fail)only[↓Xa,Xb,Xc,↓reduceIte,Nat.reduceLT,Nat.reduceEqDiff,Nat.reduceBEq,Nat.reduceLeDiff,Nat.reduceAdd]
   refine Settle.now ?_
   simp(disch:=first|exact Xe|fail)only[zHA,↓Xa,Xb,Xc,↓reduceIte,Nat.reduceLT,Nat.reduceEqDiff,Nat.reduceBEq,Nat.reduceLeDiff,Nat.reduceAdd]
   have e:m=n:=by rw[← vx,← vy];rw[List.drop_zero,List.drop_zero]at hd;rw[hd]
   have:zBy m n=((0:Nat):Int):=by simp[zBy,e]
   rw[← this];exact SetR.now hq
  |succ k=>
   by_cases d1:x.getD k 0<y.getD k 0
   ·simp(disch:=first|exact Xe|fail)only[d1,zHA,↓Xa,Xb,Xc,↓reduceIte,Nat.reduceLT,Nat.reduceEqDiff,Nat.reduceBEq,Nat.reduceLeDiff,Nat.reduceAdd]
    exact less (by rw[← vx,← vy];exact zB6 hx (by omega) k (by omega) c0 hd d1)
   by_cases d2:y.getD k 0<x.getD k 0
   ·simp(disch:=first|exact Xe|fail)only[d1,d2,zHA,↓Xa,Xb,Xc,↓reduceIte,Nat.reduceLT,Nat.reduceEqDiff,Nat.reduceBEq,Nat.reduceLeDiff,Nat.reduceAdd]
    exact more (by rw[← vx,← vy];exact zB6 hy (by omega) k (by omega) c0.symm hd.symm d2)
   simp(disch:=first|exact Xe|fail)only[d1,d2,↓Xa,Xb,Xc,↓reduceIte,Nat.reduceLT,Nat.reduceEqDiff,Nat.reduceBEq,Nat.reduceLeDiff,Nat.reduceAdd]
   refine Settle.now ⟨k,Nat.lt_succ_self k,⟨by omega,?_⟩,rfl⟩
   rw[List.drop_eq_getElem_cons (by omega),List.drop_eq_getElem_cons (i:=k) (l:=y) (by omega),hd]
   congr 1
   have e1:x.getD k 0=x[k]:=by simp[List.getD_eq_getElem?_getD,List.getElem?_eq_getElem (show k<x.length by omega)]
   have e2:y.getD k 0=y[k]:=by simp[List.getD_eq_getElem?_getD,List.getElem?_eq_getElem (show k<y.length by omega)]
   omega
 ·by_cases c1:x.length<y.length
  ·simp(disch:=first|exact Xe|fail)only[zLN,c0,c1,zHA,↓Xa,Xb,Xc,↓reduceIte,Nat.reduceLT,Nat.reduceEqDiff,Nat.reduceBEq,Nat.reduceLeDiff,Nat.reduceAdd]
   exact less (lt1 c1)
  ·simp(disch:=first|exact Xe|fail)only[zLN,c0,c1,zHA,↓Xa,Xb,Xc,↓reduceIte,Nat.reduceLT,Nat.reduceEqDiff,Nat.reduceBEq,Nat.reduceLeDiff,Nat.reduceAdd]
   exact more (lt2 (by omega))
theorem zZR{x y:Int}{k k':Nat}(tx ty:Bool)(hx:Bd k x)(hk:k≤549755813888)(hy:Bd k' y)(hk':k'≤549755813888):PFn Tryz.prog 118 [zBd x tx,zBd y ty] (.int .i64 (zFt x y)):=by
 intro H Q hq
 have hl:=hx.rlen
 have hl':=hy.rlen
 refine zUH (by simp) ?_
 simp(disch:=first|exact Xe|fail)only[zb8,zBd,↓Xa,Xb,Xc,↓reduceIte,Nat.reduceLT,Nat.reduceEqDiff,Nat.reduceBEq,Nat.reduceLeDiff,Nat.reduceAdd]
 refine zAD fun p hp=>?_
 simp(disch:=first|exact Xe|fail)only[↓Xa,Xb,Xc,↓reduceIte,Nat.reduceLT,Nat.reduceEqDiff,Nat.reduceBEq,Nat.reduceLeDiff,Nat.reduceAdd]
 refine zAD fun p2 hp2=>?_
 have hne:=(zAB.1 hp2).1
 have le:=(((Le.refl H).upd hp).upd hp2 (x:=some (.row 44 0 [.bool (decide (y<0)),LS (digs 65536 y.natAbs) ty])))
 simp(disch:=first|exact Xe|fail)only[↓Xa,Xb,Xc,↓reduceIte,Nat.reduceLT,Nat.reduceEqDiff,Nat.reduceBEq,Nat.reduceLeDiff,Nat.reduceAdd]
 refine PFn.dcall (zI4 tx hx hk) ?_
 simp(disch:=first|exact Xe|fail)only[↓Xa,Xb,Xc,↓reduceIte,Nat.reduceLT,Nat.reduceEqDiff,Nat.reduceBEq,Nat.reduceLeDiff,Nat.reduceAdd]
 refine(zI4 ty hy hk').call ?_
 have cneq: ∀(a b:Int)(K:AV→Prop),zAy .neq (.int .i64 a) (.int .i64 b) K↔K (.bool (!decide (a=b))):=fun a b K=>by simp[zAy,zAi]
 have clss: ∀(a b:Int)(K:AV→Prop),zAy .lss (.int .i64 a) (.int .i64 b) K↔K (.bool (decide (a<b))):=fun a b K=>by simp[zAy,zAi]
 by_cases c0:zD4 x=zD4 y
 ·by_cases c1:zD4 y<((0:Nat):Int)
  ·have c1':=decide_eq_true c1
   simp(disch:=first|exact Xe|fail)only[c0,c1',clss,cneq,↓Xa,Xb,Xc,↓reduceIte,Nat.reduceLT,Nat.reduceEqDiff,Nat.reduceBEq,Nat.reduceLeDiff,Nat.reduceAdd]
   refine(zGw y.natAbs x.natAbs ty tx (by omega) (by omega)).call ?_
   have e:zFt x y=zBy y.natAbs x.natAbs:=by
     have a1:x<0:=by unfold zD4 at c0 c1;split at c1<;>split at c0<;>omega
     have a2:y<0:=by unfold zD4 at c1;split at c1<;>omega
     unfold zFt zBy;split<;>split<;>first|rfl|omega|(split<;>first|rfl|omega|(split<;>first|rfl|omega))
   simp(disch:=first|exact Xe|fail)only[zPj,↓Xa,Xb,Xc,↓reduceIte,Nat.reduceLT,Nat.reduceEqDiff,Nat.reduceBEq,Nat.reduceLeDiff,Nat.reduceAdd]
   exact SetR.dropTo le (SetR.now (e▸hq))
  ·have c1':=decide_eq_false c1
   simp(disch:=first|exact Xe|fail)only[c0,c1',clss,cneq,↓Xa,Xb,Xc,↓reduceIte,Nat.reduceLT,Nat.reduceEqDiff,Nat.reduceBEq,Nat.reduceLeDiff,Nat.reduceAdd]
   refine(zGw x.natAbs y.natAbs tx ty (by omega) (by omega)).call ?_
   have e:zFt x y=zBy x.natAbs y.natAbs:=by
     have a2:0≤y:=by unfold zD4 at c1;split at c1<;>(try omega)
     have a1:0≤x:=by unfold zD4 at c0 c1;split at c0<;>split at c0<;>(try omega)<;>(split at c0<;>omega)
     unfold zFt zBy;split<;>split<;>first|rfl|omega|(split<;>first|rfl|omega|(split<;>first|rfl|omega))
   simp(disch:=first|exact Xe|fail)only[zPj,↓Xa,Xb,Xc,↓reduceIte,Nat.reduceLT,Nat.reduceEqDiff,Nat.reduceBEq,Nat.reduceLeDiff,Nat.reduceAdd]
   exact SetR.dropTo le (SetR.now (e▸hq))
 ·by_cases c1:zD4 x<zD4 y
  ·have e:zFt x y= -1:=by
     unfold zFt;rw[if_pos];unfold zD4 at c1;split at c1<;>split at c1<;>(try omega)<;>(split at c1<;>omega)
   simp(disch:=first|exact Xe|fail)only[c0,c1,clss,cneq,zPj,↓Xa,Xb,Xc,↓reduceIte,Nat.reduceLT,Nat.reduceEqDiff,Nat.reduceBEq,Nat.reduceLeDiff,Nat.reduceAdd]
   exact SetR.dropTo le (SetR.now (e▸hq))
  ·have e:zFt x y=((1:Nat):Int):=by
     have:y<x:=by unfold zD4 at c0 c1;split at c0<;>split at c0<;>simp_all<;>(try omega)<;>(split at c0<;>simp_all<;>omega)
     unfold zFt;rw[if_neg (by omega),if_pos this]
   simp(disch:=first|exact Xe|fail)only[c0,c1,clss,cneq,zPj,↓Xa,Xb,Xc,↓reduceIte,Nat.reduceLT,Nat.reduceEqDiff,Nat.reduceBEq,Nat.reduceLeDiff,Nat.reduceAdd]
   exact SetR.dropTo le (SetR.now (e▸hq))
theorem zZ6{x:Int}{k:Nat}(t:Bool)(hx:Bd k x)(hk:k≤549755813888):PFn Tryz.prog 217 [zBd x t] (zBd (-x) false):=by
 intro H Q hq
 have hl:=hx.rlen
 have e: -x=sg (!decide (x<0)) (val 65536 (digs 65536 x.natAbs)):=by rw[zAJ (by omega)];unfold sg;by_cases h:x<0<;>simp[h]<;>omega
 rw[e]at hq
 refine zU7 (by simp) ?_
 simp(disch:=first|exact Xe|fail)only[zbe,zBd,↓Xa,Xb,Xc,↓reduceIte,Nat.reduceLT,Nat.reduceEqDiff,Nat.reduceBEq,Nat.reduceLeDiff,Nat.reduceAdd]
 refine zAD fun p hp=>?_
 simp(disch:=first|exact Xe|fail)only[↓Xa,Xb,Xc,↓reduceIte,Nat.reduceLT,Nat.reduceEqDiff,Nat.reduceBEq,Nat.reduceLeDiff,Nat.reduceAdd]
 refine zAD fun p2 hp2=>?_
 have hne:=(zAB.1 hp2).1
 simp(disch:=first|exact Xe|fail)only[↓Xa,Xb,Xc,↓reduceIte,Nat.reduceLT,Nat.reduceEqDiff,Nat.reduceBEq,Nat.reduceLeDiff,Nat.reduceAdd]
 refine(zBs _ t (zAG (by omega) _) (by omega)).call ?_
 simp(disch:=first|exact Xe|fail)only[zbO,zBd,↓Xa,Xb,Xc,↓reduceIte,Nat.reduceLT,Nat.reduceEqDiff,Nat.reduceBEq,Nat.reduceLeDiff,Nat.reduceAdd]
 exact SetR.dropTo (((Le.refl H).upd hp).upd hp2) (SetR.now hq)
theorem zYl{x:Int}{k:Nat}(t:Bool)(hx:Bd k x)(hk:k≤549755813888):PFn Tryz.prog 189 [zBd x t] (zBd (x.natAbs:Int) false):=by
 intro H Q hq
 have hl:=hx.rlen
 have e:(x.natAbs:Int)=sg false (val 65536 (digs 65536 x.natAbs)):=by rw[zAJ (by omega)];simp[sg]
 rw[e]at hq
 refine zUt (by simp) ?_
 simp(disch:=first|exact Xe|fail)only[zbE,zBd,↓Xa,Xb,Xc,↓reduceIte,Nat.reduceLT,Nat.reduceEqDiff,Nat.reduceBEq,Nat.reduceLeDiff,Nat.reduceAdd]
 refine zAD fun p hp=>?_
 simp(disch:=first|exact Xe|fail)only[↓Xa,Xb,Xc,↓reduceIte,Nat.reduceLT,Nat.reduceEqDiff,Nat.reduceBEq,Nat.reduceLeDiff,Nat.reduceAdd]
 refine zAD fun p2 hp2=>?_
 have hne:=(zAB.1 hp2).1
 simp(disch:=first|exact Xe|fail)only[↓Xa,Xb,Xc,↓reduceIte,Nat.reduceLT,Nat.reduceEqDiff,Nat.reduceBEq,Nat.reduceLeDiff,Nat.reduceAdd]
 refine(zBs false t (zAG (by omega) _) (by omega)).call ?_
 simp(disch:=first|exact Xe|fail)only[zda,zBd,↓Xa,Xb,Xc,↓reduceIte,Nat.reduceLT,Nat.reduceEqDiff,Nat.reduceBEq,Nat.reduceLeDiff,Nat.reduceAdd]
 exact SetR.dropTo (((Le.refl H).upd hp).upd hp2) (SetR.now hq)
theorem zYg(m n:Nat)(ta tb:Bool)(hm:(digs 65536 m).length≤1099511627776)(hn:(digs 65536 n).length≤1099511627776):PFn Tryz.prog 202 [LS (digs 65536 m) ta,LS (digs 65536 n) tb] (LS (digs 65536 (m+n)) false):=by
 intro H Q hq
 have la:=zAG (B:=65536) (by omega) m
 have lb:=zAG (B:=65536) (by omega) n
 refine zSf (by simp) ?_
 simp(disch:=first|exact Xe|fail)only[zdF,↓Xa,Xb,Xc,↓reduceIte,Nat.reduceLT,Nat.reduceEqDiff,Nat.reduceBEq,Nat.reduceLeDiff,Nat.reduceAdd]
 refine zAO (fun s:Nat×Nat×List Nat×AV×AHeap=>⟨[],[(0,LS (digs 65536 m) ta),(1,LS (digs 65536 n) tb),(5,s.2.2.2.1),(6,.int .u32 s.2.1),(7,.int .i64 s.1)],s.2.2.2.2⟩)
  (fun s=>s.1≤max (digs 65536 m).length (digs 65536 n).length+1∧(s.1=max (digs 65536 m).length (digs 65536 n).length+1→s.2.1=0)∧grow H 168 s.2.2.1 s.2.2.2.1 s.2.2.2.2∧PlusI (digs 65536 m) (digs 65536 n) s.1 s.2.1 s.2.2.1) (fun s=>max (digs 65536 m).length (digs 65536 n).length+1-s.1)
  (0,0,[],_,_) (Settle.now rfl) ⟨by dsimp only;omega,fun _=>rfl,zEB,PlusI.zero _ _⟩ ?_
 rintro⟨i,c,done,x,H'⟩ ⟨g0,g1,hg,h1⟩
 dsimp only at g0 g1 hg h1 ⊢
 have hd:=h1.1
 have hc:=h1.2.2.1
 have hx:=la.getD (by omega) i
 have hy:=lb.getD (by omega) i
 have nx: ∀s,s=c+(digs 65536 m).getD i 0+(digs 65536 n).getD i 0→max (digs 65536 m).length (digs 65536 n).length≤i→s / 65536=0:=by
  intro s hs hi
  have a:=zAp (show(digs 65536 m).length≤i by omega)
  have b:=zAp (show(digs 65536 n).length≤i by omega)
  rw[hs,a,b];omega
 by_cases hi:i<(digs 65536 m).length
 ·by_cases hj:i<(digs 65536 n).length
  ·simp(disch:=first|exact Xe|fail)only[hi,hj,ne_eq,Nat.reduceEqDiff,↓Xa,Xb,Xc,↓reduceIte,Nat.reduceLT,Nat.reduceEqDiff,Nat.reduceBEq,Nat.reduceLeDiff,Nat.reduceAdd]
   refine zBS (m:=[(c+(digs 65536 m).getD i 0+(digs 65536 n).getD i 0)%65536]) hg rfl (by simp) (by simp;omega) fun x' H2 hg2=>?_
   simp(disch:=first|exact Xe|fail)only[ne_eq,Nat.reduceEqDiff,↓Xa,Xb,Xc,↓reduceIte,Nat.reduceLT,Nat.reduceEqDiff,Nat.reduceBEq,Nat.reduceLeDiff,Nat.reduceAdd]
   refine Settle.now ⟨(i+1,_,_,_,_),by dsimp only;omega,⟨by dsimp only;omega,fun e=>nx _ rfl (by dsimp only at e;omega),hg2,h1.step (.inl hi) rfl⟩,rfl⟩
  ·have b:=zAp (show(digs 65536 n).length≤i by omega)
   simp(disch:=first|exact Xe|fail)only[hi,hj,ne_eq,Nat.reduceEqDiff,↓Xa,Xb,Xc,↓reduceIte,Nat.reduceLT,Nat.reduceEqDiff,Nat.reduceBEq,Nat.reduceLeDiff,Nat.reduceAdd]
   refine zBS (m:=[(c+(digs 65536 m).getD i 0)%65536]) hg rfl (by simp) (by simp;omega) fun x' H2 hg2=>?_
   simp(disch:=first|exact Xe|fail)only[ne_eq,Nat.reduceEqDiff,↓Xa,Xb,Xc,↓reduceIte,Nat.reduceLT,Nat.reduceEqDiff,Nat.reduceBEq,Nat.reduceLeDiff,Nat.reduceAdd]
   refine Settle.now ⟨(i+1,_,_,_,_),by dsimp only;omega,⟨by dsimp only;omega,fun e=>nx _ (by rw[b];rfl) (by dsimp only at e;omega),hg2,h1.step (.inl hi) (by rw[b];rfl)⟩,rfl⟩
 ·have a:=zAp (show(digs 65536 m).length≤i by omega)
  by_cases hj:i<(digs 65536 n).length
  ·simp(disch:=first|exact Xe|fail)only[hi,hj,ne_eq,Nat.reduceEqDiff,↓Xa,Xb,Xc,↓reduceIte,Nat.reduceLT,Nat.reduceEqDiff,Nat.reduceBEq,Nat.reduceLeDiff,Nat.reduceAdd]
   refine zBS (m:=[(c+(digs 65536 n).getD i 0)%65536]) hg rfl (by simp) (by simp;omega) fun x' H2 hg2=>?_
   simp(disch:=first|exact Xe|fail)only[ne_eq,Nat.reduceEqDiff,↓Xa,Xb,Xc,↓reduceIte,Nat.reduceLT,Nat.reduceEqDiff,Nat.reduceBEq,Nat.reduceLeDiff,Nat.reduceAdd]
   refine Settle.now ⟨(i+1,_,_,_,_),by dsimp only;omega,⟨by dsimp only;omega,fun e=>nx _ (by rw[a];rfl) (by dsimp only at e;omega),hg2,h1.step (.inr (.inl hj)) (by rw[a];rfl)⟩,rfl⟩
  ·have b:=zAp (show(digs 65536 n).length≤i by omega)
   by_cases h0:0<c
   ·simp(disch:=first|exact Xe|fail)only[hi,hj,h0,ne_eq,Nat.reduceEqDiff,↓Xa,Xb,Xc,↓reduceIte,Nat.reduceLT,Nat.reduceEqDiff,Nat.reduceBEq,Nat.reduceLeDiff,Nat.reduceAdd]
    refine zBS (m:=[c%65536]) hg rfl (by simp) (by simp;omega) fun x' H2 hg2=>?_
    simp(disch:=first|exact Xe|fail)only[ne_eq,Nat.reduceEqDiff,↓Xa,Xb,Xc,↓reduceIte,Nat.reduceLT,Nat.reduceEqDiff,Nat.reduceBEq,Nat.reduceLeDiff,Nat.reduceAdd]
    have:i≠max (digs 65536 m).length (digs 65536 n).length+1:=fun e=>by have:=g1 e;omega
    refine Settle.now ⟨(i+1,_,_,_,_),by dsimp only;omega,⟨by dsimp only;omega,fun e=>nx _ (by rw[a,b];rfl) (by dsimp only at e;omega),hg2,h1.step (.inr (.inr h0)) (by rw[a,b];rfl)⟩,rfl⟩
   ·obtain rfl:c=0:=by omega
    simp(disch:=first|exact Xe|fail)only[hi,hj,h0,↓Xa,Xb,Xc,↓reduceIte,Nat.reduceLT,Nat.reduceEqDiff,Nat.reduceBEq,Nat.reduceLeDiff,Nat.reduceAdd]
    refine Settle.grown 5 rfl hg (Settle.now ?_)
    simp(disch:=first|exact Xe|fail)only[zaY,↓Xa,Xb,Xc,↓reduceIte,Nat.reduceLT,Nat.reduceEqDiff,Nat.reduceBEq,Nat.reduceLeDiff,Nat.reduceAdd]
    rw[h1.end (by omega) (by omega)]
    exact SetR.now hq
theorem zMb(m n:Nat)(ta tb:Bool)(hmn:n≤m)(hm:(digs 65536 m).length≤1099511627776):PFn Tryz.prog 201 [LS (digs 65536 m) ta,LS (digs 65536 n) tb] (LS (pad 65536 (m-n) (digs 65536 m).length) false):=by
 intro H Q hq
 have la:=zAG (B:=65536) (by omega) m
 have lb:=zAG (B:=65536) (by omega) n
 have va:=zAJ (B:=65536) (by omega) m
 have vb:=zAJ (B:=65536) (by omega) n
 have hlb:(digs 65536 n).length≤(digs 65536 m).length:=by
  rcases Nat.lt_or_ge (digs 65536 m).length (digs 65536 n).length with h|h
  ·have:=zBY (by omega) h;omega
  ·exact h
 refine zNM (by simp) ?_
 simp(disch:=first|exact Xe|fail)only[zZ4,↓Xa,Xb,Xc,↓reduceIte,Nat.reduceLT,Nat.reduceEqDiff,Nat.reduceBEq,Nat.reduceLeDiff,Nat.reduceAdd]
 refine zAO (fun s:Nat×Nat×List Nat×AV×AHeap=>⟨[],[(0,LS (digs 65536 m) ta),(1,LS (digs 65536 n) tb),(5,s.2.2.2.1),(6,.int .u32 s.2.1),(7,.int .i64 s.1)],s.2.2.2.2⟩)
  (fun s=>s.1≤(digs 65536 m).length∧grow H 168 s.2.2.1 s.2.2.2.1 s.2.2.2.2∧MinI (digs 65536 m) (digs 65536 n) s.1 s.2.1 s.2.2.1) (fun s=>(digs 65536 m).length-s.1)
  (0,0,[],_,_) (Settle.now rfl) ⟨by simp,zEB,MinI.zero _ _⟩ ?_
 rintro⟨i,c,done,x,H'⟩ ⟨g0,hg,h1⟩
 dsimp only at g0 hg h1 ⊢
 have hd:=h1.1
 have hc:=h1.2.2.1
 have hx:=la.getD (by omega) i
 have hy:=lb.getD (by omega) i
 by_cases hi:i<(digs 65536 m).length
 ·by_cases hj:i<(digs 65536 n).length
  ·by_cases hv:(digs 65536 m).getD i 0<c+(digs 65536 n).getD i 0
   ·simp(disch:=first|exact Xe|fail)only[hi,hj,hv,↓Xa,Xb,Xc,↓reduceIte,Nat.reduceLT,Nat.reduceEqDiff,Nat.reduceBEq,Nat.reduceLeDiff,Nat.reduceAdd]
    refine zBS (m:=[(digs 65536 m).getD i 0+65536-(c+(digs 65536 n).getD i 0)]) hg rfl (by simp) (by simp;omega) fun x' H2 hg2=>?_
    simp(disch:=first|exact Xe|fail)only[↓Xa,Xb,Xc,↓reduceIte,Nat.reduceLT,Nat.reduceEqDiff,Nat.reduceBEq,Nat.reduceLeDiff,Nat.reduceAdd]
    refine Settle.now ⟨(i+1,1,_,_,_),by dsimp only;omega,⟨by dsimp only;omega,hg2,h1.step (c':=1) (by omega) rfl (by omega) (by omega)⟩,rfl⟩
   ·simp(disch:=first|exact Xe|fail)only[hi,hj,hv,↓Xa,Xb,Xc,↓reduceIte,Nat.reduceLT,Nat.reduceEqDiff,Nat.reduceBEq,Nat.reduceLeDiff,Nat.reduceAdd]
    refine zBS (m:=[(digs 65536 m).getD i 0-(c+(digs 65536 n).getD i 0)]) hg rfl (by simp) (by simp;omega) fun x' H2 hg2=>?_
    simp(disch:=first|exact Xe|fail)only[↓Xa,Xb,Xc,↓reduceIte,Nat.reduceLT,Nat.reduceEqDiff,Nat.reduceBEq,Nat.reduceLeDiff,Nat.reduceAdd]
    refine Settle.now ⟨(i+1,0,_,_,_),by dsimp only;omega,⟨by dsimp only;omega,hg2,h1.step (c':=0) (by omega) rfl (by omega) (by omega)⟩,rfl⟩
  ·have b:=zAp (show(digs 65536 n).length≤i by omega)
   by_cases hv:(digs 65536 m).getD i 0<c
   ·simp(disch:=first|exact Xe|fail)only[hi,hj,hv,↓Xa,Xb,Xc,↓reduceIte,Nat.reduceLT,Nat.reduceEqDiff,Nat.reduceBEq,Nat.reduceLeDiff,Nat.reduceAdd]
    refine zBS (m:=[(digs 65536 m).getD i 0+65536-c]) hg rfl (by simp) (by simp;omega) fun x' H2 hg2=>?_
    simp(disch:=first|exact Xe|fail)only[↓Xa,Xb,Xc,↓reduceIte,Nat.reduceLT,Nat.reduceEqDiff,Nat.reduceBEq,Nat.reduceLeDiff,Nat.reduceAdd]
    refine Settle.now ⟨(i+1,1,_,_,_),by dsimp only;omega,⟨by dsimp only;omega,hg2,h1.step (c':=1) (by omega) rfl (by omega) (by omega)⟩,rfl⟩
   ·simp(disch:=first|exact Xe|fail)only[hi,hj,hv,↓Xa,Xb,Xc,↓reduceIte,Nat.reduceLT,Nat.reduceEqDiff,Nat.reduceBEq,Nat.reduceLeDiff,Nat.reduceAdd]
    refine zBS (m:=[(digs 65536 m).getD i 0-c]) hg rfl (by simp) (by simp;omega) fun x' H2 hg2=>?_
    simp(disch:=first|exact Xe|fail)only[↓Xa,Xb,Xc,↓reduceIte,Nat.reduceLT,Nat.reduceEqDiff,Nat.reduceBEq,Nat.reduceLeDiff,Nat.reduceAdd]
    refine Settle.now ⟨(i+1,0,_,_,_),by dsimp only;omega,⟨by dsimp only;omega,hg2,h1.step (c':=0) (by omega) rfl (by omega) (by omega)⟩,rfl⟩
 ·obtain rfl:i=(digs 65536 m).length:=by omega
  simp(disch:=first|exact Xe|fail)only[hi,↓Xa,Xb,Xc,↓reduceIte,Nat.reduceLT,Nat.reduceEqDiff,Nat.reduceBEq,Nat.reduceLeDiff,Nat.reduceAdd]
  refine Settle.grown 5 rfl hg (Settle.now ?_)
  simp(disch:=first|exact Xe|fail)only[zX1,↓Xa,Xb,Xc,↓reduceIte,Nat.reduceLT,Nat.reduceEqDiff,Nat.reduceBEq,Nat.reduceLeDiff,Nat.reduceAdd]
  have e:=h1.end la hlb (by omega)
  rw[va,vb]at e
  rw[e]
  exact SetR.now hq
theorem zIb{x y:Int}{k k':Nat}(tx ty:Bool)(hx:Bd k x)(hk:k≤274877906944)(hy:Bd k' y)(hk':k'≤274877906944):PFn Tryz.prog 135 [zBd x tx,zBd y ty] (zBd (x+y) false):=by
 intro H Q hq
 have hl:=hx.rlen
 have hl':=hy.rlen
 have hxm:=hx.mono (Nat.le_max_left k k')
 have hym:=hy.mono (Nat.le_max_right k k')
 refine zTR (by simp) ?_
 simp(disch:=first|exact Xe|fail)only[zeY,zBd,↓Xa,Xb,Xc,↓reduceIte,Nat.reduceLT,Nat.reduceEqDiff,Nat.reduceBEq,Nat.reduceLeDiff,Nat.reduceAdd]
 refine zAD fun p hp=>?_
 simp(disch:=first|exact Xe|fail)only[↓Xa,Xb,Xc,↓reduceIte,Nat.reduceLT,Nat.reduceEqDiff,Nat.reduceBEq,Nat.reduceLeDiff,Nat.reduceAdd]
 refine zAD fun p2 hp2=>?_
 simp(disch:=first|exact Xe|fail)only[↓Xa,Xb,Xc,↓reduceIte,Nat.reduceLT,Nat.reduceEqDiff,Nat.reduceBEq,Nat.reduceLeDiff,Nat.reduceAdd]
 refine zAD fun p3 hp3=>?_
 have hne:=(zAB.1 hp2).1
 have hne3:=(zAB.1 hp3).1
 have hne4:=(zAB.1 (zAB.1 hp3).2).1
 by_cases hs:decide (x<0)=decide (y<0)
 ·have hsb:(decide (x<0)==decide (y<0))=true:=by rw[hs];simp
  simp(disch:=first|exact Xe|fail)only[hsb,↓Xa,Xb,Xc,↓reduceIte,Nat.reduceLT,Nat.reduceEqDiff,Nat.reduceBEq,Nat.reduceLeDiff,Nat.reduceAdd]
  refine PFn.dcall (zYg _ _ tx ty (by omega) (by omega)) ?_
  simp(disch:=first|exact Xe|fail)only[↓Xa,Xb,Xc,↓reduceIte,Nat.reduceLT,Nat.reduceEqDiff,Nat.reduceBEq,Nat.reduceLeDiff,Nat.reduceAdd]
  have hb:Bd (max k k'+1) (sg (decide (x<0)) (x.natAbs+y.natAbs)):=Bd.sgn (by unfold Bd at hxm hym;rw[Nat.pow_succ];omega)
  have hb':=hb.rlen
  rw[zCq]at hb'
  refine(zBs _ false (zAG (by omega) _) (by omega)).call ?_
  rw[zAJ (by omega)]
  have e:x+y=sg (decide (x<0)) (x.natAbs+y.natAbs):=by
   have:=decide_eq_decide.1 hs
   unfold sg;by_cases h:x<0<;>simp[h]<;>omega
  rw[e]at hq
  simp(disch:=first|exact Xe|fail)only[zVS,zBd,↓Xa,Xb,Xc,↓reduceIte,Nat.reduceLT,Nat.reduceEqDiff,Nat.reduceBEq,Nat.reduceLeDiff,Nat.reduceAdd]
  exact SetR.dropTo ((((Le.refl H).upd hp).upd hp2).upd hp3) (SetR.now hq)
 ·have hsb:(decide (x<0)==decide (y<0))=false:=by simpa using hs
  have hs': ¬((x<0)↔(y<0)):=fun h=>hs (decide_eq_decide.2 h)
  simp(disch:=first|exact Xe|fail)only[hsb,↓Xa,Xb,Xc,↓reduceIte,Nat.reduceLT,Nat.reduceEqDiff,Nat.reduceBEq,Nat.reduceLeDiff,Nat.reduceAdd]
  refine(zGw _ _ tx ty (by omega) (by omega)).call ?_
  by_cases hc:x.natAbs<y.natAbs
  ·have c3: ∀K,zAy .geq (.int .i64 (zBy x.natAbs y.natAbs)) (.int .i64 ((0:Nat):Int)) K↔K (.bool false):=fun K=>by
    simp[zAy,zAi,zBy,hc]
   simp(disch:=first|exact Xe|fail)only[c3,↓Xa,Xb,Xc,↓reduceIte,Nat.reduceLT,Nat.reduceEqDiff,Nat.reduceBEq,Nat.reduceLeDiff,Nat.reduceAdd]
   refine PFn.dcall (zMb y.natAbs x.natAbs ty tx (by omega) (by omega)) ?_
   simp(disch:=first|exact Xe|fail)only[↓Xa,Xb,Xc,↓reduceIte,Nat.reduceLT,Nat.reduceEqDiff,Nat.reduceBEq,Nat.reduceLeDiff,Nat.reduceAdd]
   have hle:(digs 65536 (y.natAbs-x.natAbs)).length≤(digs 65536 y.natAbs).length:=zA5 (by omega) _ _ (by
    have:=zBG (zAG (B:=65536) (by omega) y.natAbs);rw[zAJ (by omega)]at this;omega)
   refine(zBs _ false (zDk (by omega)) (by rw[zET hle];omega)).call ?_
   rw[zFQ (by omega)]
   have e:x+y=sg (decide (y<0)) (y.natAbs-x.natAbs):=by
    unfold sg;by_cases h:y<0<;>simp[h]<;>omega
   rw[e]at hq
   simp(disch:=first|exact Xe|fail)only[zVS,zBd,↓Xa,Xb,Xc,↓reduceIte,Nat.reduceLT,Nat.reduceEqDiff,Nat.reduceBEq,Nat.reduceLeDiff,Nat.reduceAdd]
   exact SetR.dropTo ((((Le.refl H).upd hp).upd hp2).upd hp3) (SetR.now hq)
  ·have c3: ∀K,zAy .geq (.int .i64 (zBy x.natAbs y.natAbs)) (.int .i64 ((0:Nat):Int)) K↔K (.bool true):=fun K=>by
    have:(0:Int)≤zBy x.natAbs y.natAbs:=by unfold zBy;rw[if_neg hc];split<;>omega
    simp[zAy,zAi];rw[decide_eq_true this]
   simp(disch:=first|exact Xe|fail)only[c3,↓Xa,Xb,Xc,↓reduceIte,Nat.reduceLT,Nat.reduceEqDiff,Nat.reduceBEq,Nat.reduceLeDiff,Nat.reduceAdd]
   refine PFn.dcall (zMb x.natAbs y.natAbs tx ty (by omega) (by omega)) ?_
   simp(disch:=first|exact Xe|fail)only[↓Xa,Xb,Xc,↓reduceIte,Nat.reduceLT,Nat.reduceEqDiff,Nat.reduceBEq,Nat.reduceLeDiff,Nat.reduceAdd]
   have hle:(digs 65536 (x.natAbs-y.natAbs)).length≤(digs 65536 x.natAbs).length:=zA5 (by omega) _ _ (by
    have:=zBG (zAG (B:=65536) (by omega) x.natAbs);rw[zAJ (by omega)]at this;omega)
   refine(zBs _ false (zDk (by omega)) (by rw[zET hle];omega)).call ?_
   rw[zFQ (by omega)]
   have e:x+y=sg (decide (x<0)) (x.natAbs-y.natAbs):=by
    unfold sg;by_cases h:x<0<;>simp[h]<;>omega
   rw[e]at hq
   simp(disch:=first|exact Xe|fail)only[zVS,zBd,↓Xa,Xb,Xc,↓reduceIte,Nat.reduceLT,Nat.reduceEqDiff,Nat.reduceBEq,Nat.reduceLeDiff,Nat.reduceAdd]
   exact SetR.dropTo ((((Le.refl H).upd hp).upd hp2).upd hp3) (SetR.now hq)
theorem zUw{x y:Int}{k k':Nat}(tx ty:Bool)(hx:Bd k x)(hk:k≤274877906944)(hy:Bd k' y)(hk':k'≤274877906944):PFn Tryz.prog 218 [zBd x tx,zBd y ty] (zBd (x-y) false):=by
 intro H Q hq
 refine zVO (by simp) ?_
 simp(disch:=first|exact Xe|fail)only[zam,zBd,↓Xa,Xb,Xc,↓reduceIte,Nat.reduceLT,Nat.reduceEqDiff,Nat.reduceBEq,Nat.reduceLeDiff,Nat.reduceAdd]
 refine zAD fun p hp=>?_
 simp(disch:=first|exact Xe|fail)only[↓Xa,Xb,Xc,↓reduceIte,Nat.reduceLT,Nat.reduceEqDiff,Nat.reduceBEq,Nat.reduceLeDiff,Nat.reduceAdd]
 refine zAD fun p2 hp2=>?_
 simp(disch:=first|exact Xe|fail)only[↓Xa,Xb,Xc,↓reduceIte,Nat.reduceLT,Nat.reduceEqDiff,Nat.reduceBEq,Nat.reduceLeDiff,Nat.reduceAdd]
 refine zAD fun p3 hp3=>?_
 have hne:=(zAB.1 hp2).1
 have hne3:=(zAB.1 hp3).1
 have hne4:=(zAB.1 (zAB.1 hp3).2).1
 simp(disch:=first|exact Xe|fail)only[↓Xa,Xb,Xc,↓reduceIte,Nat.reduceLT,Nat.reduceEqDiff,Nat.reduceBEq,Nat.reduceLeDiff,Nat.reduceAdd]
 refine PFn.dcall (zZ6 ty hy (by omega)) ?_
 simp(disch:=first|exact Xe|fail)only[↓Xa,Xb,Xc,↓reduceIte,Nat.reduceLT,Nat.reduceEqDiff,Nat.reduceBEq,Nat.reduceLeDiff,Nat.reduceAdd]
 refine(zIb tx false hx hk hy.neg hk').call ?_
 simp(disch:=first|exact Xe|fail)only[zeh,zBd,↓Xa,Xb,Xc,↓reduceIte,Nat.reduceLT,Nat.reduceEqDiff,Nat.reduceBEq,Nat.reduceLeDiff,Nat.reduceAdd]
 exact SetR.dropTo ((((Le.refl H).upd hp).upd hp2).upd hp3) (SetR.now hq)
theorem zF2{x y:Int}{k k':Nat}(tx ty:Bool)(hx:Bd k x)(hk:k≤274877906944)(hy:Bd k' y)(hk':k'≤274877906944):PFn Tryz.prog 136 [zBd x tx,zBd y ty] (zBd (x*y) false):=by
 intro H Q hq
 have hl:=hx.rlen
 have hl':=hy.rlen
 have vx0:=zAJ (B:=65536) (by omega) x.natAbs
 have vy0:=zAJ (B:=65536) (by omega) y.natAbs
 have lx:=zAG (B:=65536) (by omega) x.natAbs
 have ly:=zAG (B:=65536) (by omega) y.natAbs
 refine zT7 (by simp) ?_
 simp(disch:=first|exact Xe|fail)only[zbR,zBd,↓Xa,Xb,Xc,↓reduceIte,Nat.reduceLT,Nat.reduceEqDiff,Nat.reduceBEq,Nat.reduceLeDiff,Nat.reduceAdd]
 refine zAD fun p hp=>?_
 simp(disch:=first|exact Xe|fail)only[↓Xa,Xb,Xc,↓reduceIte,Nat.reduceLT,Nat.reduceEqDiff,Nat.reduceBEq,Nat.reduceLeDiff,Nat.reduceAdd]
 refine zAD fun p2 hp2=>?_
 simp(disch:=first|exact Xe|fail)only[↓Xa,Xb,Xc,↓reduceIte,Nat.reduceLT,Nat.reduceEqDiff,Nat.reduceBEq,Nat.reduceLeDiff,Nat.reduceAdd]
 refine zAD fun p3 hp3=>?_
 have hne:=(zAB.1 hp2).1
 have hne3:=(zAB.1 hp3).1
 have hne4:=(zAB.1 (zAB.1 hp3).2).1
 simp(disch:=first|exact Xe|fail)only[↓Xa,Xb,Xc,↓reduceIte,Nat.reduceLT,Nat.reduceEqDiff,Nat.reduceBEq,Nat.reduceLeDiff,Nat.reduceAdd]
 refine zDW fun o ho=>?_
 have n1:=(zAB.1 ho).1
 have n2:=(zAB.1 (zAB.1 ho).2).1
 have n3:=(zAB.1 (zAB.1 (zAB.1 ho).2).2).1
 simp(disch:=first|exact Xe|fail)only[↓Xa,Xb,Xc,↓reduceIte,Nat.reduceLT,Nat.reduceEqDiff,Nat.reduceBEq,Nat.reduceLeDiff,Nat.reduceAdd]
 generalize hX:digs 65536 x.natAbs=X at*
 generalize hY:digs 65536 y.natAbs=Y at*
 refine zAO (fun s:Nat×List Nat=>⟨[],[(2,.ptr p 2 0),(3,.ptr p2 2 0),(4,.ptr p3 2 0),(5,.own o (X.length+Y.length+1) 0 (X.length+Y.length+1) true),(6,.int .i64 s.1)],
  (((H.upd p (some (.row 44 0 [.bool (decide (x<0)),LS X tx]))).upd p2 (some (.row 44 0 [.bool (decide (y<0)),LS Y ty]))).upd p3 (some (.row 44 0 [.bool false,.seq 0 [] true]))).upd o (some (.row 168 1 (U s.2)))⟩)
  (fun s=>s.1≤X.length∧MulJ X Y s.1 s.2) (fun s=>X.length-s.1) (0,List.replicate (X.length+Y.length+1) 0) (Settle.now rfl) ⟨by simp,MulJ.zero X Y⟩ ?_
 rintro⟨i,out⟩ ⟨h1,h2⟩
 dsimp only at h1 h2 ⊢
 have hol:=h2.1
 by_cases hi:i<X.length
 ·simp(disch:=first|exact Xe|fail)only[hi,↓Xa,Xb,Xc,↓reduceIte,Nat.reduceLT,Nat.reduceEqDiff,Nat.reduceBEq,Nat.reduceLeDiff,Nat.reduceAdd]
  refine zAO (fun s:Nat×Nat×List Nat=>⟨[],[(2,.ptr p 2 0),(3,.ptr p2 2 0),(4,.ptr p3 2 0),(5,.own o (X.length+Y.length+1) 0 (X.length+Y.length+1) true),(6,.int .i64 i),(7,.int .u64 s.2.1),(8,.int .i64 s.1)],
   (((H.upd p (some (.row 44 0 [.bool (decide (x<0)),LS X tx]))).upd p2 (some (.row 44 0 [.bool (decide (y<0)),LS Y ty]))).upd p3 (some (.row 44 0 [.bool false,.seq 0 [] true]))).upd o (some (.row 168 1 (U s.2.2)))⟩)
   (fun s=>(s.1≤Y.length∧MulH X Y i s.1 s.2.1 s.2.2)∨(s.1=Y.length+1∧s.2.1=0∧MulJ X Y (i+1) s.2.2)) (fun s=>Y.length+1-s.1) (0,0,out) (Settle.now rfl) (.inl ⟨by simp,MulH.start h2⟩) ?_
  rintro⟨j,c,out⟩ hinv
  dsimp only at hinv ⊢
  have fin:c=0→Y.length≤j→MulJ X Y (i+1) out:=by
   intro hc hj
   rcases hinv with⟨g1,g2⟩|⟨g1,g2,g3⟩
   ·obtain rfl:j=Y.length:=by omega
    subst hc
    have:=g2.end hi
    have e:out.set (i+Y.length) 0=out:=by
     have hz:=g2.2.2.2.2 (i+Y.length) (Nat.le_refl _)
     have hlt:i+Y.length<out.length:=by rw[g2.1];omega
     rw[List.getD_eq_getElem?_getD,List.getElem?_eq_getElem hlt,Option.getD_some]at hz
     rw[← hz];exact List.set_getElem_self hlt
    rwa[e]at this
   ·exact g3
  by_cases hj:j<Y.length
  ·rcases hinv with⟨g1,g2⟩|⟨g1,g2,g3⟩
   ·have gol:=g2.1
    have gc:=g2.2.2.1
    have ax:=lx.getD (by omega) i
    have ay:=ly.getD (by omega) j
    have ao:=g2.2.1.getD (by omega) (i+j)
    have hm:X.getD i 0*Y.getD j 0≤65535*65535:=Nat.mul_le_mul (by omega) (by omega)
    have es:c+out.getD (i+j) 0+X.getD i 0*Y.getD j 0=c+(X.getD i 0*Y.getD j 0+out.getD (i+j) 0):=by omega
    have em:((c+(X.getD i 0*Y.getD j 0+out.getD (i+j) 0))%65536)<4294967296:=by omega
    simp(disch:=first|exact Xe|fail)only[hj,es,ne_eq,Nat.reduceEqDiff,↓Xa,Xb,Xc,↓reduceIte,Nat.reduceLT,Nat.reduceEqDiff,Nat.reduceBEq,Nat.reduceLeDiff,Nat.reduceAdd]
    refine Settle.now ⟨(j+1,_,_),by dsimp only;omega,.inl ⟨by dsimp only;omega,g2.step hi hj lx ly rfl⟩,rfl⟩
   ·omega
  ·by_cases hc:0<c
   ·rcases hinv with⟨g1,g2⟩|⟨g1,g2,g3⟩
    ·obtain rfl:j=Y.length:=by omega
     have gol:=g2.1
     have gc:=g2.2.2.1
     have ao:=g2.2.2.2.2 (i+Y.length) (Nat.le_refl _)
     have em:c%65536=c:=by omega
     have ed:c / 65536=0:=by omega
     simp(disch:=first|exact Xe|fail)only[hj,hc,ao,em,ed,ne_eq,Nat.reduceEqDiff,↓Xa,Xb,Xc,↓reduceIte,Nat.reduceLT,Nat.reduceEqDiff,Nat.reduceBEq,Nat.reduceLeDiff,Nat.reduceAdd]
     refine Settle.now ⟨(Y.length+1,0,_),by dsimp only;omega,.inr ⟨rfl,rfl,g2.end hi⟩,rfl⟩
    ·omega
   ·obtain rfl:c=0:=by omega
    simp(disch:=first|exact Xe|fail)only[hj,hc,↓Xa,Xb,Xc,↓reduceIte,Nat.reduceLT,Nat.reduceEqDiff,Nat.reduceBEq,Nat.reduceLeDiff,Nat.reduceAdd]
    refine Settle.now ?_
    simp(disch:=first|exact Xe|fail)only[↓Xa,Xb,Xc,↓reduceIte,Nat.reduceLT,Nat.reduceEqDiff,Nat.reduceBEq,Nat.reduceLeDiff,Nat.reduceAdd]
    exact Settle.now ⟨(i+1,out),by dsimp only;omega,⟨by dsimp only;omega,fin rfl (by omega)⟩,rfl⟩
 ·obtain rfl:i=X.length:=by omega
  simp(disch:=first|exact Xe|fail)only[hi,↓Xa,Xb,Xc,↓reduceIte,Nat.reduceLT,Nat.reduceEqDiff,Nat.reduceBEq,Nat.reduceLeDiff,Nat.reduceAdd]
  refine Settle.freeze 5 rfl (zAC _ _ _) (by simp[hol]) (.inr (by simp)) ?_
  have e1:AV.seq (X.length+Y.length+1) (((U out).drop 0).take ((X.length+Y.length+1)*1)) true=LS out true:=by
   rw[List.drop_zero,Nat.mul_one,← hol,List.take_of_length_le (by simp)];rfl
  rw[e1,zAP,zAU _ ho]
  refine Settle.now ?_
  simp(disch:=first|exact Xe|fail)only[↓Xa,Xb,Xc,↓reduceIte,Nat.reduceLT,Nat.reduceEqDiff,Nat.reduceBEq,Nat.reduceLeDiff,Nat.reduceAdd]
  refine(zBs _ true h2.2.1 (by omega)).call ?_
  have e2:sg (!(decide (x<0)==decide (y<0))) (val 65536 out)=x*y:=by
   rw[h2.2.2.1,zAc _ _ _ (Nat.le_refl _),vx0,vy0,← Int.natAbs_mul]
   unfold sg
   by_cases h:x<0<;>by_cases h':y<0<;>simp[h,h']
   ·rw[zND (Int.mul_nonneg_of_nonpos_of_nonpos (by omega) (by omega))]
   ·rw[zLo (Int.mul_nonpos_of_nonpos_of_nonneg (by omega) (by omega))]
   ·rw[zLo (Int.mul_nonpos_of_nonneg_of_nonpos (by omega) (by omega))]
   ·rw[zND (Int.mul_nonneg (by omega) (by omega))]
  rw[e2]
  simp(disch:=first|exact Xe|fail)only[zdS,zBd,↓Xa,Xb,Xc,↓reduceIte,Nat.reduceLT,Nat.reduceEqDiff,Nat.reduceBEq,Nat.reduceLeDiff,Nat.reduceAdd]
  exact SetR.dropTo ((((Le.refl H).upd hp).upd hp2).updB (zAB.1 (zAB.1 hp3).2).2) (SetR.now hq)
section
variable {l:List Int} {t:Bool} {H:AHeap} {K:AV→Prop}
end
theorem zQv(n:Nat)(t:Bool)(hn:(digs 65536 n).length≤1099511627776):PFn Tryz.prog 199 [LS (digs 65536 n) t] (.int .i64 ((blen n:Nat):Int)):=by
 intro H Q hq
 refine zVd (by simp) ?_
 rcases Nat.eq_zero_or_pos n with e|e
 ·subst e
  rw[zAQ]at*
  simp(disch:=first|exact Xe|fail)only[zZb,zX9,↓Xa,Xb,Xc,↓reduceIte,Nat.reduceLT,Nat.reduceEqDiff,Nat.reduceBEq,Nat.reduceLeDiff,Nat.reduceAdd]
  exact SetR.now hq
 ·have hp:0<(digs 65536 n).length:=by rw[zA1 (by omega) e];simp
  have hne:((digs 65536 n).length=0)=False:=eq_false (by omega)
  have hb:=zEw (w:=16) (by omega) e
  have hlim:=(zAG (B:=65536) (by omega) n).getD (by omega) ((digs 65536 n).length-1)
  have hb16:blen ((digs 65536 n).getD ((digs 65536 n).length-1) 0)≤16:=zBc.2 (by omega)
  change blen n=16*((digs 65536 n).length-1)+blen ((digs 65536 n).getD ((digs 65536 n).length-1) 0)at hb
  simp(disch:=first|exact Xe|fail)only[zZb,hne,↓Xa,Xb,Xc,↓reduceIte,Nat.reduceLT,Nat.reduceEqDiff,Nat.reduceBEq,Nat.reduceLeDiff,Nat.reduceAdd]
  refine zAO (fun s:Nat×Nat=>⟨[],[(3,.int .i64 s.1),(4,.int .u32 s.2)],H⟩) (fun s=>s.1+blen s.2=blen n∧s.2<65536) (fun s=>s.2)
   (16*((digs 65536 n).length-1),(digs 65536 n).getD ((digs 65536 n).length-1) 0) (Settle.now rfl) ⟨hb.symm,hlim⟩ ?_
  rintro⟨m,u⟩ ⟨h1,h2⟩
  dsimp only at h1 h2 ⊢
  have hbn:blen n≤16*1099511627776+16:=by omega
  by_cases h0:0<u
  ·have hh:=zRk h0
   simp(disch:=first|exact Xe|fail)only[h0,ne_eq,Nat.reduceEqDiff,↓Xa,Xb,Xc,↓reduceIte,Nat.reduceLT,Nat.reduceEqDiff,Nat.reduceBEq,Nat.reduceLeDiff,Nat.reduceAdd]
   refine Settle.now ⟨(m+1,u / 2),by dsimp only;omega,⟨by dsimp only;omega,by dsimp only;omega⟩,rfl⟩
  ·obtain rfl:u=0:=by omega
   rw[zKK,Nat.add_zero]at h1
   simp(disch:=first|exact Xe|fail)only[h0,↓Xa,Xb,Xc,↓reduceIte,Nat.reduceLT,Nat.reduceEqDiff,Nat.reduceBEq,Nat.reduceLeDiff,Nat.reduceAdd]
   refine Settle.now ?_
   simp(disch:=first|exact Xe|fail)only[zX9,↓Xa,Xb,Xc,↓reduceIte,Nat.reduceLT,Nat.reduceEqDiff,Nat.reduceBEq,Nat.reduceLeDiff,Nat.reduceAdd]
   rw[h1]
   exact SetR.now hq
theorem zFx{x:Int}{K:AV→Prop}:zAy .eql (.int .i64 (zD4 x)) (.int .i64 ((0:Nat):Int)) K↔K (.bool (decide (x=0))):=by
 have:(zD4 x=((0:Nat):Int))↔x=0:=by unfold zD4;split<;>simp_all;split<;>omega
 simp only[zAy,zAi,true_and,this]
theorem zMD{x:Int}{K:AV→Prop}:zAy .neq (.int .i64 (zD4 x)) (.int .i64 ((0:Nat):Int)) K↔K (.bool (!decide (x=0))):=by
 have:(zD4 x=((0:Nat):Int))↔x=0:=by unfold zD4;split<;>simp_all;split<;>omega
 simp only[zAy,zAi,true_and,this]
theorem zQf{x:Int}{n k:Nat}(t:Bool)(hx:Bd k x)(hk:k≤1000)(hn:n≤1000):PFn Tryz.prog 196 [zBd x t,.int .i64 (n:Int)] (zBd (x^n) false):=by
 intro H Q hq
 refine zVB (by simp) ?_
 simp(disch:=first|exact Xe|fail)only[zcE,zBd,↓Xa,Xb,Xc,↓reduceIte,Nat.reduceLT,Nat.reduceEqDiff,Nat.reduceBEq,Nat.reduceLeDiff,Nat.reduceAdd]
 refine zAD fun p hp=>?_
 simp(disch:=first|exact Xe|fail)only[↓Xa,Xb,Xc,↓reduceIte,Nat.reduceLT,Nat.reduceEqDiff,Nat.reduceBEq,Nat.reduceLeDiff,Nat.reduceAdd]
 refine zAD fun p2 hp2=>?_
 have n2:=hp2
 simp only[zAB]at n2
 obtain⟨_,n2⟩:=n2
 simp(disch:=first|exact Xe|fail)only[↓Xa,Xb,Xc,↓reduceIte,Nat.reduceLT,Nat.reduceEqDiff,Nat.reduceBEq,Nat.reduceLeDiff,Nat.reduceAdd]
 refine(zDZ (n:=((1:Nat):Int)) (by omega)).call ?_
 simp(disch:=first|exact Xe|fail)only[↓Xa,Xb,Xc,↓reduceIte,Nat.reduceLT,Nat.reduceEqDiff,Nat.reduceBEq,Nat.reduceLeDiff,Nat.reduceAdd]
 refine zAD fun p3 hp3=>?_
 have n3:=hp3
 simp only[zAB]at n3
 obtain⟨_,_,n3⟩:=n3
 simp(disch:=first|exact Xe|fail)only[zBd,↓Xa,Xb,Xc,↓reduceIte,Nat.reduceLT,Nat.reduceEqDiff,Nat.reduceBEq,Nat.reduceLeDiff,Nat.reduceAdd]
 refine zAO (fun s:Nat=>⟨[],[(1,.int .i64 n),(2,.ptr p 2 0),(4,.ptr p2 2 0),(5,.ptr p3 2 0),(6,.int .i64 s)],
  ((H.upd p (some (.row 44 0 [.bool (decide (x<0)),LS (digs 65536 x.natAbs) t]))).upd p2 (some (.row 44 0 [.bool false,.seq 0 [] true]))).upd p3 (some (.row 44 0 [.bool (decide (x^s<0)),LS (digs 65536 (x^s).natAbs) false]))⟩)
  (fun s=>s≤n∧Bd (2+k*s) (x^s)) (fun s=>n-s) 0 (Settle.now (by rw[Int.pow_zero];rfl)) ⟨by simp,by rw[Int.pow_zero];exact Bd.i64 (by omega)⟩ ?_
 rintro s ⟨hs,hb⟩
 have hks:k*s≤1000*1000:=Nat.mul_le_mul hk (by omega)
 by_cases h2:s<n
 ·simp(disch:=first|exact Xe|fail)only[h2,↓Xa,Xb,Xc,↓reduceIte,Nat.reduceLT,Nat.reduceEqDiff,Nat.reduceBEq,Nat.reduceLeDiff,Nat.reduceAdd]
  refine(zF2 false t hb (by omega) hx (by omega)).call ?_
  simp(disch:=first|exact Xe|fail)only[zBd,↓Xa,Xb,Xc,↓reduceIte,Nat.reduceLT,Nat.reduceEqDiff,Nat.reduceBEq,Nat.reduceLeDiff,Nat.reduceAdd]
  refine Settle.now ⟨s+1,by omega,⟨by omega,?_⟩,?_⟩
  ·rw[Int.pow_succ];exact(hb.mul hx).mono (by rw[Nat.mul_succ];omega)
  ·rw[Int.pow_succ]
 ·obtain rfl:s=n:=by omega
  simp(disch:=first|exact Xe|fail)only[h2,↓Xa,Xb,Xc,↓reduceIte,Nat.reduceLT,Nat.reduceEqDiff,Nat.reduceBEq,Nat.reduceLeDiff,Nat.reduceAdd]
  refine Settle.now ?_
  simp(disch:=first|exact Xe|fail)only[zcP,↓Xa,Xb,Xc,↓reduceIte,Nat.reduceLT,Nat.reduceEqDiff,Nat.reduceBEq,Nat.reduceLeDiff,Nat.reduceAdd]
  exact SetR.dropTo ((((Le.refl H).updB hp).updB n2).updB n3) (SetR.now hq)
def zEA(z:Int):AV:=.bool (decide (z<0))
def zFS(z:Int):AV:=LS (digs 65536 z.natAbs) false
theorem zP9{z:Int}:zBd z false=.agg [zEA z,zFS z]:=id rfl
theorem zAe{z:Int}:(zBd z false).cells=some [zEA z,zFS z]:=id rfl
theorem zA2{z:Int}:AV.agg [zEA z,zFS z]=zBd z false:=id rfl
theorem Bd.blen{z:Int}{k:Nat}(h:Bd k z):Ma.blen z.natAbs≤32*k:=by rw[zBc,Nat.pow_mul];exact h
theorem zI8{x y:Int}(hy:y≠0)(hx:0≤x):x / y=sg (decide (y<0)) (x.natAbs / y.natAbs)∧x%y=((x.natAbs%y.natAbs:Nat):Int):=by
 have e:((x.natAbs:Nat):Int)=x:=by omega
 by_cases h:y<0
 ·have e2:y= -((y.natAbs:Nat):Int):=by omega
  constructor
  ·rw[sg,decide_eq_true h,if_pos rfl]
   conv=>lhs;rw[e2,Int.ediv_neg,← e]
   rw[← Int.natCast_ediv]
  ·conv=>lhs;rw[e2,Int.emod_neg,← e]
   rw[← Int.natCast_emod]
 ·have e2:y=((y.natAbs:Nat):Int):=by omega
  constructor
  ·rw[sg,decide_eq_false h]
   conv=>lhs;rw[e2,← e]
   rw[← Int.natCast_ediv];rfl
  ·conv=>lhs;rw[e2,← e]
   rw[← Int.natCast_emod]
theorem zGI{x y:Int}(hy:y≠0)(hx:x<0):
 (x.natAbs%y.natAbs=0→x / y=sg (!decide (y<0)) (x.natAbs / y.natAbs)∧x%y=0)∧
 (0<x.natAbs%y.natAbs→x / y=sg (!decide (y<0)) (x.natAbs / y.natAbs)-zD4 y∧x%y=sg true (x.natAbs%y.natAbs)+(y.natAbs:Int)):=by
 have hm:=Nat.div_add_mod x.natAbs y.natAbs
 have hl:=Nat.mod_lt x.natAbs (show 0<y.natAbs by omega)
 generalize x.natAbs / y.natAbs=q at*
 generalize x.natAbs%y.natAbs=r at*
 have hb:0<(y.natAbs:Int):=by omega
 have hxe:x= -((y.natAbs:Int)*q+r):=by
  have:((y.natAbs*q+r:Nat):Int)=(x.natAbs:Int):=by rw[hm]
  rw[Int.natCast_add,Int.natCast_mul]at this
  omega
 have key: ∀(q' r':Int),r'+(y.natAbs:Int)*q'=x→0≤r'→r'<(y.natAbs:Int)→x / (y.natAbs:Int)=q'∧x%(y.natAbs:Int)=r':=fun q' r' a b c=>(Int.ediv_emod_unique hb).2 ⟨a,b,c⟩
 have neg: ∀q':Int,x / (y.natAbs:Int)=q'→x / y=if y<0 then -q' else q':=fun q' h=>by
  split
  ·conv=>lhs;rw[show y= -((y.natAbs:Nat):Int) by omega,Int.ediv_neg,h]
  ·conv=>lhs;rw[show y=((y.natAbs:Nat):Int) by omega,h]
 have mod:x%y=x%(y.natAbs:Int):=by
  by_cases h:y<0
  ·conv=>lhs;rw[show y= -((y.natAbs:Nat):Int) by omega,Int.emod_neg]
  ·conv=>lhs;rw[show y=((y.natAbs:Nat):Int) by omega]
 constructor
 ·intro hr
  obtain⟨k1,k2⟩:=key (-(q:Int)) 0 (by rw[hxe,hr,Int.mul_neg];omega) (by omega) hb
  refine⟨?_,by rw[mod,k2]⟩
  rw[neg _ k1,sg]
  by_cases h:y<0<;>simp[h]
 ·intro hr
  obtain⟨k1,k2⟩:=key (-(q:Int)-1) ((y.natAbs:Int)-r) (by rw[hxe,Int.mul_sub,Int.mul_neg,Int.mul_one];omega) (by omega) (by omega)
  refine⟨?_,by rw[mod,k2,sg,if_pos rfl];omega⟩
  rw[neg _ k1,sg,zD4,if_neg hy]
  by_cases h:y<0<;>simp[h]<;>omega
theorem zFW{z:Int}:AV.agg [.bool (decide (z<0)),LS (digs 4294967296 z.natAbs) true]=zAl z:=id rfl
theorem zFL{z:Int}:AV.agg [.bool (decide (z<0)),zB1 z]=zAl z:=id rfl
theorem zIy(y:Int): -9223372036854775808≤zD4 y∧zD4 y<9223372036854775808:=by unfold zD4;(repeat' split)<;>omega
theorem zOH{x y:Int}{k k':Nat}(hx:Bd k x)(hk:k≤274877906944)(hy:Bd k' y)(hk':k'≤274877906944)(hy0:y≠0):PFn Tryz.prog 152 [zAl x,zAl y] (.tup [zAl (x / y),zAl (x%y),.int .i64 ((0:Nat):Int)]):=by
 intro H Q hq
 have hl:=hx.len
 have hl':=hy.len
 have vx:=zAJ (B:=4294967296) (by omega) x.natAbs
 have vy:=zAJ (B:=4294967296) (by omega) y.natAbs
 have lx:=zAG (B:=4294967296) (by omega) x.natAbs
 have ly:=zAG (B:=4294967296) (by omega) y.natAbs
 have hyp:0<y.natAbs:=by omega
 have hbq: ∀b,Bd k (sg b (x.natAbs / y.natAbs)):=fun b=>Bd.sgn (Nat.lt_of_le_of_lt (Nat.div_le_self _ _) hx)
 have hbr: ∀b,Bd k (sg b (x.natAbs%y.natAbs)):=fun b=>Bd.sgn (Nat.lt_of_le_of_lt (Nat.mod_le _ _) hx)
 have hlq:=(hbq false).len
 have hlr:=(hbr false).len
 rw[zCq]at hlq hlr
 refine zUn (by simp) ?_
 simp(disch:=first|exact Xe|fail)only[za4,zAE,↓Xa,Xb,Xc,↓reduceIte,Nat.reduceLT,Nat.reduceEqDiff,Nat.reduceBEq,Nat.reduceLeDiff,Nat.reduceAdd]
 refine zAD fun p hp=>?_
 simp(disch:=first|exact Xe|fail)only[↓Xa,Xb,Xc,↓reduceIte,Nat.reduceLT,Nat.reduceEqDiff,Nat.reduceBEq,Nat.reduceLeDiff,Nat.reduceAdd]
 refine zAD fun p2 hp2=>?_
 have n2:=hp2
 simp only[zAB]at n2
 obtain⟨_,n2⟩:=n2
 simp(disch:=first|exact Xe|fail)only[↓Xa,Xb,Xc,↓reduceIte,Nat.reduceLT,Nat.reduceEqDiff,Nat.reduceBEq,Nat.reduceLeDiff,Nat.reduceAdd]
 refine zAD fun p3 hp3=>?_
 have n3:=hp3
 simp only[zAB]at n3
 obtain⟨_,_,n3⟩:=n3
 simp(disch:=first|exact Xe|fail)only[↓Xa,Xb,Xc,↓reduceIte,Nat.reduceLT,Nat.reduceEqDiff,Nat.reduceBEq,Nat.reduceLeDiff,Nat.reduceAdd]
 refine zAD fun p4 hp4=>?_
 have n4:=hp4
 simp only[zAB]at n4
 obtain⟨_,_,_,n4⟩:=n4
 simp(disch:=first|exact Xe|fail)only[↓Xa,Xb,Xc,↓reduceIte,Nat.reduceLT,Nat.reduceEqDiff,Nat.reduceBEq,Nat.reduceLeDiff,Nat.reduceAdd]
 refine(zKV (a:=digs 4294967296 x.natAbs) (b:=digs 4294967296 y.natAbs) true true lx ly (by omega) (by omega) (by omega)).call ?_
 rw[vx,vy]
 have ifold: ∀z:Int,AV.bool (decide (z<0))=zB0 z:=fun z=>rfl
 simp(disch:=first|exact Xe|fail)only[zB0,zEf,↓Xa,Xb,Xc,↓reduceIte,Nat.reduceLT,Nat.reduceEqDiff,Nat.reduceBEq,Nat.reduceLeDiff,Nat.reduceAdd]
 refine PFn.dcall (zCP _ _ (by omega)) ?_
 simp(disch:=first|exact Xe|fail)only[↓Xa,Xb,Xc,↓reduceIte,Nat.reduceLT,Nat.reduceEqDiff,Nat.reduceBEq,Nat.reduceLeDiff,Nat.reduceAdd]
 refine PFn.dcall (zCP _ _ (by omega)) ?_
 simp(disch:=first|exact Xe|fail)only[↓Xa,Xb,Xc,↓reduceIte,Nat.reduceLT,Nat.reduceEqDiff,Nat.reduceBEq,Nat.reduceLeDiff,Nat.reduceAdd]
 refine zCp fun p5 hp5=>?_
 have n5:=hp5
 simp only[zAB]at n5
 obtain⟨_,_,_,_,n5⟩:=n5
 simp(disch:=first|exact Xe|fail)only[↓Xa,Xb,Xc,↓reduceIte,Nat.reduceLT,Nat.reduceEqDiff,Nat.reduceBEq,Nat.reduceLeDiff,Nat.reduceAdd]
 refine zCp fun p6 hp6=>?_
 have n6:=hp6
 simp only[zAB]at n6
 obtain⟨_,_,_,_,_,n6⟩:=n6
 simp(disch:=first|exact Xe|fail)only[zAE,↓Xa,Xb,Xc,↓reduceIte,Nat.reduceLT,Nat.reduceEqDiff,Nat.reduceBEq,Nat.reduceLeDiff,Nat.reduceAdd]
 have bq:=hbq (!(decide (x<0)==decide (y<0)))
 have br:=hbr (decide (x<0))
 have cs:(sg (!(decide (x<0)==decide (y<0))) (x.natAbs / y.natAbs)=x / y∧sg (decide (x<0)) (x.natAbs%y.natAbs)=x%y∧zB0 (sg (decide (x<0)) (x.natAbs%y.natAbs))=.bool false)∨
  (sg (!(decide (x<0)==decide (y<0))) (x.natAbs / y.natAbs)-zD4 y=x / y∧sg (decide (x<0)) (x.natAbs%y.natAbs)+(y.natAbs:Int)=x%y∧zB0 (sg (decide (x<0)) (x.natAbs%y.natAbs))=.bool true):=by
  by_cases h:x<0
  ·obtain⟨e1,e2⟩:=zGI hy0 h
   rw[decide_eq_true h]
   have eb:(!(true==decide (y<0)))=!decide (y<0):=by simp
   rw[eb]
   rcases Nat.eq_zero_or_pos (x.natAbs%y.natAbs)with hz|hz
   ·left
    obtain⟨f1,f2⟩:=e1 hz
    rw[hz,f1,f2]
    exact⟨rfl,rfl,rfl⟩
   ·right
    obtain⟨f1,f2⟩:=e2 hz
    exact⟨f1.symm,f2.symm,congrArg AV.bool (decide_eq_true (by simp[sg];omega))⟩
  ·left
   obtain⟨f1,f2⟩:=zI8 hy0 (show 0≤x by omega)
   rw[decide_eq_false h]
   have eb:(!(false==decide (y<0)))=decide (y<0):=by simp
   rw[eb,f1,f2]
   exact⟨rfl,rfl,congrArg AV.bool (decide_eq_false (by simp[sg];omega))⟩
 generalize sg (!(decide (x<0)==decide (y<0))) (x.natAbs / y.natAbs)=q0 at*
 generalize sg (decide (x<0)) (x.natAbs%y.natAbs)=r0 at*
 have fin: ∀{v a b c d e f},Q v H→SetR Q v ((((((H.upd p a).upd p2 b).upd p3 c).upd p4 d).upd p5 e).upd p6 f):=fun{v a b c d e f} hv=>SetR.dropTo (((((((Le.refl H).updB hp).updB n2).updB n3).updB n4).updB n5).updB n6) (SetR.now hv)
 rcases cs with⟨c1,c2,c3⟩|⟨c1,c2,c3⟩
 ·rw[← c1,← c2]at hq
  have f0:AV.agg [.bool false,zB1 r0]=zAl r0:=by rw[zFH,c3]
  simp(disch:=first|exact Xe|fail)only[c3,zAI,f0,zAE,zYX,↓Xa,Xb,Xc,↓reduceIte,Nat.reduceLT,Nat.reduceEqDiff,Nat.reduceBEq,Nat.reduceLeDiff,Nat.reduceAdd]
  exact fin hq
 ·rw[← c1,← c2]at hq
  have f0:AV.agg [.bool true,zB1 r0]=zAl r0:=by rw[zFH,c3]
  simp(disch:=first|exact Xe|fail)only[c3,zAI,f0,zFW,zFL,↓Xa,Xb,Xc,↓reduceIte,Nat.reduceLT,Nat.reduceEqDiff,Nat.reduceBEq,Nat.reduceLeDiff,Nat.reduceAdd]
  refine PFn.dcall (zcT hy (by omega)) ?_
  simp(disch:=first|exact Xe|fail)only[zAI,zFW,zFL,f0,↓Xa,Xb,Xc,↓reduceIte,Nat.reduceLT,Nat.reduceEqDiff,Nat.reduceBEq,Nat.reduceLeDiff,Nat.reduceAdd]
  refine(zGd br (by omega) hy.abs (by omega)).call ?_
  simp(disch:=first|exact Xe|fail)only[zAI,zFW,zFL,f0,zAE,↓Xa,Xb,Xc,↓reduceIte,Nat.reduceLT,Nat.reduceEqDiff,Nat.reduceBEq,Nat.reduceLeDiff,Nat.reduceAdd]
  refine PFn.dcall (zGa hy (by omega)) ?_
  simp(disch:=first|exact Xe|fail)only[zAI,zFW,zFL,f0,↓Xa,Xb,Xc,↓reduceIte,Nat.reduceLT,Nat.reduceEqDiff,Nat.reduceBEq,Nat.reduceLeDiff,Nat.reduceAdd]
  refine PFn.dcall (zHI (zIy y)) ?_
  simp(disch:=first|exact Xe|fail)only[zAI,zFW,zFL,f0,↓Xa,Xb,Xc,↓reduceIte,Nat.reduceLT,Nat.reduceEqDiff,Nat.reduceBEq,Nat.reduceLeDiff,Nat.reduceAdd]
  refine(zLb bq (by omega) (Bd.i64 (zIy y)) (by omega)).call ?_
  simp(disch:=first|exact Xe|fail)only[zAI,zFW,zFL,f0,zAE,zYX,↓Xa,Xb,Xc,↓reduceIte,Nat.reduceLT,Nat.reduceEqDiff,Nat.reduceBEq,Nat.reduceLeDiff,Nat.reduceAdd]
  exact fin hq
theorem zUV{x c:Int}{k:Nat}(hx:Bd k x)(hk:k≤274877906944)(hc: -9223372036854775808≤c∧c<9223372036854775808)(hc0:c≠0):
 PFn Tryz.prog 172 [zAl x,.int .i64 c] (if x%c=0 then .tup [zAl (x / c),.int .i64 ((0:Nat):Int)]else .tup [zAl 0,.int .i64 ((20:Nat):Int)]):=by
 intro H Q hq
 have hy:Bd 2 c:=Bd.i64 hc
 have hl:=hx.len
 have hl':=hy.len
 have vx:=zAJ (B:=4294967296) (by omega) x.natAbs
 have vy:=zAJ (B:=4294967296) (by omega) c.natAbs
 have lx:=zAG (B:=4294967296) (by omega) x.natAbs
 have ly:=zAG (B:=4294967296) (by omega) c.natAbs
 have hbq: ∀b,Bd k (sg b (x.natAbs / c.natAbs)):=fun b=>Bd.sgn (Nat.lt_of_le_of_lt (Nat.div_le_self _ _) hx)
 have hlq:=(hbq false).len
 rw[zCq]at hlq
 refine zTg (by simp) ?_
 simp(disch:=first|exact Xe|fail)only[zdW,zAE,↓Xa,Xb,Xc,↓reduceIte,Nat.reduceLT,Nat.reduceEqDiff,Nat.reduceBEq,Nat.reduceLeDiff,Nat.reduceAdd]
 refine zAD fun p hp=>?_
 simp(disch:=first|exact Xe|fail)only[↓Xa,Xb,Xc,↓reduceIte,Nat.reduceLT,Nat.reduceEqDiff,Nat.reduceBEq,Nat.reduceLeDiff,Nat.reduceAdd]
 refine zAD fun p2 hp2=>?_
 have n2:=hp2
 simp only[zAB]at n2
 obtain⟨_,n2⟩:=n2
 simp(disch:=first|exact Xe|fail)only[↓Xa,Xb,Xc,↓reduceIte,Nat.reduceLT,Nat.reduceEqDiff,Nat.reduceBEq,Nat.reduceLeDiff,Nat.reduceAdd]
 refine(zHI hc).call ?_
 simp(disch:=first|exact Xe|fail)only[↓Xa,Xb,Xc,↓reduceIte,Nat.reduceLT,Nat.reduceEqDiff,Nat.reduceBEq,Nat.reduceLeDiff,Nat.reduceAdd]
 refine zAD fun p3 hp3=>?_
 have n3:=hp3
 simp only[zAB]at n3
 obtain⟨_,_,n3⟩:=n3
 simp(disch:=first|exact Xe|fail)only[zAE,↓Xa,Xb,Xc,↓reduceIte,Nat.reduceLT,Nat.reduceEqDiff,Nat.reduceBEq,Nat.reduceLeDiff,Nat.reduceAdd]
 refine(zKV (a:=digs 4294967296 x.natAbs) (b:=digs 4294967296 c.natAbs) true true lx ly (by omega) (by omega) (by omega)).call ?_
 rw[vx,vy]
 have fin: ∀{v a b c},Q v H→SetR Q v (((H.upd p a).upd p2 b).upd p3 c):=fun{v a b c} hv=>SetR.dropTo ((((Le.refl H).updB hp).updB n2).updB n3) (SetR.now hv)
 have hr0:=zCx (B:=4294967296) (n:=x.natAbs%c.natAbs) (by omega)
 have hrl:(digs 4294967296 (x.natAbs%c.natAbs)).length≤k:=zA5 (by omega) _ _ (Nat.lt_of_le_of_lt (Nat.mod_le _ _) hx)
 have hxm:x%c=0↔x.natAbs%c.natAbs=0:=by
  rw[← Int.dvd_iff_emod_eq_zero,← Nat.dvd_iff_mod_eq_zero,Int.natAbs_dvd_natAbs]
 by_cases hz:x.natAbs%c.natAbs=0
 ·rw[if_pos (hxm.2 hz)]at hq
  have e:x / c=sg (!(decide (x<0)==decide (c<0))) (x.natAbs / c.natAbs):=by
   by_cases h:x<0
   ·rw[((zGI hc0 h).1 hz).1,decide_eq_true h];simp
   ·rw[(zI8 hc0 (show 0≤x by omega)).1,decide_eq_false h];simp
  rw[e]at hq
  rw[hz,zAQ]
  simp(disch:=first|exact Xe|fail)only[zB0,zEf,↓Xa,Xb,Xc,↓reduceIte,Nat.reduceLT,Nat.reduceEqDiff,Nat.reduceBEq,Nat.reduceLeDiff,Nat.reduceAdd]
  refine(zCP _ _ (by omega)).call ?_
  simp(disch:=first|exact Xe|fail)only[zAE,zZt,↓Xa,Xb,Xc,↓reduceIte,Nat.reduceLT,Nat.reduceEqDiff,Nat.reduceBEq,Nat.reduceLeDiff,Nat.reduceAdd]
  exact fin hq
 ·rw[if_neg (fun h=>hz (hxm.1 h))]at hq
  have hp0:0<(digs 4294967296 (x.natAbs%c.natAbs)).length:=by
   have: ¬(digs 4294967296 (x.natAbs%c.natAbs)).length=0:=by rw[hr0];exact hz
   omega
  simp(disch:=first|exact Xe|fail)only[hp0,zZt,↓Xa,Xb,Xc,↓reduceIte,Nat.reduceLT,Nat.reduceEqDiff,Nat.reduceBEq,Nat.reduceLeDiff,Nat.reduceAdd]
  rw[zMy]
  exact fin hq
theorem zIL{b:Bool}{bb L off n:Nat}{t:Bool}:(AV.agg [.bool b,.own bb L off n t]).cells=some [.bool b,.own bb L off n t]:=id rfl
theorem zM6{H:AHeap}{Q:AV→AHeap→Prop}{bb ty L:Nat}(m n:Nat)(ta tb:Bool)(hH:H bb=some (.row ty 1 (U (digs 65536 m))))(hL:(digs 65536 m).length=L)(hq:Q (.int .i64 (zBy m n)) H)(hm:(digs 65536 m).length≤1099511627776)(hn:(digs 65536 n).length≤1099511627776):Run Tryz.prog 191 [.own bb L 0 L ta,LS (digs 65536 n) tb] H Q:=by
 subst hL
 have hx:=zAG (B:=65536) (by omega) m
 have hy:=zAG (B:=65536) (by omega) n
 have vx:=zAJ (B:=65536) (by omega) m
 have vy:=zAJ (B:=65536) (by omega) n
 have lt1:=zBY (B:=65536) (a:=m) (b:=n) (by omega)
 have lt2:=zBY (B:=65536) (a:=n) (b:=m) (by omega)
 generalize digs 65536 m=x at*
 generalize digs 65536 n=y at*
 have less:m<n→SetR Q (.int .i64 (-1)) H:=fun h=>by
  have:zBy m n= -1:=by simp[zBy,h]
  rw[← this];exact SetR.now hq
 have more:n<m→SetR Q (.int .i64 ((1:Nat):Int)) H:=fun h=>by
  have:zBy m n=((1:Nat):Int):=by simp[zBy,h,Nat.not_lt_of_lt h]
  rw[← this];exact SetR.now hq
 refine zNV (by simp) ?_
 by_cases c0:x.length=y.length
 ·have c0':=c0
  simp(disch:=first|exact Xe|fail)only[zLN,c0,↓Xa,Xb,Xc,↓reduceIte,Nat.reduceLT,Nat.reduceEqDiff,Nat.reduceBEq,Nat.reduceLeDiff,Nat.reduceAdd]
  refine zAO (fun k:Nat=>⟨[],[(0,.own bb y.length 0 y.length ta),(1,LS y tb),(5,.int .i64 (dn k))],H⟩) (fun k=>k≤x.length∧x.drop k=y.drop k) id y.length (Settle.now rfl) ⟨by omega,by rw[List.drop_of_length_le (by omega),List.drop_of_length_le (by omega)]⟩ ?_
  rintro k ⟨hk,hd⟩
  cases k with
  |zero=>
   simp(disch:=first|exact Xe|fail)only[hH,↓Xa,Xb,Xc,↓reduceIte,Nat.reduceLT,Nat.reduceEqDiff,Nat.reduceBEq,Nat.reduceLeDiff,Nat.reduceAdd]
   refine Settle.now ?_
   simp(disch:=first|exact Xe|fail)only[hH,zHA,↓Xa,Xb,Xc,↓reduceIte,Nat.reduceLT,Nat.reduceEqDiff,Nat.reduceBEq,Nat.reduceLeDiff,Nat.reduceAdd]
   have e:m=n:=by rw[← vx,← vy];rw[List.drop_zero,List.drop_zero]at hd;rw[hd]
   have:zBy m n=((0:Nat):Int):=by simp[zBy,e]
   rw[← this];exact SetR.now hq
  |succ k=>
   by_cases d1:x.getD k 0<y.getD k 0
   ·simp(disch:=first|exact Xe|fail)only[hH,d1,zHA,↓Xa,Xb,Xc,↓reduceIte,Nat.reduceLT,Nat.reduceEqDiff,Nat.reduceBEq,Nat.reduceLeDiff,Nat.reduceAdd]
    exact less (by rw[← vx,← vy];exact zB6 hx (by omega) k (by omega) c0 hd d1)
   by_cases d2:y.getD k 0<x.getD k 0
   ·simp(disch:=first|exact Xe|fail)only[hH,d1,d2,zHA,↓Xa,Xb,Xc,↓reduceIte,Nat.reduceLT,Nat.reduceEqDiff,Nat.reduceBEq,Nat.reduceLeDiff,Nat.reduceAdd]
    exact more (by rw[← vx,← vy];exact zB6 hy (by omega) k (by omega) c0.symm hd.symm d2)
   simp(disch:=first|exact Xe|fail)only[hH,d1,d2,↓Xa,Xb,Xc,↓reduceIte,Nat.reduceLT,Nat.reduceEqDiff,Nat.reduceBEq,Nat.reduceLeDiff,Nat.reduceAdd]
   refine Settle.now ⟨k,Nat.lt_succ_self k,⟨by omega,?_⟩,rfl⟩
   rw[List.drop_eq_getElem_cons (by omega),List.drop_eq_getElem_cons (i:=k) (l:=y) (by omega),hd]
   congr 1
   have e1:x.getD k 0=x[k]:=by simp[List.getD_eq_getElem?_getD,List.getElem?_eq_getElem (show k<x.length by omega)]
   have e2:y.getD k 0=y[k]:=by simp[List.getD_eq_getElem?_getD,List.getElem?_eq_getElem (show k<y.length by omega)]
   omega
 ·by_cases c1:x.length<y.length
  ·simp(disch:=first|exact Xe|fail)only[hH,zLN,c0,c1,zHA,↓Xa,Xb,Xc,↓reduceIte,Nat.reduceLT,Nat.reduceEqDiff,Nat.reduceBEq,Nat.reduceLeDiff,Nat.reduceAdd]
   exact less (lt1 c1)
  ·simp(disch:=first|exact Xe|fail)only[hH,zLN,c0,c1,zHA,↓Xa,Xb,Xc,↓reduceIte,Nat.reduceLT,Nat.reduceEqDiff,Nat.reduceBEq,Nat.reduceLeDiff,Nat.reduceAdd]
   exact more (lt2 (by omega))
theorem zKJ{H:AHeap}{Q:AV→AHeap→Prop}{bb ty L:Nat}(m n:Nat)(ta tb:Bool)(hH:H bb=some (.row ty 1 (U (digs 65536 m))))(hL:(digs 65536 m).length=L)(hq: ∀x H',grow H 168 (pad 65536 (m-n) (digs 65536 m).length) x H'→Q x H')(hmn:n≤m)(hm:(digs 65536 m).length≤1099511627776):Run Tryz.prog 201 [.own bb L 0 L ta,LS (digs 65536 n) tb] H Q:=by
 subst hL
 have la:=zAG (B:=65536) (by omega) m
 have lb:=zAG (B:=65536) (by omega) n
 have va:=zAJ (B:=65536) (by omega) m
 have vb:=zAJ (B:=65536) (by omega) n
 have hlb:(digs 65536 n).length≤(digs 65536 m).length:=by
  rcases Nat.lt_or_ge (digs 65536 m).length (digs 65536 n).length with h|h
  ·have:=zBY (by omega) h;omega
  ·exact h
 refine zNM (by simp) ?_
 simp(disch:=first|exact Xe|fail)only[zZ4,↓Xa,Xb,Xc,↓reduceIte,Nat.reduceLT,Nat.reduceEqDiff,Nat.reduceBEq,Nat.reduceLeDiff,Nat.reduceAdd]
 refine zAO (fun s:Nat×Nat×List Nat×AV×AHeap=>⟨[],[(0,.own bb (digs 65536 m).length 0 (digs 65536 m).length ta),(1,LS (digs 65536 n) tb),(5,s.2.2.2.1),(6,.int .u32 s.2.1),(7,.int .i64 s.1)],s.2.2.2.2⟩)
  (fun s=>s.1≤(digs 65536 m).length∧grow H 168 s.2.2.1 s.2.2.2.1 s.2.2.2.2∧MinI (digs 65536 m) (digs 65536 n) s.1 s.2.1 s.2.2.1) (fun s=>(digs 65536 m).length-s.1)
  (0,0,[],_,_) (Settle.now rfl) ⟨by simp,zEB,MinI.zero _ _⟩ ?_
 rintro⟨i,c,done,x,H'⟩ ⟨g0,hg,h1⟩
 dsimp only at g0 hg h1 ⊢
 have zIc:=zEc hg hH
 have hd:=h1.1
 have hc:=h1.2.2.1
 have hx:=la.getD (by omega) i
 have hy:=lb.getD (by omega) i
 by_cases hi:i<(digs 65536 m).length
 ·by_cases hj:i<(digs 65536 n).length
  ·by_cases hv:(digs 65536 m).getD i 0<c+(digs 65536 n).getD i 0
   ·simp(disch:=first|exact Xe|fail)only[zIc,hi,hj,hv,↓Xa,Xb,Xc,↓reduceIte,Nat.reduceLT,Nat.reduceEqDiff,Nat.reduceBEq,Nat.reduceLeDiff,Nat.reduceAdd]
    refine zBS (m:=[(digs 65536 m).getD i 0+65536-(c+(digs 65536 n).getD i 0)]) hg rfl (by simp) (by simp;omega) fun x' H2 hg2=>?_
    have hold2:=zEc hg2 hH
    simp(disch:=first|exact Xe|fail)only[↓Xa,Xb,Xc,↓reduceIte,Nat.reduceLT,Nat.reduceEqDiff,Nat.reduceBEq,Nat.reduceLeDiff,Nat.reduceAdd]
    refine Settle.now ⟨(i+1,1,_,_,_),by dsimp only;omega,⟨by dsimp only;omega,hg2,h1.step (c':=1) (by omega) rfl (by omega) (by omega)⟩,rfl⟩
   ·simp(disch:=first|exact Xe|fail)only[zIc,hi,hj,hv,↓Xa,Xb,Xc,↓reduceIte,Nat.reduceLT,Nat.reduceEqDiff,Nat.reduceBEq,Nat.reduceLeDiff,Nat.reduceAdd]
    refine zBS (m:=[(digs 65536 m).getD i 0-(c+(digs 65536 n).getD i 0)]) hg rfl (by simp) (by simp;omega) fun x' H2 hg2=>?_
    have hold2:=zEc hg2 hH
    simp(disch:=first|exact Xe|fail)only[↓Xa,Xb,Xc,↓reduceIte,Nat.reduceLT,Nat.reduceEqDiff,Nat.reduceBEq,Nat.reduceLeDiff,Nat.reduceAdd]
    refine Settle.now ⟨(i+1,0,_,_,_),by dsimp only;omega,⟨by dsimp only;omega,hg2,h1.step (c':=0) (by omega) rfl (by omega) (by omega)⟩,rfl⟩
  ·have b:=zAp (show(digs 65536 n).length≤i by omega)
   by_cases hv:(digs 65536 m).getD i 0<c
   ·simp(disch:=first|exact Xe|fail)only[zIc,hi,hj,hv,↓Xa,Xb,Xc,↓reduceIte,Nat.reduceLT,Nat.reduceEqDiff,Nat.reduceBEq,Nat.reduceLeDiff,Nat.reduceAdd]
    refine zBS (m:=[(digs 65536 m).getD i 0+65536-c]) hg rfl (by simp) (by simp;omega) fun x' H2 hg2=>?_
    have hold2:=zEc hg2 hH
    simp(disch:=first|exact Xe|fail)only[↓Xa,Xb,Xc,↓reduceIte,Nat.reduceLT,Nat.reduceEqDiff,Nat.reduceBEq,Nat.reduceLeDiff,Nat.reduceAdd]
    refine Settle.now ⟨(i+1,1,_,_,_),by dsimp only;omega,⟨by dsimp only;omega,hg2,h1.step (c':=1) (by omega) rfl (by omega) (by omega)⟩,rfl⟩
   ·simp(disch:=first|exact Xe|fail)only[zIc,hi,hj,hv,↓Xa,Xb,Xc,↓reduceIte,Nat.reduceLT,Nat.reduceEqDiff,Nat.reduceBEq,Nat.reduceLeDiff,Nat.reduceAdd]
    refine zBS (m:=[(digs 65536 m).getD i 0-c]) hg rfl (by simp) (by simp;omega) fun x' H2 hg2=>?_
    have hold2:=zEc hg2 hH
    simp(disch:=first|exact Xe|fail)only[↓Xa,Xb,Xc,↓reduceIte,Nat.reduceLT,Nat.reduceEqDiff,Nat.reduceBEq,Nat.reduceLeDiff,Nat.reduceAdd]
    refine Settle.now ⟨(i+1,0,_,_,_),by dsimp only;omega,⟨by dsimp only;omega,hg2,h1.step (c':=0) (by omega) rfl (by omega) (by omega)⟩,rfl⟩
 ·obtain rfl:i=(digs 65536 m).length:=by omega
  simp(disch:=first|exact Xe|fail)only[zIc,hi,↓Xa,Xb,Xc,↓reduceIte,Nat.reduceLT,Nat.reduceEqDiff,Nat.reduceBEq,Nat.reduceLeDiff,Nat.reduceAdd]
  refine Settle.now ?_
  simp(disch:=first|exact Xe|fail)only[zX1,↓Xa,Xb,Xc,↓reduceIte,Nat.reduceLT,Nat.reduceEqDiff,Nat.reduceBEq,Nat.reduceLeDiff,Nat.reduceAdd]
  have e:=h1.end la hlb (by omega)
  rw[va,vb]at e
  rw[e]at hg
  exact SetR.now (hq _ _ hg)
theorem zG0{H:AHeap}{Q:AV→AHeap→Prop}{bb ty L:Nat}{l:List Nat}(neg t:Bool)(hH:H bb=some (.row ty 1 (U l)))(hL:l.length=L)(hq: ∀ti,Q (.agg [.bool (neg&&decide (0<(tr l).length)),.own bb L 0 (tr l).length ti]) H)(hl:Lim 65536 l)(hn:l.length≤8796093022208):Run Tryz.prog 147 [.bool neg,.own bb L 0 L t] H Q:=by
 subst hL
 refine zMO (by simp) ?_
 simp(disch:=first|exact Xe|fail)only[zIx,↓Xa,Xb,Xc,↓reduceIte,Nat.reduceLT,Nat.reduceEqDiff,Nat.reduceBEq,Nat.reduceLeDiff,Nat.reduceAdd]
 refine zAD fun p hp=>?_
 have hAp:Ap bb p:=fun e=>by rw[e,hp]at hH;cases hH
 simp(disch:=first|exact Xe|fail)only[↓Xa,Xb,Xc,↓reduceIte,Nat.reduceLT,Nat.reduceEqDiff,Nat.reduceBEq,Nat.reduceLeDiff,Nat.reduceAdd]
 refine zAO (fun n:Nat=>⟨[],[(0,.bool neg),(1,.own bb l.length 0 l.length t),(4,.ptr p 2 0),(5,.int .i64 n)],H.upd p (some (.row 44 0 [.bool false,.seq 0 [] true]))⟩) (fun n=>n≤l.length∧∀i,n≤i→i<l.length→l.getD i 0=0) id l.length (Settle.now rfl) ⟨Nat.le_refl _,fun i h1 h2=>absurd h1 (by omega)⟩ ?_
 rintro n ⟨h1,hz⟩
 have fin: ∀ti,(n=0∨l.getD (n-1) 0≠0)→SetR Q (.agg [.bool (neg&&decide (0<n)),.own bb l.length 0 n ti]) (H.upd p (some (.row 44 0 [.bool (neg&&decide (0<n)),.own bb l.length 0 n ti]))):=fun ti h=>by
  have e2:n=(tr l).length:=by
   have:=congrArg List.length (zGz h1 hz h)
   rw[List.length_take,Nat.min_eq_left h1]at this;exact this
  have:=hq ti
  rw[← e2]at this
  exact SetR.dropTo ((Le.refl H).upd hp) (SetR.now this)
 have last:(n=0∨l.getD (n-1) 0≠0)→W Tryz.prog (zBZ (zBZ (zBZ zIx))) (zFg zLc Q) ⟨[],[(0,.bool neg),(1,.own bb l.length 0 l.length t),(4,.ptr p 2 0),(5,.int .i64 n),(17,.bool false)],H.upd p (some (.row 44 0 [.bool false,.seq 0 [] true]))⟩:=fun h=>by
  have f:=fun ti=>fin ti h
  cases neg
  ·simp(disch:=first|exact Xe|fail)only[hH,zIL,zIx,zLc,zBZ,↓Xa,Xb,Xc,↓reduceIte,Nat.reduceLT,Nat.reduceEqDiff,Nat.reduceBEq,Nat.reduceLeDiff,Nat.reduceAdd]
   exact f _
  ·simp(disch:=first|exact Xe|fail)only[hH,zIL,zIx,zLc,zBZ,↓Xa,Xb,Xc,↓reduceIte,Nat.reduceLT,Nat.reduceEqDiff,Nat.reduceBEq,Nat.reduceLeDiff,Nat.reduceAdd]
   exact f _
 by_cases h0:0<n
 ·by_cases h2:l.getD (n-1) 0=0
  ·simp(disch:=first|exact Xe|fail)only[hH,h0,h2,↓Xa,Xb,Xc,↓reduceIte,Nat.reduceLT,Nat.reduceEqDiff,Nat.reduceBEq,Nat.reduceLeDiff,Nat.reduceAdd]
   refine Settle.now ⟨n-1,?_,⟨by omega,fun i hi hl'=>?_⟩,rfl⟩
   ·show n-1<n;omega
   ·rcases Nat.lt_or_ge i n with h|h
    ·rw[show i=n-1 by omega];exact h2
    ·exact hz i h hl'
  ·simp(disch:=first|exact Xe|fail)only[hH,h0,h2,↓Xa,Xb,Xc,↓reduceIte,Nat.reduceLT,Nat.reduceEqDiff,Nat.reduceBEq,Nat.reduceLeDiff,Nat.reduceAdd]
   exact Settle.now (last (.inr h2))
 ·simp(disch:=first|exact Xe|fail)only[hH,h0,↓Xa,Xb,Xc,↓reduceIte,Nat.reduceLT,Nat.reduceEqDiff,Nat.reduceBEq,Nat.reduceLeDiff,Nat.reduceAdd]
  exact Settle.now (last (.inl (by omega)))
theorem zcy(n k:Nat)(t:Bool)(hn:(digs 65536 n).length≤1099511627776)(hk:k / 16<(digs 65536 n).length):PFn Tryz.prog 200 [LS (digs 65536 n) t,.int .i64 (k:Int)] (.int .u32 ((n / 2^k%2:Nat):Int)):=by
 intro H Q hq
 have hd:=(zAG (B:=65536) (by omega) n).getD (by omega) (k / 16)
 have hb:=zd8 (n:=n) (k:=k)
 have hk2:k<9223372036854775808:=by omega
 have and1: ∀{a:Nat}{K:AV→Prop}(_:a<4294967296),zAy .and (.int .u32 (a:Int)) (.int .u32 ((1:Nat):Int)) K↔K (.int .u32 ((a%2:Nat):Int)):=fun{a K} ha=>by
  rw[zGm .u32 (by simpa[IntKind.bits]using ha) (by simp[IntKind.bits]),Nat.and_one_is_mod,zE6 (by omega)]
 have hdiv:(digs 65536 n).getD (k / 16) 0 / 2^(k%16)<4294967296:=Nat.lt_of_le_of_lt (Nat.div_le_self _ _) (by omega)
 have ht:k%16≤32:=by omega
 have hq16:k / 16<9223372036854775808:=by omega
 refine zV2 (by simp) ?_
 simp(disch:=first|exact Xe|fail)only[zc5,ne_eq,Nat.reduceEqDiff,and1,hb,zdt,↓Xa,Xb,Xc,↓reduceIte,Nat.reduceLT,Nat.reduceEqDiff,Nat.reduceBEq,Nat.reduceLeDiff,Nat.reduceAdd]
 exact SetR.now hq
theorem zV6{m n:Nat}(ta tb:Bool)(hn:0<n)(hn1:n<65536)(hm:(digs 65536 m).length≤1099511627776):
 PFn Tryz.prog 134 [LS (digs 65536 m) ta,LS (digs 65536 n) tb] (.tup [LS (digs 65536 (m / n)) false,LS (digs 65536 (m%n)) false]):=by
 intro H Q hq
 have vm:=zAJ (B:=65536) (by omega) m
 have lm:=zAG (B:=65536) (by omega) m
 have hne:(n=0)=False:=eq_false (by omega)
 have hY:digs 65536 n=[n]:=by rw[zA1 (by omega) hn,Nat.mod_eq_of_lt hn1,Nat.div_eq_of_lt hn1,zAQ]
 rw[hY]
 generalize digs 65536 m=a at*
 refine zMg (by simp) ?_
 have l1:([n]:List Nat).length=1:=rfl
 have g1:([n]:List Nat).getD 0 0=n:=rfl
 simp(disch:=first|exact Xe|fail)only[zX4,l1,g1,zJB,↓Xa,Xb,Xc,↓reduceIte,Nat.reduceLT,Nat.reduceEqDiff,Nat.reduceBEq,Nat.reduceLeDiff,Nat.reduceAdd]
 refine zDW fun o ho=>?_
 simp(disch:=first|exact Xe|fail)only[↓Xa,Xb,Xc,↓reduceIte,Nat.reduceLT,Nat.reduceEqDiff,Nat.reduceBEq,Nat.reduceLeDiff,Nat.reduceAdd]
 refine zAO (fun p:Nat×Nat×List Nat=>⟨[],[(0,LS a ta),(1,LS [n] tb),(6,.own o a.length 0 a.length true),(7,.int .u64 p.2.1),(8,.int .i64 (dn p.1))],
  H.upd o (some (.row 168 1 (U p.2.2)))⟩)
  (fun p=>p.1≤a.length∧DivJ a n p.1 p.2.1 p.2.2) (fun p=>p.1) (a.length,0,List.replicate a.length 0) (Settle.now rfl) ⟨by simp,DivJ.zero a hn⟩ ?_
 rintro⟨k,r,out⟩ ⟨h1,h2⟩
 dsimp only at h1 h2 ⊢
 have hol:=h2.1
 have hr:=h2.2.2.1
 cases k with
 |zero=>
  simp(disch:=first|exact Xe|fail)only[↓Xa,Xb,Xc,↓reduceIte,Nat.reduceLT,Nat.reduceEqDiff,Nat.reduceBEq,Nat.reduceLeDiff,Nat.reduceAdd]
  refine Settle.freeze 6 rfl (zAC _ _ _) (by simp[hol]) (.inr (by simp)) ?_
  have e1:AV.seq a.length (((U out).drop 0).take (a.length*1)) true=LS out true:=by
   rw[List.drop_zero,Nat.mul_one,← hol,List.take_of_length_le (by simp)];rfl
  rw[e1,zAP,zAU _ ho]
  refine Settle.now ?_
  simp(disch:=first|exact Xe|fail)only[↓Xa,Xb,Xc,↓reduceIte,Nat.reduceLT,Nat.reduceEqDiff,Nat.reduceBEq,Nat.reduceLeDiff,Nat.reduceAdd]
  refine(zBs false true h2.2.1 (by omega)).call ?_
  simp(disch:=first|exact Xe|fail)only[zBd,↓Xa,Xb,Xc,↓reduceIte,Nat.reduceLT,Nat.reduceEqDiff,Nat.reduceBEq,Nat.reduceLeDiff,Nat.reduceAdd]
  refine(zBs (l:=[r]) false true (Lim.one (by omega)) (by simp)).call ?_
  simp(disch:=first|exact Xe|fail)only[zBd,zYB,↓Xa,Xb,Xc,↓reduceIte,Nat.reduceLT,Nat.reduceEqDiff,Nat.reduceBEq,Nat.reduceLeDiff,Nat.reduceAdd]
  refine SetR.now ?_
  have e2:=h2.end
  rw[zAv (by omega) h2.2.1,vm]at e2
  rw[zCq,zCq,zFC,e2.1,e2.2]
  exact hq
 |succ k=>
  clear l1 g1 hY vm hne ho
  have hx:=lm.getD (by omega) k
  have hs:r*65536+a.getD k 0<4294967296:=by omega
  have hne:(n=0)=False:=eq_false (by omega)
  have hw:IntKind.u32.wrap (((r*65536+a.getD k 0) / n:Nat):Int)=(((r*65536+a.getD k 0) / n:Nat):Int):=zE6 (Nat.lt_of_le_of_lt (Nat.div_le_self _ _) hs)
  have hw2:IntKind.u64.wrap (((r*65536+a.getD k 0) / n:Nat):Int)=(((r*65536+a.getD k 0) / n:Nat):Int):=zDu (Nat.lt_trans (Nat.lt_of_le_of_lt (Nat.div_le_self _ _) hs) (by decide))
  have hwm:IntKind.u64.wrap ((r*65536:Nat):Int)=((r*65536:Nat):Int):=zDu (Nat.lt_trans (Nat.lt_of_le_of_lt (Nat.le_add_right _ _) hs) (by decide))
  have hwa:IntKind.u64.wrap ((r*65536+a.getD k 0:Nat):Int)=((r*65536+a.getD k 0:Nat):Int):=zDu (Nat.lt_trans hs (by decide))
  have hd66:(r*65536+a.getD k 0) / n<65536:=by
   apply Nat.div_lt_of_lt_mul
   have:(r+1)*65536≤n*65536:=Nat.mul_le_mul_right _ hr
   omega
  have hst:=h2.step (s:=r*65536+a.getD k 0) (by omega) lm hn1 rfl
  rw[Nat.mod_eq_of_lt hd66]at hst
  have hqm:(r*65536+a.getD k 0) / n%18446744073709551616%4294967296=(r*65536+a.getD k 0) / n:=by
   rw[Nat.mod_eq_of_lt (Nat.lt_trans hd66 (by decide)),Nat.mod_eq_of_lt (Nat.lt_trans hd66 (by decide))]
  clear hd66
  generalize hqd:(r*65536+a.getD k 0) / n=qd at*
  generalize hrd:(r*65536+a.getD k 0)%n=rd at*
  generalize hsd:r*65536+a.getD k 0=sd at*
  simp(disch:=first|exact Xe|fail)only[hne,ne_eq,List.getD_cons_zero,zJB,↓hwm,↓hwa,hsd,hqd,hrd,↓hw,↓hw2,↓Xa,Xb,Xc,↓reduceIte,Nat.reduceLT,Nat.reduceEqDiff,Nat.reduceBEq,Nat.reduceLeDiff,Nat.reduceAdd]
  exact Settle.now ⟨(k,_,_),by dsimp only;omega,⟨by dsimp only;omega,hst⟩,rfl⟩
theorem zPJ{H0 H:AHeap}{ty:Nat}{l:List Nat}{x:AV}{K:AV→Prop}(h:zLg H0 ty l x H)(hl:l.length<2^63):zEE false x K=K (.int .i64 ((l.length:Nat):Int)):=by
 rcases h with⟨rfl,rfl,rfl⟩|⟨b,_,rfl,rfl⟩
 ·simp[zEE]
 ·simp[zEE,hl]
structure LongK(A V M:Nat)(ql:List Nat):Prop where
 hM:M≤blen A
 qlen:ql.length=(digs 65536 A).length
 qlim:Lim 65536 ql
 qval:val 65536 ql=A / 2^M / V*2^M
theorem zPu{A V:Nat}(ta tb:Bool)(hV:0<V)(hV1: ¬(digs 65536 V).length=1)(hA:(digs 65536 A).length≤549755813888)(hVl:(digs 65536 V).length≤549755813888):
 PFn Tryz.prog 134 [LS (digs 65536 A) ta,LS (digs 65536 V) tb] (.tup [LS (digs 65536 (A / V)) false,LS (digs 65536 (A%V)) false]):=by
 intro H Q hq
 have hbl:blen A≤16*549755813888:=by
  rcases Nat.eq_zero_or_pos A with e|e
  ·rw[e,zKK];omega
  ·have hb:blen A=16*((digs 65536 A).length-1)+blen ((digs 65536 A).getD ((digs 65536 A).length-1) 0):=zEw (w:=16) (by omega) e
   have hd:=(zAG (B:=65536) (by omega) A).getD (by omega) ((digs 65536 A).length-1)
   have hp:0<(digs 65536 A).length:=by rw[zA1 (by omega) e];simp
   have:blen ((digs 65536 A).getD ((digs 65536 A).length-1) 0)≤16:=zBc.2 (by omega)
   omega
 refine zMg (by simp) ?_
 simp(disch:=first|exact Xe|fail)only[zX4,hV1,↓Xa,Xb,Xc,↓reduceIte,Nat.reduceLT,Nat.reduceEqDiff,Nat.reduceBEq,Nat.reduceLeDiff,Nat.reduceAdd]
 refine zDW fun bq hbq=>?_
 simp(disch:=first|exact Xe|fail)only[↓Xa,Xb,Xc,↓reduceIte,Nat.reduceLT,Nat.reduceEqDiff,Nat.reduceBEq,Nat.reduceLeDiff,Nat.reduceAdd]
 refine(zQv A ta (by omega)).call ?_
 simp(disch:=first|exact Xe|fail)only[↓Xa,Xb,Xc,↓reduceIte,Nat.reduceLT,Nat.reduceEqDiff,Nat.reduceBEq,Nat.reduceLeDiff,Nat.reduceAdd]
 refine zAO (fun s:Nat×List Nat×AV×AHeap=>⟨[],[(0,LS (digs 65536 A) ta),(1,LS (digs 65536 V) tb),(9,.own bq (digs 65536 A).length 0 (digs 65536 A).length true),(10,s.2.2.1),(11,.int .i64 (dn s.1))],s.2.2.2⟩)
  (fun s=>LongK A V s.1 s.2.1∧zLg (H.upd bq (some (.row 168 1 (U s.2.1)))) 168 (digs 65536 (A / 2^s.1%V)) s.2.2.1 s.2.2.2) (fun s=>s.1)
  (blen A,List.replicate (digs 65536 A).length 0,.seq 0 [] true,H.upd bq (some (.row 168 1 (U (List.replicate (digs 65536 A).length 0))))) (Settle.now rfl) ?_ ?_
 ·have z:A / 2^blen A=0:=Nat.div_eq_of_lt (zQ7 A)
  refine⟨⟨Nat.le_refl _,by simp,zCI (by omega) _,?_⟩,.inl ⟨?_,rfl,rfl⟩⟩
  ·dsimp only;rw[zCz,z,Nat.zero_div,Nat.zero_mul]
  ·dsimp only;rw[z,Nat.zero_mod,zAQ]
 rintro⟨M,ql,x,H1⟩ ⟨hk,hg⟩
 dsimp only at hk hg ⊢
 have hM:=hk.hM
 cases M with
 |zero=>
  obtain⟨q1,q2,q3⟩:ql.length=(digs 65536 A).length∧Lim 65536 ql∧val 65536 ql=A / V:=⟨hk.qlen,hk.qlim,by have:=hk.qval;simpa using this⟩
  rw[Nat.pow_zero,Nat.div_one]at hg
  have hkeep:=hg
  simp(disch:=first|exact Xe|fail)only[↓Xa,Xb,Xc,↓reduceIte,Nat.reduceLT,Nat.reduceEqDiff,Nat.reduceBEq,Nat.reduceLeDiff,Nat.reduceAdd]
  refine Settle.grownO 10 rfl hg ?_
  refine Settle.freeze 9 rfl (zAC _ _ _) (by simp[q1]) (.inr (by simp)) ?_
  have e1:AV.seq (digs 65536 A).length (((U ql).drop 0).take ((digs 65536 A).length*1)) true=LS ql true:=by
   rw[List.drop_zero,Nat.mul_one,← q1,List.take_of_length_le (by simp)];rfl
  rw[e1,zAP,zAU _ hbq]
  refine Settle.now ?_
  simp(disch:=first|exact Xe|fail)only[↓Xa,Xb,Xc,↓reduceIte,Nat.reduceLT,Nat.reduceEqDiff,Nat.reduceBEq,Nat.reduceLeDiff,Nat.reduceAdd]
  refine(zBs false true q2 (by omega)).call ?_
  simp(disch:=first|exact Xe|fail)only[zBd,zYB,↓Xa,Xb,Xc,↓reduceIte,Nat.reduceLT,Nat.reduceEqDiff,Nat.reduceBEq,Nat.reduceLeDiff,Nat.reduceAdd]
  refine SetR.now ?_
  rw[zCq,q3]
  exact hq
 |succ k=>
  have hA0:0<A:=zE4.1 (by omega)
  have h2k:2^k≤A:=Nat.le_trans (Nat.pow_le_pow_right (by omega) (by omega)) (zI1 hA0)
  have hkl:=zZM h2k
  have hRl:(digs 65536 (A / 2^(k+1)%V)).length≤549755813888:=by
   refine Nat.le_trans (zA5 (by omega) _ _ ?_) hVl
   have h1:=zBG (zAG (B:=65536) (by omega) V)
   rw[zAJ (by omega)]at h1
   exact Nat.lt_trans (Nat.mod_lt _ hV) h1
  have hc1:A / 2^k%2≤1:=by omega
  have hls:=zQz (A:=A) (k:=k) hV
  simp(disch:=first|exact Xe|fail)only[↓Xa,Xb,Xc,↓reduceIte,Nat.reduceLT,Nat.reduceEqDiff,Nat.reduceBEq,Nat.reduceLeDiff,Nat.reduceAdd]
  refine(zcy A k ta (by omega) hkl).call ?_
  simp(disch:=first|exact Xe|fail)only[↓Xa,Xb,Xc,↓reduceIte,Nat.reduceLT,Nat.reduceEqDiff,Nat.reduceBEq,Nat.reduceLeDiff,Nat.reduceAdd]
  generalize hR:A / 2^(k+1)%V=R at*
  generalize A / 2^k%2=c0 at*
  have hXl:=zAG (B:=65536) (by omega) R
  refine zAO (fun s:Nat×Nat×List Nat×AV×AHeap=>⟨[],[(0,LS (digs 65536 A) ta),(1,LS (digs 65536 V) tb),(9,.own bq (digs 65536 A).length 0 (digs 65536 A).length true),(10,s.2.2.2.1),(11,.int .i64 k),(12,.int .u32 s.2.1),(13,.int .i64 s.1)],s.2.2.2.2⟩)
   (fun s=>s.1≤(digs 65536 R).length∧DblI (digs 65536 R) c0 s.1 s.2.1 s.2.2.1∧zLg (H.upd bq (some (.row 168 1 (U ql)))) 168 (s.2.2.1++(digs 65536 R).drop s.1) s.2.2.2.1 s.2.2.2.2) (fun s=>(digs 65536 R).length-s.1)
   (0,c0,[],x,H1) (Settle.now rfl) ⟨Nat.zero_le _,DblI.zero _ hc1,hg⟩ ?_
  rintro⟨i,c,done,x',H2⟩ ⟨g1,g2,g3⟩
  dsimp only at g1 g2 g3 ⊢
  have hd:=g2.1
  have hc:=g2.2.2.1
  have hcl:(done++(digs 65536 R).drop i).length=(digs 65536 R).length:=by simp[hd];omega
  have hlen: ∀K,zEE false x' K=K (.int .i64 (((digs 65536 R).length:Nat):Int)):=fun K=>by
   rw[zPJ g3 (by omega),hcl]
  by_cases hi:i<(digs 65536 R).length
  ·have hx:=hXl.getD (by omega) i
   rcases g3 with⟨e1,_,_⟩|⟨br,hbr,rfl,rfl⟩
   ·rw[e1]at hcl;simp at hcl;omega
   ·have p1:(done++(digs 65536 R).drop i).getD i 0=(digs 65536 R).getD i 0:=zIo hd hi
    have p2: ∀y,(done++(digs 65536 R).drop i).set i y=(done++[y])++(digs 65536 R).drop (i+1):=fun y=>zIj hd hi
    rw[hcl]
    generalize hrow:done++(digs 65536 R).drop i=row at*
    simp(disch:=first|exact Xe|fail)only[hi,p1,ne_eq,Nat.reduceEqDiff,↓Xa,Xb,Xc,↓reduceIte,Nat.reduceLT,Nat.reduceEqDiff,Nat.reduceBEq,Nat.reduceLeDiff,Nat.reduceAdd]
    rw[p2]
    have e3:(done++[(c+2*(digs 65536 R).getD i 0)%65536]++(digs 65536 R).drop (i+1)).length=(digs 65536 R).length:=by
     simp[hd];omega
    exact Settle.now ⟨(i+1,_,done++[(c+2*(digs 65536 R).getD i 0)%65536],_,_),by dsimp only;omega,⟨by dsimp only;omega,g2.step hXl rfl,.inr ⟨br,hbr,by rw[e3],rfl⟩⟩,rfl⟩
  ·obtain rfl:i=(digs 65536 R).length:=by omega
   have hend:=g2.end hc1
   rw[List.drop_of_length_le (Nat.le_refl _),List.append_nil]at g3
   simp(disch:=first|exact Xe|fail)only[hlen,hi,↓Xa,Xb,Xc,↓reduceIte,Nat.reduceLT,Nat.reduceEqDiff,Nat.reduceBEq,Nat.reduceLeDiff,Nat.reduceAdd]
   refine Settle.now ?_
   by_cases h0:0<c
   ·rw[if_pos h0]at hend
    simp(disch:=first|exact Xe|fail)only[h0,↓Xa,Xb,Xc,↓reduceIte,Nat.reduceLT,Nat.reduceEqDiff,Nat.reduceBEq,Nat.reduceLeDiff,Nat.reduceAdd]
    refine appO (m:=[c]) g3 rfl (by simp) (by simp;omega) fun x2 H3 g4=>?_
    rw[hend]at g4
    simp(disch:=first|exact Xe|fail)only[↓Xa,Xb,Xc,↓reduceIte,Nat.reduceLT,Nat.reduceEqDiff,Nat.reduceBEq,Nat.reduceLeDiff,Nat.reduceAdd]
    rcases g4 with⟨z1,rfl,rfl⟩|⟨b2,hb2,rfl,rfl⟩
    ·have z2:2*R+c0=0:=(zCi (B:=65536) (by omega)).1 z1
     obtain⟨f1,f2⟩:=hls.2 (by omega)
     rw[zbv 65536]
     refine(zGw 0 V true tb (by rw[zAQ];simp) (by omega)).call ?_
     rw[show zBy 0 V= -1 by simp[zBy,hV]]
     simp(disch:=first|exact Xe|fail)only[zDJ,↓Xa,Xb,Xc,↓reduceIte,Nat.reduceLT,Nat.reduceEqDiff,Nat.reduceBEq,Nat.reduceLeDiff,Nat.reduceAdd]
     refine Settle.keep [0,1,9,10,11] ⟨(k,ql,_,_),by dsimp only;omega,⟨⟨by dsimp only;omega,hk.qlen,hk.qlim,?_⟩,.inl ⟨?_,rfl,rfl⟩⟩,by rw[← zbv 65536];rfl⟩
     ·dsimp only;rw[hk.qval,f2,Nat.pow_succ];grind
     ·dsimp only;rw[f1,z2,zAQ]
    ·have ap1:=(zAB.1 hb2).1
     have hX2l:(digs 65536 (2*R+c0)).length≤1099511627776:=by
      refine Nat.le_trans (zA5 (by omega) ((digs 65536 V).length+1) _ ?_) (by omega)
      have q1:=zBG (zAG (B:=65536) (by omega) V)
      rw[zAJ (by omega)]at q1
      have q2:R<V:=hR▸Nat.mod_lt _ hV
      rw[Nat.pow_succ];omega
     refine zAM (zM6 (2*R+c0) V false tb (zAC _ _ _) rfl ?_ hX2l (by omega))
     by_cases hge:V≤2*R+c0
     ·obtain⟨f1,f2⟩:=hls.1 hge
      have c3: ∀K,zAy .geq (.int .i64 (zBy (2*R+c0) V)) (.int .i64 ((0:Nat):Int)) K↔K (.bool true):=fun K=>by
       have:(0:Int)≤zBy (2*R+c0) V:=by unfold zBy;rw[if_neg (by omega)];split<;>omega
       simp[zAy,zAi];rw[decide_eq_true this]
      simp(disch:=first|exact Xe|fail)only[c3,↓Xa,Xb,Xc,↓reduceIte,Nat.reduceLT,Nat.reduceEqDiff,Nat.reduceBEq,Nat.reduceLeDiff,Nat.reduceAdd]
      refine zAM (zKJ (2*R+c0) V false tb (zAC _ _ _) rfl ?_ hge hX2l)
      intro x3 H4 g5
      have hpl:(digs 65536 (2*R+c0-V)).length≤(digs 65536 (2*R+c0)).length:=zA5 (by omega) _ _ (by
       have:=zBG (zAG (B:=65536) (by omega) (2*R+c0));rw[zAJ (by omega)]at this;omega)
      have hpad:=zET hpl
      have hp0:0<(digs 65536 (2*R+c0)).length:=by rw[zA1 (by omega) (show 0<2*R+c0 by omega)];simp
      rcases g5 with⟨z1,_,_⟩|⟨_,b3,hb3,rfl,rfl⟩
      ·rw[z1]at hpad;simp at hpad;omega
      ·have ap2:=(zAB.1 hb3).1
       have ap3:=(zAB.1 (zAB.1 hb3).2).1
       have hn3:=(zAB.1 (zAB.1 hb3).2).2
       simp(disch:=first|exact Xe|fail)only[↓Xa,Xb,Xc,↓reduceIte,Nat.reduceLT,Nat.reduceEqDiff,Nat.reduceBEq,Nat.reduceLeDiff,Nat.reduceAdd]
       refine zAM (zG0 false false (zAC _ _ _) rfl (fun ti=>?_) (zDk (by omega)) (by omega))
       have htr:tr (pad 65536 (2*R+c0-V) (digs 65536 (2*R+c0)).length)=digs 65536 (2*R+c0-V):=by
        rw[zAv (B:=65536) (by omega) (zDk (by omega)),zFQ (by omega)]
       have hpt:(pad 65536 (2*R+c0-V) (digs 65536 (2*R+c0)).length).take (digs 65536 (2*R+c0-V)).length=digs 65536 (2*R+c0-V):=by
        unfold pad;simp
       rw[htr,hpad]
       obtain⟨o1,o2,o3⟩:=zRv hk.qlim (by rw[hk.qlen];exact hkl) hk.qval
       have hql:=hk.qlen
       have hqd:=hk.qlim.getD (by omega) (k / 16)
       have hk16:k / 16<9223372036854775808:=by omega
       have hpw:(2:Nat)^(k%16)≤2^15:=Nat.pow_le_pow_right (by omega) (by omega)
       have hk32:k%16≤32:=by omega
       have or1: ∀K,zAy .or (.int .u32 ((ql.getD (k / 16) 0:Nat):Int)) (.int .u32 ((2^(k%16):Nat):Int)) K↔K (.int .u32 ((ql.getD (k / 16) 0+2^(k%16):Nat):Int)):=fun K=>by
        rw[zHk .u32 (by simp only[IntKind.bits];omega) (by simp only[IntKind.bits];omega),o1,zE6 (by omega)]
       simp(disch:=first|exact Xe|fail)only[hkl,hql,or1,Nat.one_mul,zGo,ne_eq,Nat.reduceEqDiff,↓Xa,Xb,Xc,↓reduceIte,Nat.reduceLT,Nat.reduceEqDiff,Nat.reduceBEq,Nat.reduceLeDiff,Nat.reduceAdd]
       refine Settle.kill b2 ?_
       rw[zD1 ap2,zAU _ (zAB.2 ⟨ap1,(zAB.1 hb2).2⟩)]
       refine Settle.renew 10 rfl (zAC _ _ _) hpad hpl fun b' hb'=>?_
       rw[zAP,zAU _ (zAB.2 ⟨ap3,hn3⟩)]at hb' ⊢
       rw[hpt]
       refine Settle.now ⟨(k,ql.set (k / 16) (ql.getD (k / 16) 0+2^(k%16)),_,_),by dsimp only;omega,⟨⟨by dsimp only;omega,by simpa using hql,zCu hk.qlim _ _ o2,?_⟩,.inr ⟨b',hb',?_,?_⟩⟩,rfl⟩
       ·dsimp only;rw[f2];exact o3
       ·dsimp only;rw[f1]
       ·exact congrArg (fun z=>(H.upd bq (some (ABlk.row 168 1 (U (ql.set (k / 16) (ql.getD (k / 16) 0+2^(k%16))))))).upd b' (some (.row 168 1 (U (digs 65536 z))))) f1.symm
     ·obtain⟨f1,f2⟩:=hls.2 (by omega)
      have c3: ∀K,zAy .geq (.int .i64 (zBy (2*R+c0) V)) (.int .i64 ((0:Nat):Int)) K↔K (.bool false):=fun K=>by
       simp[zAy,zAi,zBy,show 2*R+c0<V by omega]
      simp(disch:=first|exact Xe|fail)only[c3,↓Xa,Xb,Xc,↓reduceIte,Nat.reduceLT,Nat.reduceEqDiff,Nat.reduceBEq,Nat.reduceLeDiff,Nat.reduceAdd]
      refine Settle.keep [0,1,9,10,11] ⟨(k,ql,_,_),by dsimp only;omega,⟨⟨by dsimp only;omega,hk.qlen,hk.qlim,?_⟩,.inr ⟨b2,hb2,?_,?_⟩⟩,rfl⟩
      ·dsimp only;rw[hk.qval,f2,Nat.pow_succ];grind
      ·dsimp only;rw[f1]
      ·exact congrArg (fun z=>(H.upd bq (some (ABlk.row 168 1 (U ql)))).upd b2 (some (.row 168 1 (U (digs 65536 z))))) f1.symm
   ·rw[if_neg h0]at hend
    rw[hend]at g3
    have g4:=g3
    simp(disch:=first|exact Xe|fail)only[h0,↓Xa,Xb,Xc,↓reduceIte,Nat.reduceLT,Nat.reduceEqDiff,Nat.reduceBEq,Nat.reduceLeDiff,Nat.reduceAdd]
    rcases g4 with⟨z1,rfl,rfl⟩|⟨b2,hb2,rfl,rfl⟩
    ·have z2:2*R+c0=0:=(zCi (B:=65536) (by omega)).1 z1
     obtain⟨f1,f2⟩:=hls.2 (by omega)
     rw[zbv 65536]
     refine(zGw 0 V true tb (by rw[zAQ];simp) (by omega)).call ?_
     rw[show zBy 0 V= -1 by simp[zBy,hV]]
     simp(disch:=first|exact Xe|fail)only[zDJ,↓Xa,Xb,Xc,↓reduceIte,Nat.reduceLT,Nat.reduceEqDiff,Nat.reduceBEq,Nat.reduceLeDiff,Nat.reduceAdd]
     refine Settle.keep [0,1,9,10,11] ⟨(k,ql,_,_),by dsimp only;omega,⟨⟨by dsimp only;omega,hk.qlen,hk.qlim,?_⟩,.inl ⟨?_,rfl,rfl⟩⟩,by rw[← zbv 65536];rfl⟩
     ·dsimp only;rw[hk.qval,f2,Nat.pow_succ];grind
     ·dsimp only;rw[f1,z2,zAQ]
    ·have ap1:=(zAB.1 hb2).1
     have hX2l:(digs 65536 (2*R+c0)).length≤1099511627776:=by
      refine Nat.le_trans (zA5 (by omega) ((digs 65536 V).length+1) _ ?_) (by omega)
      have q1:=zBG (zAG (B:=65536) (by omega) V)
      rw[zAJ (by omega)]at q1
      have q2:R<V:=hR▸Nat.mod_lt _ hV
      rw[Nat.pow_succ];omega
     refine zAM (zM6 (2*R+c0) V false tb (zAC _ _ _) rfl ?_ hX2l (by omega))
     by_cases hge:V≤2*R+c0
     ·obtain⟨f1,f2⟩:=hls.1 hge
      have c3: ∀K,zAy .geq (.int .i64 (zBy (2*R+c0) V)) (.int .i64 ((0:Nat):Int)) K↔K (.bool true):=fun K=>by
       have:(0:Int)≤zBy (2*R+c0) V:=by unfold zBy;rw[if_neg (by omega)];split<;>omega
       simp[zAy,zAi];rw[decide_eq_true this]
      simp(disch:=first|exact Xe|fail)only[c3,↓Xa,Xb,Xc,↓reduceIte,Nat.reduceLT,Nat.reduceEqDiff,Nat.reduceBEq,Nat.reduceLeDiff,Nat.reduceAdd]
      refine zAM (zKJ (2*R+c0) V false tb (zAC _ _ _) rfl ?_ hge hX2l)
      intro x3 H4 g5
      have hpl:(digs 65536 (2*R+c0-V)).length≤(digs 65536 (2*R+c0)).length:=zA5 (by omega) _ _ (by
       have:=zBG (zAG (B:=65536) (by omega) (2*R+c0));rw[zAJ (by omega)]at this;omega)
      have hpad:=zET hpl
      have hp0:0<(digs 65536 (2*R+c0)).length:=by rw[zA1 (by omega) (show 0<2*R+c0 by omega)];simp
      rcases g5 with⟨z1,_,_⟩|⟨_,b3,hb3,rfl,rfl⟩
      ·rw[z1]at hpad;simp at hpad;omega
      ·have ap2:=(zAB.1 hb3).1
       have ap3:=(zAB.1 (zAB.1 hb3).2).1
       have hn3:=(zAB.1 (zAB.1 hb3).2).2
       simp(disch:=first|exact Xe|fail)only[↓Xa,Xb,Xc,↓reduceIte,Nat.reduceLT,Nat.reduceEqDiff,Nat.reduceBEq,Nat.reduceLeDiff,Nat.reduceAdd]
       refine zAM (zG0 false false (zAC _ _ _) rfl (fun ti=>?_) (zDk (by omega)) (by omega))
       have htr:tr (pad 65536 (2*R+c0-V) (digs 65536 (2*R+c0)).length)=digs 65536 (2*R+c0-V):=by
        rw[zAv (B:=65536) (by omega) (zDk (by omega)),zFQ (by omega)]
       have hpt:(pad 65536 (2*R+c0-V) (digs 65536 (2*R+c0)).length).take (digs 65536 (2*R+c0-V)).length=digs 65536 (2*R+c0-V):=by
        unfold pad;simp
       rw[htr,hpad]
       obtain⟨o1,o2,o3⟩:=zRv hk.qlim (by rw[hk.qlen];exact hkl) hk.qval
       have hql:=hk.qlen
       have hqd:=hk.qlim.getD (by omega) (k / 16)
       have hk16:k / 16<9223372036854775808:=by omega
       have hpw:(2:Nat)^(k%16)≤2^15:=Nat.pow_le_pow_right (by omega) (by omega)
       have hk32:k%16≤32:=by omega
       have or1: ∀K,zAy .or (.int .u32 ((ql.getD (k / 16) 0:Nat):Int)) (.int .u32 ((2^(k%16):Nat):Int)) K↔K (.int .u32 ((ql.getD (k / 16) 0+2^(k%16):Nat):Int)):=fun K=>by
        rw[zHk .u32 (by simp only[IntKind.bits];omega) (by simp only[IntKind.bits];omega),o1,zE6 (by omega)]
       simp(disch:=first|exact Xe|fail)only[hkl,hql,or1,Nat.one_mul,zGo,ne_eq,Nat.reduceEqDiff,↓Xa,Xb,Xc,↓reduceIte,Nat.reduceLT,Nat.reduceEqDiff,Nat.reduceBEq,Nat.reduceLeDiff,Nat.reduceAdd]
       refine Settle.kill b2 ?_
       rw[zD1 ap2,zAU _ (zAB.2 ⟨ap1,(zAB.1 hb2).2⟩)]
       refine Settle.renew 10 rfl (zAC _ _ _) hpad hpl fun b' hb'=>?_
       rw[zAP,zAU _ (zAB.2 ⟨ap3,hn3⟩)]at hb' ⊢
       rw[hpt]
       refine Settle.now ⟨(k,ql.set (k / 16) (ql.getD (k / 16) 0+2^(k%16)),_,_),by dsimp only;omega,⟨⟨by dsimp only;omega,by simpa using hql,zCu hk.qlim _ _ o2,?_⟩,.inr ⟨b',hb',?_,?_⟩⟩,rfl⟩
       ·dsimp only;rw[f2];exact o3
       ·dsimp only;rw[f1]
       ·exact congrArg (fun z=>(H.upd bq (some (ABlk.row 168 1 (U (ql.set (k / 16) (ql.getD (k / 16) 0+2^(k%16))))))).upd b' (some (.row 168 1 (U (digs 65536 z))))) f1.symm
     ·obtain⟨f1,f2⟩:=hls.2 (by omega)
      have c3: ∀K,zAy .geq (.int .i64 (zBy (2*R+c0) V)) (.int .i64 ((0:Nat):Int)) K↔K (.bool false):=fun K=>by
       simp[zAy,zAi,zBy,show 2*R+c0<V by omega]
      simp(disch:=first|exact Xe|fail)only[c3,↓Xa,Xb,Xc,↓reduceIte,Nat.reduceLT,Nat.reduceEqDiff,Nat.reduceBEq,Nat.reduceLeDiff,Nat.reduceAdd]
      refine Settle.keep [0,1,9,10,11] ⟨(k,ql,_,_),by dsimp only;omega,⟨⟨by dsimp only;omega,hk.qlen,hk.qlim,?_⟩,.inr ⟨b2,hb2,?_,?_⟩⟩,rfl⟩
      ·dsimp only;rw[hk.qval,f2,Nat.pow_succ];grind
      ·dsimp only;rw[f1]
      ·exact congrArg (fun z=>(H.upd bq (some (ABlk.row 168 1 (U ql)))).upd b2 (some (.row 168 1 (U (digs 65536 z))))) f1.symm
theorem zOA{A V:Nat}(ta tb:Bool)(hV:0<V)(hA:(digs 65536 A).length≤549755813888)(hVl:(digs 65536 V).length≤549755813888):
 PFn Tryz.prog 134 [LS (digs 65536 A) ta,LS (digs 65536 V) tb] (.tup [LS (digs 65536 (A / V)) false,LS (digs 65536 (A%V)) false]):=by
 by_cases h1:(digs 65536 V).length=1
 ·have h2:=zBG (zAG (B:=65536) (by omega) V)
  rw[zAJ (by omega),h1]at h2
  exact zV6 ta tb hV (by simpa using h2) (by omega)
 ·exact zPu ta tb hV h1 hA hVl
theorem zNq{x y:Int}{k k':Nat}(hx:Bd k x)(hk:k≤137438953472)(hy:Bd k' y)(hk':k'≤137438953472)(hy0:y≠0):PFn Tryz.prog 234 [zBd x false,zBd y false] (.tup [zBd (x / y) false,zBd (x%y) false]):=by
 intro H Q hq
 have hl:=hx.rlen
 have hl':=hy.rlen
 have hyp:0<y.natAbs:=by omega
 have hbq: ∀b,Bd k (sg b (x.natAbs / y.natAbs)):=fun b=>Bd.sgn (Nat.lt_of_le_of_lt (Nat.div_le_self _ _) hx)
 have hbr: ∀b,Bd k (sg b (x.natAbs%y.natAbs)):=fun b=>Bd.sgn (Nat.lt_of_le_of_lt (Nat.mod_le _ _) hx)
 have hlq:=(hbq false).rlen
 have hlr:=(hbr false).rlen
 rw[zCq]at hlq hlr
 refine zTz (by simp) ?_
 simp(disch:=first|exact Xe|fail)only[zb0,zAe,↓Xa,Xb,Xc,↓reduceIte,Nat.reduceLT,Nat.reduceEqDiff,Nat.reduceBEq,Nat.reduceLeDiff,Nat.reduceAdd]
 refine zAD fun p hp=>?_
 simp(disch:=first|exact Xe|fail)only[↓Xa,Xb,Xc,↓reduceIte,Nat.reduceLT,Nat.reduceEqDiff,Nat.reduceBEq,Nat.reduceLeDiff,Nat.reduceAdd]
 refine zAD fun p2 hp2=>?_
 have n2:=hp2
 simp only[zAB]at n2
 obtain⟨_,n2⟩:=n2
 simp(disch:=first|exact Xe|fail)only[↓Xa,Xb,Xc,↓reduceIte,Nat.reduceLT,Nat.reduceEqDiff,Nat.reduceBEq,Nat.reduceLeDiff,Nat.reduceAdd]
 refine zAD fun p3 hp3=>?_
 have n3:=hp3
 simp only[zAB]at n3
 obtain⟨_,_,n3⟩:=n3
 simp(disch:=first|exact Xe|fail)only[↓Xa,Xb,Xc,↓reduceIte,Nat.reduceLT,Nat.reduceEqDiff,Nat.reduceBEq,Nat.reduceLeDiff,Nat.reduceAdd]
 refine zAD fun p4 hp4=>?_
 have n4:=hp4
 simp only[zAB]at n4
 obtain⟨_,_,_,n4⟩:=n4
 simp(disch:=first|exact Xe|fail)only[↓Xa,Xb,Xc,↓reduceIte,Nat.reduceLT,Nat.reduceEqDiff,Nat.reduceBEq,Nat.reduceLeDiff,Nat.reduceAdd]
 refine(zOA (A:=x.natAbs) (V:=y.natAbs) false false hyp (by omega) (by omega)).call ?_
 simp(disch:=first|exact Xe|fail)only[zEA,zEf,↓Xa,Xb,Xc,↓reduceIte,Nat.reduceLT,Nat.reduceEqDiff,Nat.reduceBEq,Nat.reduceLeDiff,Nat.reduceAdd]
 refine PFn.dcall (zBs _ false (zAG (by omega) _) (by omega)) ?_
 simp(disch:=first|exact Xe|fail)only[↓Xa,Xb,Xc,↓reduceIte,Nat.reduceLT,Nat.reduceEqDiff,Nat.reduceBEq,Nat.reduceLeDiff,Nat.reduceAdd]
 refine PFn.dcall (zBs _ false (zAG (by omega) _) (by omega)) ?_
 rw[zAJ (by omega),zAJ (by omega)]
 simp(disch:=first|exact Xe|fail)only[↓Xa,Xb,Xc,↓reduceIte,Nat.reduceLT,Nat.reduceEqDiff,Nat.reduceBEq,Nat.reduceLeDiff,Nat.reduceAdd]
 refine zCp fun p5 hp5=>?_
 have n5:=hp5
 simp only[zAB]at n5
 obtain⟨_,_,_,_,n5⟩:=n5
 simp(disch:=first|exact Xe|fail)only[↓Xa,Xb,Xc,↓reduceIte,Nat.reduceLT,Nat.reduceEqDiff,Nat.reduceBEq,Nat.reduceLeDiff,Nat.reduceAdd]
 refine zCp fun p6 hp6=>?_
 have n6:=hp6
 simp only[zAB]at n6
 obtain⟨_,_,_,_,_,n6⟩:=n6
 simp(disch:=first|exact Xe|fail)only[zAe,↓Xa,Xb,Xc,↓reduceIte,Nat.reduceLT,Nat.reduceEqDiff,Nat.reduceBEq,Nat.reduceLeDiff,Nat.reduceAdd]
 have bq:=hbq (!(decide (x<0)==decide (y<0)))
 have br:=hbr (decide (x<0))
 have cs:(sg (!(decide (x<0)==decide (y<0))) (x.natAbs / y.natAbs)=x / y∧sg (decide (x<0)) (x.natAbs%y.natAbs)=x%y∧zEA (sg (decide (x<0)) (x.natAbs%y.natAbs))=.bool false)∨
  (sg (!(decide (x<0)==decide (y<0))) (x.natAbs / y.natAbs)-zD4 y=x / y∧sg (decide (x<0)) (x.natAbs%y.natAbs)+(y.natAbs:Int)=x%y∧zEA (sg (decide (x<0)) (x.natAbs%y.natAbs))=.bool true):=by
  by_cases h:x<0
  ·obtain⟨e1,e2⟩:=zGI hy0 h
   rw[decide_eq_true h]
   have eb:(!(true==decide (y<0)))=!decide (y<0):=by simp
   rw[eb]
   rcases Nat.eq_zero_or_pos (x.natAbs%y.natAbs)with hz|hz
   ·left
    obtain⟨f1,f2⟩:=e1 hz
    rw[hz,f1,f2]
    exact⟨rfl,rfl,rfl⟩
   ·right
    obtain⟨f1,f2⟩:=e2 hz
    exact⟨f1.symm,f2.symm,congrArg AV.bool (decide_eq_true (by simp[sg];omega))⟩
  ·left
   obtain⟨f1,f2⟩:=zI8 hy0 (show 0≤x by omega)
   rw[decide_eq_false h]
   have eb:(!(false==decide (y<0)))=decide (y<0):=by simp
   rw[eb,f1,f2]
   exact⟨rfl,rfl,congrArg AV.bool (decide_eq_false (by simp[sg];omega))⟩
 generalize sg (!(decide (x<0)==decide (y<0))) (x.natAbs / y.natAbs)=q0 at*
 generalize sg (decide (x<0)) (x.natAbs%y.natAbs)=r0 at*
 have fin: ∀{v a b c d e f},Q v H→SetR Q v ((((((H.upd p a).upd p2 b).upd p3 c).upd p4 d).upd p5 e).upd p6 f):=fun{v a b c d e f} hv=>SetR.dropTo (((((((Le.refl H).updB hp).updB n2).updB n3).updB n4).updB n5).updB n6) (SetR.now hv)
 have zFW:AV.agg [.bool (decide (y<0)),LS (digs 65536 y.natAbs) false]=zBd y false:=rfl
 have zFL:AV.agg [.bool (decide (y<0)),zFS y]=zBd y false:=rfl
 rcases cs with⟨c1,c2,c3⟩|⟨c1,c2,c3⟩
 ·rw[← c1,← c2]at hq
  have f0:AV.agg [.bool false,zFS r0]=zBd r0 false:=by rw[zP9,c3]
  simp(disch:=first|exact Xe|fail)only[c3,zA2,f0,zAe,zXw,↓Xa,Xb,Xc,↓reduceIte,Nat.reduceLT,Nat.reduceEqDiff,Nat.reduceBEq,Nat.reduceLeDiff,Nat.reduceAdd]
  exact fin hq
 ·rw[← c1,← c2]at hq
  have f0:AV.agg [.bool true,zFS r0]=zBd r0 false:=by rw[zP9,c3]
  simp(disch:=first|exact Xe|fail)only[c3,zA2,f0,zFW,zFL,↓Xa,Xb,Xc,↓reduceIte,Nat.reduceLT,Nat.reduceEqDiff,Nat.reduceBEq,Nat.reduceLeDiff,Nat.reduceAdd]
  refine PFn.dcall (zYl false hy (by omega)) ?_
  simp(disch:=first|exact Xe|fail)only[zA2,zFW,zFL,f0,↓Xa,Xb,Xc,↓reduceIte,Nat.reduceLT,Nat.reduceEqDiff,Nat.reduceBEq,Nat.reduceLeDiff,Nat.reduceAdd]
  refine(zIb false false br (by omega) hy.abs (by omega)).call ?_
  simp(disch:=first|exact Xe|fail)only[zA2,zFW,zFL,f0,zAe,↓Xa,Xb,Xc,↓reduceIte,Nat.reduceLT,Nat.reduceEqDiff,Nat.reduceBEq,Nat.reduceLeDiff,Nat.reduceAdd]
  refine PFn.dcall (zI4 false hy (by omega)) ?_
  simp(disch:=first|exact Xe|fail)only[zA2,zFW,zFL,f0,↓Xa,Xb,Xc,↓reduceIte,Nat.reduceLT,Nat.reduceEqDiff,Nat.reduceBEq,Nat.reduceLeDiff,Nat.reduceAdd]
  refine PFn.dcall (zDZ (zIy y)) ?_
  simp(disch:=first|exact Xe|fail)only[zA2,zFW,zFL,f0,↓Xa,Xb,Xc,↓reduceIte,Nat.reduceLT,Nat.reduceEqDiff,Nat.reduceBEq,Nat.reduceLeDiff,Nat.reduceAdd]
  refine(zUw false false bq (by omega) (Bd.i64 (zIy y)) (by omega)).call ?_
  simp(disch:=first|exact Xe|fail)only[zA2,zFW,zFL,f0,zAe,zXw,↓Xa,Xb,Xc,↓reduceIte,Nat.reduceLT,Nat.reduceEqDiff,Nat.reduceBEq,Nat.reduceLeDiff,Nat.reduceAdd]
  exact fin hq
theorem zYj{t:Bool}:AV.agg [.bool false,.seq 0 [] t]=zBd 0 t:=by simp[zBd,zAQ,LS,U]
theorem zVW{x y:Int}{k k':Nat}(hx:Bd k x)(hk:k≤137438953472)(hy:Bd k' y)(hk':k'≤137438953472)(hy0:y≠0):PFn Tryz.prog 216 [zBd x false,zBd y false] (if x%y=0 then .tup [zBd (x / y) false,.bool true]else .tup [zBd 0 false,.bool false]):=by
 intro H Q hq
 have hbr:Bd k' (x%y):=by
  have h1:=Int.emod_lt x hy0
  have h2:=Int.emod_nonneg x hy0
  unfold Bd at hy ⊢
  omega
 have hl:=hbr.rlen
 refine zTQ (by simp) ?_
 simp(disch:=first|exact Xe|fail)only[zcN,zAe,↓Xa,Xb,Xc,↓reduceIte,Nat.reduceLT,Nat.reduceEqDiff,Nat.reduceBEq,Nat.reduceLeDiff,Nat.reduceAdd]
 refine zAD fun p hp=>?_
 simp(disch:=first|exact Xe|fail)only[↓Xa,Xb,Xc,↓reduceIte,Nat.reduceLT,Nat.reduceEqDiff,Nat.reduceBEq,Nat.reduceLeDiff,Nat.reduceAdd]
 refine zAD fun p2 hp2=>?_
 have n2:=hp2
 simp only[zAB]at n2
 obtain⟨_,n2⟩:=n2
 simp(disch:=first|exact Xe|fail)only[↓Xa,Xb,Xc,↓reduceIte,Nat.reduceLT,Nat.reduceEqDiff,Nat.reduceBEq,Nat.reduceLeDiff,Nat.reduceAdd]
 refine zAD fun p3 hp3=>?_
 have n3:=hp3
 simp only[zAB]at n3
 obtain⟨_,_,n3⟩:=n3
 simp(disch:=first|exact Xe|fail)only[zA2,↓Xa,Xb,Xc,↓reduceIte,Nat.reduceLT,Nat.reduceEqDiff,Nat.reduceBEq,Nat.reduceLeDiff,Nat.reduceAdd]
 refine(zNq hx hk hy hk' hy0).call ?_
 simp(disch:=first|exact Xe|fail)only[↓Xa,Xb,Xc,↓reduceIte,Nat.reduceLT,Nat.reduceEqDiff,Nat.reduceBEq,Nat.reduceLeDiff,Nat.reduceAdd]
 refine zAD fun p4 hp4=>?_
 have n4:=hp4
 simp only[zAB]at n4
 obtain⟨_,_,_,n4⟩:=n4
 simp(disch:=first|exact Xe|fail)only[↓Xa,Xb,Xc,↓reduceIte,Nat.reduceLT,Nat.reduceEqDiff,Nat.reduceBEq,Nat.reduceLeDiff,Nat.reduceAdd]
 refine zAD fun p5 hp5=>?_
 have n5:=hp5
 simp only[zAB]at n5
 obtain⟨_,_,_,_,n5⟩:=n5
 have fin: ∀{v a b c d e},Q v H→SetR Q v (((((H.upd p a).upd p2 b).upd p3 c).upd p4 d).upd p5 e):=fun{v a b c d e} hv=>SetR.dropTo ((((((Le.refl H).updB hp).updB n2).updB n3).updB n4).updB n5) (SetR.now hv)
 have hz:=zCx (B:=65536) (n:=(x%y).natAbs) (by omega)
 have hlen: ∀K:AV→Prop,zEE false (zFS (x%y)) K=K (.int .i64 ((digs 65536 (x%y).natAbs).length:Nat)):=fun K=>by unfold zFS;simp(disch:=first|exact Xe|fail)only[↓Xa,Xb,Xc,↓reduceIte,Nat.reduceLT,Nat.reduceEqDiff,Nat.reduceBEq,Nat.reduceLeDiff,Nat.reduceAdd]
 by_cases h:x%y=0
 ·rw[if_pos h]at hq
  have h1:(digs 65536 (x%y).natAbs).length=0:=by rw[hz];omega
  rw[h1]at hlen
  simp(disch:=first|exact Xe|fail)only[zAe,zA2,↓hlen,zY6,↓Xa,Xb,Xc,↓reduceIte,Nat.reduceLT,Nat.reduceEqDiff,Nat.reduceBEq,Nat.reduceLeDiff,Nat.reduceAdd]
  exact fin hq
 ·rw[if_neg h]at hq
  have h1:0<(digs 65536 (x%y).natAbs).length:=by
   have: ¬(digs 65536 (x%y).natAbs).length=0:=by rw[hz];omega
   omega
  simp(disch:=first|exact Xe|fail)only[zAe,zA2,↓hlen,decide_eq_true h1,zY6,↓Xa,Xb,Xc,↓reduceIte,Nat.reduceLT,Nat.reduceEqDiff,Nat.reduceBEq,Nat.reduceLeDiff,Nat.reduceAdd]
  refine SetR.loose ?_
  refine fin ?_
  rw[← zYj]at hq
  exact hq
theorem Bd.le{x y:Int}{k:Nat}(h:Bd k y)(hl:x.natAbs≤y.natAbs):Bd k x:=Nat.lt_of_le_of_lt hl h
theorem Bd.ediv{x y:Int}{k:Nat}(h:Bd k x):Bd k (x / y):=h.le (Int.natAbs_ediv_le_natAbs x y)
theorem zVM{x y:Int}{K:AV→Prop}:zAy .eql (.int .i64 (zFt x y)) (.int .i64 ((0:Nat):Int)) K↔K (.bool (decide (x=y))):=by
 have:(zFt x y=((0:Nat):Int))↔x=y:=by unfold zFt;(repeat' split)<;>omega
 simp only[zAy,zAi,true_and,this]
theorem zY8{x y:Int}{k k':Nat}(hx:Bd k x)(hk:k≤274877906944)(hy:Bd k' y)(hk':k'≤274877906944):PFn Tryz.prog 92 [zBd x false,zBd y false] (.bool (decide (x=y))):=by
 intro H Q hq
 refine zYe (by simp) ?_
 simp(disch:=first|exact Xe|fail)only[ziE,zAe,↓Xa,Xb,Xc,↓reduceIte,Nat.reduceLT,Nat.reduceEqDiff,Nat.reduceBEq,Nat.reduceLeDiff,Nat.reduceAdd]
 refine zAD fun p1 hp1=>?_
 have n1:=hp1
 simp(disch:=first|exact Xe|fail)only[zAe,zA2,↓Xa,Xb,Xc,↓reduceIte,Nat.reduceLT,Nat.reduceEqDiff,Nat.reduceBEq,Nat.reduceLeDiff,Nat.reduceAdd]
 refine zAD fun p2 hp2=>?_
 have n2:=hp2
 simp only[zAB]at n2
 obtain⟨_,n2⟩:=n2
 simp(disch:=first|exact Xe|fail)only[zAe,zA2,↓Xa,Xb,Xc,↓reduceIte,Nat.reduceLT,Nat.reduceEqDiff,Nat.reduceBEq,Nat.reduceLeDiff,Nat.reduceAdd]
 refine(zZR false false hx (by omega) hy (by omega)).call ?_
 simp(disch:=first|exact Xe|fail)only[zVM,zhW,↓Xa,Xb,Xc,↓reduceIte,Nat.reduceLT,Nat.reduceEqDiff,Nat.reduceBEq,Nat.reduceLeDiff,Nat.reduceAdd]
 exact SetR.dropTo (((Le.refl H).updB n1).updB n2) (SetR.now hq)
def IC(zs:List Int):List AV:=zs.flatMap fun z=>[zB0 z,zB1 z]
theorem zBU(zs:List Int):(IC zs).length=zs.length*2:=by
 induction zs with
 |nil=>rfl
 |cons a l ih=>simp only[IC,List.flatMap_cons,List.length_append,List.length_cons,List.length_nil]at *; omega
theorem zQI(zs:List Int)(z:Int):IC (zs++[z])=IC zs++[zB0 z,zB1 z]:=by simp[IC,List.flatMap_append]
theorem zGG: ∀(l:List Int)(i:Nat)(h:i<l.length),(IC l).drop (i*2)=zB0 (l[i])::zB1 (l[i])::(IC l).drop (i*2+2)
 |a::l,0,_=>rfl
 |a::l,i+1,h=>by
  have:=zGG l i (by simpa using h)
  rw[show(i+1)*2=i*2+2 by omega]
  show((zB0 a::zB1 a::IC l).drop (i*2+2))=_
  simp only[List.drop_succ_cons,List.getElem_cons_succ]
  rw[this]
  show _=_::_::((zB0 a::zB1 a::IC l).drop (i*2+2+2))
  simp only[List.drop_succ_cons]
def RowI(H:AHeap)(x:AV)(zs:List Int):Prop:=
 (∃t,x=.seq zs.length (IC zs) t)∨∃b ty t,x=.own b (zs.length*2) 0 zs.length t∧H b=some (.row ty 2 (IC zs))
theorem RowI.le{H H':AHeap}{x:AV}{zs:List Int}(h:RowI H x zs)(hl:Le H H'):RowI H' x zs:=by
 rcases h with h|⟨b,ty,t,e,hb⟩
 ·exact .inl h
 ·exact .inr ⟨b,ty,t,e,hl b _ hb⟩
theorem RowI.nil{H:AHeap}:RowI H (.seq 0 [] true) []:=.inl ⟨true,rfl⟩
theorem RowI.grown{H0 H:AHeap}{ty:TypeId}{x:AV}{zs:List Int}(h:zBI H0 ty 2 zs.length (IC zs) x H):RowI H x zs:=by
 rcases h with⟨h1,h2,rfl,rfl⟩|⟨h1,h2,b,hb,rfl,rfl⟩
 ·have:zs=[]:=List.length_eq_zero_iff.1 h1
  subst this;exact RowI.nil
 ·exact .inr ⟨b,ty,false,rfl,zAC _ _ _⟩
theorem RowI.len{H:AHeap}{x:AV}{zs:List Int}(h:RowI H x zs)(hn:zs.length<9223372036854775808){K:AV→Prop}:zEE false x K=K (.int .i64 ((zs.length:Nat):Int)):=by
 rcases h with⟨t,rfl⟩|⟨b,ty,t,rfl,hb⟩<;>simp[zEE,hn]
theorem RowI.get{H:AHeap}{x:AV}{zs:List Int}(h:RowI H x zs){i:Nat}(hi:i<zs.length): ∃p,(∀{k:IntKind}{K:AV→Prop},(zCQ H x∧zBl 2 x (.int k (i:Int)) K)↔K p)∧∀{K:AV→Prop},zBC H (some 2) p K↔K (zAl (zs[i])):=by
 rcases h with⟨t,rfl⟩|⟨b,ty,t,rfl,hb⟩
 ·refine⟨.cptr ((IC zs).drop (i*2)),fun{k K}=>?_,fun{K}=>?_⟩
  ·simp[zCQ,zBl,zBU,hi]
  ·simp only[zBC,zBB,zGG zs i hi];simp[zFH]
 ·have hl:=zBU zs
  refine⟨.ptr b (zs.length*2) (i*2),fun{k K}=>?_,fun{K}=>?_⟩
  ·simp[zCQ,zBl,hb,hl,hi]
  ·simp only[zBC,zBB,hb,zGG zs i hi]
   simp[zFH,hl]
   omega
end Go.Proofs.YtmndejlpfmmaiaaGreatDoor.Fw
namespace Go.Proofs.YtmndejlpfmmaiaaGreatDoor.Fw
open Go Go.Proofs.YtmndejlpfmmaiaaGreatDoor.Ma
def zDe(f:Int→Int→Int)(zs ws:List Int):List Int:=List.zipWith f zs ws
end Go.Proofs.YtmndejlpfmmaiaaGreatDoor.Fw
namespace Go.Proofs.YtmndejlpfmmaiaaGreatDoor.Fw
open Go Go.Proofs.YtmndejlpfmmaiaaGreatDoor.Ma
set_option maxRecDepth 20000
end Go.Proofs.YtmndejlpfmmaiaaGreatDoor.Fw
namespace Go.Proofs.YtmndejlpfmmaiaaGreatDoor.Ma
def chr(d:Nat):UInt8:=UInt8.ofNat (48+d)
theorem zLh{d:Nat}(h:d<10):(chr d).toNat=48+d:=by unfold chr;rw[UInt8.toNat_ofNat'];omega
def dec(n:Nat):List UInt8:=(digs 10 n).reverse.map chr
def wide(k n:Nat):List UInt8:=(pad 10 n k).reverse.map chr
theorem zIz:dec 0=[]:=by simp[dec,zAQ]
theorem zUU{k n:Nat}(h:n<10^k):(wide k n).length=k:=by
 simp only[wide,List.length_map,List.length_reverse]
 exact zET (zA5 (by omega) k n h)
theorem zIl{k n:Nat}(h:n<10^k):(dec n).length≤k:=by
 simp only[dec,List.length_map,List.length_reverse]
 exact zA5 (by omega) k n h
theorem zEP{l m:List Nat}(h:m≠[]):(l++m).getD ((l++m).length-1) 0=m.getD (m.length-1) 0:=by
 have:0<m.length:=List.length_pos_iff.2 h
 rw[List.getD_eq_getElem?_getD,List.getD_eq_getElem?_getD,List.length_append,List.getElem?_append_right (by omega)]
 congr 2;omega
theorem zYD{k p m:Nat}(hp:p<10^k)(hm:0<m):dec (p+10^k*m)=dec m++wide k p:=by
 have hne:digs 10 m≠[]:=fun e=>by have:=(zCi (B:=10) (by omega)).1 e;omega
 have hlen:=zET (zA5 (B:=10) (by omega) k p hp)
 have e:digs 10 (p+10^k*m)=pad 10 p k++digs 10 m:=by
  have h1:Lim 10 (pad 10 p k++digs 10 m):=(zDk (by omega)).append (zAG (by omega) m)
  have h2:=zFK (B:=10) (by omega) h1 (.inr (by rw[zEP hne];exact zBo (by omega) hm))
  rw[h2,zBT,zFQ (by omega),zAJ (by omega),hlen]
 simp only[dec,e,wide,List.reverse_append,List.map_append]
theorem zRI{j q:Nat}(h:q<10^(j+1)):wide (j+1) q=chr (q / 10^j)::wide j (q%10^j):=by
 have hp:0<10^j:=Nat.pow_pos (by omega)
 have hlt:q%10^j<10^j:=Nat.mod_lt _ hp
 have hd:q / 10^j<10:=Nat.div_lt_of_lt_mul (by rw[Nat.pow_succ]at h;omega)
 have hlen:=zET (zA5 (B:=10) (by omega) j _ hlt)
 have e:pad 10 q (j+1)=pad 10 (q%10^j) j++[q / 10^j]:=by
  have h1:Lim 10 (pad 10 (q%10^j) j++[q / 10^j]):=(zDk (by omega)).append (Lim.one hd)
  have h2:=zWo (B:=10) (by omega) h1
  rw[zBT,zFQ (by omega),hlen,zFC,List.length_append,hlen,Nat.mod_add_div]at h2
  exact h2.symm
 simp only[wide,e,List.reverse_append,List.map_append,List.reverse_singleton,List.map_cons,List.map_nil,List.singleton_append]
theorem zP5{j p:Nat}:wide (j+1) (p%10^(j+1))=chr (p / 10^j%10)::wide j (p%10^j):=by
 have hp:0<10^(j+1):=Nat.pow_pos (by omega)
 rw[zRI (Nat.mod_lt _ hp)]
 have e1:p%10^(j+1) / 10^j=p / 10^j%10:=by rw[Nat.pow_succ,Nat.mod_mul_right_div_self]
 have e2:p%10^(j+1)%10^j=p%10^j:=by rw[Nat.pow_succ];exact Nat.mod_mod_of_dvd _ (Nat.dvd_mul_right _ _)
 rw[e1,e2]
theorem zcw{d:Nat}(h:d<10):(chr d=48)↔d=0:=by
 constructor
 ·intro e
  have:=congrArg UInt8.toNat e
  rw[zLh h]at this
  simp at this;omega
 ·rintro rfl;rfl
theorem zQC{k p:Nat}:(wide k p).dropWhile (· ==48)=dec p:=by
 have e:wide k p=List.replicate (k-(digs 10 p).length) 48++dec p:=by
  simp only[wide,pad,dec,List.reverse_append,List.map_append,List.reverse_replicate,List.map_replicate]
  rfl
 rw[e]
 have h: ∀n(l:List UInt8),(List.replicate n 48++l).dropWhile (· ==48)=l.dropWhile (· ==48):=by
  intro n
  induction n with
  |zero=>intro l;simp
  |succ n ih=>intro l;rw[List.replicate_succ,List.cons_append,List.dropWhile_cons];simp[ih]
 rw[h]
 rcases Nat.eq_zero_or_pos p with hp|hp
 ·subst hp;rw[zIz];rfl
 ·have hl:=zBo (B:=10) (by omega) hp
  have hne:digs 10 p≠[]:=fun e=>by have:=(zCi (B:=10) (by omega)).1 e;omega
  obtain⟨l,x,hx⟩: ∃l x,digs 10 p=l++[x]:=⟨_,_,(List.dropLast_concat_getLast hne).symm⟩
  have hx0:x≠0:=by
   rw[hx,zEP (by simp)]at hl
   simpa using hl
  have hx10:x<10:=zAG (B:=10) (by omega) p x (by rw[hx];simp)
  have hd:dec p=chr x::l.reverse.map chr:=by simp[dec,hx]
  rw[hd,List.dropWhile_cons]
  have:(chr x==48)=false:=by
   rw[beq_eq_false_iff_ne];exact fun h=>hx0 ((zcw hx10).1 h)
  rw[this];rfl
theorem zIu{B n k:Nat}(hB:2≤B)(hk:k<(digs B n).length):0<val B ((digs B n).drop k):=by
 have hn:0<n:=by
  rcases Nat.eq_zero_or_pos n with h|h
  ·subst h;rw[zAQ]at hk;simp at hk
  ·exact h
 have hl:=zBo hB hn
 have h1:Lim B ((digs B n).drop k):=(zAG hB n).drop k
 have h2:((digs B n).drop k).getD (((digs B n).drop k).length-1) 0≠0:=by
  rw[List.length_drop,List.getD_eq_getElem?_getD,List.getElem?_drop,← List.getD_eq_getElem?_getD]
  have:k+((digs B n).length-k-1)=(digs B n).length-1:=by omega
  rw[this];exact hl
 have h3:=zFK hB h1 (.inr h2)
 rcases Nat.eq_zero_or_pos (val B ((digs B n).drop k))with h|h
 ·rw[h,zAQ]at h3
  have:=congrArg List.length h3
  simp at this;omega
 ·exact h
def zL9(n:Nat):List UInt8:=if n=0 then[48]else dec n
theorem zLP{n:Nat}(h:0<n):dec n≠[]:=by
 intro e
 have:(digs 10 n)=[]:=by simpa[dec]using e
 have:=(zCi (B:=10) (by omega)).1 this
 omega
theorem zNw{n k p:Nat}(hk:k<(digs 1000000000 n).length)(hp:p=(digs 1000000000 n).getD k 0):
 p<1000000000∧dec (val 1000000000 ((digs 1000000000 n).drop k))=dec (val 1000000000 ((digs 1000000000 n).drop (k+1)))++(if k+1=(digs 1000000000 n).length then dec p else wide 9 p):=by
 have hlt:p<1000000000:=hp▸(zAG (B:=1000000000) (by omega) n).getD (by omega) k
 refine⟨hlt,?_⟩
 rw[zBr 1000000000 hk,← hp]
 by_cases h:k+1=(digs 1000000000 n).length
 ·rw[if_pos h,List.drop_of_length_le (by omega)]
  simp[val,zIz]
 ·rw[if_neg h]
  have:=zIu (B:=1000000000) (n:=n) (k:=k+1) (by omega) (by omega)
  exact zYD (k:=9) hlt this
end Go.Proofs.YtmndejlpfmmaiaaGreatDoor.Ma
namespace Go.Proofs.YtmndejlpfmmaiaaGreatDoor.Fw
open Go Go.Proofs.YtmndejlpfmmaiaaGreatDoor.Ma
set_option maxRecDepth 20000
end Go.Proofs.YtmndejlpfmmaiaaGreatDoor.Fw
