/- The texts Lb Lk Ll Lm In Re Rf Rg Ri Rj Rk Rl Rm Rn Ro Io Rp Rq Rr Rs Rt Ru Rv Rw Ka Kn Kb Nb Sa Sb Sc, joined. -/
import Derived.Test.YtmndejlpfmmaiaaGreatDoorZ5
set_option linter.unusedSimpArgs false
set_option linter.unusedVariables false
namespace Go.Proofs.YtmndejlpfmmaiaaGreatDoor.Fw
open Go Go.Proofs.YtmndejlpfmmaiaaGreatDoor.Ma
set_option maxRecDepth 20000
theorem zd0{n:Nat}{K:AV→Prop}:zAx .lss (.int .i64 (n:Int)) (.int .i64 ((0:Nat):Int)) K↔K (.bool false):=by rw[zKq];simp
theorem zUo{s:ByteArray}{k:IntKind}{j:Nat}{K:AV→Prop}(h:j<s.size):zGo (.str s) (.int k (j:Int)) K=K (.int .u8 ((zB8 s j:Nat):Int)):=by
 simp[zGo,h]
theorem zhd: ∀j,j<256→zB8 ⟨#[0,1,2,2,3,3,3,3,4,4,4,4,4,4,4,4,5,5,5,5,5,5,5,5,5,5,5,5,5,5,5,5,6,6,6,6,6,6,6,6,6,6,6,6,6,6,6,6,6,6,6,6,6,6,6,6,6,6,6,6,6,6,6,6,7,7,7,7,7,7,7,7,7,7,7,7,7,7,7,7,7,7,7,7,7,7,7,7,7,7,7,7,7,7,7,7,7,7,7,7,7,7,7,7,7,7,7,7,7,7,7,7,7,7,7,7,7,7,7,7,7,7,7,7,7,7,7,7,8,8,8,8,8,8,8,8,8,8,8,8,8,8,8,8,8,8,8,8,8,8,8,8,8,8,8,8,8,8,8,8,8,8,8,8,8,8,8,8,8,8,8,8,8,8,8,8,8,8,8,8,8,8,8,8,8,8,8,8,8,8,8,8,8,8,8,8,8,8,8,8,8,8,8,8,8,8,8,8,8,8,8,8,8,8,8,8,8,8,8,8,8,8,8,8,8,8,8,8,8,8,8,8,8,8,8,8,8,8,8,8,8,8,8,8,8,8,8,8,8,8,8,8,8,8,8,8]⟩ j=blen j:=by decide+kernel
theorem zeP{k:IntKind}{j:Nat}{K:AV→Prop}(h:j<256):zGo (.str ⟨#[0,1,2,2,3,3,3,3,4,4,4,4,4,4,4,4,5,5,5,5,5,5,5,5,5,5,5,5,5,5,5,5,6,6,6,6,6,6,6,6,6,6,6,6,6,6,6,6,6,6,6,6,6,6,6,6,6,6,6,6,6,6,6,6,7,7,7,7,7,7,7,7,7,7,7,7,7,7,7,7,7,7,7,7,7,7,7,7,7,7,7,7,7,7,7,7,7,7,7,7,7,7,7,7,7,7,7,7,7,7,7,7,7,7,7,7,7,7,7,7,7,7,7,7,7,7,7,7,8,8,8,8,8,8,8,8,8,8,8,8,8,8,8,8,8,8,8,8,8,8,8,8,8,8,8,8,8,8,8,8,8,8,8,8,8,8,8,8,8,8,8,8,8,8,8,8,8,8,8,8,8,8,8,8,8,8,8,8,8,8,8,8,8,8,8,8,8,8,8,8,8,8,8,8,8,8,8,8,8,8,8,8,8,8,8,8,8,8,8,8,8,8,8,8,8,8,8,8,8,8,8,8,8,8,8,8,8,8,8,8,8,8,8,8,8,8,8,8,8,8,8,8,8,8,8,8]⟩) (.int k (j:Int)) K=K (.int .u8 ((blen j:Nat):Int)):=by
 have sz:(⟨#[0,1,2,2,3,3,3,3,4,4,4,4,4,4,4,4,5,5,5,5,5,5,5,5,5,5,5,5,5,5,5,5,6,6,6,6,6,6,6,6,6,6,6,6,6,6,6,6,6,6,6,6,6,6,6,6,6,6,6,6,6,6,6,6,7,7,7,7,7,7,7,7,7,7,7,7,7,7,7,7,7,7,7,7,7,7,7,7,7,7,7,7,7,7,7,7,7,7,7,7,7,7,7,7,7,7,7,7,7,7,7,7,7,7,7,7,7,7,7,7,7,7,7,7,7,7,7,7,8,8,8,8,8,8,8,8,8,8,8,8,8,8,8,8,8,8,8,8,8,8,8,8,8,8,8,8,8,8,8,8,8,8,8,8,8,8,8,8,8,8,8,8,8,8,8,8,8,8,8,8,8,8,8,8,8,8,8,8,8,8,8,8,8,8,8,8,8,8,8,8,8,8,8,8,8,8,8,8,8,8,8,8,8,8,8,8,8,8,8,8,8,8,8,8,8,8,8,8,8,8,8,8,8,8,8,8,8,8,8,8,8,8,8,8,8,8,8,8,8,8,8,8,8,8,8,8]⟩:ByteArray).size=256:=by decide+kernel
 rw[zUo (by rw[sz];exact h),zhd j h]
theorem zUf{x:Nat}(hx:x<4294967296):PFn Tryz.prog 243 [.int .u32 (x:Int)] (.int .i64 ((blen x:Nat):Int)):=by
 intro H Q hq
 have hb:blen x≤32:=zBZ.2 (by omega)
 refine zR6 (by simp) ?_
 by_cases h1:65536≤x
 ·have e1:=zD0 (n:=x) (s:=16) h1
  by_cases h2:256≤x / 2^16
  ·have e2:=zD0 (n:=x / 2^16) (s:=8) h2
   have h3:x / 2^16 / 2^8<256:=by omega
   have hl:blen (x / 2^16 / 2^8)≤8:=zBZ.2 h3
   simp(disch:=first|exact Xe|fail)only[zOV,h1,h2,zeP,zQR,↓Xa,Xb,Xc,↓reduceIte,Nat.reduceLT,Nat.reduceEqDiff,Nat.reduceBEq,Nat.reduceLeDiff,Nat.reduceAdd,Nat.reduceMul]
   refine SetR.now ?_
   rwa[show 16+8+blen (x / 2^16 / 2^8)=blen x by omega]
  ·have h3:x / 2^16<256:=by omega
   have hl:blen (x / 2^16)≤8:=zBZ.2 h3
   simp(disch:=first|exact Xe|fail)only[zOV,h1,h2,zeP,zQR,↓Xa,Xb,Xc,↓reduceIte,Nat.reduceLT,Nat.reduceEqDiff,Nat.reduceBEq,Nat.reduceLeDiff,Nat.reduceAdd,Nat.reduceMul]
   refine SetR.now ?_
   rwa[show 16+blen (x / 2^16)=blen x by omega]
 ·by_cases h2:256≤x
  ·have e2:=zD0 (n:=x) (s:=8) h2
   have h3:x / 2^8<256:=by omega
   have hl:blen (x / 2^8)≤8:=zBZ.2 h3
   simp(disch:=first|exact Xe|fail)only[zOV,h1,h2,zeP,zQR,↓Xa,Xb,Xc,↓reduceIte,Nat.reduceLT,Nat.reduceEqDiff,Nat.reduceBEq,Nat.reduceLeDiff,Nat.reduceAdd,Nat.reduceMul]
   refine SetR.now ?_
   rwa[show 0+8+blen (x / 2^8)=blen x by omega]
  ·have hl:blen x≤8:=zBZ.2 (by omega)
   simp(disch:=first|exact Xe|fail)only[zOV,h1,h2,zeP,zQR,↓Xa,Xb,Xc,↓reduceIte,Nat.reduceLT,Nat.reduceEqDiff,Nat.reduceBEq,Nat.reduceLeDiff,Nat.reduceAdd,Nat.reduceMul]
   refine SetR.now ?_
   exact hq
theorem zeX{x:Nat}(hx:x<4294967296):PFn Tryz.prog 232 [.int .u32 (x:Int)] (.int .i64 ((32-blen x:Nat):Int)):=by
 intro H Q hq
 have hb:blen x≤32:=zBZ.2 (by omega)
 refine zT6 (by simp) ?_
 simp(disch:=first|exact Xe|fail)only[zbz,↓Xa,Xb,Xc,↓reduceIte,Nat.reduceLT,Nat.reduceEqDiff,Nat.reduceBEq,Nat.reduceLeDiff,Nat.reduceAdd,Nat.reduceMul]
 refine(zUf hx).call ?_
 simp(disch:=first|exact Xe|fail)only[zcK,↓Xa,Xb,Xc,↓reduceIte,Nat.reduceLT,Nat.reduceEqDiff,Nat.reduceBEq,Nat.reduceLeDiff,Nat.reduceAdd,Nat.reduceMul]
 exact SetR.now hq
theorem zO5{a:List Nat}{s:Nat}(t:Bool)(ha:Lim 4294967296 a)(hs:s≤65536)(hn:a.length≤1099511627776):PFn Tryz.prog 222 [LS a t,.int .i64 (s:Int)] (.tup [LS (digs 4294967296 (val 4294967296 a*2^s)) true,.int .i64 ((0:Nat):Int)]):=by
 intro H Q hq
 have hnl: ¬65536<s:=by omega
 refine zSO (by simp) ?_
 simp(disch:=first|exact Xe|fail)only[zdA,zd0,hnl,ne_eq,Nat.reduceEqDiff,↓Xa,Xb,Xc,↓reduceIte,Nat.reduceLT,Nat.reduceEqDiff,Nat.reduceBEq,Nat.reduceLeDiff,Nat.reduceAdd,Nat.reduceMul]
 refine zDP fun o ho=>?_
 simp(disch:=first|exact Xe|fail)only[ne_eq,Nat.reduceEqDiff,↓Xa,Xb,Xc,↓reduceIte,Nat.reduceLT,Nat.reduceEqDiff,Nat.reduceBEq,Nat.reduceLeDiff,Nat.reduceAdd,Nat.reduceMul]
 have hr:s%32<32:=Nat.mod_lt _ (by omega)
 have hse:32*(s / 32)+s%32=s:=Nat.div_add_mod s 32
 generalize hq32:s / 32=q at*
 generalize hp32:s%32=p at*
 refine zAP (fun x:Nat×Nat×List Nat=>⟨[],[(1,.int .i64 s),(6,.own o (a.length+q+1) 0 (a.length+q+1) true),(7,.int .i64 p),(24,LS a t),(25,.int .i64 a.length),(26,.int .i64 x.1)],
  H.upd o (some (.row 168 1 (U (zG6 q x.2.2 x.2.1 (a.length-x.1)))))⟩)
  (fun x=>x.1≤a.length∧ShlI a p x.1 x.2.1 x.2.2) (fun x=>a.length-x.1) (0,0,[]) (Settle.now (by rw[Nat.sub_zero,zOr,show q+(a.length+1)=a.length+q+1 by omega])) ⟨by simp,ShlI.zero a p⟩ ?_
 rintro⟨i,c,done⟩ ⟨h1,h2⟩
 dsimp only at h1 h2 ⊢
 have hd:=h2.1
 by_cases hi:i<a.length
 ·have hx:=ha.getD (by omega) i
  subst hd
  obtain⟨k1,k2,k3⟩:=h2.step hr ha rfl
  have hc:=h2.2.2.1
  obtain⟨m,hm⟩: ∃m,a.length-done.length=m+1:=⟨a.length-done.length-1,by omega⟩
  have hy:a.getD done.length 0*2^p<18446744073709551616:=by
   have:a.getD done.length 0*2^p≤4294967295*2^31:=Nat.mul_le_mul (by omega) (Nat.pow_le_pow_right (by omega) (by omega))
   omega
  have hp64:p≤64:=by omega
  have hpl:(2:Nat)^p≤2^31:=Nat.pow_le_pow_right (by omega) (by omega)
  have lo:=zV6 (m:=a.getD done.length 0*2^p%4294967296) hc (zOX hr)
  generalize hY:a.getD done.length 0*2^p=y at*
  have len1: ∀c,(zG6 q done c (m+1)).length=a.length+q+1:=fun c=>by rw[zL7];omega
  have len2:=len1 c
  have len3:=len1 (c+y%4294967296)
  have or1: ∀K,zAx .or (.int .u32 (c:Int)) (.int .u32 ((y%4294967296:Nat):Int)) K↔K (.int .u32 ((c+y%4294967296:Nat):Int)):=fun K=>by
   rw[zHL .u32 (by simp only[IntKind.bits];omega) (by simp only[IntKind.bits];omega),lo,zEt k1]
  have or2: ∀K,zAx .or (.int .u32 ((0:Nat):Int)) (.int .u32 ((y / 2^32:Nat):Int)) K↔K (.int .u32 ((y / 2^32:Nat):Int)):=fun K=>by
   rw[zHL .u32 (by simp[IntKind.bits]) (by simp only[IntKind.bits];omega),Nat.zero_or,zEt (by omega)]
  rw[hm]
  simp(disch:=first|exact Xe|fail)only[hi,hq32,hp32,hY,zJd,zR5,zUH,zPQ,zQW,or1,or2,ne_eq,Nat.reduceEqDiff,↓Xa,Xb,Xc,↓reduceIte,Nat.reduceLT,Nat.reduceEqDiff,Nat.reduceBEq,Nat.reduceLeDiff,Nat.reduceAdd,Nat.reduceMul]
  refine Settle.now ⟨(done.length+1,_,_),by dsimp only;omega,⟨by dsimp only;omega,k3⟩,?_⟩
  rw[show a.length-(done.length+1)=m by omega]
 ·obtain rfl:i=a.length:=by omega
  simp(disch:=first|exact Xe|fail)only[hi,Nat.sub_self,↓Xa,Xb,Xc,↓reduceIte,Nat.reduceLT,Nat.reduceEqDiff,Nat.reduceBEq,Nat.reduceLeDiff,Nat.reduceAdd,Nat.reduceMul]
  refine Settle.now ?_
  have len0:(zG6 q done c 0).length=a.length+q+1:=by rw[zL7];omega
  simp(disch:=first|exact Xe|fail)only[↓Xa,Xb,Xc,↓reduceIte,Nat.reduceLT,Nat.reduceEqDiff,Nat.reduceBEq,Nat.reduceLeDiff,Nat.reduceAdd,Nat.reduceMul]
  refine zCb (zAC _ _ _) len0 ?_
  simp(disch:=first|exact Xe|fail)only[zcy,↓Xa,Xb,Xc,↓reduceIte,Nat.reduceLT,Nat.reduceEqDiff,Nat.reduceBEq,Nat.reduceLeDiff,Nat.reduceAdd,Nat.reduceMul]
  have e:=h2.end (q:=q) hr
  rw[hse]at e
  exact zKz ho len0 (by rw[e];exact hq)
theorem zVm{a:List Nat}{s:Nat}(t:Bool)(ha:Lim 4294967296 a)(hs:s<9223372036854775808)(hn:a.length≤1099511627776):PFn Tryz.prog 224 [LS a t,.int .i64 (s:Int)] (.tup [LS (digs 4294967296 (val 4294967296 a / 2^s)) true,.int .i64 ((0:Nat):Int)]):=by
 intro H Q hq
 refine zSL (by simp) ?_
 simp(disch:=first|exact Xe|fail)only[zbi,zd0,ne_eq,Nat.reduceEqDiff,↓Xa,Xb,Xc,↓reduceIte,Nat.reduceLT,Nat.reduceEqDiff,Nat.reduceBEq,Nat.reduceLeDiff,Nat.reduceAdd,Nat.reduceMul]
 refine(zEQ a t).call ?_
 have ht:=zFR a
 rw[zAr (by omega) ha]at ht ⊢
 generalize val 4294967296 a=N at*
 have hse:32*(s / 32)+s%32=s:=Nat.div_add_mod s 32
 have hr:s%32<32:=Nat.mod_lt _ (by omega)
 have hsq:s / 32<9223372036854775808:=by omega
 generalize hq32:s / 32=q at*
 generalize hp32:s%32=p at*
 have hN:=zAJ (B:=4294967296) (by omega) N
 have hX:=zAG (B:=4294967296) (by omega) N
 have hpow:(2:Nat)^s=4294967296^q*2^p:=by rw[← hse,Nat.pow_add,Nat.pow_mul]
 by_cases hql:(digs 4294967296 N).length≤q
 ·simp(disch:=first|exact Xe|fail)only[hq32,hql,ne_eq,Nat.reduceEqDiff,zZB,↓Xa,Xb,Xc,↓reduceIte,Nat.reduceLT,Nat.reduceEqDiff,Nat.reduceBEq,Nat.reduceLeDiff,Nat.reduceAdd,Nat.reduceMul]
  have h0:N / 2^s=0:=by
   apply Nat.div_eq_of_lt
   have h1:=zBE hX
   rw[hN]at h1
   have h2:(4294967296:Nat)^(digs 4294967296 N).length≤4294967296^q:=Nat.pow_le_pow_right (by omega) hql
   have h3:4294967296^q*1≤4294967296^q*2^p:=Nat.mul_le_mul_left _ (Nat.pow_pos (by omega))
   omega
  rw[h0,zAQ]at hq
  exact SetR.now hq
 ·have hvd:=zCf (B:=4294967296) (by omega) hX (q:=q) (by omega)
  rw[hN]at hvd
  have hXd:=hX.drop q
  have hdl:((digs 4294967296 N).drop q).length≤a.length:=by rw[List.length_drop];omega
  simp(disch:=first|exact Xe|fail)only[hq32,hql,ne_eq,Nat.reduceEqDiff,↓Xa,Xb,Xc,↓reduceIte,Nat.reduceLT,Nat.reduceEqDiff,Nat.reduceBEq,Nat.reduceLeDiff,Nat.reduceAdd,Nat.reduceMul]
  generalize(digs 4294967296 N).drop q=x at*
  simp(disch:=first|exact Xe|fail)only[hq32,hp32,ne_eq,Nat.reduceEqDiff,↓Xa,Xb,Xc,↓reduceIte,Nat.reduceLT,Nat.reduceEqDiff,Nat.reduceBEq,Nat.reduceLeDiff,Nat.reduceAdd,Nat.reduceMul]
  refine zDP fun o ho=>?_
  simp(disch:=first|exact Xe|fail)only[↓Xa,Xb,Xc,↓reduceIte,Nat.reduceLT,Nat.reduceEqDiff,Nat.reduceBEq,Nat.reduceLeDiff,Nat.reduceAdd,Nat.reduceMul]
  refine zAP (fun z:Nat×List Nat=>⟨[],[(0,LS x true),(6,.int .i64 p),(7,.own o x.length 0 x.length true),(29,LS x true),(30,.int .i64 x.length),(31,.int .i64 z.1)],
   H.upd o (some (.row 168 1 (U (z.2++List.replicate (x.length-z.1) 0))))⟩)
   (fun z=>z.1≤x.length∧ShrI (val 4294967296 x) p z.1 z.2) (fun z=>x.length-z.1) (0,[]) (Settle.now rfl) ⟨by simp,rfl,Lim.nil _,by simp[val,Nat.mod_one]⟩ ?_
  rintro⟨i,done⟩ ⟨h1,h2⟩
  dsimp only at h1 h2 ⊢
  have hd:=h2.1
  by_cases hi:i<x.length
  ·have hx0:=hXd.getD (by omega) i
   have hx1:=hXd.getD (by omega) (i+1)
   have hp64:p≤64:=by omega
   by_cases hj:i+1<x.length
   ·have hyb:(x.getD i 0+x.getD (i+1) 0*2^32) / 2^p<18446744073709551616:=Nat.lt_of_le_of_lt (Nat.div_le_self _ _) (by omega)
    simp(disch:=first|exact Xe|fail)only[hi,hj,↓Xa,Xb,Xc,↓reduceIte,Nat.reduceLT,Nat.reduceEqDiff,Nat.reduceBEq,Nat.reduceLeDiff,Nat.reduceAdd,Nat.reduceMul]
    refine Settle.now ⟨(i+1,done++[_]),by dsimp only;omega,⟨by dsimp only;omega,h2.step hr hXd hi rfl⟩,?_⟩
    rw[zCR _ _ _ _ hd hi]
   ·have h0:=zAo (show x.length≤i+1 by omega)
    have e0:x.getD i 0 / 2^p<18446744073709551616:=Nat.lt_of_le_of_lt (Nat.div_le_self _ _) (by omega)
    simp(disch:=first|exact Xe|fail)only[hi,hj,↓Xa,Xb,Xc,↓reduceIte,Nat.reduceLT,Nat.reduceEqDiff,Nat.reduceBEq,Nat.reduceLeDiff,Nat.reduceAdd,Nat.reduceMul]
    refine Settle.now ⟨(i+1,done++[_]),by dsimp only;omega,⟨by dsimp only;omega,h2.step hr hXd hi (y:=x.getD i 0) (by rw[h0];omega)⟩,?_⟩
    rw[zCR _ _ _ _ hd hi]
  ·obtain rfl:i=x.length:=by omega
   simp(disch:=first|exact Xe|fail)only[hi,Nat.sub_self,List.replicate_zero,↓Xa,Xb,Xc,↓reduceIte,Nat.reduceLT,Nat.reduceEqDiff,Nat.reduceBEq,Nat.reduceLeDiff,Nat.reduceAdd,Nat.reduceMul]
   refine Settle.now ?_
   simp(disch:=first|exact Xe|fail)only[↓Xa,Xb,Xc,↓reduceIte,Nat.reduceLT,Nat.reduceEqDiff,Nat.reduceBEq,Nat.reduceLeDiff,Nat.reduceAdd,Nat.reduceMul]
   refine zCb (zAC _ _ _) hd ?_
   simp(disch:=first|exact Xe|fail)only[zZB,↓Xa,Xb,Xc,↓reduceIte,Nat.reduceLT,Nat.reduceEqDiff,Nat.reduceBEq,Nat.reduceLeDiff,Nat.reduceAdd,Nat.reduceMul]
   refine zKz ho hd ?_
   rw[h2.end hXd,hvd,Nat.div_div_eq_div_mul,← hpow];exact hq
section
variable {H:AHeap} {b ty off L n:Nat} {ti:Bool} {pre u post:List Nat}
theorem zUT{v:List Nat}{t:Nat}(tv:Bool){Q:AV→AHeap→Prop}(hH:H b=some (.row ty 1 (U (pre++(u++post)))))(hL:L=pre.length+(u.length+post.length))(ho:off=pre.length)(hn:n=u.length)
 (hu:Lim 4294967296 u) (hv:Lim 4294967296 v) (ht:t<4294967296) (hvu:v.length<u.length) (hul:L≤2199023255552)
 (hq: ∀(w:List Nat)(bo:Nat),w.length=u.length→Lim 4294967296 w→bo≤1→val 4294967296 u+4294967296^u.length*bo=val 4294967296 w+t*val 4294967296 v→Q (.bool (decide (0<bo))) (H.upd b (some (.row ty 1 (U (pre++(w++post))))))):
 Run Tryz.prog 244 [.own b L off n ti,LS v tv,.int .u64 (t:Int)] H Q:=by
 subst hL;subst ho;subst hn
 refine zSU (by simp) ?_
 simp(disch:=first|exact Xe|fail)only[zcW,↓Xa,Xb,Xc,↓reduceIte,Nat.reduceLT,Nat.reduceEqDiff,Nat.reduceBEq,Nat.reduceLeDiff,Nat.reduceAdd,Nat.reduceMul]
 refine zAP (fun s:Nat×Nat×Nat×List Nat=>⟨[],[(0,.own b (pre.length+(u.length+post.length)) pre.length u.length ti),(1,LS v tv),(2,.int .u64 t),(7,.int .u64 s.2.1),(8,.int .u64 s.2.2.1),(12,.int .i64 u.length),(13,.int .i64 s.1)],
  H.upd b (some (.row ty 1 (U (pre++((s.2.2.2++u.drop s.1)++post)))))⟩)
  (fun s=>s.1≤u.length∧LessI u v t s.1 s.2.1 s.2.2.1 s.2.2.2) (fun s=>u.length-s.1) (0,0,0,[]) (Settle.now (by simp[zAV _ hH])) ⟨by simp,LessI.zero u v t⟩ ?_
 rintro⟨i,c,bo,done⟩ ⟨h1,h2⟩
 dsimp only at h1 h2 ⊢
 have hd:=h2.1
 have hc:=h2.2.2.1
 have hbo:=h2.2.2.2.1
 by_cases hi:i<u.length
 ·have hx:=hu.getD (by omega) i
  have hy:=hv.getD (by omega) i
  have hm:v.getD i 0*t≤4294967295*4294967295:=Nat.mul_le_mul (by omega) (by omega)
  have hcl:(done++u.drop i).length=u.length:=by simp[hd];omega
  have len1:(pre++((done++u.drop i)++post)).length=pre.length+(u.length+post.length):=by simp only[List.length_append,hd,List.length_drop];omega
  have g1:(pre++((done++u.drop i)++post)).getD (pre.length+i) 0=u.getD i 0:=by rw[zK8 (by omega),zH6 hd hi]
  have s1: ∀x,(pre++((done++u.drop i)++post)).set (pre.length+i) x=pre++(((done++[x])++u.drop (i+1))++post):=fun x=>by rw[zRp (by omega),zH8 hd hi]
  generalize hrow:pre++((done++u.drop i)++post)=row at*
  by_cases hj:i<v.length
  ·simp(disch:=first|exact Xe|fail)only[hi,hj,g1,↓Xa,Xb,Xc,↓reduceIte,Nat.reduceLT,Nat.reduceEqDiff,Nat.reduceBEq,Nat.reduceLeDiff,Nat.reduceAdd,Nat.reduceMul]
   rw[s1]
   refine Settle.now ⟨(i+1,_,_,_),by dsimp only;omega,⟨by dsimp only;omega,h2.step hu hv ht rfl rfl⟩,rfl⟩
  ·have h0:=zAo (show v.length≤i by omega)
   simp(disch:=first|exact Xe|fail)only[hi,hj,g1,↓Xa,Xb,Xc,↓reduceIte,Nat.reduceLT,Nat.reduceEqDiff,Nat.reduceBEq,Nat.reduceLeDiff,Nat.reduceAdd,Nat.reduceMul]
   rw[s1]
   refine Settle.now ⟨(i+1,_,_,_),by dsimp only;omega,⟨by dsimp only;omega,h2.step hu hv ht (c1:=c) (by rw[h0];omega) rfl⟩,rfl⟩
 ·obtain rfl:i=u.length:=by omega
  simp(disch:=first|exact Xe|fail)only[hi,↓Xa,Xb,Xc,↓reduceIte,Nat.reduceLT,Nat.reduceEqDiff,Nat.reduceBEq,Nat.reduceLeDiff,Nat.reduceAdd,Nat.reduceMul]
  refine Settle.now ?_
  simp(disch:=first|exact Xe|fail)only[zeC,↓Xa,Xb,Xc,↓reduceIte,Nat.reduceLT,Nat.reduceEqDiff,Nat.reduceBEq,Nat.reduceLeDiff,Nat.reduceAdd,Nat.reduceMul]
  refine SetR.now ?_
  rw[List.drop_of_length_le (Nat.le_refl _),List.append_nil]
  exact hq done bo hd h2.2.1 hbo (h2.end hvu)
def scC:ACode→ACode
 |.scope0 c=>c
 |x=>x
theorem zOh{v:List Nat}{m:Nat}(tv:Bool){Q:AV→AHeap→Prop}(h:DigI u v m)(hH:H b=some (.row ty 1 (U (pre++(u++post)))))(hL:L=pre.length+(u.length+post.length))(ho:off=pre.length)(hn:n=u.length)(hul:L≤2199023255552)
 (hq: ∀(w:List Nat),w.length=u.length→Lim 4294967296 w→val 4294967296 w=val 4294967296 u%val 4294967296 v→Q (.int .u32 ((val 4294967296 u / val 4294967296 v:Nat):Int)) (H.upd b (some (.row ty 1 (U (pre++(w++post))))))):
 Run Tryz.prog 233 [.own b L off n ti,LS v tv] H Q:=by
 subst hL;subst ho;subst hn
 have hlu:=h.hu
 have hlv:=h.hv
 have hq1:=h.q_lt
 have hl:=h.lims
 have htop:=h.top
 have hqm:val 4294967296 u / val 4294967296 v*val 4294967296 v+val 4294967296 u%val 4294967296 v=val 4294967296 u:=Nat.div_add_mod' _ _
 have hml:=Nat.mod_lt (val 4294967296 u) h.vpos
 have hvl:=zBE h.lu
 refine zTJ (by simp) ?_
 have fin: ∀g,val 4294967296 u / val 4294967296 v≤g→g≤val 4294967296 u / val 4294967296 v+1→g<4294967296→W Tryz.prog (zBT (zBT (zBT (zBT (zBT (scC (zBT zUh))))))) (zFs (zFC zUZ Q)) ⟨[],[(0,.own b (pre.length+(u.length+post.length)) pre.length u.length ti),(1,LS v tv),(5,.int .i64 v.length),(7,.int .u64 g)],H⟩:=by
  intro g g1 g2 g3
  simp(disch:=first|exact Xe|fail)only[zUh,zBT,scC,↓Xa,Xb,Xc,↓reduceIte,Nat.reduceLT,Nat.reduceEqDiff,Nat.reduceBEq,Nat.reduceLeDiff,Nat.reduceAdd,Nat.reduceMul]
  refine zAM (zUT tv hH rfl rfl rfl h.lu h.lv g3 (by omega) hul fun w bo hw1 hw2 hb e=>?_)
  have hwl:=zBE hw2
  rw[hw1]at hwl
  generalize val 4294967296 u / val 4294967296 v=q at*
  have hgv:g=q∨g=q+1:=by omega
  have hgm:g*val 4294967296 v=q*val 4294967296 v∨g*val 4294967296 v=q*val 4294967296 v+val 4294967296 v:=by
   rcases hgv with e|e
   ·left;rw[e]
   ·right;rw[e,Nat.add_mul,Nat.one_mul]
  have hbc:bo=0∨bo=1:=by omega
  rcases hbc with rfl|rfl
  ·have hg:g=q:=by
    rcases hgv with e1|e1
    ·exact e1
    ·rw[e1,Nat.add_mul,Nat.one_mul]at e;omega
   simp(disch:=first|exact Xe|fail)only[zUZ,↓Xa,Xb,Xc,↓reduceIte,Nat.reduceLT,Nat.reduceEqDiff,Nat.reduceBEq,Nat.reduceLeDiff,Nat.reduceAdd,Nat.reduceMul]
   refine SetR.now ?_
   rw[hg]
   exact hq w hw1 hw2 (by rw[hg]at e;omega)
  ·have hg:g=q+1:=by
    rcases hgv with e1|e1
    ·rw[e1]at e;omega
    ·exact e1
   subst hg
   simp(disch:=first|exact Xe|fail)only[↓Xa,Xb,Xc,↓reduceIte,Nat.reduceLT,Nat.reduceEqDiff,Nat.reduceBEq,Nat.reduceLeDiff,Nat.reduceAdd,Nat.reduceMul]
   refine zAP (fun s:Nat×Nat×List Nat=>⟨[],[(0,.own b (pre.length+(u.length+post.length)) pre.length u.length ti),(1,LS v tv),(5,.int .i64 v.length),(7,.int .u64 q),(9,.int .u64 s.2.1),(88,.int .i64 u.length),(89,.int .i64 s.1)],
    H.upd b (some (.row ty 1 (U (pre++((s.2.2++w.drop s.1)++post)))))⟩)
    (fun s=>s.1≤u.length∧AddI w v s.1 s.2.1 s.2.2) (fun s=>u.length-s.1) (0,0,[]) (Settle.now rfl) ⟨by simp,AddI.zero w v⟩ ?_
   rintro⟨i,c,done⟩ ⟨h1,h2⟩
   dsimp only at h1 h2 ⊢
   have hd:=h2.1
   have hc:=h2.2.2.1
   by_cases hi:i<u.length
   ·have hiw:i<w.length:=by omega
    have hx:=hw2.getD (by omega) i
    have hy:=h.lv.getD (by omega) i
    have len1:(pre++((done++w.drop i)++post)).length=pre.length+(u.length+post.length):=by simp only[List.length_append,hd,List.length_drop];omega
    have hcl:i<(done++w.drop i).length:=by simp only[List.length_append,hd,List.length_drop];omega
    have g1:(pre++((done++w.drop i)++post)).getD (pre.length+i) 0=w.getD i 0:=by rw[zK8 hcl,zH6 hd hiw]
    have s1: ∀x,(pre++((done++w.drop i)++post)).set (pre.length+i) x=pre++(((done++[x])++w.drop (i+1))++post):=fun x=>by rw[zRp hcl,zH8 hd hiw]
    generalize hrow:pre++((done++w.drop i)++post)=row at*
    by_cases hj:i<v.length
    ·simp(disch:=first|exact Xe|fail)only[hi,hj,g1,↓Xa,Xb,Xc,↓reduceIte,Nat.reduceLT,Nat.reduceEqDiff,Nat.reduceBEq,Nat.reduceLeDiff,Nat.reduceAdd,Nat.reduceMul]
     rw[s1]
     refine Settle.now ⟨(i+1,_,_),by dsimp only;omega,⟨by dsimp only;omega,h2.step hw2 h.lv rfl⟩,rfl⟩
    ·have h0:=zAo (show v.length≤i by omega)
     simp(disch:=first|exact Xe|fail)only[hi,hj,g1,↓Xa,Xb,Xc,↓reduceIte,Nat.reduceLT,Nat.reduceEqDiff,Nat.reduceBEq,Nat.reduceLeDiff,Nat.reduceAdd,Nat.reduceMul]
     rw[s1]
     refine Settle.now ⟨(i+1,_,_),by dsimp only;omega,⟨by dsimp only;omega,h2.step hw2 h.lv (s:=c+w.getD i 0) (by omega)⟩,rfl⟩
   ·obtain rfl:i=u.length:=by omega
    simp(disch:=first|exact Xe|fail)only[hi,↓Xa,Xb,Xc,↓reduceIte,Nat.reduceLT,Nat.reduceEqDiff,Nat.reduceBEq,Nat.reduceLeDiff,Nat.reduceAdd,Nat.reduceMul]
    refine Settle.now ?_
    simp(disch:=first|exact Xe|fail)only[zUZ,↓Xa,Xb,Xc,↓reduceIte,Nat.reduceLT,Nat.reduceEqDiff,Nat.reduceBEq,Nat.reduceLeDiff,Nat.reduceAdd,Nat.reduceMul]
    refine SetR.now ?_
    rw[List.drop_of_length_le (by omega),List.append_nil]
    refine hq done hd h2.2.1 ?_
    have e2:=h2.2.2.2
    rw[List.take_of_length_le (by omega),List.take_of_length_le (by omega)]at e2
    have hdl:=zBE h2.2.1
    rw[hd]at hdl
    rw[Nat.add_mul,Nat.one_mul]at e
    have hcc:c=0∨c=1:=by omega
    rcases hcc with rfl|rfl<;>omega
 have gl: ∀i,i<u.length→(pre++(u++post)).getD (pre.length+i) 0=u.getD i 0:=fun i hi=>zK8 hi
 have hul2:(pre++(u++post)).length=pre.length+(u.length+post.length):=by simp
 have g1:=gl (m+2) (by omega)
 have g2:=gl (m+1) (by omega)
 have g3:=gl m (by omega)
 have e1:m+2-1=m+1:=by omega
 have e2:m+2-2=m:=by omega
 have hst:=h.start
 have hU2:U2 u m=u.getD (m+2) 0*2^32+u.getD (m+1) 0:=rfl
 have hne:(v.getD (m+1) 0=0)=False:=eq_false (by omega)
 have hrl:U2 u m%v.getD (m+1) 0<v.getD (m+1) 0:=Nat.mod_lt _ (by omega)
 have hgl:U2 u m / v.getD (m+1) 0<18446744073709551616:=Nat.lt_of_le_of_lt (Nat.div_le_self _ _) (by rw[hU2];omega)
 generalize hrow:pre++(u++post)=row at*
 simp(disch:=first|exact Xe|fail)only[zUh,hH,hlv,e1,e2,g1,g2,← hU2,hne,ne_eq,↓Xa,Xb,Xc,↓reduceIte,Nat.reduceLT,Nat.reduceEqDiff,Nat.reduceBEq,Nat.reduceLeDiff,Nat.reduceAdd,Nat.reduceMul]
 simp only[hlv]at fin
 refine zAP (fun s:Nat×Nat=>⟨[],[(0,.own b (pre.length+(u.length+post.length)) pre.length u.length ti),(1,LS v tv),(5,.int .i64 ((m+2:Nat):Int)),(7,.int .u64 s.1),(8,.int .u64 s.2)],H⟩)
  (fun s=>GuessI u v m s.1 s.2∧s.2<4294967296) (fun s=>s.1) (U2 u m / v.getD (m+1) 0,U2 u m%v.getD (m+1) 0) (Settle.now rfl) ⟨hst,by dsimp only;omega⟩ ?_
 rintro⟨g,r⟩ ⟨hg,hr⟩
 dsimp only at hg hr ⊢
 have hgm:=hg.2.2
 have next:(4294967296≤g∨r*2^32+u.getD m 0<g*v.getD m 0)→0<g∧GuessI u v m (g-1) (r+v.getD (m+1) 0):=fun hc=>hg.step h hc
 have leave:(4294967296≤g∨r*2^32+u.getD m 0<g*v.getD m 0)→4294967296≤r+v.getD (m+1) 0→val 4294967296 u / val 4294967296 v≤g-1∧g-1≤val 4294967296 u / val 4294967296 v+1∧g-1<4294967296:=fun hc hr'=>by
  have h1:=next hc
  have h2:=h1.2.endB h hr' (by omega)
  have h3:=h1.2.2.1
  exact⟨h3,by omega,Nat.lt_of_le_of_lt h2 hq1⟩
 by_cases hgB:4294967296≤g
 ·have c1:0<g / 2^32:=by omega
  have hp:=(next (.inl hgB)).1
  by_cases hr':4294967296≤r+v.getD (m+1) 0
  ·have c2:0<(r+v.getD (m+1) 0) / 2^32:=by omega
   obtain⟨f1,f2,f3⟩:=leave (.inl hgB) hr'
   simp(disch:=first|exact Xe|fail)only[hH,e1,e2,g1,g2,g3,c1,c2,↓Xa,Xb,Xc,↓reduceIte,Nat.reduceLT,Nat.reduceEqDiff,Nat.reduceBEq,Nat.reduceLeDiff,Nat.reduceAdd,Nat.reduceMul]
   exact Settle.keep [0,1,5,7] (fin (g-1) f1 f2 f3)
  ·have c2: ¬0<(r+v.getD (m+1) 0) / 2^32:=by omega
   simp(disch:=first|exact Xe|fail)only[hH,e1,e2,g1,g2,g3,c1,c2,↓Xa,Xb,Xc,↓reduceIte,Nat.reduceLT,Nat.reduceEqDiff,Nat.reduceBEq,Nat.reduceLeDiff,Nat.reduceAdd,Nat.reduceMul]
   exact Settle.keep [0,1,5,7,8] ⟨(g-1,r+v.getD (m+1) 0),by dsimp only;omega,⟨(next (.inl hgB)).2,by dsimp only;omega⟩,rfl⟩
 ·have c1: ¬0<g / 2^32:=by omega
  have hm2:g*v.getD m 0≤4294967295*4294967295:=Nat.mul_le_mul (by omega) (by omega)
  by_cases hc:r*2^32+u.getD m 0<g*v.getD m 0
  ·have hp:=(next (.inr hc)).1
   by_cases hr':4294967296≤r+v.getD (m+1) 0
   ·have c2:0<(r+v.getD (m+1) 0) / 2^32:=by omega
    obtain⟨f1,f2,f3⟩:=leave (.inr hc) hr'
    simp(disch:=first|exact Xe|fail)only[hH,e1,e2,g1,g2,g3,c1,c2,hc,↓Xa,Xb,Xc,↓reduceIte,Nat.reduceLT,Nat.reduceEqDiff,Nat.reduceBEq,Nat.reduceLeDiff,Nat.reduceAdd,Nat.reduceMul]
    exact Settle.keep [0,1,5,7] (fin (g-1) f1 f2 f3)
   ·have c2: ¬0<(r+v.getD (m+1) 0) / 2^32:=by omega
    simp(disch:=first|exact Xe|fail)only[hH,e1,e2,g1,g2,g3,c1,c2,hc,↓Xa,Xb,Xc,↓reduceIte,Nat.reduceLT,Nat.reduceEqDiff,Nat.reduceBEq,Nat.reduceLeDiff,Nat.reduceAdd,Nat.reduceMul]
    exact Settle.keep [0,1,5,7,8] ⟨(g-1,r+v.getD (m+1) 0),by dsimp only;omega,⟨(next (.inr hc)).2,by dsimp only;omega⟩,rfl⟩
  ·simp(disch:=first|exact Xe|fail)only[hH,e1,e2,g1,g2,g3,c1,hc,↓Xa,Xb,Xc,↓reduceIte,Nat.reduceLT,Nat.reduceEqDiff,Nat.reduceBEq,Nat.reduceLeDiff,Nat.reduceAdd,Nat.reduceMul]
   exact Settle.keep [0,1,5,7] (fin g hg.2.1 (hg.endA h (by omega) (by omega)) (by omega))
end
theorem zd2(B:Nat):AV.seq 0 [] true=LS (digs B 0) true:=by rw[zAQ];rfl
theorem zKV{m n:Nat}{K:AV→Prop}:zAx .lss (.int .i64 (zBv m n)) (.int .i64 ((0:Nat):Int)) K↔K (.bool (decide (m<n))):=by
 have:(zBv m n<((0:Nat):Int))↔m<n:=by unfold zBv;split<;>simp_all;split<;>omega
 simp only[zAx,zAf,true_and,this]
theorem zXZ{l x:List Nat}{b ty n:Nat}{t:Bool}{H:AHeap}{Q:AV→AHeap→Prop}{k:IntKind}{m:Int}(hb:H b=none)(hn:l.length=n)(hq:Q (.tup [LS (tr l) true,LS x t,.int k m]) H):SetR Q (.tup [.own b n 0 (tr l).length true,LS x t,.int k m]) (H.upd b (some (.row ty 1 (U l)))):=by
 refine SetR.frz b (zAC _ _ _) ?_
 rw[zAO,zAV _ hb,frz,List.map_cons,List.map_cons,List.map_cons,List.map_nil,zLN hn,zFp]
 exact SetR.now hq
theorem zaK{H:AHeap}{ty n:Nat}{l m:List Nat}{t:Bool}{K:AV→AHeap→Prop}(hn:n=m.length)(hm:m≠[])(hb:l.length+m.length≤17592186044416)
 (k: ∀b,H b=none→K (.own b (l.length+m.length) 0 (l.length+m.length) false) (H.upd b (some (.row ty 1 (U (l++m)))))):zM3 H ty 1 4 (LS l true) (.seq n (U m) t) K:=by
 subst hn
 have hpos:0<m.length:=List.length_pos_iff.2 hm
 refine .inl ⟨by simp,zMB m,rfl,by simp,by omega,by omega,fun e=>absurd e (by omega),fun _ b hb'=>?_⟩
 have:=k b hb'
 rw[zY8]at this
 simpa using this
theorem zQh{a b:List Nat}(ta tb:Bool)(ha:Lim 4294967296 a)(hb:Lim 4294967296 b)(h0:0<val 4294967296 b)(hla:a.length≤549755813888)(hlb:b.length≤549755813888)(hlt:val 4294967296 a<val 4294967296 b):
 PFn Tryz.prog 213 [LS a ta,LS b tb] (.tup [LS (digs 4294967296 (val 4294967296 a / val 4294967296 b)) true,LS (digs 4294967296 (val 4294967296 a%val 4294967296 b)) true,.int .i64 ((0:Nat):Int)]):=by
 intro H Q hq
 refine zH5 (by simp) ?_
 simp(disch:=first|exact Xe|fail)only[zSb,↓Xa,Xb,Xc,↓reduceIte,Nat.reduceLT,Nat.reduceEqDiff,Nat.reduceBEq,Nat.reduceLeDiff,Nat.reduceAdd,Nat.reduceMul]
 refine(zEQ b tb).call ?_
 have htb:=zFR b
 rw[zAr (by omega) hb]at htb ⊢
 generalize val 4294967296 b=Bv at*
 have hY:=zAG (B:=4294967296) (by omega) Bv
 have hYv:=zAJ (B:=4294967296) (by omega) Bv
 have hYp:0<(digs 4294967296 Bv).length:=by rw[zAz (by omega) h0];simp
 generalize digs 4294967296 Bv=Y at*
 have hY0:(Y.length=0)=False:=eq_false (by omega)
 simp(disch:=first|exact Xe|fail)only[hY0,↓Xa,Xb,Xc,↓reduceIte,Nat.reduceLT,Nat.reduceEqDiff,Nat.reduceBEq,Nat.reduceLeDiff,Nat.reduceAdd,Nat.reduceMul]
 refine(zGU ta true ha hY).call ?_
 rw[hYv]
 simp(disch:=first|exact Xe|fail)only[zKV,hlt,↓Xa,Xb,Xc,↓reduceIte,Nat.reduceLT,Nat.reduceEqDiff,Nat.reduceBEq,Nat.reduceLeDiff,Nat.reduceAdd,Nat.reduceMul]
 refine(zIe ta (by omega)).call ?_
 rw[zAr (by omega) ha]
 simp(disch:=first|exact Xe|fail)only[zVI,↓Xa,Xb,Xc,↓reduceIte,Nat.reduceLT,Nat.reduceEqDiff,Nat.reduceBEq,Nat.reduceLeDiff,Nat.reduceAdd,Nat.reduceMul]
 rw[Nat.div_eq_of_lt hlt,Nat.mod_eq_of_lt hlt,← zd2 4294967296]at hq
 exact SetR.now hq
theorem zN6{a b:List Nat}(ta tb:Bool)(ha:Lim 4294967296 a)(hb:Lim 4294967296 b)(h0:0<val 4294967296 b)(hla:a.length≤549755813888)(hlb:b.length≤549755813888)(hlt: ¬val 4294967296 a<val 4294967296 b)(h1:(digs 4294967296 (val 4294967296 b)).length=1):
 PFn Tryz.prog 213 [LS a ta,LS b tb] (.tup [LS (digs 4294967296 (val 4294967296 a / val 4294967296 b)) true,LS (digs 4294967296 (val 4294967296 a%val 4294967296 b)) true,.int .i64 ((0:Nat):Int)]):=by
 intro H Q hq
 refine zH5 (by simp) ?_
 simp(disch:=first|exact Xe|fail)only[zSb,↓Xa,Xb,Xc,↓reduceIte,Nat.reduceLT,Nat.reduceEqDiff,Nat.reduceBEq,Nat.reduceLeDiff,Nat.reduceAdd,Nat.reduceMul]
 refine(zEQ b tb).call ?_
 rw[zAr (by omega) hb]
 generalize val 4294967296 b=Bv at*
 have hY:=zAG (B:=4294967296) (by omega) Bv
 have hYv:=zAJ (B:=4294967296) (by omega) Bv
 generalize digs 4294967296 Bv=Y at*
 simp(disch:=first|exact Xe|fail)only[h1,↓Xa,Xb,Xc,↓reduceIte,Nat.reduceLT,Nat.reduceEqDiff,Nat.reduceBEq,Nat.reduceLeDiff,Nat.reduceAdd,Nat.reduceMul]
 refine(zGU ta true ha hY).call ?_
 rw[hYv]
 have hd:val 4294967296 Y=Y.getD 0 0:=by
  have:=zAa 4294967296 Y (0+1) (by omega)
  rw[← this,zAe];simp[val]
 rw[hYv]at hd
 have hBl:Bv<4294967296:=by rw[hd];exact hY.getD (by omega) 0
 simp(disch:=first|exact Xe|fail)only[zKV,hlt,h1,zIj,← hd,↓Xa,Xb,Xc,↓reduceIte,Nat.reduceLT,Nat.reduceEqDiff,Nat.reduceBEq,Nat.reduceLeDiff,Nat.reduceAdd,Nat.reduceMul]
 refine(zGL ta ha h0 hBl (by omega)).call ?_
 simp(disch:=first|exact Xe|fail)only[↓Xa,Xb,Xc,↓reduceIte,Nat.reduceLT,Nat.reduceEqDiff,Nat.reduceBEq,Nat.reduceLeDiff,Nat.reduceAdd,Nat.reduceMul]
 have hm:val 4294967296 a%Bv<4294967296:=Nat.lt_trans (Nat.mod_lt _ h0) hBl
 refine(zIe (l:=[val 4294967296 a%Bv]) true (by simp)).call ?_
 rw[zAr (by omega) (Lim.one hm),zFK]
 simp(disch:=first|exact Xe|fail)only[zVI,↓Xa,Xb,Xc,↓reduceIte,Nat.reduceLT,Nat.reduceEqDiff,Nat.reduceBEq,Nat.reduceLeDiff,Nat.reduceAdd,Nat.reduceMul]
 exact SetR.now hq
theorem zLO{a b:List Nat}(ta tb:Bool)(ha:Lim 4294967296 a)(hb:Lim 4294967296 b)(h0:0<val 4294967296 b)(hla:a.length≤549755813888)(hlb:b.length≤549755813888)(hlt: ¬val 4294967296 a<val 4294967296 b)(h1: ¬(digs 4294967296 (val 4294967296 b)).length=1):
 PFn Tryz.prog 213 [LS a ta,LS b tb] (.tup [LS (digs 4294967296 (val 4294967296 a / val 4294967296 b)) true,LS (digs 4294967296 (val 4294967296 a%val 4294967296 b)) true,.int .i64 ((0:Nat):Int)]):=by
 intro H Q hq
 refine zH5 (by simp) ?_
 simp(disch:=first|exact Xe|fail)only[zSb,↓Xa,Xb,Xc,↓reduceIte,Nat.reduceLT,Nat.reduceEqDiff,Nat.reduceBEq,Nat.reduceLeDiff,Nat.reduceAdd,Nat.reduceMul]
 refine(zEQ b tb).call ?_
 have htb:=zFR b
 rw[zAr (by omega) hb]at htb ⊢
 generalize val 4294967296 b=Bv at*
 have hY:=zAG (B:=4294967296) (by omega) Bv
 have hYv:=zAJ (B:=4294967296) (by omega) Bv
 have hYp:0<(digs 4294967296 Bv).length:=by rw[zAz (by omega) h0];simp
 have hY0:((digs 4294967296 Bv).length=0)=False:=eq_false (by omega)
 simp(disch:=first|exact Xe|fail)only[hY0,↓Xa,Xb,Xc,↓reduceIte,Nat.reduceLT,Nat.reduceEqDiff,Nat.reduceBEq,Nat.reduceLeDiff,Nat.reduceAdd,Nat.reduceMul]
 refine(zGU ta true ha hY).call ?_
 rw[hYv]
 have hn2:2≤(digs 4294967296 Bv).length:=by omega
 have htop:=hY.getD (by omega) ((digs 4294967296 Bv).length-1)
 have htl:blen ((digs 4294967296 Bv).getD ((digs 4294967296 Bv).length-1) 0)≤32:=zBZ.2 (by omega)
 simp(disch:=first|exact Xe|fail)only[zKV,hlt,h1,↓Xa,Xb,Xc,↓reduceIte,Nat.reduceLT,Nat.reduceEqDiff,Nat.reduceBEq,Nat.reduceLeDiff,Nat.reduceAdd,Nat.reduceMul]
 refine(zeX htop).call ?_
 generalize hs:32-blen ((digs 4294967296 Bv).getD ((digs 4294967296 Bv).length-1) 0)=s at*
 have hs32:s≤32:=by omega
 obtain⟨w1,w2,w3⟩:=zZC h0 hs.symm
 simp(disch:=first|exact Xe|fail)only[↓Xa,Xb,Xc,↓reduceIte,Nat.reduceLT,Nat.reduceEqDiff,Nat.reduceBEq,Nat.reduceLeDiff,Nat.reduceAdd,Nat.reduceMul]
 refine(zO5 true hY (by omega) (by omega)).call ?_
 rw[hYv]
 simp(disch:=first|exact Xe|fail)only[↓Xa,Xb,Xc,↓reduceIte,Nat.reduceLT,Nat.reduceEqDiff,Nat.reduceBEq,Nat.reduceLeDiff,Nat.reduceAdd,Nat.reduceMul]
 refine(zO5 ta ha (by omega) (by omega)).call ?_
 have hV0:0<Bv*2^s:=Nat.mul_pos h0 (Nat.pow_pos (by omega))
 have hlv:=zAG (B:=4294967296) (by omega) (Bv*2^s)
 have hvv:=zAJ (B:=4294967296) (by omega) (Bv*2^s)
 have hlu:=zAG (B:=4294967296) (by omega) (val 4294967296 a*2^s)
 have hvu:=zAJ (B:=4294967296) (by omega) (val 4294967296 a*2^s)
 have hAB:Bv*2^s≤val 4294967296 a*2^s:=Nat.mul_le_mul_right _ (by omega)
 have hll:(digs 4294967296 (Bv*2^s)).length≤(digs 4294967296 (val 4294967296 a*2^s)).length:=by
  rcases Nat.lt_or_ge (digs 4294967296 (val 4294967296 a*2^s)).length (digs 4294967296 (Bv*2^s)).length with h|h
  ·have:=zBW (by omega) h;omega
  ·exact h
 have hul:(digs 4294967296 (val 4294967296 a*2^s)).length≤a.length+1:=zA4 (by omega) _ _ (by
  have h1:=zBE ha
  have h2:(2:Nat)^s≤2^32:=Nat.pow_le_pow_right (by omega) hs32
  rw[Nat.pow_succ]
  exact Nat.mul_lt_mul_of_lt_of_le h1 h2 (by omega))
 rw[w1]at hll
 have hdiv:val 4294967296 a*2^s / (Bv*2^s)=val 4294967296 a / Bv:=Nat.mul_div_mul_right _ _ (Nat.pow_pos (by omega))
 have hmod:val 4294967296 a*2^s%(Bv*2^s) / 2^s=val 4294967296 a%Bv:=by
  rw[Nat.mul_mod_mul_right,Nat.mul_div_cancel _ (Nat.pow_pos (by omega))]
 generalize val 4294967296 a*2^s=T at*
 generalize Bv*2^s=V at*
 generalize digs 4294967296 V=v at*
 generalize hn:(digs 4294967296 Bv).length=n at*
 generalize digs 4294967296 T=u0 at*
 simp(disch:=first|exact Xe|fail)only[↓Xa,Xb,Xc,↓reduceIte,Nat.reduceLT,Nat.reduceEqDiff,Nat.reduceBEq,Nat.reduceLeDiff,Nat.reduceAdd,Nat.reduceMul]
 refine zaK (l:=u0) (m:=[0]) rfl (by simp) (by simp;omega) fun bu hbu=>?_
 obtain⟨k0,hk0⟩: ∃k0,u0.length=n+k0:=⟨u0.length-n,by omega⟩
 have hum:u0.length+[0].length=n+k0+1:=by simp[hk0]
 rw[hum]
 have hdn:n+k0+1-n=k0+1:=by omega
 simp(disch:=first|exact Xe|fail)only[w1,hdn,↓Xa,Xb,Xc,↓reduceIte,Nat.reduceLT,Nat.reduceEqDiff,Nat.reduceBEq,Nat.reduceLeDiff,Nat.reduceAdd,Nat.reduceMul]
 refine zDP fun bq hbq=>?_
 have nb:=hbq
 simp only[zAB]at nb
 obtain⟨nbA,nbq⟩:=nb
 simp(disch:=first|exact Xe|fail)only[hdn,Nat.add_sub_cancel,↓Xa,Xb,Xc,↓reduceIte,Nat.reduceLT,Nat.reduceEqDiff,Nat.reduceBEq,Nat.reduceLeDiff,Nat.reduceAdd,Nat.reduceMul]
 have hlz:(u0++[0]).length=n+k0+1:=by simp[hk0]
 refine zAP (fun z:Nat×List Nat×List Nat=>⟨[],[(10,.int .i64 s),(11,LS v true),(13,.own bu (n+k0+1) 0 (n+k0+1) false),(15,.int .i64 n),(16,.own bq (k0+1) 0 (k0+1) true),(17,.int .i64 (dn z.1))],
  (H.upd bu (some (.row 168 1 (U z.2.1)))).upd bq (some (.row 168 1 (U z.2.2)))⟩)
  (fun z=>DivK T V n k0 z.1 z.2.1 z.2.2) (fun z=>z.1) (k0+1,u0++[0],List.replicate (k0+1) 0) (Settle.now rfl) ?_ ?_
 ·refine⟨Nat.le_refl _,hlz,zBg hlu (by omega),by simp,zCC (by omega) _,?_,?_⟩
  ·
   have e:=zBQ 4294967296 (u0.drop (k0+1)) [0]
   have h1:=zBE (hlu.drop (k0+1))
   rw[List.length_drop]at h1
   have h2:(u0++[0]).drop (k0+1)=u0.drop (k0+1)++[0]:=by rw[List.drop_append_of_le_length (by omega)]
   rw[h2,e,zFK,Nat.mul_zero,Nat.add_zero]
   have h3:=zIc (B:=4294967296) (l:=v) (n:=n-1) (by omega)
   rw[hvv]at h3
   have h4:4294967296^(n-1)*1≤4294967296^(n-1)*v.getD (n-1) 0:=Nat.mul_le_mul_left _ (by omega)
   rw[show u0.length-(k0+1)=n-1 by omega]at h1
   omega
  ·have z:val 4294967296 []=0:=rfl
   show T=V*(4294967296^(k0+1)*val 4294967296 ((List.replicate (k0+1) 0).drop (k0+1)))+val 4294967296 (u0++[0])
   rw[List.drop_of_length_le (Nat.le_of_eq List.length_replicate),zBV,hvu,z,Nat.mul_zero,Nat.mul_zero,Nat.mul_zero,Nat.zero_add,Nat.add_zero]
 rintro⟨M,ul,ql⟩ hk
 dsimp only at hk ⊢
 have hu1:=hk.ulen
 have hq1:=hk.qlen
 cases M with
 |zero=>
  obtain⟨d1,d2⟩:=hk.end
  simp(disch:=first|exact Xe|fail)only[↓Xa,Xb,Xc,↓reduceIte,Nat.reduceLT,Nat.reduceEqDiff,Nat.reduceBEq,Nat.reduceLeDiff,Nat.reduceAdd,Nat.reduceMul]
  refine Settle.freeze 13 rfl (by rw[zBi nbA.symm,zAC]) (by simp[hu1]) (.inr (by simp)) ?_
  have e1:AV.seq (n+k0+1) (((U ul).drop 0).take ((n+k0+1)*1)) false=LS ul false:=by
   rw[List.drop_zero,Nat.mul_one,← hu1,List.take_of_length_le (by simp)];rfl
  rw[e1,zD6 nbA,zAV H hbu]
  refine Settle.now ?_
  simp(disch:=first|exact Xe|fail)only[↓Xa,Xb,Xc,↓reduceIte,Nat.reduceLT,Nat.reduceEqDiff,Nat.reduceBEq,Nat.reduceLeDiff,Nat.reduceAdd,Nat.reduceMul]
  refine(zVm false hk.ulim (by omega) (by omega)).call ?_
  rw[d2,hmod]
  simp(disch:=first|exact Xe|fail)only[↓Xa,Xb,Xc,↓reduceIte,Nat.reduceLT,Nat.reduceEqDiff,Nat.reduceBEq,Nat.reduceLeDiff,Nat.reduceAdd,Nat.reduceMul]
  refine zCb (zAC _ _ _) hq1 ?_
  simp(disch:=first|exact Xe|fail)only[zVI,↓Xa,Xb,Xc,↓reduceIte,Nat.reduceLT,Nat.reduceEqDiff,Nat.reduceBEq,Nat.reduceLeDiff,Nat.reduceAdd,Nat.reduceMul]
  refine zXZ nbq hq1 ?_
  rw[zAr (by omega) hk.qlim,d1,hdiv]
  exact hq
 |succ k=>
  have hM:=hk.hM
  have hkl:k≤k0:=by omega
  obtain⟨s1,s2,s3⟩:=hk.seg w2
  have hseg:((ul.drop k).take (n+1)).length=n+1:=by rw[List.length_take,List.length_drop];omega
  have hparts:ul=ul.take k++((ul.drop k).take (n+1)++ul.drop (k+(n+1))):=by
   rw[← List.drop_drop,List.take_append_drop,List.take_append_drop]
  have hD:DigI ((ul.drop k).take (n+1)) v (n-2):=by
   refine⟨by omega,by omega,(hk.ulim.drop k).take _,hlv,?_,?_⟩
   ·rw[show n-2+1=n-1 by omega];exact w3
   ·rw[s1,hvv];exact s2
  have hkn:k+n+1-k=n+1:=by omega
  have hpre:(ul.take k).length=k:=by rw[List.length_take];omega
  simp(disch:=first|exact Xe|fail)only[hkn,↓Xa,Xb,Xc,↓reduceIte,Nat.reduceLT,Nat.reduceEqDiff,Nat.reduceBEq,Nat.reduceLeDiff,Nat.reduceAdd,Nat.reduceMul]
  refine zAM (zOh (pre:=ul.take k) (u:=(ul.drop k).take (n+1)) (post:=ul.drop (k+(n+1))) true hD (by rw[zBi nbA.symm,zAC,← hparts]) (by rw[hpre,hseg,List.length_drop];omega) hpre.symm hseg.symm (by omega) fun w g1 g2 g3=>?_)
  rw[hseg]at g1
  rw[hvv]at g3 ⊢
  have hqd:val 4294967296 ((ul.drop k).take (n+1)) / V<4294967296:=Nat.div_lt_of_lt_mul (by rw[s1,Nat.mul_comm];exact s2)
  have stp:=hk.step w2 hV0 g1 g2 g3 rfl
  rw[Nat.mod_eq_of_lt hqd]at stp
  generalize val 4294967296 ((ul.drop k).take (n+1)) / V=qd at*
  simp(disch:=first|exact Xe|fail)only[↓Xa,Xb,Xc,↓reduceIte,Nat.reduceLT,Nat.reduceEqDiff,Nat.reduceBEq,Nat.reduceLeDiff,Nat.reduceAdd,Nat.reduceMul]
  exact Settle.keep [10,11,13,15,16,17] ⟨(k,_,_),by dsimp only;omega,stp,rfl⟩
theorem zJ6{a b:List Nat}(ta tb:Bool)(ha:Lim 4294967296 a)(hb:Lim 4294967296 b)(h0:0<val 4294967296 b)(hla:a.length≤549755813888)(hlb:b.length≤549755813888):
 PFn Tryz.prog 213 [LS a ta,LS b tb] (.tup [LS (digs 4294967296 (val 4294967296 a / val 4294967296 b)) true,LS (digs 4294967296 (val 4294967296 a%val 4294967296 b)) true,.int .i64 ((0:Nat):Int)]):=by
 by_cases hlt:val 4294967296 a<val 4294967296 b
 ·exact zQh ta tb ha hb h0 hla hlb hlt
 ·by_cases h1:(digs 4294967296 (val 4294967296 b)).length=1
  ·exact zN6 ta tb ha hb h0 hla hlb hlt h1
  ·exact zLO ta tb ha hb h0 hla hlb hlt h1
def zAi(z:Int):AV:=.agg [.bool (decide (z<0)),LS (digs 4294967296 z.natAbs) true]
def sg(neg:Bool)(n:Nat):Int:=if neg then -(n:Int)else n
theorem zCe(neg:Bool)(n:Nat):(sg neg n).natAbs=n:=by cases neg<;>simp[sg]
theorem zVe(neg:Bool)(n:Nat):decide (sg neg n<0)=(neg&&decide (0<n)):=by cases neg<;>simp[sg]<;>omega
theorem zYl(z:Int):sg (decide (z<0)) z.natAbs=z:=by unfold sg;by_cases h:z<0<;>simp[h];omega;omega
theorem zMT{z:Int}(h:0≤z):((z.natAbs:Nat):Int)=z:=by omega
theorem zLX{z:Int}(h:z≤0): -((z.natAbs:Nat):Int)=z:=by omega
theorem zXf(neg:Bool)(n:Nat):zAi (sg neg n)=.agg [.bool (neg&&decide (0<(digs 4294967296 n).length)),LS (digs 4294967296 n) true]:=by
 simp only[zAi,zCe,zVe,zFN (B:=4294967296) (n:=n) (by omega)]
def zBx(z:Int):AV:=.bool (decide (z<0))
def zBy(z:Int):AV:=LS (digs 4294967296 z.natAbs) true
theorem zE6{z:Int}:zAi z=.agg [zBx z,zBy z]:=id rfl
theorem zAE{z:Int}:(zAi z).cells=some [zBx z,zBy z]:=id rfl
theorem zAI{z:Int}:AV.agg [zBx z,zBy z]=zAi z:=id rfl
theorem zM7:AV.agg [.bool false,.seq 0 [] true]=zAi 0:=by simp[zAi,zAQ,LS,U]
theorem zPn{z:Int}:(zBx z).cells=some [zBx z]:=id rfl
theorem zO2{z:Int}:(zBy z).cells=some [zBy z]:=id rfl
theorem zRi{z:Int}:(zBx z).cell=true:=id rfl
theorem zQk{z:Int}:(zBy z).cell=true:=id rfl
theorem zCI(neg:Bool)(n:Nat)(hl:(digs 4294967296 n).length≤1099511627776):PFn Tryz.prog 161 [.bool neg,LS (digs 4294967296 n) true] (zAi (sg neg n)):=by
 intro H Q hq
 refine zR4 (by simp) ?_
 rw[zXf]at hq
 simp(disch:=first|exact Xe|fail)only[zbv,↓Xa,Xb,Xc,↓reduceIte,Nat.reduceLT,Nat.reduceEqDiff,Nat.reduceBEq,Nat.reduceLeDiff,Nat.reduceAdd,Nat.reduceMul]
 refine zAD fun p hp=>?_
 cases neg
 ·simp(disch:=first|exact Xe|fail)only[zXl,↓Xa,Xb,Xc,↓reduceIte,Nat.reduceLT,Nat.reduceEqDiff,Nat.reduceBEq,Nat.reduceLeDiff,Nat.reduceAdd,Nat.reduceMul]
  exact SetR.dropTo ((Le.refl H).upd hp) (SetR.now hq)
 ·simp(disch:=first|exact Xe|fail)only[zXl,↓Xa,Xb,Xc,↓reduceIte,Nat.reduceLT,Nat.reduceEqDiff,Nat.reduceBEq,Nat.reduceLeDiff,Nat.reduceAdd,Nat.reduceMul]
  exact SetR.dropTo ((Le.refl H).upd hp) (SetR.now hq)
def Bd(k:Nat)(z:Int):Prop:=z.natAbs<4294967296^k
theorem Bd.len{k:Nat}{z:Int}(h:Bd k z):(digs 4294967296 z.natAbs).length≤k:=zA4 (by omega) k _ h
theorem Bd.mono{k k':Nat}{z:Int}(h:Bd k z)(hk:k≤k'):Bd k' z:=Nat.lt_of_lt_of_le h (Nat.pow_le_pow_right (by omega) hk)
theorem Bd.neg{k:Nat}{z:Int}(h:Bd k z):Bd k (-z):=by unfold Bd at *; omega
theorem Bd.sgn{k n:Nat}{b:Bool}(h:n<4294967296^k):Bd k (sg b n):=by unfold Bd;rw[zCe];exact h
theorem Bd.abs{k:Nat}{z:Int}(h:Bd k z):Bd k (z.natAbs:Int):=by unfold Bd at *; omega
theorem Bd.add{k:Nat}{x y:Int}(h:Bd k x)(h':Bd k y):Bd (k+1) (x+y):=by
 unfold Bd at *; rw[Nat.pow_succ];omega
theorem Bd.sub{k:Nat}{x y:Int}(h:Bd k x)(h':Bd k y):Bd (k+1) (x-y):=by
 unfold Bd at *; rw[Nat.pow_succ];omega
theorem Bd.mul{k k':Nat}{x y:Int}(h:Bd k x)(h':Bd k' y):Bd (k+k') (x*y):=by
 unfold Bd at *; rw[Int.natAbs_mul,Nat.pow_add]
 exact Nat.mul_lt_mul_of_lt_of_lt h h'
theorem Bd.zero(k:Nat):Bd k 0:=by unfold Bd;exact Nat.pow_pos (by omega)
theorem Bd.i64{n:Int}(h: -9223372036854775808≤n∧n<9223372036854775808):Bd 2 n:=by unfold Bd;omega
theorem zX9{l:List Nat}(neg t:Bool)(hl:Lim 4294967296 l)(hn:l.length≤1099511627776):PFn Tryz.prog 98 [.bool neg,LS l t] (zAi (sg neg (val 4294967296 l))):=by
 intro H Q hq
 refine zZS (by simp) ?_
 simp(disch:=first|exact Xe|fail)only[zhA,↓Xa,Xb,Xc,↓reduceIte,Nat.reduceLT,Nat.reduceEqDiff,Nat.reduceBEq,Nat.reduceLeDiff,Nat.reduceAdd,Nat.reduceMul]
 refine zAD fun p hp=>?_
 simp(disch:=first|exact Xe|fail)only[↓Xa,Xb,Xc,↓reduceIte,Nat.reduceLT,Nat.reduceEqDiff,Nat.reduceBEq,Nat.reduceLeDiff,Nat.reduceAdd,Nat.reduceMul]
 refine(zIe t (by omega)).call ?_
 rw[zAr (by omega) hl]
 simp(disch:=first|exact Xe|fail)only[↓Xa,Xb,Xc,↓reduceIte,Nat.reduceLT,Nat.reduceEqDiff,Nat.reduceBEq,Nat.reduceLeDiff,Nat.reduceAdd,Nat.reduceMul]
 refine(zCI neg _ (by have:=zFR l;rw[zAr (by omega) hl]at this;omega)).call ?_
 simp(disch:=first|exact Xe|fail)only[zgk,zAi,↓Xa,Xb,Xc,↓reduceIte,Nat.reduceLT,Nat.reduceEqDiff,Nat.reduceBEq,Nat.reduceLeDiff,Nat.reduceAdd,Nat.reduceMul]
 exact SetR.dropTo ((Le.refl H).upd hp) (SetR.now hq)
theorem zG2{n:Int}(hn: -9223372036854775808≤n∧n<9223372036854775808):PFn Tryz.prog 31 [.int .i64 n] (zAi n):=by
 intro H Q hq
 refine zZT (by simp) ?_
 have v2: ∀u:Nat,u<18446744073709551616→val 4294967296 [u%4294967296,u / 2^32]=u:=by
  intro u hu;simp only[val];omega
 have l2: ∀u:Nat,u<18446744073709551616→Lim 4294967296 [u%4294967296,u / 2^32]:=fun u hu=>Lim.cons (Nat.mod_lt _ (by omega)) (Lim.one (by omega))
 simp(disch:=first|exact Xe|fail)only[zhF,↓Xa,Xb,Xc,↓reduceIte,Nat.reduceLT,Nat.reduceEqDiff,Nat.reduceBEq,Nat.reduceLeDiff,Nat.reduceAdd,Nat.reduceMul]
 refine zAD fun p hp=>?_
 have key': ∀(u:Nat)(neg:Bool),u<18446744073709551616→sg neg u=n→∀{H K},K (zAi n) H→zBu Tryz.prog (.fn (.func 98) [] []) [.bool neg,.seq 2 [.int .u32 ((u%4294967296:Nat):Int),.int .u32 ((u / 2^32:Nat):Int)] true] H K:=by
  intro u neg hu hs H K hk
  have:=zX9 neg true (l2 u hu) (by simp)
  rw[v2 u hu,hs]at this
  exact this.call hk
 by_cases h0:n<0
 ·obtain⟨m,rfl⟩: ∃m:Nat,n= -(m:Int):=⟨n.natAbs,by omega⟩
  have c1: ∀K,zEm .u64 (.int .i64 (-(m:Int))) K↔K (.int .u64 ((18446744073709551616-m:Nat):Int)):=fun K=>by
   simp only[zEm,zB6];rw[show(-(m:Int))%18446744073709551616=((18446744073709551616-m:Nat):Int) by omega]
  have c2: ∀K,unW .neg (.int .u64 ((18446744073709551616-m:Nat):Int)) K↔K (.int .u64 (m:Int)):=fun K=>by
   simp only[unW,zB6];rw[show(0-((18446744073709551616-m:Nat):Int))%18446744073709551616=(m:Int) by omega]
  have c3: ∀K,zAx .lss (.int .i64 (-(m:Int))) (.int .i64 ((0:Nat):Int)) K↔K (.bool true):=fun K=>by
   simp only[zAx,zAf,true_and];rw[decide_eq_true (by omega)]
  simp(disch:=first|exact Xe|fail)only[c1,c2,c3,↓Xa,Xb,Xc,↓reduceIte,Nat.reduceLT,Nat.reduceEqDiff,Nat.reduceBEq,Nat.reduceLeDiff,Nat.reduceAdd,Nat.reduceMul]
  refine key' m true (by omega) (by simp[sg]) ?_
  simp(disch:=first|exact Xe|fail)only[zf1,zAi,↓Xa,Xb,Xc,↓reduceIte,Nat.reduceLT,Nat.reduceEqDiff,Nat.reduceBEq,Nat.reduceLeDiff,Nat.reduceAdd,Nat.reduceMul]
  exact SetR.dropTo ((Le.refl H).upd hp) (SetR.now hq)
 ·obtain⟨m,rfl⟩: ∃m:Nat,n=(m:Int):=⟨n.natAbs,by omega⟩
  simp(disch:=first|exact Xe|fail)only[↓Xa,Xb,Xc,↓reduceIte,Nat.reduceLT,Nat.reduceEqDiff,Nat.reduceBEq,Nat.reduceLeDiff,Nat.reduceAdd,Nat.reduceMul]
  refine key' m false (by omega) (by simp[sg]) ?_
  simp(disch:=first|exact Xe|fail)only[zf1,zAi,↓Xa,Xb,Xc,↓reduceIte,Nat.reduceLT,Nat.reduceEqDiff,Nat.reduceBEq,Nat.reduceLeDiff,Nat.reduceAdd,Nat.reduceMul]
  exact SetR.dropTo ((Le.refl H).upd hp) (SetR.now hq)
theorem zOe{x:Int}{k:Nat}(hx:Bd k x)(hk:k≤549755813888):PFn Tryz.prog 149 [zAi x] (zAi (-x)):=by
 intro H Q hq
 have hl:=hx.len
 have e: -x=sg (!decide (x<0)) x.natAbs:=by unfold sg;by_cases h:x<0<;>simp[h]<;>omega
 rw[e]at hq
 refine zT0 (by simp) ?_
 simp(disch:=first|exact Xe|fail)only[zac,zAi,↓Xa,Xb,Xc,↓reduceIte,Nat.reduceLT,Nat.reduceEqDiff,Nat.reduceBEq,Nat.reduceLeDiff,Nat.reduceAdd,Nat.reduceMul]
 refine zAD fun p hp=>?_
 simp(disch:=first|exact Xe|fail)only[↓Xa,Xb,Xc,↓reduceIte,Nat.reduceLT,Nat.reduceEqDiff,Nat.reduceBEq,Nat.reduceLeDiff,Nat.reduceAdd,Nat.reduceMul]
 refine zAD fun p2 hp2=>?_
 have hne:=(zAB.1 hp2).1
 simp(disch:=first|exact Xe|fail)only[↓Xa,Xb,Xc,↓reduceIte,Nat.reduceLT,Nat.reduceEqDiff,Nat.reduceBEq,Nat.reduceLeDiff,Nat.reduceAdd,Nat.reduceMul]
 refine(zCI _ _ (by omega)).call ?_
 simp(disch:=first|exact Xe|fail)only[zbR,zAi,↓Xa,Xb,Xc,↓reduceIte,Nat.reduceLT,Nat.reduceEqDiff,Nat.reduceBEq,Nat.reduceLeDiff,Nat.reduceAdd,Nat.reduceMul]
 exact SetR.dropTo (((Le.refl H).upd hp).upd hp2) (SetR.now hq)
theorem zdT{x:Int}{k:Nat}(hx:Bd k x)(hk:k≤549755813888):PFn Tryz.prog 188 [zAi x] (zAi (x.natAbs:Int)):=by
 intro H Q hq
 have hl:=hx.len
 refine zVG (by simp) ?_
 simp(disch:=first|exact Xe|fail)only[zd3,zAi,↓Xa,Xb,Xc,↓reduceIte,Nat.reduceLT,Nat.reduceEqDiff,Nat.reduceBEq,Nat.reduceLeDiff,Nat.reduceAdd,Nat.reduceMul]
 refine zAD fun p hp=>?_
 simp(disch:=first|exact Xe|fail)only[↓Xa,Xb,Xc,↓reduceIte,Nat.reduceLT,Nat.reduceEqDiff,Nat.reduceBEq,Nat.reduceLeDiff,Nat.reduceAdd,Nat.reduceMul]
 refine zAD fun p2 hp2=>?_
 have hne:=(zAB.1 hp2).1
 simp(disch:=first|exact Xe|fail)only[↓Xa,Xb,Xc,↓reduceIte,Nat.reduceLT,Nat.reduceEqDiff,Nat.reduceBEq,Nat.reduceLeDiff,Nat.reduceAdd,Nat.reduceMul]
 refine(zCI false _ (by omega)).call ?_
 simp(disch:=first|exact Xe|fail)only[zaG,zAi,↓Xa,Xb,Xc,↓reduceIte,Nat.reduceLT,Nat.reduceEqDiff,Nat.reduceBEq,Nat.reduceLeDiff,Nat.reduceAdd,Nat.reduceMul]
 exact SetR.dropTo (((Le.refl H).upd hp).upd hp2) (SetR.now (by simpa[zAi,sg]using hq))
def zDw(x:Int):Int:=if x=0 then((0:Nat):Int)else if x<0 then -1 else((1:Nat):Int)
theorem zGG{x:Int}{k:Nat}(hx:Bd k x)(hk:k≤549755813888):PFn Tryz.prog 52 [zAi x] (.int .i64 (zDw x)):=by
 intro H Q hq
 have hl:=hx.len
 have h0:=zCu (B:=4294967296) (n:=x.natAbs) (by omega)
 refine zXT (by simp) ?_
 simp(disch:=first|exact Xe|fail)only[zg3,zAi,↓Xa,Xb,Xc,↓reduceIte,Nat.reduceLT,Nat.reduceEqDiff,Nat.reduceBEq,Nat.reduceLeDiff,Nat.reduceAdd,Nat.reduceMul]
 refine zAD fun p hp=>?_
 by_cases hz:x=0
 ·have h1:(digs 4294967296 x.natAbs).length=0:=by rw[h0];omega
  simp(disch:=first|exact Xe|fail)only[zeO,h1,↓Xa,Xb,Xc,↓reduceIte,Nat.reduceLT,Nat.reduceEqDiff,Nat.reduceBEq,Nat.reduceLeDiff,Nat.reduceAdd,Nat.reduceMul]
  refine SetR.dropTo ((Le.refl H).upd hp) (SetR.now ?_)
  simpa[zDw,hz]using hq
 ·have h1:((digs 4294967296 x.natAbs).length=0)=False:=by rw[h0];simp;omega
  by_cases hn:x<0
  ·simp(disch:=first|exact Xe|fail)only[zeO,h1,hn,↓Xa,Xb,Xc,↓reduceIte,Nat.reduceLT,Nat.reduceEqDiff,Nat.reduceBEq,Nat.reduceLeDiff,Nat.reduceAdd,Nat.reduceMul]
   refine SetR.dropTo ((Le.refl H).upd hp) (SetR.now ?_)
   simpa[zDw,hz,hn]using hq
  ·simp(disch:=first|exact Xe|fail)only[zeO,h1,hn,↓Xa,Xb,Xc,↓reduceIte,Nat.reduceLT,Nat.reduceEqDiff,Nat.reduceBEq,Nat.reduceLeDiff,Nat.reduceAdd,Nat.reduceMul]
   refine SetR.dropTo ((Le.refl H).upd hp) (SetR.now ?_)
   simpa[zDw,hz,hn]using hq
def zFd(x y:Int):Int:=if x<y then -1 else if y<x then((1:Nat):Int)else((0:Nat):Int)
theorem zXm{x y:Int}{k k':Nat}(hx:Bd k x)(hk:k≤549755813888)(hy:Bd k' y)(hk':k'≤549755813888):PFn Tryz.prog 46 [zAi x,zAi y] (.int .i64 (zFd x y)):=by
 intro H Q hq
 have hl:=hx.len
 have hl':=hy.len
 have vx:=zAJ (B:=4294967296) (by omega) x.natAbs
 have vy:=zAJ (B:=4294967296) (by omega) y.natAbs
 have lx:=zAG (B:=4294967296) (by omega) x.natAbs
 have ly:=zAG (B:=4294967296) (by omega) y.natAbs
 refine zZL (by simp) ?_
 simp(disch:=first|exact Xe|fail)only[zhW,zAi,↓Xa,Xb,Xc,↓reduceIte,Nat.reduceLT,Nat.reduceEqDiff,Nat.reduceBEq,Nat.reduceLeDiff,Nat.reduceAdd,Nat.reduceMul]
 refine zAD fun p hp=>?_
 simp(disch:=first|exact Xe|fail)only[↓Xa,Xb,Xc,↓reduceIte,Nat.reduceLT,Nat.reduceEqDiff,Nat.reduceBEq,Nat.reduceLeDiff,Nat.reduceAdd,Nat.reduceMul]
 refine zAD fun p2 hp2=>?_
 have hne:=(zAB.1 hp2).1
 have fin: ∀v,zFd x y=v→SetR Q (.int .i64 v) ((H.upd p (some (.row 48 0 [.bool (decide (x<0)),LS (digs 4294967296 x.natAbs) true]))).upd p2 (some (.row 48 0 [.bool (decide (y<0)),LS (digs 4294967296 y.natAbs) true]))):=fun v hv=>SetR.dropTo (((Le.refl H).upd hp).upd hp2) (SetR.now (hv▸hq))
 by_cases hn:x<0
 ·by_cases hn':y<0
  ·simp(disch:=first|exact Xe|fail)only[hn,hn',↓Xa,Xb,Xc,↓reduceIte,Nat.reduceLT,Nat.reduceEqDiff,Nat.reduceBEq,Nat.reduceLeDiff,Nat.reduceAdd,Nat.reduceMul]
   refine(zGU true true ly lx).call ?_
   rw[vx,vy]
   have:zFd x y=zBv y.natAbs x.natAbs:=by unfold zFd zBv;split<;>split<;>first|rfl|omega|(split<;>first|rfl|omega|(split<;>first|rfl|omega))
   simp only[hn,hn',decide_true]at fin
   simp(disch:=first|exact Xe|fail)only[zak,↓Xa,Xb,Xc,↓reduceIte,Nat.reduceLT,Nat.reduceEqDiff,Nat.reduceBEq,Nat.reduceLeDiff,Nat.reduceAdd,Nat.reduceMul]
   exact fin _ this
  ·simp(disch:=first|exact Xe|fail)only[hn,hn',zak,↓Xa,Xb,Xc,↓reduceIte,Nat.reduceLT,Nat.reduceEqDiff,Nat.reduceBEq,Nat.reduceLeDiff,Nat.reduceAdd,Nat.reduceMul]
   simp only[hn,hn',decide_true,decide_false]at fin
   exact fin _ (by unfold zFd;rw[if_pos (by omega)])
 ·by_cases hn':y<0
  ·simp(disch:=first|exact Xe|fail)only[hn,hn',zak,↓Xa,Xb,Xc,↓reduceIte,Nat.reduceLT,Nat.reduceEqDiff,Nat.reduceBEq,Nat.reduceLeDiff,Nat.reduceAdd,Nat.reduceMul]
   simp only[hn,hn',decide_true,decide_false]at fin
   exact fin _ (by unfold zFd;rw[if_neg (by omega),if_pos (by omega)])
  ·simp(disch:=first|exact Xe|fail)only[hn,hn',↓Xa,Xb,Xc,↓reduceIte,Nat.reduceLT,Nat.reduceEqDiff,Nat.reduceBEq,Nat.reduceLeDiff,Nat.reduceAdd,Nat.reduceMul]
   refine(zGU true true lx ly).call ?_
   rw[vx,vy]
   have:zFd x y=zBv x.natAbs y.natAbs:=by unfold zFd zBv;split<;>split<;>first|rfl|omega|(split<;>first|rfl|omega|(split<;>first|rfl|omega))
   simp only[hn,hn',decide_false]at fin
   simp(disch:=first|exact Xe|fail)only[zak,↓Xa,Xb,Xc,↓reduceIte,Nat.reduceLT,Nat.reduceEqDiff,Nat.reduceBEq,Nat.reduceLeDiff,Nat.reduceAdd,Nat.reduceMul]
   exact fin _ this
theorem zGC{x y:Int}{k k':Nat}(hx:Bd k x)(hk:k≤549755813888)(hy:Bd k' y)(hk':k'≤549755813888):PFn Tryz.prog 138 [zAi x,zAi y] (zAi (x+y)):=by
 intro H Q hq
 have hl:=hx.len
 have hl':=hy.len
 have vx:=zAJ (B:=4294967296) (by omega) x.natAbs
 have vy:=zAJ (B:=4294967296) (by omega) y.natAbs
 have lx:=zAG (B:=4294967296) (by omega) x.natAbs
 have ly:=zAG (B:=4294967296) (by omega) y.natAbs
 have hxm:=hx.mono (Nat.le_max_left k k')
 have hym:=hy.mono (Nat.le_max_right k k')
 refine zUC (by simp) ?_
 simp(disch:=first|exact Xe|fail)only[zeB,zAi,↓Xa,Xb,Xc,↓reduceIte,Nat.reduceLT,Nat.reduceEqDiff,Nat.reduceBEq,Nat.reduceLeDiff,Nat.reduceAdd,Nat.reduceMul]
 refine zAD fun p hp=>?_
 simp(disch:=first|exact Xe|fail)only[↓Xa,Xb,Xc,↓reduceIte,Nat.reduceLT,Nat.reduceEqDiff,Nat.reduceBEq,Nat.reduceLeDiff,Nat.reduceAdd,Nat.reduceMul]
 refine zAD fun p2 hp2=>?_
 simp(disch:=first|exact Xe|fail)only[↓Xa,Xb,Xc,↓reduceIte,Nat.reduceLT,Nat.reduceEqDiff,Nat.reduceBEq,Nat.reduceLeDiff,Nat.reduceAdd,Nat.reduceMul]
 refine zAD fun p3 hp3=>?_
 have hne:=(zAB.1 hp2).1
 have hne3:=(zAB.1 hp3).1
 have hne4:=(zAB.1 (zAB.1 hp3).2).1
 by_cases hs:decide (x<0)=decide (y<0)
 ·have hsb:(decide (x<0)==decide (y<0))=true:=by rw[hs];simp
  simp(disch:=first|exact Xe|fail)only[hsb,↓Xa,Xb,Xc,↓reduceIte,Nat.reduceLT,Nat.reduceEqDiff,Nat.reduceBEq,Nat.reduceLeDiff,Nat.reduceAdd,Nat.reduceMul]
  refine PFn.dcall (zd4 true true lx ly (by omega) (by omega)) ?_
  rw[vx,vy]
  simp(disch:=first|exact Xe|fail)only[↓Xa,Xb,Xc,↓reduceIte,Nat.reduceLT,Nat.reduceEqDiff,Nat.reduceBEq,Nat.reduceLeDiff,Nat.reduceAdd,Nat.reduceMul]
  have hb:Bd (max k k'+1) (sg (decide (x<0)) (x.natAbs+y.natAbs)):=Bd.sgn (by unfold Bd at hxm hym;rw[Nat.pow_succ];omega)
  have hb':=hb.len
  rw[zCe]at hb'
  refine(zCI _ _ (by omega)).call ?_
  simp(disch:=first|exact Xe|fail)only[zVN,zAi,↓Xa,Xb,Xc,↓reduceIte,Nat.reduceLT,Nat.reduceEqDiff,Nat.reduceBEq,Nat.reduceLeDiff,Nat.reduceAdd,Nat.reduceMul]
  have e:x+y=sg (decide (x<0)) (x.natAbs+y.natAbs):=by
   have:=decide_eq_decide.1 hs
   unfold sg;by_cases h:x<0<;>simp[h]<;>omega
  rw[e]at hq
  exact SetR.dropTo ((((Le.refl H).upd hp).upd hp2).upd hp3) (SetR.now hq)
 ·have hsb:(decide (x<0)==decide (y<0))=false:=by simpa using hs
  have hs': ¬((x<0)↔(y<0)):=fun h=>hs (decide_eq_decide.2 h)
  simp(disch:=first|exact Xe|fail)only[hsb,↓Xa,Xb,Xc,↓reduceIte,Nat.reduceLT,Nat.reduceEqDiff,Nat.reduceBEq,Nat.reduceLeDiff,Nat.reduceAdd,Nat.reduceMul]
  refine(zGU true true lx ly).call ?_
  rw[vx,vy]
  by_cases hc:x.natAbs<y.natAbs
  ·have c3: ∀K,zAx .lss (.int .i64 (zBv x.natAbs y.natAbs)) (.int .i64 ((0:Nat):Int)) K↔K (.bool true):=fun K=>by
    simp[zAx,zAf,zBv,hc]
   simp(disch:=first|exact Xe|fail)only[c3,↓Xa,Xb,Xc,↓reduceIte,Nat.reduceLT,Nat.reduceEqDiff,Nat.reduceBEq,Nat.reduceLeDiff,Nat.reduceAdd,Nat.reduceMul]
   refine(zWy true true ly lx (by rw[vx,vy];omega) (by omega) (by omega)).call ?_
   rw[vx,vy]
   simp(disch:=first|exact Xe|fail)only[↓Xa,Xb,Xc,↓reduceIte,Nat.reduceLT,Nat.reduceEqDiff,Nat.reduceBEq,Nat.reduceLeDiff,Nat.reduceAdd,Nat.reduceMul]
   have hb:Bd k' (sg (decide (y<0)) (y.natAbs-x.natAbs)):=Bd.sgn (by unfold Bd at hy;omega)
   have hb':=hb.len
   rw[zCe]at hb'
   refine(zCI _ _ (by omega)).call ?_
   simp(disch:=first|exact Xe|fail)only[zVN,zAi,↓Xa,Xb,Xc,↓reduceIte,Nat.reduceLT,Nat.reduceEqDiff,Nat.reduceBEq,Nat.reduceLeDiff,Nat.reduceAdd,Nat.reduceMul]
   have e:x+y=sg (decide (y<0)) (y.natAbs-x.natAbs):=by
    unfold sg;by_cases h:y<0<;>simp[h]<;>omega
   rw[e]at hq
   exact SetR.dropTo ((((Le.refl H).updB hp).updB (zAB.1 hp2).2).updB (zAB.1 (zAB.1 hp3).2).2) (SetR.now hq)
  ·have c3: ∀K,zAx .lss (.int .i64 (zBv x.natAbs y.natAbs)) (.int .i64 ((0:Nat):Int)) K↔K (.bool false):=fun K=>by
    have: ¬(zBv x.natAbs y.natAbs<0):=by unfold zBv;rw[if_neg hc];split<;>omega
    simp[zAx,zAf];rw[decide_eq_false this]
   simp(disch:=first|exact Xe|fail)only[c3,↓Xa,Xb,Xc,↓reduceIte,Nat.reduceLT,Nat.reduceEqDiff,Nat.reduceBEq,Nat.reduceLeDiff,Nat.reduceAdd,Nat.reduceMul]
   refine(zWy true true lx ly (by rw[vx,vy];omega) (by omega) (by omega)).call ?_
   rw[vx,vy]
   simp(disch:=first|exact Xe|fail)only[↓Xa,Xb,Xc,↓reduceIte,Nat.reduceLT,Nat.reduceEqDiff,Nat.reduceBEq,Nat.reduceLeDiff,Nat.reduceAdd,Nat.reduceMul]
   have hb:Bd k (sg (decide (x<0)) (x.natAbs-y.natAbs)):=Bd.sgn (by unfold Bd at hx;omega)
   have hb':=hb.len
   rw[zCe]at hb'
   refine(zCI _ _ (by omega)).call ?_
   simp(disch:=first|exact Xe|fail)only[zVN,zAi,↓Xa,Xb,Xc,↓reduceIte,Nat.reduceLT,Nat.reduceEqDiff,Nat.reduceBEq,Nat.reduceLeDiff,Nat.reduceAdd,Nat.reduceMul]
   have e:x+y=sg (decide (x<0)) (x.natAbs-y.natAbs):=by
    unfold sg;by_cases h:x<0<;>simp[h]<;>omega
   rw[e]at hq
   exact SetR.dropTo ((((Le.refl H).upd hp).upd hp2).upd hp3) (SetR.now hq)
theorem zK3{x y:Int}{k k':Nat}(hx:Bd k x)(hk:k≤549755813888)(hy:Bd k' y)(hk':k'≤549755813888):PFn Tryz.prog 150 [zAi x,zAi y] (zAi (x-y)):=by
 intro H Q hq
 refine zS6 (by simp) ?_
 simp(disch:=first|exact Xe|fail)only[zbE,zAi,↓Xa,Xb,Xc,↓reduceIte,Nat.reduceLT,Nat.reduceEqDiff,Nat.reduceBEq,Nat.reduceLeDiff,Nat.reduceAdd,Nat.reduceMul]
 refine zAD fun p hp=>?_
 simp(disch:=first|exact Xe|fail)only[↓Xa,Xb,Xc,↓reduceIte,Nat.reduceLT,Nat.reduceEqDiff,Nat.reduceBEq,Nat.reduceLeDiff,Nat.reduceAdd,Nat.reduceMul]
 refine zAD fun p2 hp2=>?_
 simp(disch:=first|exact Xe|fail)only[↓Xa,Xb,Xc,↓reduceIte,Nat.reduceLT,Nat.reduceEqDiff,Nat.reduceBEq,Nat.reduceLeDiff,Nat.reduceAdd,Nat.reduceMul]
 refine zAD fun p3 hp3=>?_
 have hne:=(zAB.1 hp2).1
 have hne3:=(zAB.1 hp3).1
 have hne4:=(zAB.1 (zAB.1 hp3).2).1
 simp(disch:=first|exact Xe|fail)only[↓Xa,Xb,Xc,↓reduceIte,Nat.reduceLT,Nat.reduceEqDiff,Nat.reduceBEq,Nat.reduceLeDiff,Nat.reduceAdd,Nat.reduceMul]
 refine PFn.dcall (zOe hy hk') ?_
 simp(disch:=first|exact Xe|fail)only[↓Xa,Xb,Xc,↓reduceIte,Nat.reduceLT,Nat.reduceEqDiff,Nat.reduceBEq,Nat.reduceLeDiff,Nat.reduceAdd,Nat.reduceMul]
 refine(zGC hx hk hy.neg hk').call ?_
 simp(disch:=first|exact Xe|fail)only[zbU,zAi,↓Xa,Xb,Xc,↓reduceIte,Nat.reduceLT,Nat.reduceEqDiff,Nat.reduceBEq,Nat.reduceLeDiff,Nat.reduceAdd,Nat.reduceMul]
 exact SetR.dropTo ((((Le.refl H).upd hp).upd hp2).upd hp3) (SetR.now hq)
theorem zIo{x y:Int}{k k':Nat}(hx:Bd k x)(hk:k≤549755813888)(hy:Bd k' y)(hk':k'≤549755813888):PFn Tryz.prog 121 [zAi x,zAi y] (zAi (x*y)):=by
 intro H Q hq
 have hl:=hx.len
 have hl':=hy.len
 have vx:=zAJ (B:=4294967296) (by omega) x.natAbs
 have vy:=zAJ (B:=4294967296) (by omega) y.natAbs
 have lx:=zAG (B:=4294967296) (by omega) x.natAbs
 have ly:=zAG (B:=4294967296) (by omega) y.natAbs
 have hb:=(hx.mul hy).len
 refine zSm (by simp) ?_
 simp(disch:=first|exact Xe|fail)only[zeF,zAi,↓Xa,Xb,Xc,↓reduceIte,Nat.reduceLT,Nat.reduceEqDiff,Nat.reduceBEq,Nat.reduceLeDiff,Nat.reduceAdd,Nat.reduceMul]
 refine zAD fun p hp=>?_
 simp(disch:=first|exact Xe|fail)only[↓Xa,Xb,Xc,↓reduceIte,Nat.reduceLT,Nat.reduceEqDiff,Nat.reduceBEq,Nat.reduceLeDiff,Nat.reduceAdd,Nat.reduceMul]
 refine zAD fun p2 hp2=>?_
 simp(disch:=first|exact Xe|fail)only[↓Xa,Xb,Xc,↓reduceIte,Nat.reduceLT,Nat.reduceEqDiff,Nat.reduceBEq,Nat.reduceLeDiff,Nat.reduceAdd,Nat.reduceMul]
 refine zAD fun p3 hp3=>?_
 have hne:=(zAB.1 hp2).1
 have hne3:=(zAB.1 hp3).1
 have hne4:=(zAB.1 (zAB.1 hp3).2).1
 simp(disch:=first|exact Xe|fail)only[↓Xa,Xb,Xc,↓reduceIte,Nat.reduceLT,Nat.reduceEqDiff,Nat.reduceBEq,Nat.reduceLeDiff,Nat.reduceAdd,Nat.reduceMul]
 refine PFn.dcall (zcD true true lx ly (by omega) (by omega)) ?_
 rw[vx,vy]
 simp(disch:=first|exact Xe|fail)only[↓Xa,Xb,Xc,↓reduceIte,Nat.reduceLT,Nat.reduceEqDiff,Nat.reduceBEq,Nat.reduceLeDiff,Nat.reduceAdd,Nat.reduceMul]
 rw[Int.natAbs_mul]at hb
 refine(zCI _ _ (by omega)).call ?_
 have e:sg (!(decide (x<0)==decide (y<0))) (x.natAbs*y.natAbs)=x*y:=by
  rw[← Int.natAbs_mul]
  unfold sg
  by_cases h:x<0<;>by_cases h':y<0<;>simp[h,h']
  ·rw[zMT (Int.mul_nonneg_of_nonpos_of_nonpos (by omega) (by omega))]
  ·rw[zLX (Int.mul_nonpos_of_nonpos_of_nonneg (by omega) (by omega))]
  ·rw[zLX (Int.mul_nonpos_of_nonneg_of_nonpos (by omega) (by omega))]
  ·rw[zMT (Int.mul_nonneg (by omega) (by omega))]
 rw[e]
 simp(disch:=first|exact Xe|fail)only[zad,zAi,↓Xa,Xb,Xc,↓reduceIte,Nat.reduceLT,Nat.reduceEqDiff,Nat.reduceBEq,Nat.reduceLeDiff,Nat.reduceAdd,Nat.reduceMul]
 exact SetR.dropTo ((((Le.refl H).upd hp).upd hp2).upd hp3) (SetR.now hq)
theorem zGp{x n:Int}{k:Nat}(hx:Bd k x)(hk:k≤549755813888)(hn: -9223372036854775808≤n∧n<9223372036854775808):PFn Tryz.prog 170 [zAi x,.int .i64 n] (zAi (x*n)):=by
 intro H Q hq
 refine zU6 (by simp) ?_
 simp(disch:=first|exact Xe|fail)only[zc2,zAi,↓Xa,Xb,Xc,↓reduceIte,Nat.reduceLT,Nat.reduceEqDiff,Nat.reduceBEq,Nat.reduceLeDiff,Nat.reduceAdd,Nat.reduceMul]
 refine zAD fun p hp=>?_
 simp(disch:=first|exact Xe|fail)only[↓Xa,Xb,Xc,↓reduceIte,Nat.reduceLT,Nat.reduceEqDiff,Nat.reduceBEq,Nat.reduceLeDiff,Nat.reduceAdd,Nat.reduceMul]
 refine zAD fun p2 hp2=>?_
 have hne:=(zAB.1 hp2).1
 simp(disch:=first|exact Xe|fail)only[↓Xa,Xb,Xc,↓reduceIte,Nat.reduceLT,Nat.reduceEqDiff,Nat.reduceBEq,Nat.reduceLeDiff,Nat.reduceAdd,Nat.reduceMul]
 refine PFn.dcall (zG2 hn) ?_
 simp(disch:=first|exact Xe|fail)only[↓Xa,Xb,Xc,↓reduceIte,Nat.reduceLT,Nat.reduceEqDiff,Nat.reduceBEq,Nat.reduceLeDiff,Nat.reduceAdd,Nat.reduceMul]
 refine(zIo hx hk (Bd.i64 hn) (by omega)).call ?_
 simp(disch:=first|exact Xe|fail)only[zc6,zAi,↓Xa,Xb,Xc,↓reduceIte,Nat.reduceLT,Nat.reduceEqDiff,Nat.reduceBEq,Nat.reduceLeDiff,Nat.reduceAdd,Nat.reduceMul]
 exact SetR.dropTo (((Le.refl H).upd hp).upd hp2) (SetR.now hq)
def zBa(z:Int)(t:Bool):AV:=.agg [.bool (decide (z<0)),LS (digs 65536 z.natAbs) t]
theorem zYX(neg:Bool)(n:Nat)(t:Bool):zBa (sg neg n) t=.agg [.bool (neg&&decide (0<(digs 65536 n).length)),LS (digs 65536 n) t]:=by
 simp only[zBa,zCe,zVe,zFN (B:=65536) (n:=n) (by omega)]
theorem zBp{l:List Nat}(neg t:Bool)(hl:Lim 65536 l)(hn:l.length≤8796093022208):PFn Tryz.prog 147 [.bool neg,LS l t] (zBa (sg neg (val 65536 l)) false):=by
 intro H Q hq
 rw[zYX]at hq
 refine zL3 (by simp) ?_
 simp(disch:=first|exact Xe|fail)only[zH7,↓Xa,Xb,Xc,↓reduceIte,Nat.reduceLT,Nat.reduceEqDiff,Nat.reduceBEq,Nat.reduceLeDiff,Nat.reduceAdd,Nat.reduceMul]
 refine zAD fun p hp=>?_
 simp(disch:=first|exact Xe|fail)only[↓Xa,Xb,Xc,↓reduceIte,Nat.reduceLT,Nat.reduceEqDiff,Nat.reduceBEq,Nat.reduceLeDiff,Nat.reduceAdd,Nat.reduceMul]
 refine zAP (fun n:Nat=>⟨[],[(0,.bool neg),(1,LS l t),(4,.ptr p 2 0),(5,.int .i64 n)],H.upd p (some (.row 44 0 [.bool false,.seq 0 [] true]))⟩) (fun n=>n≤l.length∧∀i,n≤i→i<l.length→l.getD i 0=0) id l.length (Settle.now rfl) ⟨Nat.le_refl _,fun i h1 h2=>absurd h1 (by omega)⟩ ?_
 rintro n ⟨h1,hz⟩
 have fin: ∀ti,(n=0∨l.getD (n-1) 0≠0)→SetR Q (.agg [.bool (neg&&decide (0<n)),LS (l.take n) ti]) (H.upd p (some (.row 44 0 [.bool (neg&&decide (0<n)),LS (l.take n) ti]))):=fun ti h=>by
  have e:=zFz h1 hz h
  have e2:n=(digs 65536 (val 65536 l)).length:=by
   have:=congrArg List.length e
   rw[List.length_take,Nat.min_eq_left h1,zAr (by omega) hl]at this;exact this
  rw[e,zAr (by omega) hl,e2]
  exact SetR.dropTo ((Le.refl H).upd hp) (SetR.loose (SetR.now hq))
 have last:(n=0∨l.getD (n-1) 0≠0)→W Tryz.prog (zBT (zBT (zBT zH7))) (zFC zKs Q) ⟨[],[(0,.bool neg),(1,LS l t),(4,.ptr p 2 0),(5,.int .i64 n),(17,.bool false)],H.upd p (some (.row 44 0 [.bool false,.seq 0 [] true]))⟩:=fun h=>by
  have f:=fun ti=>fin ti h
  cases neg
  ·simp(disch:=first|exact Xe|fail)only[zH7,zKs,zBT,↓Xa,Xb,Xc,↓reduceIte,Nat.reduceLT,Nat.reduceEqDiff,Nat.reduceBEq,Nat.reduceLeDiff,Nat.reduceAdd,Nat.reduceMul]
   exact f _
  ·simp(disch:=first|exact Xe|fail)only[zH7,zKs,zBT,↓Xa,Xb,Xc,↓reduceIte,Nat.reduceLT,Nat.reduceEqDiff,Nat.reduceBEq,Nat.reduceLeDiff,Nat.reduceAdd,Nat.reduceMul]
   exact f _
 by_cases h0:0<n
 ·by_cases h2:l.getD (n-1) 0=0
  ·simp(disch:=first|exact Xe|fail)only[h0,h2,↓Xa,Xb,Xc,↓reduceIte,Nat.reduceLT,Nat.reduceEqDiff,Nat.reduceBEq,Nat.reduceLeDiff,Nat.reduceAdd,Nat.reduceMul]
   refine Settle.now ⟨n-1,?_,⟨by omega,fun i hi hl'=>?_⟩,rfl⟩
   ·show n-1<n;omega
   ·rcases Nat.lt_or_ge i n with h|h
    ·rw[show i=n-1 by omega];exact h2
    ·exact hz i h hl'
  ·simp(disch:=first|exact Xe|fail)only[h0,h2,↓Xa,Xb,Xc,↓reduceIte,Nat.reduceLT,Nat.reduceEqDiff,Nat.reduceBEq,Nat.reduceLeDiff,Nat.reduceAdd,Nat.reduceMul]
   exact Settle.now (last (.inr h2))
 ·simp(disch:=first|exact Xe|fail)only[h0,↓Xa,Xb,Xc,↓reduceIte,Nat.reduceLT,Nat.reduceEqDiff,Nat.reduceBEq,Nat.reduceLeDiff,Nat.reduceAdd,Nat.reduceMul]
  exact Settle.now (last (.inl (by omega)))
theorem zH9{n:Int}{K:AV→Prop}:zAx .lss (.int .i64 n) (.int .i64 ((0:Nat):Int)) K↔K (.bool (decide (n<0))):=by
 simp only[zAx,zAf,true_and];exact Iff.rfl
theorem zDS{n:Int}(hn: -9223372036854775808≤n∧n<9223372036854775808):PFn Tryz.prog 82 [.int .i64 n] (zBa n false):=by
 intro H Q hq
 refine zYd (by simp) ?_
 rw[show zU4=.seq (zWJ zU4) (.seq (zWJ (zBT zU4)) (.seq (zWJ (zBT (zBT zU4))) (zIn (zBT (zBT (zBT zU4))))))from rfl]
 simp(disch:=first|exact Xe|fail)only[zWJ,zBT,zU4,↓Xa,Xb,Xc,↓reduceIte,Nat.reduceLT,Nat.reduceEqDiff,Nat.reduceBEq,Nat.reduceLeDiff,Nat.reduceAdd,Nat.reduceMul]
 refine zAD fun p hp=>?_
 have tail: ∀(u0:Nat),u0<18446744073709551616→sg (decide (n<0)) u0=n→W Tryz.prog (zIn (zBT (zBT (zBT zU4)))) (zFC zgM Q) ⟨[],[(0,.int .i64 n),(2,.ptr p 2 0),(3,.int .u64 u0)],H.upd p (some (.row 44 0 [.bool false,.seq 0 [] true]))⟩:=by
  intro u0 hu0 hs
  simp(disch:=first|exact Xe|fail)only[zU4,zBT,zIn,↓Xa,Xb,Xc,↓reduceIte,Nat.reduceLT,Nat.reduceEqDiff,Nat.reduceBEq,Nat.reduceLeDiff,Nat.reduceAdd,Nat.reduceMul]
  refine zAP (fun s:Nat×List Nat×AV×AHeap=>⟨[],[(0,.int .i64 n),(2,.ptr p 2 0),(3,.int .u64 s.1),(4,s.2.2.1)],s.2.2.2⟩)
   (fun s=>grow (H.upd p (some (.row 44 0 [.bool false,.seq 0 [] true]))) 168 s.2.1 s.2.2.1 s.2.2.2∧Lim 65536 s.2.1∧val 65536 s.2.1+65536^s.2.1.length*s.1=u0∧s.2.1.length≤4∧s.1<65536^(4-s.2.1.length)) (fun s=>s.1)
   (u0,[],_,_) (Settle.now rfl) ⟨zD5,Lim.nil _,by simp[val],by simp,by simpa using hu0⟩ ?_
  rintro⟨u,done,x,H'⟩ ⟨hg,h1,h2,h3,h4⟩
  dsimp only at hg h1 h2 h3 h4 ⊢
  have hu:u<18446744073709551616:=by
   have:(65536:Nat)^(4-done.length)≤65536^4:=Nat.pow_le_pow_right (by omega) (by omega)
   omega
  by_cases h0:0<u
  ·have hm:u / 65536<18446744073709551616:=by omega
   have hr:u%65536<4294967296:=by omega
   simp(disch:=first|exact Xe|fail)only[h0,ne_eq,Nat.reduceEqDiff,↓Xa,Xb,Xc,↓reduceIte,Nat.reduceLT,Nat.reduceEqDiff,Nat.reduceBEq,Nat.reduceLeDiff,Nat.reduceAdd,Nat.reduceMul]
   refine zBO (m:=[u%65536]) hg rfl (by simp) (by simp;omega) fun x' H2 hg2=>?_
   simp(disch:=first|exact Xe|fail)only[ne_eq,Nat.reduceEqDiff,↓Xa,Xb,Xc,↓reduceIte,Nat.reduceLT,Nat.reduceEqDiff,Nat.reduceBEq,Nat.reduceLeDiff,Nat.reduceAdd,Nat.reduceMul]
   refine Settle.now ⟨(u / 65536,_,_,_),Nat.div_lt_self h0 (by omega),⟨hg2,zBg h1 (Nat.mod_lt _ (by omega)),?_,?_,?_⟩,rfl⟩
   ·rw[zBV,List.length_append,List.length_singleton,Nat.pow_succ,Nat.add_assoc,Nat.mul_assoc,← Nat.mul_add,Nat.mod_add_div];exact h2
   ·simp only[List.length_append,List.length_singleton]
    rcases Nat.lt_or_ge done.length 4 with e|e
    ·omega
    ·rw[show 4-done.length=0 by omega]at h4;simp at h4;omega
   ·simp only[List.length_append,List.length_singleton]
    rcases Nat.lt_or_ge done.length 4 with e|e
    ·rw[show 4-done.length=4-(done.length+1)+1 by omega,Nat.pow_succ]at h4
     exact Nat.div_lt_of_lt_mul (by rw[Nat.mul_comm];exact h4)
    ·rw[show 4-done.length=0 by omega]at h4;simp at h4;omega
  ·obtain rfl:u=0:=by omega
   rw[Nat.mul_zero,Nat.add_zero]at h2
   simp(disch:=first|exact Xe|fail)only[h0,↓Xa,Xb,Xc,↓reduceIte,Nat.reduceLT,Nat.reduceEqDiff,Nat.reduceBEq,Nat.reduceLeDiff,Nat.reduceAdd,Nat.reduceMul]
   refine Settle.grown 4 rfl hg (Settle.now ?_)
   simp(disch:=first|exact Xe|fail)only[zH9,↓Xa,Xb,Xc,↓reduceIte,Nat.reduceLT,Nat.reduceEqDiff,Nat.reduceBEq,Nat.reduceLeDiff,Nat.reduceAdd,Nat.reduceMul]
   refine(zBp _ false h1 (by omega)).call ?_
   rw[h2,hs]
   simp(disch:=first|exact Xe|fail)only[zgM,zBa,↓Xa,Xb,Xc,↓reduceIte,Nat.reduceLT,Nat.reduceEqDiff,Nat.reduceBEq,Nat.reduceLeDiff,Nat.reduceAdd,Nat.reduceMul]
   exact SetR.dropTo ((Le.refl H).upd hp) (SetR.now hq)
 by_cases h0:n<0
 ·obtain⟨m,rfl⟩: ∃m:Nat,n= -(m:Int):=⟨n.natAbs,by omega⟩
  have c1: ∀K,zEm .u64 (.int .i64 (-(m:Int))) K↔K (.int .u64 ((18446744073709551616-m:Nat):Int)):=fun K=>by
   simp only[zEm,zB6];rw[show(-(m:Int))%18446744073709551616=((18446744073709551616-m:Nat):Int) by omega]
  have c2: ∀K,unW .neg (.int .u64 ((18446744073709551616-m:Nat):Int)) K↔K (.int .u64 (m:Int)):=fun K=>by
   simp only[unW,zB6];rw[show(0-((18446744073709551616-m:Nat):Int))%18446744073709551616=(m:Int) by omega]
  simp(disch:=first|exact Xe|fail)only[c1,c2,zH9,h0,↓Xa,Xb,Xc,↓reduceIte,Nat.reduceLT,Nat.reduceEqDiff,Nat.reduceBEq,Nat.reduceLeDiff,Nat.reduceAdd,Nat.reduceMul]
  exact tail m (by omega) (by simp only[sg,h0,decide_true,if_true])
 ·obtain⟨m,rfl⟩: ∃m:Nat,n=(m:Int):=⟨n.natAbs,by omega⟩
  simp(disch:=first|exact Xe|fail)only[h0,↓Xa,Xb,Xc,↓reduceIte,Nat.reduceLT,Nat.reduceEqDiff,Nat.reduceBEq,Nat.reduceLeDiff,Nat.reduceAdd,Nat.reduceMul]
  exact tail m (by omega) (by simp only[sg,h0,decide_false,Bool.false_eq_true,if_false])
theorem Bd.rlen{k:Nat}{z:Int}(h:Bd k z):(digs 65536 z.natAbs).length≤2*k:=zA4 (by omega) _ _ (by
 unfold Bd at h;rw[Nat.pow_mul];exact h)
theorem zIX{x:Int}{k:Nat}(t:Bool)(hx:Bd k x)(hk:k≤549755813888):PFn Tryz.prog 190 [zBa x t] (.int .i64 (zDw x)):=by
 intro H Q hq
 have hl:=hx.rlen
 have h0:=zCu (B:=65536) (n:=x.natAbs) (by omega)
 refine zSI (by simp) ?_
 simp(disch:=first|exact Xe|fail)only[zaw,zBa,↓Xa,Xb,Xc,↓reduceIte,Nat.reduceLT,Nat.reduceEqDiff,Nat.reduceBEq,Nat.reduceLeDiff,Nat.reduceAdd,Nat.reduceMul]
 refine zAD fun p hp=>?_
 by_cases hz:x=0
 ·have h1:(digs 65536 x.natAbs).length=0:=by rw[h0];omega
  simp(disch:=first|exact Xe|fail)only[zSp,h1,↓Xa,Xb,Xc,↓reduceIte,Nat.reduceLT,Nat.reduceEqDiff,Nat.reduceBEq,Nat.reduceLeDiff,Nat.reduceAdd,Nat.reduceMul]
  refine SetR.dropTo ((Le.refl H).upd hp) (SetR.now ?_)
  simpa[zDw,hz]using hq
 ·have h1:((digs 65536 x.natAbs).length=0)=False:=by rw[h0];simp;omega
  by_cases hn:x<0
  ·simp(disch:=first|exact Xe|fail)only[zSp,h1,hn,↓Xa,Xb,Xc,↓reduceIte,Nat.reduceLT,Nat.reduceEqDiff,Nat.reduceBEq,Nat.reduceLeDiff,Nat.reduceAdd,Nat.reduceMul]
   refine SetR.dropTo ((Le.refl H).upd hp) (SetR.now ?_)
   simpa[zDw,hz,hn]using hq
  ·simp(disch:=first|exact Xe|fail)only[zSp,h1,hn,↓Xa,Xb,Xc,↓reduceIte,Nat.reduceLT,Nat.reduceEqDiff,Nat.reduceBEq,Nat.reduceLeDiff,Nat.reduceAdd,Nat.reduceMul]
   refine SetR.dropTo ((Le.refl H).upd hp) (SetR.now ?_)
   simpa[zDw,hz,hn]using hq
theorem zF2(m n:Nat)(ta tb:Bool)(hm:(digs 65536 m).length≤1099511627776)(hn:(digs 65536 n).length≤1099511627776):PFn Tryz.prog 191 [LS (digs 65536 m) ta,LS (digs 65536 n) tb] (.int .i64 (zBv m n)):=by
 intro H Q hq
 have hx:=zAG (B:=65536) (by omega) m
 have hy:=zAG (B:=65536) (by omega) n
 have vx:=zAJ (B:=65536) (by omega) m
 have vy:=zAJ (B:=65536) (by omega) n
 have lt1:=zBW (B:=65536) (a:=m) (b:=n) (by omega)
 have lt2:=zBW (B:=65536) (a:=n) (b:=m) (by omega)
 generalize digs 65536 m=x at*
 generalize digs 65536 n=y at*
 have less:m<n→SetR Q (.int .i64 (-1)) H:=fun h=>by
  have:zBv m n= -1:=by simp[zBv,h]
  rw[← this];exact SetR.now hq
 have more:n<m→SetR Q (.int .i64 ((1:Nat):Int)) H:=fun h=>by
  have:zBv m n=((1:Nat):Int):=by simp[zBv,h,Nat.not_lt_of_lt h]
  rw[← this];exact SetR.now hq
 refine zMm (by simp) ?_
 by_cases c0:x.length=y.length
 ·simp(disch:=first|exact Xe|fail)only[zK4,c0,↓Xa,Xb,Xc,↓reduceIte,Nat.reduceLT,Nat.reduceEqDiff,Nat.reduceBEq,Nat.reduceLeDiff,Nat.reduceAdd,Nat.reduceMul]
  refine zAP (fun k:Nat=>⟨[],[(0,LS x ta),(1,LS y tb),(5,.int .i64 (dn k))],H⟩) (fun k=>k≤x.length∧x.drop k=y.drop k) id y.length (Settle.now rfl) ⟨by omega,by rw[List.drop_of_length_le (by omega),List.drop_of_length_le (by omega)]⟩ ?_
  rintro k ⟨hk,hd⟩
  cases k with
  |zero=>
   simp(disch:=first|exact Xe|fail)only[↓Xa,Xb,Xc,↓reduceIte,Nat.reduceLT,Nat.reduceEqDiff,Nat.reduceBEq,Nat.reduceLeDiff,Nat.reduceAdd,Nat.reduceMul]
   refine Settle.now ?_
   simp(disch:=first|exact Xe|fail)only[zGh,↓Xa,Xb,Xc,↓reduceIte,Nat.reduceLT,Nat.reduceEqDiff,Nat.reduceBEq,Nat.reduceLeDiff,Nat.reduceAdd,Nat.reduceMul]
   have e:m=n:=by rw[← vx,← vy];rw[List.drop_zero,List.drop_zero]at hd;rw[hd]
   have:zBv m n=((0:Nat):Int):=by simp[zBv,e]
   rw[← this];exact SetR.now hq
  |succ k=>
   by_cases d1:x.getD k 0<y.getD k 0
   ·simp(disch:=first|exact Xe|fail)only[d1,zGh,↓Xa,Xb,Xc,↓reduceIte,Nat.reduceLT,Nat.reduceEqDiff,Nat.reduceBEq,Nat.reduceLeDiff,Nat.reduceAdd,Nat.reduceMul]
    exact less (by rw[← vx,← vy];exact zB1 hx (by omega) k (by omega) c0 hd d1)
   by_cases d2:y.getD k 0<x.getD k 0
   ·simp(disch:=first|exact Xe|fail)only[d1,d2,zGh,↓Xa,Xb,Xc,↓reduceIte,Nat.reduceLT,Nat.reduceEqDiff,Nat.reduceBEq,Nat.reduceLeDiff,Nat.reduceAdd,Nat.reduceMul]
    exact more (by rw[← vx,← vy];exact zB1 hy (by omega) k (by omega) c0.symm hd.symm d2)
   simp(disch:=first|exact Xe|fail)only[d1,d2,↓Xa,Xb,Xc,↓reduceIte,Nat.reduceLT,Nat.reduceEqDiff,Nat.reduceBEq,Nat.reduceLeDiff,Nat.reduceAdd,Nat.reduceMul]
   refine Settle.now ⟨k,Nat.lt_succ_self k,⟨by omega,?_⟩,rfl⟩
   rw[List.drop_eq_getElem_cons (by omega),List.drop_eq_getElem_cons (i:=k) (l:=y) (by omega),hd]
   congr 1
   have e1:x.getD k 0=x[k]:=by simp[List.getD_eq_getElem?_getD,List.getElem?_eq_getElem (show k<x.length by omega)]
   have e2:y.getD k 0=y[k]:=by simp[List.getD_eq_getElem?_getD,List.getElem?_eq_getElem (show k<y.length by omega)]
   omega
 ·by_cases c1:x.length<y.length
  ·simp(disch:=first|exact Xe|fail)only[zK4,c0,c1,zGh,↓Xa,Xb,Xc,↓reduceIte,Nat.reduceLT,Nat.reduceEqDiff,Nat.reduceBEq,Nat.reduceLeDiff,Nat.reduceAdd,Nat.reduceMul]
   exact less (lt1 c1)
  ·simp(disch:=first|exact Xe|fail)only[zK4,c0,c1,zGh,↓Xa,Xb,Xc,↓reduceIte,Nat.reduceLT,Nat.reduceEqDiff,Nat.reduceBEq,Nat.reduceLeDiff,Nat.reduceAdd,Nat.reduceMul]
   exact more (lt2 (by omega))
theorem zXa{x y:Int}{k k':Nat}(tx ty:Bool)(hx:Bd k x)(hk:k≤549755813888)(hy:Bd k' y)(hk':k'≤549755813888):PFn Tryz.prog 118 [zBa x tx,zBa y ty] (.int .i64 (zFd x y)):=by
 intro H Q hq
 have hl:=hx.rlen
 have hl':=hy.rlen
 refine zR3 (by simp) ?_
 simp(disch:=first|exact Xe|fail)only[zaP,zBa,↓Xa,Xb,Xc,↓reduceIte,Nat.reduceLT,Nat.reduceEqDiff,Nat.reduceBEq,Nat.reduceLeDiff,Nat.reduceAdd,Nat.reduceMul]
 refine zAD fun p hp=>?_
 simp(disch:=first|exact Xe|fail)only[↓Xa,Xb,Xc,↓reduceIte,Nat.reduceLT,Nat.reduceEqDiff,Nat.reduceBEq,Nat.reduceLeDiff,Nat.reduceAdd,Nat.reduceMul]
 refine zAD fun p2 hp2=>?_
 have hne:=(zAB.1 hp2).1
 have le:=(((Le.refl H).upd hp).upd hp2 (x:=some (.row 44 0 [.bool (decide (y<0)),LS (digs 65536 y.natAbs) ty])))
 simp(disch:=first|exact Xe|fail)only[↓Xa,Xb,Xc,↓reduceIte,Nat.reduceLT,Nat.reduceEqDiff,Nat.reduceBEq,Nat.reduceLeDiff,Nat.reduceAdd,Nat.reduceMul]
 refine PFn.dcall (zIX tx hx hk) ?_
 simp(disch:=first|exact Xe|fail)only[↓Xa,Xb,Xc,↓reduceIte,Nat.reduceLT,Nat.reduceEqDiff,Nat.reduceBEq,Nat.reduceLeDiff,Nat.reduceAdd,Nat.reduceMul]
 refine(zIX ty hy hk').call ?_
 have cneq: ∀(a b:Int)(K:AV→Prop),zAx .neq (.int .i64 a) (.int .i64 b) K↔K (.bool (!decide (a=b))):=fun a b K=>by simp[zAx,zAf]
 have clss: ∀(a b:Int)(K:AV→Prop),zAx .lss (.int .i64 a) (.int .i64 b) K↔K (.bool (decide (a<b))):=fun a b K=>by simp[zAx,zAf]
 by_cases c0:zDw x=zDw y
 ·by_cases c1:zDw y<((0:Nat):Int)
  ·have c1':=decide_eq_true c1
   simp(disch:=first|exact Xe|fail)only[c0,c1',clss,cneq,↓Xa,Xb,Xc,↓reduceIte,Nat.reduceLT,Nat.reduceEqDiff,Nat.reduceBEq,Nat.reduceLeDiff,Nat.reduceAdd,Nat.reduceMul]
   refine(zF2 y.natAbs x.natAbs ty tx (by omega) (by omega)).call ?_
   have e:zFd x y=zBv y.natAbs x.natAbs:=by
     have a1:x<0:=by unfold zDw at c0 c1;split at c1<;>split at c0<;>omega
     have a2:y<0:=by unfold zDw at c1;split at c1<;>omega
     unfold zFd zBv;split<;>split<;>first|rfl|omega|(split<;>first|rfl|omega|(split<;>first|rfl|omega))
   simp(disch:=first|exact Xe|fail)only[zRf,↓Xa,Xb,Xc,↓reduceIte,Nat.reduceLT,Nat.reduceEqDiff,Nat.reduceBEq,Nat.reduceLeDiff,Nat.reduceAdd,Nat.reduceMul]
   exact SetR.dropTo le (SetR.now (e▸hq))
  ·have c1':=decide_eq_false c1
   simp(disch:=first|exact Xe|fail)only[c0,c1',clss,cneq,↓Xa,Xb,Xc,↓reduceIte,Nat.reduceLT,Nat.reduceEqDiff,Nat.reduceBEq,Nat.reduceLeDiff,Nat.reduceAdd,Nat.reduceMul]
   refine(zF2 x.natAbs y.natAbs tx ty (by omega) (by omega)).call ?_
   have e:zFd x y=zBv x.natAbs y.natAbs:=by
     have a2:0≤y:=by unfold zDw at c1;split at c1<;>(try omega)
     have a1:0≤x:=by unfold zDw at c0 c1;split at c0<;>split at c0<;>(try omega)<;>(split at c0<;>omega)
     unfold zFd zBv;split<;>split<;>first|rfl|omega|(split<;>first|rfl|omega|(split<;>first|rfl|omega))
   simp(disch:=first|exact Xe|fail)only[zRf,↓Xa,Xb,Xc,↓reduceIte,Nat.reduceLT,Nat.reduceEqDiff,Nat.reduceBEq,Nat.reduceLeDiff,Nat.reduceAdd,Nat.reduceMul]
   exact SetR.dropTo le (SetR.now (e▸hq))
 ·by_cases c1:zDw x<zDw y
  ·have e:zFd x y= -1:=by
     unfold zFd;rw[if_pos];unfold zDw at c1;split at c1<;>split at c1<;>(try omega)<;>(split at c1<;>omega)
   simp(disch:=first|exact Xe|fail)only[c0,c1,clss,cneq,zRf,↓Xa,Xb,Xc,↓reduceIte,Nat.reduceLT,Nat.reduceEqDiff,Nat.reduceBEq,Nat.reduceLeDiff,Nat.reduceAdd,Nat.reduceMul]
   exact SetR.dropTo le (SetR.now (e▸hq))
  ·have e:zFd x y=((1:Nat):Int):=by
     have:y<x:=by unfold zDw at c0 c1;split at c0<;>split at c0<;>simp_all<;>(try omega)<;>(split at c0<;>simp_all<;>omega)
     unfold zFd;rw[if_neg (by omega),if_pos this]
   simp(disch:=first|exact Xe|fail)only[c0,c1,clss,cneq,zRf,↓Xa,Xb,Xc,↓reduceIte,Nat.reduceLT,Nat.reduceEqDiff,Nat.reduceBEq,Nat.reduceLeDiff,Nat.reduceAdd,Nat.reduceMul]
   exact SetR.dropTo le (SetR.now (e▸hq))
theorem zX4{x:Int}{k:Nat}(t:Bool)(hx:Bd k x)(hk:k≤549755813888):PFn Tryz.prog 217 [zBa x t] (zBa (-x) false):=by
 intro H Q hq
 have hl:=hx.rlen
 have e: -x=sg (!decide (x<0)) (val 65536 (digs 65536 x.natAbs)):=by rw[zAJ (by omega)];unfold sg;by_cases h:x<0<;>simp[h]<;>omega
 rw[e]at hq
 refine zTA (by simp) ?_
 simp(disch:=first|exact Xe|fail)only[zdO,zBa,↓Xa,Xb,Xc,↓reduceIte,Nat.reduceLT,Nat.reduceEqDiff,Nat.reduceBEq,Nat.reduceLeDiff,Nat.reduceAdd,Nat.reduceMul]
 refine zAD fun p hp=>?_
 simp(disch:=first|exact Xe|fail)only[↓Xa,Xb,Xc,↓reduceIte,Nat.reduceLT,Nat.reduceEqDiff,Nat.reduceBEq,Nat.reduceLeDiff,Nat.reduceAdd,Nat.reduceMul]
 refine zAD fun p2 hp2=>?_
 have hne:=(zAB.1 hp2).1
 simp(disch:=first|exact Xe|fail)only[↓Xa,Xb,Xc,↓reduceIte,Nat.reduceLT,Nat.reduceEqDiff,Nat.reduceBEq,Nat.reduceLeDiff,Nat.reduceAdd,Nat.reduceMul]
 refine(zBp _ t (zAG (by omega) _) (by omega)).call ?_
 simp(disch:=first|exact Xe|fail)only[zah,zBa,↓Xa,Xb,Xc,↓reduceIte,Nat.reduceLT,Nat.reduceEqDiff,Nat.reduceBEq,Nat.reduceLeDiff,Nat.reduceAdd,Nat.reduceMul]
 exact SetR.dropTo (((Le.refl H).upd hp).upd hp2) (SetR.now hq)
theorem zYs{x:Int}{k:Nat}(t:Bool)(hx:Bd k x)(hk:k≤549755813888):PFn Tryz.prog 189 [zBa x t] (zBa (x.natAbs:Int) false):=by
 intro H Q hq
 have hl:=hx.rlen
 have e:(x.natAbs:Int)=sg false (val 65536 (digs 65536 x.natAbs)):=by rw[zAJ (by omega)];simp[sg]
 rw[e]at hq
 refine zUl (by simp) ?_
 simp(disch:=first|exact Xe|fail)only[zaq,zBa,↓Xa,Xb,Xc,↓reduceIte,Nat.reduceLT,Nat.reduceEqDiff,Nat.reduceBEq,Nat.reduceLeDiff,Nat.reduceAdd,Nat.reduceMul]
 refine zAD fun p hp=>?_
 simp(disch:=first|exact Xe|fail)only[↓Xa,Xb,Xc,↓reduceIte,Nat.reduceLT,Nat.reduceEqDiff,Nat.reduceBEq,Nat.reduceLeDiff,Nat.reduceAdd,Nat.reduceMul]
 refine zAD fun p2 hp2=>?_
 have hne:=(zAB.1 hp2).1
 simp(disch:=first|exact Xe|fail)only[↓Xa,Xb,Xc,↓reduceIte,Nat.reduceLT,Nat.reduceEqDiff,Nat.reduceBEq,Nat.reduceLeDiff,Nat.reduceAdd,Nat.reduceMul]
 refine(zBp false t (zAG (by omega) _) (by omega)).call ?_
 simp(disch:=first|exact Xe|fail)only[zco,zBa,↓Xa,Xb,Xc,↓reduceIte,Nat.reduceLT,Nat.reduceEqDiff,Nat.reduceBEq,Nat.reduceLeDiff,Nat.reduceAdd,Nat.reduceMul]
 exact SetR.dropTo (((Le.refl H).upd hp).upd hp2) (SetR.now hq)
theorem zYz(m n:Nat)(ta tb:Bool)(hm:(digs 65536 m).length≤1099511627776)(hn:(digs 65536 n).length≤1099511627776):PFn Tryz.prog 202 [LS (digs 65536 m) ta,LS (digs 65536 n) tb] (LS (digs 65536 (m+n)) false):=by
 intro H Q hq
 have la:=zAG (B:=65536) (by omega) m
 have lb:=zAG (B:=65536) (by omega) n
 refine zSC (by simp) ?_
 simp(disch:=first|exact Xe|fail)only[zZ9,↓Xa,Xb,Xc,↓reduceIte,Nat.reduceLT,Nat.reduceEqDiff,Nat.reduceBEq,Nat.reduceLeDiff,Nat.reduceAdd,Nat.reduceMul]
 refine zAP (fun s:Nat×Nat×List Nat×AV×AHeap=>⟨[],[(0,LS (digs 65536 m) ta),(1,LS (digs 65536 n) tb),(5,s.2.2.2.1),(6,.int .u32 s.2.1),(7,.int .i64 s.1)],s.2.2.2.2⟩)
  (fun s=>s.1≤max (digs 65536 m).length (digs 65536 n).length+1∧(s.1=max (digs 65536 m).length (digs 65536 n).length+1→s.2.1=0)∧grow H 168 s.2.2.1 s.2.2.2.1 s.2.2.2.2∧PlusI (digs 65536 m) (digs 65536 n) s.1 s.2.1 s.2.2.1) (fun s=>max (digs 65536 m).length (digs 65536 n).length+1-s.1)
  (0,0,[],_,_) (Settle.now rfl) ⟨by dsimp only;omega,fun _=>rfl,zD5,PlusI.zero _ _⟩ ?_
 rintro⟨i,c,done,x,H'⟩ ⟨g0,g1,hg,h1⟩
 dsimp only at g0 g1 hg h1 ⊢
 have hd:=h1.1
 have hc:=h1.2.2.1
 have hx:=la.getD (by omega) i
 have hy:=lb.getD (by omega) i
 have nx: ∀s,s=c+(digs 65536 m).getD i 0+(digs 65536 n).getD i 0→max (digs 65536 m).length (digs 65536 n).length≤i→s / 65536=0:=by
  intro s hs hi
  have a:=zAo (show(digs 65536 m).length≤i by omega)
  have b:=zAo (show(digs 65536 n).length≤i by omega)
  rw[hs,a,b];omega
 by_cases hi:i<(digs 65536 m).length
 ·by_cases hj:i<(digs 65536 n).length
  ·simp(disch:=first|exact Xe|fail)only[hi,hj,ne_eq,Nat.reduceEqDiff,↓Xa,Xb,Xc,↓reduceIte,Nat.reduceLT,Nat.reduceEqDiff,Nat.reduceBEq,Nat.reduceLeDiff,Nat.reduceAdd,Nat.reduceMul]
   refine zBO (m:=[(c+(digs 65536 m).getD i 0+(digs 65536 n).getD i 0)%65536]) hg rfl (by simp) (by simp;omega) fun x' H2 hg2=>?_
   simp(disch:=first|exact Xe|fail)only[ne_eq,Nat.reduceEqDiff,↓Xa,Xb,Xc,↓reduceIte,Nat.reduceLT,Nat.reduceEqDiff,Nat.reduceBEq,Nat.reduceLeDiff,Nat.reduceAdd,Nat.reduceMul]
   refine Settle.now ⟨(i+1,_,_,_,_),by dsimp only;omega,⟨by dsimp only;omega,fun e=>nx _ rfl (by dsimp only at e;omega),hg2,h1.step (.inl hi) rfl⟩,rfl⟩
  ·have b:=zAo (show(digs 65536 n).length≤i by omega)
   simp(disch:=first|exact Xe|fail)only[hi,hj,ne_eq,Nat.reduceEqDiff,↓Xa,Xb,Xc,↓reduceIte,Nat.reduceLT,Nat.reduceEqDiff,Nat.reduceBEq,Nat.reduceLeDiff,Nat.reduceAdd,Nat.reduceMul]
   refine zBO (m:=[(c+(digs 65536 m).getD i 0)%65536]) hg rfl (by simp) (by simp;omega) fun x' H2 hg2=>?_
   simp(disch:=first|exact Xe|fail)only[ne_eq,Nat.reduceEqDiff,↓Xa,Xb,Xc,↓reduceIte,Nat.reduceLT,Nat.reduceEqDiff,Nat.reduceBEq,Nat.reduceLeDiff,Nat.reduceAdd,Nat.reduceMul]
   refine Settle.now ⟨(i+1,_,_,_,_),by dsimp only;omega,⟨by dsimp only;omega,fun e=>nx _ (by rw[b];rfl) (by dsimp only at e;omega),hg2,h1.step (.inl hi) (by rw[b];rfl)⟩,rfl⟩
 ·have a:=zAo (show(digs 65536 m).length≤i by omega)
  by_cases hj:i<(digs 65536 n).length
  ·simp(disch:=first|exact Xe|fail)only[hi,hj,ne_eq,Nat.reduceEqDiff,↓Xa,Xb,Xc,↓reduceIte,Nat.reduceLT,Nat.reduceEqDiff,Nat.reduceBEq,Nat.reduceLeDiff,Nat.reduceAdd,Nat.reduceMul]
   refine zBO (m:=[(c+(digs 65536 n).getD i 0)%65536]) hg rfl (by simp) (by simp;omega) fun x' H2 hg2=>?_
   simp(disch:=first|exact Xe|fail)only[ne_eq,Nat.reduceEqDiff,↓Xa,Xb,Xc,↓reduceIte,Nat.reduceLT,Nat.reduceEqDiff,Nat.reduceBEq,Nat.reduceLeDiff,Nat.reduceAdd,Nat.reduceMul]
   refine Settle.now ⟨(i+1,_,_,_,_),by dsimp only;omega,⟨by dsimp only;omega,fun e=>nx _ (by rw[a];rfl) (by dsimp only at e;omega),hg2,h1.step (.inr (.inl hj)) (by rw[a];rfl)⟩,rfl⟩
  ·have b:=zAo (show(digs 65536 n).length≤i by omega)
   by_cases h0:0<c
   ·simp(disch:=first|exact Xe|fail)only[hi,hj,h0,ne_eq,Nat.reduceEqDiff,↓Xa,Xb,Xc,↓reduceIte,Nat.reduceLT,Nat.reduceEqDiff,Nat.reduceBEq,Nat.reduceLeDiff,Nat.reduceAdd,Nat.reduceMul]
    refine zBO (m:=[c%65536]) hg rfl (by simp) (by simp;omega) fun x' H2 hg2=>?_
    simp(disch:=first|exact Xe|fail)only[ne_eq,Nat.reduceEqDiff,↓Xa,Xb,Xc,↓reduceIte,Nat.reduceLT,Nat.reduceEqDiff,Nat.reduceBEq,Nat.reduceLeDiff,Nat.reduceAdd,Nat.reduceMul]
    have:i≠max (digs 65536 m).length (digs 65536 n).length+1:=fun e=>by have:=g1 e;omega
    refine Settle.now ⟨(i+1,_,_,_,_),by dsimp only;omega,⟨by dsimp only;omega,fun e=>nx _ (by rw[a,b];rfl) (by dsimp only at e;omega),hg2,h1.step (.inr (.inr h0)) (by rw[a,b];rfl)⟩,rfl⟩
   ·obtain rfl:c=0:=by omega
    simp(disch:=first|exact Xe|fail)only[hi,hj,h0,↓Xa,Xb,Xc,↓reduceIte,Nat.reduceLT,Nat.reduceEqDiff,Nat.reduceBEq,Nat.reduceLeDiff,Nat.reduceAdd,Nat.reduceMul]
    refine Settle.grown 5 rfl hg (Settle.now ?_)
    simp(disch:=first|exact Xe|fail)only[zaX,↓Xa,Xb,Xc,↓reduceIte,Nat.reduceLT,Nat.reduceEqDiff,Nat.reduceBEq,Nat.reduceLeDiff,Nat.reduceAdd,Nat.reduceMul]
    rw[h1.end (by omega) (by omega)]
    exact SetR.now hq
theorem zLm(m n:Nat)(ta tb:Bool)(hmn:n≤m)(hm:(digs 65536 m).length≤1099511627776):PFn Tryz.prog 201 [LS (digs 65536 m) ta,LS (digs 65536 n) tb] (LS (pad 65536 (m-n) (digs 65536 m).length) false):=by
 intro H Q hq
 have la:=zAG (B:=65536) (by omega) m
 have lb:=zAG (B:=65536) (by omega) n
 have va:=zAJ (B:=65536) (by omega) m
 have vb:=zAJ (B:=65536) (by omega) n
 have hlb:(digs 65536 n).length≤(digs 65536 m).length:=by
  rcases Nat.lt_or_ge (digs 65536 m).length (digs 65536 n).length with h|h
  ·have:=zBW (by omega) h;omega
  ·exact h
 refine zL6 (by simp) ?_
 simp(disch:=first|exact Xe|fail)only[zX1,↓Xa,Xb,Xc,↓reduceIte,Nat.reduceLT,Nat.reduceEqDiff,Nat.reduceBEq,Nat.reduceLeDiff,Nat.reduceAdd,Nat.reduceMul]
 refine zAP (fun s:Nat×Nat×List Nat×AV×AHeap=>⟨[],[(0,LS (digs 65536 m) ta),(1,LS (digs 65536 n) tb),(5,s.2.2.2.1),(6,.int .u32 s.2.1),(7,.int .i64 s.1)],s.2.2.2.2⟩)
  (fun s=>s.1≤(digs 65536 m).length∧grow H 168 s.2.2.1 s.2.2.2.1 s.2.2.2.2∧MinI (digs 65536 m) (digs 65536 n) s.1 s.2.1 s.2.2.1) (fun s=>(digs 65536 m).length-s.1)
  (0,0,[],_,_) (Settle.now rfl) ⟨by simp,zD5,MinI.zero _ _⟩ ?_
 rintro⟨i,c,done,x,H'⟩ ⟨g0,hg,h1⟩
 dsimp only at g0 hg h1 ⊢
 have hd:=h1.1
 have hc:=h1.2.2.1
 have hx:=la.getD (by omega) i
 have hy:=lb.getD (by omega) i
 by_cases hi:i<(digs 65536 m).length
 ·by_cases hj:i<(digs 65536 n).length
  ·by_cases hv:(digs 65536 m).getD i 0<c+(digs 65536 n).getD i 0
   ·simp(disch:=first|exact Xe|fail)only[hi,hj,hv,↓Xa,Xb,Xc,↓reduceIte,Nat.reduceLT,Nat.reduceEqDiff,Nat.reduceBEq,Nat.reduceLeDiff,Nat.reduceAdd,Nat.reduceMul]
    refine zBO (m:=[(digs 65536 m).getD i 0+65536-(c+(digs 65536 n).getD i 0)]) hg rfl (by simp) (by simp;omega) fun x' H2 hg2=>?_
    simp(disch:=first|exact Xe|fail)only[↓Xa,Xb,Xc,↓reduceIte,Nat.reduceLT,Nat.reduceEqDiff,Nat.reduceBEq,Nat.reduceLeDiff,Nat.reduceAdd,Nat.reduceMul]
    refine Settle.now ⟨(i+1,1,_,_,_),by dsimp only;omega,⟨by dsimp only;omega,hg2,h1.step (c':=1) (by omega) rfl (by omega) (by omega)⟩,rfl⟩
   ·simp(disch:=first|exact Xe|fail)only[hi,hj,hv,↓Xa,Xb,Xc,↓reduceIte,Nat.reduceLT,Nat.reduceEqDiff,Nat.reduceBEq,Nat.reduceLeDiff,Nat.reduceAdd,Nat.reduceMul]
    refine zBO (m:=[(digs 65536 m).getD i 0-(c+(digs 65536 n).getD i 0)]) hg rfl (by simp) (by simp;omega) fun x' H2 hg2=>?_
    simp(disch:=first|exact Xe|fail)only[↓Xa,Xb,Xc,↓reduceIte,Nat.reduceLT,Nat.reduceEqDiff,Nat.reduceBEq,Nat.reduceLeDiff,Nat.reduceAdd,Nat.reduceMul]
    refine Settle.now ⟨(i+1,0,_,_,_),by dsimp only;omega,⟨by dsimp only;omega,hg2,h1.step (c':=0) (by omega) rfl (by omega) (by omega)⟩,rfl⟩
  ·have b:=zAo (show(digs 65536 n).length≤i by omega)
   by_cases hv:(digs 65536 m).getD i 0<c
   ·simp(disch:=first|exact Xe|fail)only[hi,hj,hv,↓Xa,Xb,Xc,↓reduceIte,Nat.reduceLT,Nat.reduceEqDiff,Nat.reduceBEq,Nat.reduceLeDiff,Nat.reduceAdd,Nat.reduceMul]
    refine zBO (m:=[(digs 65536 m).getD i 0+65536-c]) hg rfl (by simp) (by simp;omega) fun x' H2 hg2=>?_
    simp(disch:=first|exact Xe|fail)only[↓Xa,Xb,Xc,↓reduceIte,Nat.reduceLT,Nat.reduceEqDiff,Nat.reduceBEq,Nat.reduceLeDiff,Nat.reduceAdd,Nat.reduceMul]
    refine Settle.now ⟨(i+1,1,_,_,_),by dsimp only;omega,⟨by dsimp only;omega,hg2,h1.step (c':=1) (by omega) rfl (by omega) (by omega)⟩,rfl⟩
   ·simp(disch:=first|exact Xe|fail)only[hi,hj,hv,↓Xa,Xb,Xc,↓reduceIte,Nat.reduceLT,Nat.reduceEqDiff,Nat.reduceBEq,Nat.reduceLeDiff,Nat.reduceAdd,Nat.reduceMul]
    refine zBO (m:=[(digs 65536 m).getD i 0-c]) hg rfl (by simp) (by simp;omega) fun x' H2 hg2=>?_
    simp(disch:=first|exact Xe|fail)only[↓Xa,Xb,Xc,↓reduceIte,Nat.reduceLT,Nat.reduceEqDiff,Nat.reduceBEq,Nat.reduceLeDiff,Nat.reduceAdd,Nat.reduceMul]
    refine Settle.now ⟨(i+1,0,_,_,_),by dsimp only;omega,⟨by dsimp only;omega,hg2,h1.step (c':=0) (by omega) rfl (by omega) (by omega)⟩,rfl⟩
 ·obtain rfl:i=(digs 65536 m).length:=by omega
  simp(disch:=first|exact Xe|fail)only[hi,↓Xa,Xb,Xc,↓reduceIte,Nat.reduceLT,Nat.reduceEqDiff,Nat.reduceBEq,Nat.reduceLeDiff,Nat.reduceAdd,Nat.reduceMul]
  refine Settle.grown 5 rfl hg (Settle.now ?_)
  simp(disch:=first|exact Xe|fail)only[zXS,↓Xa,Xb,Xc,↓reduceIte,Nat.reduceLT,Nat.reduceEqDiff,Nat.reduceBEq,Nat.reduceLeDiff,Nat.reduceAdd,Nat.reduceMul]
  have e:=h1.end la hlb (by omega)
  rw[va,vb]at e
  rw[e]
  exact SetR.now hq
theorem zIk{x y:Int}{k k':Nat}(tx ty:Bool)(hx:Bd k x)(hk:k≤274877906944)(hy:Bd k' y)(hk':k'≤274877906944):PFn Tryz.prog 135 [zBa x tx,zBa y ty] (zBa (x+y) false):=by
 intro H Q hq
 have hl:=hx.rlen
 have hl':=hy.rlen
 have hxm:=hx.mono (Nat.le_max_left k k')
 have hym:=hy.mono (Nat.le_max_right k k')
 refine zVD (by simp) ?_
 simp(disch:=first|exact Xe|fail)only[zdE,zBa,↓Xa,Xb,Xc,↓reduceIte,Nat.reduceLT,Nat.reduceEqDiff,Nat.reduceBEq,Nat.reduceLeDiff,Nat.reduceAdd,Nat.reduceMul]
 refine zAD fun p hp=>?_
 simp(disch:=first|exact Xe|fail)only[↓Xa,Xb,Xc,↓reduceIte,Nat.reduceLT,Nat.reduceEqDiff,Nat.reduceBEq,Nat.reduceLeDiff,Nat.reduceAdd,Nat.reduceMul]
 refine zAD fun p2 hp2=>?_
 simp(disch:=first|exact Xe|fail)only[↓Xa,Xb,Xc,↓reduceIte,Nat.reduceLT,Nat.reduceEqDiff,Nat.reduceBEq,Nat.reduceLeDiff,Nat.reduceAdd,Nat.reduceMul]
 refine zAD fun p3 hp3=>?_
 have hne:=(zAB.1 hp2).1
 have hne3:=(zAB.1 hp3).1
 have hne4:=(zAB.1 (zAB.1 hp3).2).1
 by_cases hs:decide (x<0)=decide (y<0)
 ·have hsb:(decide (x<0)==decide (y<0))=true:=by rw[hs];simp
  simp(disch:=first|exact Xe|fail)only[hsb,↓Xa,Xb,Xc,↓reduceIte,Nat.reduceLT,Nat.reduceEqDiff,Nat.reduceBEq,Nat.reduceLeDiff,Nat.reduceAdd,Nat.reduceMul]
  refine PFn.dcall (zYz _ _ tx ty (by omega) (by omega)) ?_
  simp(disch:=first|exact Xe|fail)only[↓Xa,Xb,Xc,↓reduceIte,Nat.reduceLT,Nat.reduceEqDiff,Nat.reduceBEq,Nat.reduceLeDiff,Nat.reduceAdd,Nat.reduceMul]
  have hb:Bd (max k k'+1) (sg (decide (x<0)) (x.natAbs+y.natAbs)):=Bd.sgn (by unfold Bd at hxm hym;rw[Nat.pow_succ];omega)
  have hb':=hb.rlen
  rw[zCe]at hb'
  refine(zBp _ false (zAG (by omega) _) (by omega)).call ?_
  rw[zAJ (by omega)]
  have e:x+y=sg (decide (x<0)) (x.natAbs+y.natAbs):=by
   have:=decide_eq_decide.1 hs
   unfold sg;by_cases h:x<0<;>simp[h]<;>omega
  rw[e]at hq
  simp(disch:=first|exact Xe|fail)only[zUv,zBa,↓Xa,Xb,Xc,↓reduceIte,Nat.reduceLT,Nat.reduceEqDiff,Nat.reduceBEq,Nat.reduceLeDiff,Nat.reduceAdd,Nat.reduceMul]
  exact SetR.dropTo ((((Le.refl H).upd hp).upd hp2).upd hp3) (SetR.now hq)
 ·have hsb:(decide (x<0)==decide (y<0))=false:=by simpa using hs
  have hs': ¬((x<0)↔(y<0)):=fun h=>hs (decide_eq_decide.2 h)
  simp(disch:=first|exact Xe|fail)only[hsb,↓Xa,Xb,Xc,↓reduceIte,Nat.reduceLT,Nat.reduceEqDiff,Nat.reduceBEq,Nat.reduceLeDiff,Nat.reduceAdd,Nat.reduceMul]
  refine(zF2 _ _ tx ty (by omega) (by omega)).call ?_
  by_cases hc:x.natAbs<y.natAbs
  ·have c3: ∀K,zAx .geq (.int .i64 (zBv x.natAbs y.natAbs)) (.int .i64 ((0:Nat):Int)) K↔K (.bool false):=fun K=>by
    simp[zAx,zAf,zBv,hc]
   simp(disch:=first|exact Xe|fail)only[c3,↓Xa,Xb,Xc,↓reduceIte,Nat.reduceLT,Nat.reduceEqDiff,Nat.reduceBEq,Nat.reduceLeDiff,Nat.reduceAdd,Nat.reduceMul]
   refine PFn.dcall (zLm y.natAbs x.natAbs ty tx (by omega) (by omega)) ?_
   simp(disch:=first|exact Xe|fail)only[↓Xa,Xb,Xc,↓reduceIte,Nat.reduceLT,Nat.reduceEqDiff,Nat.reduceBEq,Nat.reduceLeDiff,Nat.reduceAdd,Nat.reduceMul]
   have hle:(digs 65536 (y.natAbs-x.natAbs)).length≤(digs 65536 y.natAbs).length:=zA4 (by omega) _ _ (by
    have:=zBE (zAG (B:=65536) (by omega) y.natAbs);rw[zAJ (by omega)]at this;omega)
   refine(zBp _ false (zDj (by omega)) (by rw[zER hle];omega)).call ?_
   rw[zE9 (by omega)]
   have e:x+y=sg (decide (y<0)) (y.natAbs-x.natAbs):=by
    unfold sg;by_cases h:y<0<;>simp[h]<;>omega
   rw[e]at hq
   simp(disch:=first|exact Xe|fail)only[zUv,zBa,↓Xa,Xb,Xc,↓reduceIte,Nat.reduceLT,Nat.reduceEqDiff,Nat.reduceBEq,Nat.reduceLeDiff,Nat.reduceAdd,Nat.reduceMul]
   exact SetR.dropTo ((((Le.refl H).upd hp).upd hp2).upd hp3) (SetR.now hq)
  ·have c3: ∀K,zAx .geq (.int .i64 (zBv x.natAbs y.natAbs)) (.int .i64 ((0:Nat):Int)) K↔K (.bool true):=fun K=>by
    have:(0:Int)≤zBv x.natAbs y.natAbs:=by unfold zBv;rw[if_neg hc];split<;>omega
    simp[zAx,zAf];rw[decide_eq_true this]
   simp(disch:=first|exact Xe|fail)only[c3,↓Xa,Xb,Xc,↓reduceIte,Nat.reduceLT,Nat.reduceEqDiff,Nat.reduceBEq,Nat.reduceLeDiff,Nat.reduceAdd,Nat.reduceMul]
   refine PFn.dcall (zLm x.natAbs y.natAbs tx ty (by omega) (by omega)) ?_
   simp(disch:=first|exact Xe|fail)only[↓Xa,Xb,Xc,↓reduceIte,Nat.reduceLT,Nat.reduceEqDiff,Nat.reduceBEq,Nat.reduceLeDiff,Nat.reduceAdd,Nat.reduceMul]
   have hle:(digs 65536 (x.natAbs-y.natAbs)).length≤(digs 65536 x.natAbs).length:=zA4 (by omega) _ _ (by
    have:=zBE (zAG (B:=65536) (by omega) x.natAbs);rw[zAJ (by omega)]at this;omega)
   refine(zBp _ false (zDj (by omega)) (by rw[zER hle];omega)).call ?_
   rw[zE9 (by omega)]
   have e:x+y=sg (decide (x<0)) (x.natAbs-y.natAbs):=by
    unfold sg;by_cases h:x<0<;>simp[h]<;>omega
   rw[e]at hq
   simp(disch:=first|exact Xe|fail)only[zUv,zBa,↓Xa,Xb,Xc,↓reduceIte,Nat.reduceLT,Nat.reduceEqDiff,Nat.reduceBEq,Nat.reduceLeDiff,Nat.reduceAdd,Nat.reduceMul]
   exact SetR.dropTo ((((Le.refl H).upd hp).upd hp2).upd hp3) (SetR.now hq)
theorem zTv{x y:Int}{k k':Nat}(tx ty:Bool)(hx:Bd k x)(hk:k≤274877906944)(hy:Bd k' y)(hk':k'≤274877906944):PFn Tryz.prog 218 [zBa x tx,zBa y ty] (zBa (x-y) false):=by
 intro H Q hq
 refine zUt (by simp) ?_
 simp(disch:=first|exact Xe|fail)only[zbd,zBa,↓Xa,Xb,Xc,↓reduceIte,Nat.reduceLT,Nat.reduceEqDiff,Nat.reduceBEq,Nat.reduceLeDiff,Nat.reduceAdd,Nat.reduceMul]
 refine zAD fun p hp=>?_
 simp(disch:=first|exact Xe|fail)only[↓Xa,Xb,Xc,↓reduceIte,Nat.reduceLT,Nat.reduceEqDiff,Nat.reduceBEq,Nat.reduceLeDiff,Nat.reduceAdd,Nat.reduceMul]
 refine zAD fun p2 hp2=>?_
 simp(disch:=first|exact Xe|fail)only[↓Xa,Xb,Xc,↓reduceIte,Nat.reduceLT,Nat.reduceEqDiff,Nat.reduceBEq,Nat.reduceLeDiff,Nat.reduceAdd,Nat.reduceMul]
 refine zAD fun p3 hp3=>?_
 have hne:=(zAB.1 hp2).1
 have hne3:=(zAB.1 hp3).1
 have hne4:=(zAB.1 (zAB.1 hp3).2).1
 simp(disch:=first|exact Xe|fail)only[↓Xa,Xb,Xc,↓reduceIte,Nat.reduceLT,Nat.reduceEqDiff,Nat.reduceBEq,Nat.reduceLeDiff,Nat.reduceAdd,Nat.reduceMul]
 refine PFn.dcall (zX4 ty hy (by omega)) ?_
 simp(disch:=first|exact Xe|fail)only[↓Xa,Xb,Xc,↓reduceIte,Nat.reduceLT,Nat.reduceEqDiff,Nat.reduceBEq,Nat.reduceLeDiff,Nat.reduceAdd,Nat.reduceMul]
 refine(zIk tx false hx hk hy.neg hk').call ?_
 simp(disch:=first|exact Xe|fail)only[zcm,zBa,↓Xa,Xb,Xc,↓reduceIte,Nat.reduceLT,Nat.reduceEqDiff,Nat.reduceBEq,Nat.reduceLeDiff,Nat.reduceAdd,Nat.reduceMul]
 exact SetR.dropTo ((((Le.refl H).upd hp).upd hp2).upd hp3) (SetR.now hq)
theorem zFa{x y:Int}{k k':Nat}(tx ty:Bool)(hx:Bd k x)(hk:k≤274877906944)(hy:Bd k' y)(hk':k'≤274877906944):PFn Tryz.prog 136 [zBa x tx,zBa y ty] (zBa (x*y) false):=by
 intro H Q hq
 have hl:=hx.rlen
 have hl':=hy.rlen
 have vx0:=zAJ (B:=65536) (by omega) x.natAbs
 have vy0:=zAJ (B:=65536) (by omega) y.natAbs
 have lx:=zAG (B:=65536) (by omega) x.natAbs
 have ly:=zAG (B:=65536) (by omega) y.natAbs
 refine zS8 (by simp) ?_
 simp(disch:=first|exact Xe|fail)only[zeG,zBa,↓Xa,Xb,Xc,↓reduceIte,Nat.reduceLT,Nat.reduceEqDiff,Nat.reduceBEq,Nat.reduceLeDiff,Nat.reduceAdd,Nat.reduceMul]
 refine zAD fun p hp=>?_
 simp(disch:=first|exact Xe|fail)only[↓Xa,Xb,Xc,↓reduceIte,Nat.reduceLT,Nat.reduceEqDiff,Nat.reduceBEq,Nat.reduceLeDiff,Nat.reduceAdd,Nat.reduceMul]
 refine zAD fun p2 hp2=>?_
 simp(disch:=first|exact Xe|fail)only[↓Xa,Xb,Xc,↓reduceIte,Nat.reduceLT,Nat.reduceEqDiff,Nat.reduceBEq,Nat.reduceLeDiff,Nat.reduceAdd,Nat.reduceMul]
 refine zAD fun p3 hp3=>?_
 have hne:=(zAB.1 hp2).1
 have hne3:=(zAB.1 hp3).1
 have hne4:=(zAB.1 (zAB.1 hp3).2).1
 simp(disch:=first|exact Xe|fail)only[↓Xa,Xb,Xc,↓reduceIte,Nat.reduceLT,Nat.reduceEqDiff,Nat.reduceBEq,Nat.reduceLeDiff,Nat.reduceAdd,Nat.reduceMul]
 refine zDP fun o ho=>?_
 have n1:=(zAB.1 ho).1
 have n2:=(zAB.1 (zAB.1 ho).2).1
 have n3:=(zAB.1 (zAB.1 (zAB.1 ho).2).2).1
 simp(disch:=first|exact Xe|fail)only[↓Xa,Xb,Xc,↓reduceIte,Nat.reduceLT,Nat.reduceEqDiff,Nat.reduceBEq,Nat.reduceLeDiff,Nat.reduceAdd,Nat.reduceMul]
 generalize hX:digs 65536 x.natAbs=X at*
 generalize hY:digs 65536 y.natAbs=Y at*
 refine zAP (fun s:Nat×List Nat=>⟨[],[(2,.ptr p 2 0),(3,.ptr p2 2 0),(4,.ptr p3 2 0),(5,.own o (X.length+Y.length+1) 0 (X.length+Y.length+1) true),(6,.int .i64 s.1)],
  (((H.upd p (some (.row 44 0 [.bool (decide (x<0)),LS X tx]))).upd p2 (some (.row 44 0 [.bool (decide (y<0)),LS Y ty]))).upd p3 (some (.row 44 0 [.bool false,.seq 0 [] true]))).upd o (some (.row 168 1 (U s.2)))⟩)
  (fun s=>s.1≤X.length∧MulJ X Y s.1 s.2) (fun s=>X.length-s.1) (0,List.replicate (X.length+Y.length+1) 0) (Settle.now rfl) ⟨by simp,MulJ.zero X Y⟩ ?_
 rintro⟨i,out⟩ ⟨h1,h2⟩
 dsimp only at h1 h2 ⊢
 have hol:=h2.1
 by_cases hi:i<X.length
 ·simp(disch:=first|exact Xe|fail)only[hi,↓Xa,Xb,Xc,↓reduceIte,Nat.reduceLT,Nat.reduceEqDiff,Nat.reduceBEq,Nat.reduceLeDiff,Nat.reduceAdd,Nat.reduceMul]
  refine zAP (fun s:Nat×Nat×List Nat=>⟨[],[(2,.ptr p 2 0),(3,.ptr p2 2 0),(4,.ptr p3 2 0),(5,.own o (X.length+Y.length+1) 0 (X.length+Y.length+1) true),(6,.int .i64 i),(7,.int .u64 s.2.1),(8,.int .i64 s.1)],
   (((H.upd p (some (.row 44 0 [.bool (decide (x<0)),LS X tx]))).upd p2 (some (.row 44 0 [.bool (decide (y<0)),LS Y ty]))).upd p3 (some (.row 44 0 [.bool false,.seq 0 [] true]))).upd o (some (.row 168 1 (U s.2.2)))⟩)
   (fun s=>(s.1≤Y.length∧MulH X Y i s.1 s.2.1 s.2.2)∨(s.1=Y.length+1∧s.2.1=0∧MulJ X Y (i+1) s.2.2)) (fun s=>Y.length+1-s.1) (0,0,out) (Settle.now rfl) (.inl ⟨by simp,MulH.start h2⟩) ?_
  rintro⟨j,c,out⟩ hinv
  dsimp only at hinv ⊢
  have fin:c=0→Y.length≤j→MulJ X Y (i+1) out:=by
   intro hc hj
   rcases hinv with⟨g1,g2⟩|⟨g1,g2,g3⟩
   ·obtain rfl:j=Y.length:=by omega
    subst hc
    have:=g2.end hi
    have e:out.set (i+Y.length) 0=out:=by
     have hz:=g2.2.2.2.2 (i+Y.length) (Nat.le_refl _)
     have hlt:i+Y.length<out.length:=by rw[g2.1];omega
     rw[List.getD_eq_getElem?_getD,List.getElem?_eq_getElem hlt,Option.getD_some]at hz
     rw[← hz];exact List.set_getElem_self hlt
    rwa[e]at this
   ·exact g3
  by_cases hj:j<Y.length
  ·rcases hinv with⟨g1,g2⟩|⟨g1,g2,g3⟩
   ·have gol:=g2.1
    have gc:=g2.2.2.1
    have ax:=lx.getD (by omega) i
    have ay:=ly.getD (by omega) j
    have ao:=g2.2.1.getD (by omega) (i+j)
    have hm:X.getD i 0*Y.getD j 0≤65535*65535:=Nat.mul_le_mul (by omega) (by omega)
    have es:c+out.getD (i+j) 0+X.getD i 0*Y.getD j 0=c+(X.getD i 0*Y.getD j 0+out.getD (i+j) 0):=by omega
    have em:((c+(X.getD i 0*Y.getD j 0+out.getD (i+j) 0))%65536)<4294967296:=by omega
    simp(disch:=first|exact Xe|fail)only[hj,es,ne_eq,Nat.reduceEqDiff,↓Xa,Xb,Xc,↓reduceIte,Nat.reduceLT,Nat.reduceEqDiff,Nat.reduceBEq,Nat.reduceLeDiff,Nat.reduceAdd,Nat.reduceMul]
    refine Settle.now ⟨(j+1,_,_),by dsimp only;omega,.inl ⟨by dsimp only;omega,g2.step hi hj lx ly rfl⟩,rfl⟩
   ·omega
  ·by_cases hc:0<c
   ·rcases hinv with⟨g1,g2⟩|⟨g1,g2,g3⟩
    ·obtain rfl:j=Y.length:=by omega
     have gol:=g2.1
     have gc:=g2.2.2.1
     have ao:=g2.2.2.2.2 (i+Y.length) (Nat.le_refl _)
     have em:c%65536=c:=by omega
     have ed:c / 65536=0:=by omega
     simp(disch:=first|exact Xe|fail)only[hj,hc,ao,em,ed,ne_eq,Nat.reduceEqDiff,↓Xa,Xb,Xc,↓reduceIte,Nat.reduceLT,Nat.reduceEqDiff,Nat.reduceBEq,Nat.reduceLeDiff,Nat.reduceAdd,Nat.reduceMul]
     refine Settle.now ⟨(Y.length+1,0,_),by dsimp only;omega,.inr ⟨rfl,rfl,g2.end hi⟩,rfl⟩
    ·omega
   ·obtain rfl:c=0:=by omega
    simp(disch:=first|exact Xe|fail)only[hj,hc,↓Xa,Xb,Xc,↓reduceIte,Nat.reduceLT,Nat.reduceEqDiff,Nat.reduceBEq,Nat.reduceLeDiff,Nat.reduceAdd,Nat.reduceMul]
    refine Settle.now ?_
    simp(disch:=first|exact Xe|fail)only[↓Xa,Xb,Xc,↓reduceIte,Nat.reduceLT,Nat.reduceEqDiff,Nat.reduceBEq,Nat.reduceLeDiff,Nat.reduceAdd,Nat.reduceMul]
    exact Settle.now ⟨(i+1,out),by dsimp only;omega,⟨by dsimp only;omega,fin rfl (by omega)⟩,rfl⟩
 ·obtain rfl:i=X.length:=by omega
  simp(disch:=first|exact Xe|fail)only[hi,↓Xa,Xb,Xc,↓reduceIte,Nat.reduceLT,Nat.reduceEqDiff,Nat.reduceBEq,Nat.reduceLeDiff,Nat.reduceAdd,Nat.reduceMul]
  refine Settle.freeze 5 rfl (zAC _ _ _) (by simp[hol]) (.inr (by simp)) ?_
  have e1:AV.seq (X.length+Y.length+1) (((U out).drop 0).take ((X.length+Y.length+1)*1)) true=LS out true:=by
   rw[List.drop_zero,Nat.mul_one,← hol,List.take_of_length_le (by simp)];rfl
  rw[e1,zAO,zAV _ ho]
  refine Settle.now ?_
  simp(disch:=first|exact Xe|fail)only[↓Xa,Xb,Xc,↓reduceIte,Nat.reduceLT,Nat.reduceEqDiff,Nat.reduceBEq,Nat.reduceLeDiff,Nat.reduceAdd,Nat.reduceMul]
  refine(zBp _ true h2.2.1 (by omega)).call ?_
  have e2:sg (!(decide (x<0)==decide (y<0))) (val 65536 out)=x*y:=by
   rw[h2.2.2.1,zAa _ _ _ (Nat.le_refl _),vx0,vy0,← Int.natAbs_mul]
   unfold sg
   by_cases h:x<0<;>by_cases h':y<0<;>simp[h,h']
   ·rw[zMT (Int.mul_nonneg_of_nonpos_of_nonpos (by omega) (by omega))]
   ·rw[zLX (Int.mul_nonpos_of_nonpos_of_nonneg (by omega) (by omega))]
   ·rw[zLX (Int.mul_nonpos_of_nonneg_of_nonpos (by omega) (by omega))]
   ·rw[zMT (Int.mul_nonneg (by omega) (by omega))]
  rw[e2]
  simp(disch:=first|exact Xe|fail)only[zaO,zBa,↓Xa,Xb,Xc,↓reduceIte,Nat.reduceLT,Nat.reduceEqDiff,Nat.reduceBEq,Nat.reduceLeDiff,Nat.reduceAdd,Nat.reduceMul]
  exact SetR.dropTo ((((Le.refl H).upd hp).upd hp2).updB (zAB.1 (zAB.1 hp3).2).2) (SetR.now hq)
section
variable {l:List Int} {t:Bool} {H:AHeap} {K:AV→Prop}
end
theorem zPl(n:Nat)(t:Bool)(hn:(digs 65536 n).length≤1099511627776):PFn Tryz.prog 199 [LS (digs 65536 n) t] (.int .i64 ((blen n:Nat):Int)):=by
 intro H Q hq
 refine zUp (by simp) ?_
 rcases Nat.eq_zero_or_pos n with e|e
 ·subst e
  rw[zAQ]at*
  simp(disch:=first|exact Xe|fail)only[zYr,zXK,↓Xa,Xb,Xc,↓reduceIte,Nat.reduceLT,Nat.reduceEqDiff,Nat.reduceBEq,Nat.reduceLeDiff,Nat.reduceAdd,Nat.reduceMul]
  exact SetR.now hq
 ·have hp:0<(digs 65536 n).length:=by rw[zAz (by omega) e];simp
  have hne:((digs 65536 n).length=0)=False:=eq_false (by omega)
  have hb:=zEy (w:=16) (by omega) e
  have hlim:=(zAG (B:=65536) (by omega) n).getD (by omega) ((digs 65536 n).length-1)
  have hb16:blen ((digs 65536 n).getD ((digs 65536 n).length-1) 0)≤16:=zBZ.2 (by omega)
  change blen n=16*((digs 65536 n).length-1)+blen ((digs 65536 n).getD ((digs 65536 n).length-1) 0)at hb
  simp(disch:=first|exact Xe|fail)only[zYr,hne,↓Xa,Xb,Xc,↓reduceIte,Nat.reduceLT,Nat.reduceEqDiff,Nat.reduceBEq,Nat.reduceLeDiff,Nat.reduceAdd,Nat.reduceMul]
  refine zAP (fun s:Nat×Nat=>⟨[],[(3,.int .i64 s.1),(4,.int .u32 s.2)],H⟩) (fun s=>s.1+blen s.2=blen n∧s.2<65536) (fun s=>s.2)
   (16*((digs 65536 n).length-1),(digs 65536 n).getD ((digs 65536 n).length-1) 0) (Settle.now rfl) ⟨hb.symm,hlim⟩ ?_
  rintro⟨m,u⟩ ⟨h1,h2⟩
  dsimp only at h1 h2 ⊢
  have hbn:blen n≤16*1099511627776+16:=by omega
  by_cases h0:0<u
  ·have hh:=zRk h0
   simp(disch:=first|exact Xe|fail)only[h0,ne_eq,Nat.reduceEqDiff,↓Xa,Xb,Xc,↓reduceIte,Nat.reduceLT,Nat.reduceEqDiff,Nat.reduceBEq,Nat.reduceLeDiff,Nat.reduceAdd,Nat.reduceMul]
   refine Settle.now ⟨(m+1,u / 2),by dsimp only;omega,⟨by dsimp only;omega,by dsimp only;omega⟩,rfl⟩
  ·obtain rfl:u=0:=by omega
   rw[zJX,Nat.add_zero]at h1
   simp(disch:=first|exact Xe|fail)only[h0,↓Xa,Xb,Xc,↓reduceIte,Nat.reduceLT,Nat.reduceEqDiff,Nat.reduceBEq,Nat.reduceLeDiff,Nat.reduceAdd,Nat.reduceMul]
   refine Settle.now ?_
   simp(disch:=first|exact Xe|fail)only[zXK,↓Xa,Xb,Xc,↓reduceIte,Nat.reduceLT,Nat.reduceEqDiff,Nat.reduceBEq,Nat.reduceLeDiff,Nat.reduceAdd,Nat.reduceMul]
   rw[h1]
   exact SetR.now hq
theorem zFk{x:Int}{K:AV→Prop}:zAx .eql (.int .i64 (zDw x)) (.int .i64 ((0:Nat):Int)) K↔K (.bool (decide (x=0))):=by
 have:(zDw x=((0:Nat):Int))↔x=0:=by unfold zDw;split<;>simp_all;split<;>omega
 simp only[zAx,zAf,true_and,this]
theorem zNC{x:Int}{K:AV→Prop}:zAx .neq (.int .i64 (zDw x)) (.int .i64 ((0:Nat):Int)) K↔K (.bool (!decide (x=0))):=by
 have:(zDw x=((0:Nat):Int))↔x=0:=by unfold zDw;split<;>simp_all;split<;>omega
 simp only[zAx,zAf,true_and,this]
theorem zQe{x:Int}{n k:Nat}(t:Bool)(hx:Bd k x)(hk:k≤1000)(hn:n≤1000):PFn Tryz.prog 196 [zBa x t,.int .i64 (n:Int)] (zBa (x^n) false):=by
 intro H Q hq
 refine zSY (by simp) ?_
 simp(disch:=first|exact Xe|fail)only[zb2,zBa,↓Xa,Xb,Xc,↓reduceIte,Nat.reduceLT,Nat.reduceEqDiff,Nat.reduceBEq,Nat.reduceLeDiff,Nat.reduceAdd,Nat.reduceMul]
 refine zAD fun p hp=>?_
 simp(disch:=first|exact Xe|fail)only[↓Xa,Xb,Xc,↓reduceIte,Nat.reduceLT,Nat.reduceEqDiff,Nat.reduceBEq,Nat.reduceLeDiff,Nat.reduceAdd,Nat.reduceMul]
 refine zAD fun p2 hp2=>?_
 have n2:=hp2
 simp only[zAB]at n2
 obtain⟨_,n2⟩:=n2
 simp(disch:=first|exact Xe|fail)only[↓Xa,Xb,Xc,↓reduceIte,Nat.reduceLT,Nat.reduceEqDiff,Nat.reduceBEq,Nat.reduceLeDiff,Nat.reduceAdd,Nat.reduceMul]
 refine(zDS (n:=((1:Nat):Int)) (by omega)).call ?_
 simp(disch:=first|exact Xe|fail)only[↓Xa,Xb,Xc,↓reduceIte,Nat.reduceLT,Nat.reduceEqDiff,Nat.reduceBEq,Nat.reduceLeDiff,Nat.reduceAdd,Nat.reduceMul]
 refine zAD fun p3 hp3=>?_
 have n3:=hp3
 simp only[zAB]at n3
 obtain⟨_,_,n3⟩:=n3
 simp(disch:=first|exact Xe|fail)only[zBa,↓Xa,Xb,Xc,↓reduceIte,Nat.reduceLT,Nat.reduceEqDiff,Nat.reduceBEq,Nat.reduceLeDiff,Nat.reduceAdd,Nat.reduceMul]
 refine zAP (fun s:Nat=>⟨[],[(1,.int .i64 n),(2,.ptr p 2 0),(4,.ptr p2 2 0),(5,.ptr p3 2 0),(6,.int .i64 s)],
  ((H.upd p (some (.row 44 0 [.bool (decide (x<0)),LS (digs 65536 x.natAbs) t]))).upd p2 (some (.row 44 0 [.bool false,.seq 0 [] true]))).upd p3 (some (.row 44 0 [.bool (decide (x^s<0)),LS (digs 65536 (x^s).natAbs) false]))⟩)
  (fun s=>s≤n∧Bd (2+k*s) (x^s)) (fun s=>n-s) 0 (Settle.now (by rw[Int.pow_zero];rfl)) ⟨by simp,by rw[Int.pow_zero];exact Bd.i64 (by omega)⟩ ?_
 rintro s ⟨hs,hb⟩
 have hks:k*s≤1000*1000:=Nat.mul_le_mul hk (by omega)
 by_cases h2:s<n
 ·simp(disch:=first|exact Xe|fail)only[h2,↓Xa,Xb,Xc,↓reduceIte,Nat.reduceLT,Nat.reduceEqDiff,Nat.reduceBEq,Nat.reduceLeDiff,Nat.reduceAdd,Nat.reduceMul]
  refine(zFa false t hb (by omega) hx (by omega)).call ?_
  simp(disch:=first|exact Xe|fail)only[zBa,↓Xa,Xb,Xc,↓reduceIte,Nat.reduceLT,Nat.reduceEqDiff,Nat.reduceBEq,Nat.reduceLeDiff,Nat.reduceAdd,Nat.reduceMul]
  refine Settle.now ⟨s+1,by omega,⟨by omega,?_⟩,?_⟩
  ·rw[Int.pow_succ];exact(hb.mul hx).mono (by rw[Nat.mul_succ];omega)
  ·rw[Int.pow_succ]
 ·obtain rfl:s=n:=by omega
  simp(disch:=first|exact Xe|fail)only[h2,↓Xa,Xb,Xc,↓reduceIte,Nat.reduceLT,Nat.reduceEqDiff,Nat.reduceBEq,Nat.reduceLeDiff,Nat.reduceAdd,Nat.reduceMul]
  refine Settle.now ?_
  simp(disch:=first|exact Xe|fail)only[zc1,↓Xa,Xb,Xc,↓reduceIte,Nat.reduceLT,Nat.reduceEqDiff,Nat.reduceBEq,Nat.reduceLeDiff,Nat.reduceAdd,Nat.reduceMul]
  exact SetR.dropTo ((((Le.refl H).updB hp).updB n2).updB n3) (SetR.now hq)
def zDx(z:Int):AV:=.bool (decide (z<0))
def zFB(z:Int):AV:=LS (digs 65536 z.natAbs) false
theorem zPu{z:Int}:zBa z false=.agg [zDx z,zFB z]:=id rfl
theorem zAd{z:Int}:(zBa z false).cells=some [zDx z,zFB z]:=id rfl
theorem zA0{z:Int}:AV.agg [zDx z,zFB z]=zBa z false:=id rfl
theorem Bd.blen{z:Int}{k:Nat}(h:Bd k z):Ma.blen z.natAbs≤32*k:=by rw[zBZ,Nat.pow_mul];exact h
theorem zIg{x y:Int}(hy:y≠0)(hx:0≤x):x / y=sg (decide (y<0)) (x.natAbs / y.natAbs)∧x%y=((x.natAbs%y.natAbs:Nat):Int):=by
 have e:((x.natAbs:Nat):Int)=x:=by omega
 by_cases h:y<0
 ·have e2:y= -((y.natAbs:Nat):Int):=by omega
  constructor
  ·rw[sg,decide_eq_true h,if_pos rfl]
   conv=>lhs;rw[e2,Int.ediv_neg,← e]
   rw[← Int.natCast_ediv]
  ·conv=>lhs;rw[e2,Int.emod_neg,← e]
   rw[← Int.natCast_emod]
 ·have e2:y=((y.natAbs:Nat):Int):=by omega
  constructor
  ·rw[sg,decide_eq_false h]
   conv=>lhs;rw[e2,← e]
   rw[← Int.natCast_ediv];rfl
  ·conv=>lhs;rw[e2,← e]
   rw[← Int.natCast_emod]
theorem zGe{x y:Int}(hy:y≠0)(hx:x<0):
 (x.natAbs%y.natAbs=0→x / y=sg (!decide (y<0)) (x.natAbs / y.natAbs)∧x%y=0)∧
 (0<x.natAbs%y.natAbs→x / y=sg (!decide (y<0)) (x.natAbs / y.natAbs)-zDw y∧x%y=sg true (x.natAbs%y.natAbs)+(y.natAbs:Int)):=by
 have hm:=Nat.div_add_mod x.natAbs y.natAbs
 have hl:=Nat.mod_lt x.natAbs (show 0<y.natAbs by omega)
 generalize x.natAbs / y.natAbs=q at*
 generalize x.natAbs%y.natAbs=r at*
 have hb:0<(y.natAbs:Int):=by omega
 have hxe:x= -((y.natAbs:Int)*q+r):=by
  have:((y.natAbs*q+r:Nat):Int)=(x.natAbs:Int):=by rw[hm]
  rw[Int.natCast_add,Int.natCast_mul]at this
  omega
 have key: ∀(q' r':Int),r'+(y.natAbs:Int)*q'=x→0≤r'→r'<(y.natAbs:Int)→x / (y.natAbs:Int)=q'∧x%(y.natAbs:Int)=r':=fun q' r' a b c=>(Int.ediv_emod_unique hb).2 ⟨a,b,c⟩
 have neg: ∀q':Int,x / (y.natAbs:Int)=q'→x / y=if y<0 then -q' else q':=fun q' h=>by
  split
  ·conv=>lhs;rw[show y= -((y.natAbs:Nat):Int) by omega,Int.ediv_neg,h]
  ·conv=>lhs;rw[show y=((y.natAbs:Nat):Int) by omega,h]
 have mod:x%y=x%(y.natAbs:Int):=by
  by_cases h:y<0
  ·conv=>lhs;rw[show y= -((y.natAbs:Nat):Int) by omega,Int.emod_neg]
  ·conv=>lhs;rw[show y=((y.natAbs:Nat):Int) by omega]
 constructor
 ·intro hr
  obtain⟨k1,k2⟩:=key (-(q:Int)) 0 (by rw[hxe,hr,Int.mul_neg];omega) (by omega) hb
  refine⟨?_,by rw[mod,k2]⟩
  rw[neg _ k1,sg]
  by_cases h:y<0<;>simp[h]
 ·intro hr
  obtain⟨k1,k2⟩:=key (-(q:Int)-1) ((y.natAbs:Int)-r) (by rw[hxe,Int.mul_sub,Int.mul_neg,Int.mul_one];omega) (by omega) (by omega)
  refine⟨?_,by rw[mod,k2,sg,if_pos rfl];omega⟩
  rw[neg _ k1,sg,zDw,if_neg hy]
  by_cases h:y<0<;>simp[h]<;>omega
theorem zE2{z:Int}:AV.agg [.bool (decide (z<0)),LS (digs 4294967296 z.natAbs) true]=zAi z:=id rfl
theorem zFE{z:Int}:AV.agg [.bool (decide (z<0)),zBy z]=zAi z:=id rfl
theorem zIU(y:Int): -9223372036854775808≤zDw y∧zDw y<9223372036854775808:=by unfold zDw;(repeat' split)<;>omega
theorem zNT{x y:Int}{k k':Nat}(hx:Bd k x)(hk:k≤274877906944)(hy:Bd k' y)(hk':k'≤274877906944)(hy0:y≠0):PFn Tryz.prog 152 [zAi x,zAi y] (.tup [zAi (x / y),zAi (x%y),.int .i64 ((0:Nat):Int)]):=by
 intro H Q hq
 have hl:=hx.len
 have hl':=hy.len
 have vx:=zAJ (B:=4294967296) (by omega) x.natAbs
 have vy:=zAJ (B:=4294967296) (by omega) y.natAbs
 have lx:=zAG (B:=4294967296) (by omega) x.natAbs
 have ly:=zAG (B:=4294967296) (by omega) y.natAbs
 have hyp:0<y.natAbs:=by omega
 have hbq: ∀b,Bd k (sg b (x.natAbs / y.natAbs)):=fun b=>Bd.sgn (Nat.lt_of_le_of_lt (Nat.div_le_self _ _) hx)
 have hbr: ∀b,Bd k (sg b (x.natAbs%y.natAbs)):=fun b=>Bd.sgn (Nat.lt_of_le_of_lt (Nat.mod_le _ _) hx)
 have hlq:=(hbq false).len
 have hlr:=(hbr false).len
 rw[zCe]at hlq hlr
 refine zT3 (by simp) ?_
 simp(disch:=first|exact Xe|fail)only[zbP,zAE,↓Xa,Xb,Xc,↓reduceIte,Nat.reduceLT,Nat.reduceEqDiff,Nat.reduceBEq,Nat.reduceLeDiff,Nat.reduceAdd,Nat.reduceMul]
 refine zAD fun p hp=>?_
 simp(disch:=first|exact Xe|fail)only[↓Xa,Xb,Xc,↓reduceIte,Nat.reduceLT,Nat.reduceEqDiff,Nat.reduceBEq,Nat.reduceLeDiff,Nat.reduceAdd,Nat.reduceMul]
 refine zAD fun p2 hp2=>?_
 have n2:=hp2
 simp only[zAB]at n2
 obtain⟨_,n2⟩:=n2
 simp(disch:=first|exact Xe|fail)only[↓Xa,Xb,Xc,↓reduceIte,Nat.reduceLT,Nat.reduceEqDiff,Nat.reduceBEq,Nat.reduceLeDiff,Nat.reduceAdd,Nat.reduceMul]
 refine zAD fun p3 hp3=>?_
 have n3:=hp3
 simp only[zAB]at n3
 obtain⟨_,_,n3⟩:=n3
 simp(disch:=first|exact Xe|fail)only[↓Xa,Xb,Xc,↓reduceIte,Nat.reduceLT,Nat.reduceEqDiff,Nat.reduceBEq,Nat.reduceLeDiff,Nat.reduceAdd,Nat.reduceMul]
 refine zAD fun p4 hp4=>?_
 have n4:=hp4
 simp only[zAB]at n4
 obtain⟨_,_,_,n4⟩:=n4
 simp(disch:=first|exact Xe|fail)only[↓Xa,Xb,Xc,↓reduceIte,Nat.reduceLT,Nat.reduceEqDiff,Nat.reduceBEq,Nat.reduceLeDiff,Nat.reduceAdd,Nat.reduceMul]
 refine(zJ6 (a:=digs 4294967296 x.natAbs) (b:=digs 4294967296 y.natAbs) true true lx ly (by omega) (by omega) (by omega)).call ?_
 rw[vx,vy]
 have ifold: ∀z:Int,AV.bool (decide (z<0))=zBx z:=fun z=>rfl
 simp(disch:=first|exact Xe|fail)only[zBx,zEa,↓Xa,Xb,Xc,↓reduceIte,Nat.reduceLT,Nat.reduceEqDiff,Nat.reduceBEq,Nat.reduceLeDiff,Nat.reduceAdd,Nat.reduceMul]
 refine PFn.dcall (zCI _ _ (by omega)) ?_
 simp(disch:=first|exact Xe|fail)only[↓Xa,Xb,Xc,↓reduceIte,Nat.reduceLT,Nat.reduceEqDiff,Nat.reduceBEq,Nat.reduceLeDiff,Nat.reduceAdd,Nat.reduceMul]
 refine PFn.dcall (zCI _ _ (by omega)) ?_
 simp(disch:=first|exact Xe|fail)only[↓Xa,Xb,Xc,↓reduceIte,Nat.reduceLT,Nat.reduceEqDiff,Nat.reduceBEq,Nat.reduceLeDiff,Nat.reduceAdd,Nat.reduceMul]
 refine zCi fun p5 hp5=>?_
 have n5:=hp5
 simp only[zAB]at n5
 obtain⟨_,_,_,_,n5⟩:=n5
 simp(disch:=first|exact Xe|fail)only[↓Xa,Xb,Xc,↓reduceIte,Nat.reduceLT,Nat.reduceEqDiff,Nat.reduceBEq,Nat.reduceLeDiff,Nat.reduceAdd,Nat.reduceMul]
 refine zCi fun p6 hp6=>?_
 have n6:=hp6
 simp only[zAB]at n6
 obtain⟨_,_,_,_,_,n6⟩:=n6
 simp(disch:=first|exact Xe|fail)only[zAE,↓Xa,Xb,Xc,↓reduceIte,Nat.reduceLT,Nat.reduceEqDiff,Nat.reduceBEq,Nat.reduceLeDiff,Nat.reduceAdd,Nat.reduceMul]
 have bq:=hbq (!(decide (x<0)==decide (y<0)))
 have br:=hbr (decide (x<0))
 have cs:(sg (!(decide (x<0)==decide (y<0))) (x.natAbs / y.natAbs)=x / y∧sg (decide (x<0)) (x.natAbs%y.natAbs)=x%y∧zBx (sg (decide (x<0)) (x.natAbs%y.natAbs))=.bool false)∨
  (sg (!(decide (x<0)==decide (y<0))) (x.natAbs / y.natAbs)-zDw y=x / y∧sg (decide (x<0)) (x.natAbs%y.natAbs)+(y.natAbs:Int)=x%y∧zBx (sg (decide (x<0)) (x.natAbs%y.natAbs))=.bool true):=by
  by_cases h:x<0
  ·obtain⟨e1,e2⟩:=zGe hy0 h
   rw[decide_eq_true h]
   have eb:(!(true==decide (y<0)))=!decide (y<0):=by simp
   rw[eb]
   rcases Nat.eq_zero_or_pos (x.natAbs%y.natAbs)with hz|hz
   ·left
    obtain⟨f1,f2⟩:=e1 hz
    rw[hz,f1,f2]
    exact⟨rfl,rfl,rfl⟩
   ·right
    obtain⟨f1,f2⟩:=e2 hz
    exact⟨f1.symm,f2.symm,congrArg AV.bool (decide_eq_true (by simp[sg];omega))⟩
  ·left
   obtain⟨f1,f2⟩:=zIg hy0 (show 0≤x by omega)
   rw[decide_eq_false h]
   have eb:(!(false==decide (y<0)))=decide (y<0):=by simp
   rw[eb,f1,f2]
   exact⟨rfl,rfl,congrArg AV.bool (decide_eq_false (by simp[sg];omega))⟩
 generalize sg (!(decide (x<0)==decide (y<0))) (x.natAbs / y.natAbs)=q0 at*
 generalize sg (decide (x<0)) (x.natAbs%y.natAbs)=r0 at*
 have fin: ∀{v a b c d e f},Q v H→SetR Q v ((((((H.upd p a).upd p2 b).upd p3 c).upd p4 d).upd p5 e).upd p6 f):=fun{v a b c d e f} hv=>SetR.dropTo (((((((Le.refl H).updB hp).updB n2).updB n3).updB n4).updB n5).updB n6) (SetR.now hv)
 rcases cs with⟨c1,c2,c3⟩|⟨c1,c2,c3⟩
 ·rw[← c1,← c2]at hq
  have f0:AV.agg [.bool false,zBy r0]=zAi r0:=by rw[zE6,c3]
  simp(disch:=first|exact Xe|fail)only[c3,zAI,f0,zAE,zYH,↓Xa,Xb,Xc,↓reduceIte,Nat.reduceLT,Nat.reduceEqDiff,Nat.reduceBEq,Nat.reduceLeDiff,Nat.reduceAdd,Nat.reduceMul]
  exact fin hq
 ·rw[← c1,← c2]at hq
  have f0:AV.agg [.bool true,zBy r0]=zAi r0:=by rw[zE6,c3]
  simp(disch:=first|exact Xe|fail)only[c3,zAI,f0,zE2,zFE,↓Xa,Xb,Xc,↓reduceIte,Nat.reduceLT,Nat.reduceEqDiff,Nat.reduceBEq,Nat.reduceLeDiff,Nat.reduceAdd,Nat.reduceMul]
  refine PFn.dcall (zdT hy (by omega)) ?_
  simp(disch:=first|exact Xe|fail)only[zAI,zE2,zFE,f0,↓Xa,Xb,Xc,↓reduceIte,Nat.reduceLT,Nat.reduceEqDiff,Nat.reduceBEq,Nat.reduceLeDiff,Nat.reduceAdd,Nat.reduceMul]
  refine(zGC br (by omega) hy.abs (by omega)).call ?_
  simp(disch:=first|exact Xe|fail)only[zAI,zE2,zFE,f0,zAE,↓Xa,Xb,Xc,↓reduceIte,Nat.reduceLT,Nat.reduceEqDiff,Nat.reduceBEq,Nat.reduceLeDiff,Nat.reduceAdd,Nat.reduceMul]
  refine PFn.dcall (zGG hy (by omega)) ?_
  simp(disch:=first|exact Xe|fail)only[zAI,zE2,zFE,f0,↓Xa,Xb,Xc,↓reduceIte,Nat.reduceLT,Nat.reduceEqDiff,Nat.reduceBEq,Nat.reduceLeDiff,Nat.reduceAdd,Nat.reduceMul]
  refine PFn.dcall (zG2 (zIU y)) ?_
  simp(disch:=first|exact Xe|fail)only[zAI,zE2,zFE,f0,↓Xa,Xb,Xc,↓reduceIte,Nat.reduceLT,Nat.reduceEqDiff,Nat.reduceBEq,Nat.reduceLeDiff,Nat.reduceAdd,Nat.reduceMul]
  refine(zK3 bq (by omega) (Bd.i64 (zIU y)) (by omega)).call ?_
  simp(disch:=first|exact Xe|fail)only[zAI,zE2,zFE,f0,zAE,zYH,↓Xa,Xb,Xc,↓reduceIte,Nat.reduceLT,Nat.reduceEqDiff,Nat.reduceBEq,Nat.reduceLeDiff,Nat.reduceAdd,Nat.reduceMul]
  exact fin hq
theorem zS4{x c:Int}{k:Nat}(hx:Bd k x)(hk:k≤274877906944)(hc: -9223372036854775808≤c∧c<9223372036854775808)(hc0:c≠0):
 PFn Tryz.prog 172 [zAi x,.int .i64 c] (if x%c=0 then .tup [zAi (x / c),.int .i64 ((0:Nat):Int)]else .tup [zAi 0,.int .i64 ((20:Nat):Int)]):=by
 intro H Q hq
 have hy:Bd 2 c:=Bd.i64 hc
 have hl:=hx.len
 have hl':=hy.len
 have vx:=zAJ (B:=4294967296) (by omega) x.natAbs
 have vy:=zAJ (B:=4294967296) (by omega) c.natAbs
 have lx:=zAG (B:=4294967296) (by omega) x.natAbs
 have ly:=zAG (B:=4294967296) (by omega) c.natAbs
 have hbq: ∀b,Bd k (sg b (x.natAbs / c.natAbs)):=fun b=>Bd.sgn (Nat.lt_of_le_of_lt (Nat.div_le_self _ _) hx)
 have hlq:=(hbq false).len
 rw[zCe]at hlq
 refine zSt (by simp) ?_
 simp(disch:=first|exact Xe|fail)only[zdS,zAE,↓Xa,Xb,Xc,↓reduceIte,Nat.reduceLT,Nat.reduceEqDiff,Nat.reduceBEq,Nat.reduceLeDiff,Nat.reduceAdd,Nat.reduceMul]
 refine zAD fun p hp=>?_
 simp(disch:=first|exact Xe|fail)only[↓Xa,Xb,Xc,↓reduceIte,Nat.reduceLT,Nat.reduceEqDiff,Nat.reduceBEq,Nat.reduceLeDiff,Nat.reduceAdd,Nat.reduceMul]
 refine zAD fun p2 hp2=>?_
 have n2:=hp2
 simp only[zAB]at n2
 obtain⟨_,n2⟩:=n2
 simp(disch:=first|exact Xe|fail)only[↓Xa,Xb,Xc,↓reduceIte,Nat.reduceLT,Nat.reduceEqDiff,Nat.reduceBEq,Nat.reduceLeDiff,Nat.reduceAdd,Nat.reduceMul]
 refine(zG2 hc).call ?_
 simp(disch:=first|exact Xe|fail)only[↓Xa,Xb,Xc,↓reduceIte,Nat.reduceLT,Nat.reduceEqDiff,Nat.reduceBEq,Nat.reduceLeDiff,Nat.reduceAdd,Nat.reduceMul]
 refine zAD fun p3 hp3=>?_
 have n3:=hp3
 simp only[zAB]at n3
 obtain⟨_,_,n3⟩:=n3
 simp(disch:=first|exact Xe|fail)only[zAE,↓Xa,Xb,Xc,↓reduceIte,Nat.reduceLT,Nat.reduceEqDiff,Nat.reduceBEq,Nat.reduceLeDiff,Nat.reduceAdd,Nat.reduceMul]
 refine(zJ6 (a:=digs 4294967296 x.natAbs) (b:=digs 4294967296 c.natAbs) true true lx ly (by omega) (by omega) (by omega)).call ?_
 rw[vx,vy]
 have fin: ∀{v a b c},Q v H→SetR Q v (((H.upd p a).upd p2 b).upd p3 c):=fun{v a b c} hv=>SetR.dropTo ((((Le.refl H).updB hp).updB n2).updB n3) (SetR.now hv)
 have hr0:=zCu (B:=4294967296) (n:=x.natAbs%c.natAbs) (by omega)
 have hrl:(digs 4294967296 (x.natAbs%c.natAbs)).length≤k:=zA4 (by omega) _ _ (Nat.lt_of_le_of_lt (Nat.mod_le _ _) hx)
 have hxm:x%c=0↔x.natAbs%c.natAbs=0:=by
  rw[← Int.dvd_iff_emod_eq_zero,← Nat.dvd_iff_mod_eq_zero,Int.natAbs_dvd_natAbs]
 by_cases hz:x.natAbs%c.natAbs=0
 ·rw[if_pos (hxm.2 hz)]at hq
  have e:x / c=sg (!(decide (x<0)==decide (c<0))) (x.natAbs / c.natAbs):=by
   by_cases h:x<0
   ·rw[((zGe hc0 h).1 hz).1,decide_eq_true h];simp
   ·rw[(zIg hc0 (show 0≤x by omega)).1,decide_eq_false h];simp
  rw[e]at hq
  rw[hz,zAQ]
  simp(disch:=first|exact Xe|fail)only[zBx,zEa,↓Xa,Xb,Xc,↓reduceIte,Nat.reduceLT,Nat.reduceEqDiff,Nat.reduceBEq,Nat.reduceLeDiff,Nat.reduceAdd,Nat.reduceMul]
  refine(zCI _ _ (by omega)).call ?_
  simp(disch:=first|exact Xe|fail)only[zAE,zYp,↓Xa,Xb,Xc,↓reduceIte,Nat.reduceLT,Nat.reduceEqDiff,Nat.reduceBEq,Nat.reduceLeDiff,Nat.reduceAdd,Nat.reduceMul]
  exact fin hq
 ·rw[if_neg (fun h=>hz (hxm.1 h))]at hq
  have hp0:0<(digs 4294967296 (x.natAbs%c.natAbs)).length:=by
   have: ¬(digs 4294967296 (x.natAbs%c.natAbs)).length=0:=by rw[hr0];exact hz
   omega
  simp(disch:=first|exact Xe|fail)only[hp0,zYp,↓Xa,Xb,Xc,↓reduceIte,Nat.reduceLT,Nat.reduceEqDiff,Nat.reduceBEq,Nat.reduceLeDiff,Nat.reduceAdd,Nat.reduceMul]
  rw[zM7]
  exact fin hq
theorem zIA{b:Bool}{bb L off n:Nat}{t:Bool}:(AV.agg [.bool b,.own bb L off n t]).cells=some [.bool b,.own bb L off n t]:=id rfl
theorem zMv{H:AHeap}{Q:AV→AHeap→Prop}{bb ty L:Nat}(m n:Nat)(ta tb:Bool)(hH:H bb=some (.row ty 1 (U (digs 65536 m))))(hL:(digs 65536 m).length=L)(hq:Q (.int .i64 (zBv m n)) H)(hm:(digs 65536 m).length≤1099511627776)(hn:(digs 65536 n).length≤1099511627776):Run Tryz.prog 191 [.own bb L 0 L ta,LS (digs 65536 n) tb] H Q:=by
 subst hL
 have hx:=zAG (B:=65536) (by omega) m
 have hy:=zAG (B:=65536) (by omega) n
 have vx:=zAJ (B:=65536) (by omega) m
 have vy:=zAJ (B:=65536) (by omega) n
 have lt1:=zBW (B:=65536) (a:=m) (b:=n) (by omega)
 have lt2:=zBW (B:=65536) (a:=n) (b:=m) (by omega)
 generalize digs 65536 m=x at*
 generalize digs 65536 n=y at*
 have less:m<n→SetR Q (.int .i64 (-1)) H:=fun h=>by
  have:zBv m n= -1:=by simp[zBv,h]
  rw[← this];exact SetR.now hq
 have more:n<m→SetR Q (.int .i64 ((1:Nat):Int)) H:=fun h=>by
  have:zBv m n=((1:Nat):Int):=by simp[zBv,h,Nat.not_lt_of_lt h]
  rw[← this];exact SetR.now hq
 refine zMm (by simp) ?_
 by_cases c0:x.length=y.length
 ·have c0':=c0
  simp(disch:=first|exact Xe|fail)only[zK4,c0,↓Xa,Xb,Xc,↓reduceIte,Nat.reduceLT,Nat.reduceEqDiff,Nat.reduceBEq,Nat.reduceLeDiff,Nat.reduceAdd,Nat.reduceMul]
  refine zAP (fun k:Nat=>⟨[],[(0,.own bb y.length 0 y.length ta),(1,LS y tb),(5,.int .i64 (dn k))],H⟩) (fun k=>k≤x.length∧x.drop k=y.drop k) id y.length (Settle.now rfl) ⟨by omega,by rw[List.drop_of_length_le (by omega),List.drop_of_length_le (by omega)]⟩ ?_
  rintro k ⟨hk,hd⟩
  cases k with
  |zero=>
   simp(disch:=first|exact Xe|fail)only[hH,↓Xa,Xb,Xc,↓reduceIte,Nat.reduceLT,Nat.reduceEqDiff,Nat.reduceBEq,Nat.reduceLeDiff,Nat.reduceAdd,Nat.reduceMul]
   refine Settle.now ?_
   simp(disch:=first|exact Xe|fail)only[hH,zGh,↓Xa,Xb,Xc,↓reduceIte,Nat.reduceLT,Nat.reduceEqDiff,Nat.reduceBEq,Nat.reduceLeDiff,Nat.reduceAdd,Nat.reduceMul]
   have e:m=n:=by rw[← vx,← vy];rw[List.drop_zero,List.drop_zero]at hd;rw[hd]
   have:zBv m n=((0:Nat):Int):=by simp[zBv,e]
   rw[← this];exact SetR.now hq
  |succ k=>
   by_cases d1:x.getD k 0<y.getD k 0
   ·simp(disch:=first|exact Xe|fail)only[hH,d1,zGh,↓Xa,Xb,Xc,↓reduceIte,Nat.reduceLT,Nat.reduceEqDiff,Nat.reduceBEq,Nat.reduceLeDiff,Nat.reduceAdd,Nat.reduceMul]
    exact less (by rw[← vx,← vy];exact zB1 hx (by omega) k (by omega) c0 hd d1)
   by_cases d2:y.getD k 0<x.getD k 0
   ·simp(disch:=first|exact Xe|fail)only[hH,d1,d2,zGh,↓Xa,Xb,Xc,↓reduceIte,Nat.reduceLT,Nat.reduceEqDiff,Nat.reduceBEq,Nat.reduceLeDiff,Nat.reduceAdd,Nat.reduceMul]
    exact more (by rw[← vx,← vy];exact zB1 hy (by omega) k (by omega) c0.symm hd.symm d2)
   simp(disch:=first|exact Xe|fail)only[hH,d1,d2,↓Xa,Xb,Xc,↓reduceIte,Nat.reduceLT,Nat.reduceEqDiff,Nat.reduceBEq,Nat.reduceLeDiff,Nat.reduceAdd,Nat.reduceMul]
   refine Settle.now ⟨k,Nat.lt_succ_self k,⟨by omega,?_⟩,rfl⟩
   rw[List.drop_eq_getElem_cons (by omega),List.drop_eq_getElem_cons (i:=k) (l:=y) (by omega),hd]
   congr 1
   have e1:x.getD k 0=x[k]:=by simp[List.getD_eq_getElem?_getD,List.getElem?_eq_getElem (show k<x.length by omega)]
   have e2:y.getD k 0=y[k]:=by simp[List.getD_eq_getElem?_getD,List.getElem?_eq_getElem (show k<y.length by omega)]
   omega
 ·by_cases c1:x.length<y.length
  ·simp(disch:=first|exact Xe|fail)only[hH,zK4,c0,c1,zGh,↓Xa,Xb,Xc,↓reduceIte,Nat.reduceLT,Nat.reduceEqDiff,Nat.reduceBEq,Nat.reduceLeDiff,Nat.reduceAdd,Nat.reduceMul]
   exact less (lt1 c1)
  ·simp(disch:=first|exact Xe|fail)only[hH,zK4,c0,c1,zGh,↓Xa,Xb,Xc,↓reduceIte,Nat.reduceLT,Nat.reduceEqDiff,Nat.reduceBEq,Nat.reduceLeDiff,Nat.reduceAdd,Nat.reduceMul]
   exact more (lt2 (by omega))
theorem zJF{H:AHeap}{Q:AV→AHeap→Prop}{bb ty L:Nat}(m n:Nat)(ta tb:Bool)(hH:H bb=some (.row ty 1 (U (digs 65536 m))))(hL:(digs 65536 m).length=L)(hq: ∀x H',grow H 168 (pad 65536 (m-n) (digs 65536 m).length) x H'→Q x H')(hmn:n≤m)(hm:(digs 65536 m).length≤1099511627776):Run Tryz.prog 201 [.own bb L 0 L ta,LS (digs 65536 n) tb] H Q:=by
 subst hL
 have la:=zAG (B:=65536) (by omega) m
 have lb:=zAG (B:=65536) (by omega) n
 have va:=zAJ (B:=65536) (by omega) m
 have vb:=zAJ (B:=65536) (by omega) n
 have hlb:(digs 65536 n).length≤(digs 65536 m).length:=by
  rcases Nat.lt_or_ge (digs 65536 m).length (digs 65536 n).length with h|h
  ·have:=zBW (by omega) h;omega
  ·exact h
 refine zL6 (by simp) ?_
 simp(disch:=first|exact Xe|fail)only[zX1,↓Xa,Xb,Xc,↓reduceIte,Nat.reduceLT,Nat.reduceEqDiff,Nat.reduceBEq,Nat.reduceLeDiff,Nat.reduceAdd,Nat.reduceMul]
 refine zAP (fun s:Nat×Nat×List Nat×AV×AHeap=>⟨[],[(0,.own bb (digs 65536 m).length 0 (digs 65536 m).length ta),(1,LS (digs 65536 n) tb),(5,s.2.2.2.1),(6,.int .u32 s.2.1),(7,.int .i64 s.1)],s.2.2.2.2⟩)
  (fun s=>s.1≤(digs 65536 m).length∧grow H 168 s.2.2.1 s.2.2.2.1 s.2.2.2.2∧MinI (digs 65536 m) (digs 65536 n) s.1 s.2.1 s.2.2.1) (fun s=>(digs 65536 m).length-s.1)
  (0,0,[],_,_) (Settle.now rfl) ⟨by simp,zD5,MinI.zero _ _⟩ ?_
 rintro⟨i,c,done,x,H'⟩ ⟨g0,hg,h1⟩
 dsimp only at g0 hg h1 ⊢
 have zIn:=zEr hg hH
 have hd:=h1.1
 have hc:=h1.2.2.1
 have hx:=la.getD (by omega) i
 have hy:=lb.getD (by omega) i
 by_cases hi:i<(digs 65536 m).length
 ·by_cases hj:i<(digs 65536 n).length
  ·by_cases hv:(digs 65536 m).getD i 0<c+(digs 65536 n).getD i 0
   ·simp(disch:=first|exact Xe|fail)only[zIn,hi,hj,hv,↓Xa,Xb,Xc,↓reduceIte,Nat.reduceLT,Nat.reduceEqDiff,Nat.reduceBEq,Nat.reduceLeDiff,Nat.reduceAdd,Nat.reduceMul]
    refine zBO (m:=[(digs 65536 m).getD i 0+65536-(c+(digs 65536 n).getD i 0)]) hg rfl (by simp) (by simp;omega) fun x' H2 hg2=>?_
    have hold2:=zEr hg2 hH
    simp(disch:=first|exact Xe|fail)only[↓Xa,Xb,Xc,↓reduceIte,Nat.reduceLT,Nat.reduceEqDiff,Nat.reduceBEq,Nat.reduceLeDiff,Nat.reduceAdd,Nat.reduceMul]
    refine Settle.now ⟨(i+1,1,_,_,_),by dsimp only;omega,⟨by dsimp only;omega,hg2,h1.step (c':=1) (by omega) rfl (by omega) (by omega)⟩,rfl⟩
   ·simp(disch:=first|exact Xe|fail)only[zIn,hi,hj,hv,↓Xa,Xb,Xc,↓reduceIte,Nat.reduceLT,Nat.reduceEqDiff,Nat.reduceBEq,Nat.reduceLeDiff,Nat.reduceAdd,Nat.reduceMul]
    refine zBO (m:=[(digs 65536 m).getD i 0-(c+(digs 65536 n).getD i 0)]) hg rfl (by simp) (by simp;omega) fun x' H2 hg2=>?_
    have hold2:=zEr hg2 hH
    simp(disch:=first|exact Xe|fail)only[↓Xa,Xb,Xc,↓reduceIte,Nat.reduceLT,Nat.reduceEqDiff,Nat.reduceBEq,Nat.reduceLeDiff,Nat.reduceAdd,Nat.reduceMul]
    refine Settle.now ⟨(i+1,0,_,_,_),by dsimp only;omega,⟨by dsimp only;omega,hg2,h1.step (c':=0) (by omega) rfl (by omega) (by omega)⟩,rfl⟩
  ·have b:=zAo (show(digs 65536 n).length≤i by omega)
   by_cases hv:(digs 65536 m).getD i 0<c
   ·simp(disch:=first|exact Xe|fail)only[zIn,hi,hj,hv,↓Xa,Xb,Xc,↓reduceIte,Nat.reduceLT,Nat.reduceEqDiff,Nat.reduceBEq,Nat.reduceLeDiff,Nat.reduceAdd,Nat.reduceMul]
    refine zBO (m:=[(digs 65536 m).getD i 0+65536-c]) hg rfl (by simp) (by simp;omega) fun x' H2 hg2=>?_
    have hold2:=zEr hg2 hH
    simp(disch:=first|exact Xe|fail)only[↓Xa,Xb,Xc,↓reduceIte,Nat.reduceLT,Nat.reduceEqDiff,Nat.reduceBEq,Nat.reduceLeDiff,Nat.reduceAdd,Nat.reduceMul]
    refine Settle.now ⟨(i+1,1,_,_,_),by dsimp only;omega,⟨by dsimp only;omega,hg2,h1.step (c':=1) (by omega) rfl (by omega) (by omega)⟩,rfl⟩
   ·simp(disch:=first|exact Xe|fail)only[zIn,hi,hj,hv,↓Xa,Xb,Xc,↓reduceIte,Nat.reduceLT,Nat.reduceEqDiff,Nat.reduceBEq,Nat.reduceLeDiff,Nat.reduceAdd,Nat.reduceMul]
    refine zBO (m:=[(digs 65536 m).getD i 0-c]) hg rfl (by simp) (by simp;omega) fun x' H2 hg2=>?_
    have hold2:=zEr hg2 hH
    simp(disch:=first|exact Xe|fail)only[↓Xa,Xb,Xc,↓reduceIte,Nat.reduceLT,Nat.reduceEqDiff,Nat.reduceBEq,Nat.reduceLeDiff,Nat.reduceAdd,Nat.reduceMul]
    refine Settle.now ⟨(i+1,0,_,_,_),by dsimp only;omega,⟨by dsimp only;omega,hg2,h1.step (c':=0) (by omega) rfl (by omega) (by omega)⟩,rfl⟩
 ·obtain rfl:i=(digs 65536 m).length:=by omega
  simp(disch:=first|exact Xe|fail)only[zIn,hi,↓Xa,Xb,Xc,↓reduceIte,Nat.reduceLT,Nat.reduceEqDiff,Nat.reduceBEq,Nat.reduceLeDiff,Nat.reduceAdd,Nat.reduceMul]
  refine Settle.now ?_
  simp(disch:=first|exact Xe|fail)only[zXS,↓Xa,Xb,Xc,↓reduceIte,Nat.reduceLT,Nat.reduceEqDiff,Nat.reduceBEq,Nat.reduceLeDiff,Nat.reduceAdd,Nat.reduceMul]
  have e:=h1.end la hlb (by omega)
  rw[va,vb]at e
  rw[e]at hg
  exact SetR.now (hq _ _ hg)
theorem zGb{H:AHeap}{Q:AV→AHeap→Prop}{bb ty L:Nat}{l:List Nat}(neg t:Bool)(hH:H bb=some (.row ty 1 (U l)))(hL:l.length=L)(hq: ∀ti,Q (.agg [.bool (neg&&decide (0<(tr l).length)),.own bb L 0 (tr l).length ti]) H)(hl:Lim 65536 l)(hn:l.length≤8796093022208):Run Tryz.prog 147 [.bool neg,.own bb L 0 L t] H Q:=by
 subst hL
 refine zL3 (by simp) ?_
 simp(disch:=first|exact Xe|fail)only[zH7,↓Xa,Xb,Xc,↓reduceIte,Nat.reduceLT,Nat.reduceEqDiff,Nat.reduceBEq,Nat.reduceLeDiff,Nat.reduceAdd,Nat.reduceMul]
 refine zAD fun p hp=>?_
 have hAp:Ap bb p:=fun e=>by rw[e,hp]at hH;cases hH
 simp(disch:=first|exact Xe|fail)only[↓Xa,Xb,Xc,↓reduceIte,Nat.reduceLT,Nat.reduceEqDiff,Nat.reduceBEq,Nat.reduceLeDiff,Nat.reduceAdd,Nat.reduceMul]
 refine zAP (fun n:Nat=>⟨[],[(0,.bool neg),(1,.own bb l.length 0 l.length t),(4,.ptr p 2 0),(5,.int .i64 n)],H.upd p (some (.row 44 0 [.bool false,.seq 0 [] true]))⟩) (fun n=>n≤l.length∧∀i,n≤i→i<l.length→l.getD i 0=0) id l.length (Settle.now rfl) ⟨Nat.le_refl _,fun i h1 h2=>absurd h1 (by omega)⟩ ?_
 rintro n ⟨h1,hz⟩
 have fin: ∀ti,(n=0∨l.getD (n-1) 0≠0)→SetR Q (.agg [.bool (neg&&decide (0<n)),.own bb l.length 0 n ti]) (H.upd p (some (.row 44 0 [.bool (neg&&decide (0<n)),.own bb l.length 0 n ti]))):=fun ti h=>by
  have e2:n=(tr l).length:=by
   have:=congrArg List.length (zFz h1 hz h)
   rw[List.length_take,Nat.min_eq_left h1]at this;exact this
  have:=hq ti
  rw[← e2]at this
  exact SetR.dropTo ((Le.refl H).upd hp) (SetR.now this)
 have last:(n=0∨l.getD (n-1) 0≠0)→W Tryz.prog (zBT (zBT (zBT zH7))) (zFC zKs Q) ⟨[],[(0,.bool neg),(1,.own bb l.length 0 l.length t),(4,.ptr p 2 0),(5,.int .i64 n),(17,.bool false)],H.upd p (some (.row 44 0 [.bool false,.seq 0 [] true]))⟩:=fun h=>by
  have f:=fun ti=>fin ti h
  cases neg
  ·simp(disch:=first|exact Xe|fail)only[hH,zIA,zH7,zKs,zBT,↓Xa,Xb,Xc,↓reduceIte,Nat.reduceLT,Nat.reduceEqDiff,Nat.reduceBEq,Nat.reduceLeDiff,Nat.reduceAdd,Nat.reduceMul]
   exact f _
  ·simp(disch:=first|exact Xe|fail)only[hH,zIA,zH7,zKs,zBT,↓Xa,Xb,Xc,↓reduceIte,Nat.reduceLT,Nat.reduceEqDiff,Nat.reduceBEq,Nat.reduceLeDiff,Nat.reduceAdd,Nat.reduceMul]
   exact f _
 by_cases h0:0<n
 ·by_cases h2:l.getD (n-1) 0=0
  ·simp(disch:=first|exact Xe|fail)only[hH,h0,h2,↓Xa,Xb,Xc,↓reduceIte,Nat.reduceLT,Nat.reduceEqDiff,Nat.reduceBEq,Nat.reduceLeDiff,Nat.reduceAdd,Nat.reduceMul]
   refine Settle.now ⟨n-1,?_,⟨by omega,fun i hi hl'=>?_⟩,rfl⟩
   ·show n-1<n;omega
   ·rcases Nat.lt_or_ge i n with h|h
    ·rw[show i=n-1 by omega];exact h2
    ·exact hz i h hl'
  ·simp(disch:=first|exact Xe|fail)only[hH,h0,h2,↓Xa,Xb,Xc,↓reduceIte,Nat.reduceLT,Nat.reduceEqDiff,Nat.reduceBEq,Nat.reduceLeDiff,Nat.reduceAdd,Nat.reduceMul]
   exact Settle.now (last (.inr h2))
 ·simp(disch:=first|exact Xe|fail)only[hH,h0,↓Xa,Xb,Xc,↓reduceIte,Nat.reduceLT,Nat.reduceEqDiff,Nat.reduceBEq,Nat.reduceLeDiff,Nat.reduceAdd,Nat.reduceMul]
  exact Settle.now (last (.inl (by omega)))
theorem zaa(n k:Nat)(t:Bool)(hn:(digs 65536 n).length≤1099511627776)(hk:k / 16<(digs 65536 n).length):PFn Tryz.prog 200 [LS (digs 65536 n) t,.int .i64 (k:Int)] (.int .u32 ((n / 2^k%2:Nat):Int)):=by
 intro H Q hq
 have hd:=(zAG (B:=65536) (by omega) n).getD (by omega) (k / 16)
 have hb:=zZ2 (n:=n) (k:=k)
 have hk2:k<9223372036854775808:=by omega
 have and1: ∀{a:Nat}{K:AV→Prop}(_:a<4294967296),zAx .and (.int .u32 (a:Int)) (.int .u32 ((1:Nat):Int)) K↔K (.int .u32 ((a%2:Nat):Int)):=fun{a K} ha=>by
  rw[zGm .u32 (by simpa[IntKind.bits]using ha) (by simp[IntKind.bits]),Nat.and_one_is_mod,zEt (by omega)]
 have hdiv:(digs 65536 n).getD (k / 16) 0 / 2^(k%16)<4294967296:=Nat.lt_of_le_of_lt (Nat.div_le_self _ _) (by omega)
 have ht:k%16≤32:=by omega
 have hq16:k / 16<9223372036854775808:=by omega
 refine zUy (by simp) ?_
 simp(disch:=first|exact Xe|fail)only[za5,ne_eq,Nat.reduceEqDiff,and1,hb,zb4,↓Xa,Xb,Xc,↓reduceIte,Nat.reduceLT,Nat.reduceEqDiff,Nat.reduceBEq,Nat.reduceLeDiff,Nat.reduceAdd,Nat.reduceMul]
 exact SetR.now hq
theorem zUU{m n:Nat}(ta tb:Bool)(hn:0<n)(hn1:n<65536)(hm:(digs 65536 m).length≤1099511627776):
 PFn Tryz.prog 134 [LS (digs 65536 m) ta,LS (digs 65536 n) tb] (.tup [LS (digs 65536 (m / n)) false,LS (digs 65536 (m%n)) false]):=by
 intro H Q hq
 have vm:=zAJ (B:=65536) (by omega) m
 have lm:=zAG (B:=65536) (by omega) m
 have hne:(n=0)=False:=eq_false (by omega)
 have hY:digs 65536 n=[n]:=by rw[zAz (by omega) hn,Nat.mod_eq_of_lt hn1,Nat.div_eq_of_lt hn1,zAQ]
 rw[hY]
 generalize digs 65536 m=a at*
 refine zMG (by simp) ?_
 have l1:([n]:List Nat).length=1:=rfl
 have g1:([n]:List Nat).getD 0 0=n:=rfl
 simp(disch:=first|exact Xe|fail)only[zYn,l1,g1,zIj,↓Xa,Xb,Xc,↓reduceIte,Nat.reduceLT,Nat.reduceEqDiff,Nat.reduceBEq,Nat.reduceLeDiff,Nat.reduceAdd,Nat.reduceMul]
 refine zDP fun o ho=>?_
 simp(disch:=first|exact Xe|fail)only[↓Xa,Xb,Xc,↓reduceIte,Nat.reduceLT,Nat.reduceEqDiff,Nat.reduceBEq,Nat.reduceLeDiff,Nat.reduceAdd,Nat.reduceMul]
 refine zAP (fun p:Nat×Nat×List Nat=>⟨[],[(0,LS a ta),(1,LS [n] tb),(6,.own o a.length 0 a.length true),(7,.int .u64 p.2.1),(8,.int .i64 (dn p.1))],
  H.upd o (some (.row 168 1 (U p.2.2)))⟩)
  (fun p=>p.1≤a.length∧DivJ a n p.1 p.2.1 p.2.2) (fun p=>p.1) (a.length,0,List.replicate a.length 0) (Settle.now rfl) ⟨by simp,DivJ.zero a hn⟩ ?_
 rintro⟨k,r,out⟩ ⟨h1,h2⟩
 dsimp only at h1 h2 ⊢
 have hol:=h2.1
 have hr:=h2.2.2.1
 cases k with
 |zero=>
  simp(disch:=first|exact Xe|fail)only[↓Xa,Xb,Xc,↓reduceIte,Nat.reduceLT,Nat.reduceEqDiff,Nat.reduceBEq,Nat.reduceLeDiff,Nat.reduceAdd,Nat.reduceMul]
  refine Settle.freeze 6 rfl (zAC _ _ _) (by simp[hol]) (.inr (by simp)) ?_
  have e1:AV.seq a.length (((U out).drop 0).take (a.length*1)) true=LS out true:=by
   rw[List.drop_zero,Nat.mul_one,← hol,List.take_of_length_le (by simp)];rfl
  rw[e1,zAO,zAV _ ho]
  refine Settle.now ?_
  simp(disch:=first|exact Xe|fail)only[↓Xa,Xb,Xc,↓reduceIte,Nat.reduceLT,Nat.reduceEqDiff,Nat.reduceBEq,Nat.reduceLeDiff,Nat.reduceAdd,Nat.reduceMul]
  refine(zBp false true h2.2.1 (by omega)).call ?_
  simp(disch:=first|exact Xe|fail)only[zBa,↓Xa,Xb,Xc,↓reduceIte,Nat.reduceLT,Nat.reduceEqDiff,Nat.reduceBEq,Nat.reduceLeDiff,Nat.reduceAdd,Nat.reduceMul]
  refine(zBp (l:=[r]) false true (Lim.one (by omega)) (by simp)).call ?_
  simp(disch:=first|exact Xe|fail)only[zBa,zXy,↓Xa,Xb,Xc,↓reduceIte,Nat.reduceLT,Nat.reduceEqDiff,Nat.reduceBEq,Nat.reduceLeDiff,Nat.reduceAdd,Nat.reduceMul]
  refine SetR.now ?_
  have e2:=h2.end
  rw[zAr (by omega) h2.2.1,vm]at e2
  rw[zCe,zCe,zFK,e2.1,e2.2]
  exact hq
 |succ k=>
  clear l1 g1 hY vm hne ho
  have hx:=lm.getD (by omega) k
  have hs:r*65536+a.getD k 0<4294967296:=by omega
  have hne:(n=0)=False:=eq_false (by omega)
  have hw:IntKind.u32.wrap (((r*65536+a.getD k 0) / n:Nat):Int)=(((r*65536+a.getD k 0) / n:Nat):Int):=zEt (Nat.lt_of_le_of_lt (Nat.div_le_self _ _) hs)
  have hw2:IntKind.u64.wrap (((r*65536+a.getD k 0) / n:Nat):Int)=(((r*65536+a.getD k 0) / n:Nat):Int):=zDc (Nat.lt_trans (Nat.lt_of_le_of_lt (Nat.div_le_self _ _) hs) (by decide))
  have hwm:IntKind.u64.wrap ((r*65536:Nat):Int)=((r*65536:Nat):Int):=zDc (Nat.lt_trans (Nat.lt_of_le_of_lt (Nat.le_add_right _ _) hs) (by decide))
  have hwa:IntKind.u64.wrap ((r*65536+a.getD k 0:Nat):Int)=((r*65536+a.getD k 0:Nat):Int):=zDc (Nat.lt_trans hs (by decide))
  have hd66:(r*65536+a.getD k 0) / n<65536:=by
   apply Nat.div_lt_of_lt_mul
   have:(r+1)*65536≤n*65536:=Nat.mul_le_mul_right _ hr
   omega
  have hst:=h2.step (s:=r*65536+a.getD k 0) (by omega) lm hn1 rfl
  rw[Nat.mod_eq_of_lt hd66]at hst
  have hqm:(r*65536+a.getD k 0) / n%18446744073709551616%4294967296=(r*65536+a.getD k 0) / n:=by
   rw[Nat.mod_eq_of_lt (Nat.lt_trans hd66 (by decide)),Nat.mod_eq_of_lt (Nat.lt_trans hd66 (by decide))]
  clear hd66
  generalize hqd:(r*65536+a.getD k 0) / n=qd at*
  generalize hrd:(r*65536+a.getD k 0)%n=rd at*
  generalize hsd:r*65536+a.getD k 0=sd at*
  simp(disch:=first|exact Xe|fail)only[hne,ne_eq,List.getD_cons_zero,zIj,↓hwm,↓hwa,hsd,hqd,hrd,↓hw,↓hw2,↓Xa,Xb,Xc,↓reduceIte,Nat.reduceLT,Nat.reduceEqDiff,Nat.reduceBEq,Nat.reduceLeDiff,Nat.reduceAdd,Nat.reduceMul]
  exact Settle.now ⟨(k,_,_),by dsimp only;omega,⟨by dsimp only;omega,hst⟩,rfl⟩
theorem zQj{H0 H:AHeap}{ty:Nat}{l:List Nat}{x:AV}{K:AV→Prop}(h:zLP H0 ty l x H)(hl:l.length<2^63):zD8 false x K=K (.int .i64 ((l.length:Nat):Int)):=by
 rcases h with⟨rfl,rfl,rfl⟩|⟨b,_,rfl,rfl⟩
 ·simp[zD8]
 ·simp[zD8,hl]
structure LongK(A V M:Nat)(ql:List Nat):Prop where
 hM:M≤blen A
 qlen:ql.length=(digs 65536 A).length
 qlim:Lim 65536 ql
 qval:val 65536 ql=A / 2^M / V*2^M
theorem zOd{A V:Nat}(ta tb:Bool)(hV:0<V)(hV1: ¬(digs 65536 V).length=1)(hA:(digs 65536 A).length≤549755813888)(hVl:(digs 65536 V).length≤549755813888):
 PFn Tryz.prog 134 [LS (digs 65536 A) ta,LS (digs 65536 V) tb] (.tup [LS (digs 65536 (A / V)) false,LS (digs 65536 (A%V)) false]):=by
 intro H Q hq
 have hbl:blen A≤16*549755813888:=by
  rcases Nat.eq_zero_or_pos A with e|e
  ·rw[e,zJX];omega
  ·have hb:blen A=16*((digs 65536 A).length-1)+blen ((digs 65536 A).getD ((digs 65536 A).length-1) 0):=zEy (w:=16) (by omega) e
   have hd:=(zAG (B:=65536) (by omega) A).getD (by omega) ((digs 65536 A).length-1)
   have hp:0<(digs 65536 A).length:=by rw[zAz (by omega) e];simp
   have:blen ((digs 65536 A).getD ((digs 65536 A).length-1) 0)≤16:=zBZ.2 (by omega)
   omega
 refine zMG (by simp) ?_
 simp(disch:=first|exact Xe|fail)only[zYn,hV1,↓Xa,Xb,Xc,↓reduceIte,Nat.reduceLT,Nat.reduceEqDiff,Nat.reduceBEq,Nat.reduceLeDiff,Nat.reduceAdd,Nat.reduceMul]
 refine zDP fun bq hbq=>?_
 simp(disch:=first|exact Xe|fail)only[↓Xa,Xb,Xc,↓reduceIte,Nat.reduceLT,Nat.reduceEqDiff,Nat.reduceBEq,Nat.reduceLeDiff,Nat.reduceAdd,Nat.reduceMul]
 refine(zPl A ta (by omega)).call ?_
 simp(disch:=first|exact Xe|fail)only[↓Xa,Xb,Xc,↓reduceIte,Nat.reduceLT,Nat.reduceEqDiff,Nat.reduceBEq,Nat.reduceLeDiff,Nat.reduceAdd,Nat.reduceMul]
 refine zAP (fun s:Nat×List Nat×AV×AHeap=>⟨[],[(0,LS (digs 65536 A) ta),(1,LS (digs 65536 V) tb),(9,.own bq (digs 65536 A).length 0 (digs 65536 A).length true),(10,s.2.2.1),(11,.int .i64 (dn s.1))],s.2.2.2⟩)
  (fun s=>LongK A V s.1 s.2.1∧zLP (H.upd bq (some (.row 168 1 (U s.2.1)))) 168 (digs 65536 (A / 2^s.1%V)) s.2.2.1 s.2.2.2) (fun s=>s.1)
  (blen A,List.replicate (digs 65536 A).length 0,.seq 0 [] true,H.upd bq (some (.row 168 1 (U (List.replicate (digs 65536 A).length 0))))) (Settle.now rfl) ?_ ?_
 ·have z:A / 2^blen A=0:=Nat.div_eq_of_lt (zQb A)
  refine⟨⟨Nat.le_refl _,by simp,zCC (by omega) _,?_⟩,.inl ⟨?_,rfl,rfl⟩⟩
  ·dsimp only;rw[zC7,z,Nat.zero_div,Nat.zero_mul]
  ·dsimp only;rw[z,Nat.zero_mod,zAQ]
 rintro⟨M,ql,x,H1⟩ ⟨hk,hg⟩
 dsimp only at hk hg ⊢
 have hM:=hk.hM
 cases M with
 |zero=>
  obtain⟨q1,q2,q3⟩:ql.length=(digs 65536 A).length∧Lim 65536 ql∧val 65536 ql=A / V:=⟨hk.qlen,hk.qlim,by have:=hk.qval;simpa using this⟩
  rw[Nat.pow_zero,Nat.div_one]at hg
  have hkeep:=hg
  simp(disch:=first|exact Xe|fail)only[↓Xa,Xb,Xc,↓reduceIte,Nat.reduceLT,Nat.reduceEqDiff,Nat.reduceBEq,Nat.reduceLeDiff,Nat.reduceAdd,Nat.reduceMul]
  refine Settle.grownO 10 rfl hg ?_
  refine Settle.freeze 9 rfl (zAC _ _ _) (by simp[q1]) (.inr (by simp)) ?_
  have e1:AV.seq (digs 65536 A).length (((U ql).drop 0).take ((digs 65536 A).length*1)) true=LS ql true:=by
   rw[List.drop_zero,Nat.mul_one,← q1,List.take_of_length_le (by simp)];rfl
  rw[e1,zAO,zAV _ hbq]
  refine Settle.now ?_
  simp(disch:=first|exact Xe|fail)only[↓Xa,Xb,Xc,↓reduceIte,Nat.reduceLT,Nat.reduceEqDiff,Nat.reduceBEq,Nat.reduceLeDiff,Nat.reduceAdd,Nat.reduceMul]
  refine(zBp false true q2 (by omega)).call ?_
  simp(disch:=first|exact Xe|fail)only[zBa,zXy,↓Xa,Xb,Xc,↓reduceIte,Nat.reduceLT,Nat.reduceEqDiff,Nat.reduceBEq,Nat.reduceLeDiff,Nat.reduceAdd,Nat.reduceMul]
  refine SetR.now ?_
  rw[zCe,q3]
  exact hq
 |succ k=>
  have hA0:0<A:=zEq.1 (by omega)
  have h2k:2^k≤A:=Nat.le_trans (Nat.pow_le_pow_right (by omega) (by omega)) (zHx hA0)
  have hkl:=zXh h2k
  have hRl:(digs 65536 (A / 2^(k+1)%V)).length≤549755813888:=by
   refine Nat.le_trans (zA4 (by omega) _ _ ?_) hVl
   have h1:=zBE (zAG (B:=65536) (by omega) V)
   rw[zAJ (by omega)]at h1
   exact Nat.lt_trans (Nat.mod_lt _ hV) h1
  have hc1:A / 2^k%2≤1:=by omega
  have hls:=zO9 (A:=A) (k:=k) hV
  simp(disch:=first|exact Xe|fail)only[↓Xa,Xb,Xc,↓reduceIte,Nat.reduceLT,Nat.reduceEqDiff,Nat.reduceBEq,Nat.reduceLeDiff,Nat.reduceAdd,Nat.reduceMul]
  refine(zaa A k ta (by omega) hkl).call ?_
  simp(disch:=first|exact Xe|fail)only[↓Xa,Xb,Xc,↓reduceIte,Nat.reduceLT,Nat.reduceEqDiff,Nat.reduceBEq,Nat.reduceLeDiff,Nat.reduceAdd,Nat.reduceMul]
  generalize hR:A / 2^(k+1)%V=R at*
  generalize A / 2^k%2=c0 at*
  have hXl:=zAG (B:=65536) (by omega) R
  refine zAP (fun s:Nat×Nat×List Nat×AV×AHeap=>⟨[],[(0,LS (digs 65536 A) ta),(1,LS (digs 65536 V) tb),(9,.own bq (digs 65536 A).length 0 (digs 65536 A).length true),(10,s.2.2.2.1),(11,.int .i64 k),(12,.int .u32 s.2.1),(13,.int .i64 s.1)],s.2.2.2.2⟩)
   (fun s=>s.1≤(digs 65536 R).length∧DblI (digs 65536 R) c0 s.1 s.2.1 s.2.2.1∧zLP (H.upd bq (some (.row 168 1 (U ql)))) 168 (s.2.2.1++(digs 65536 R).drop s.1) s.2.2.2.1 s.2.2.2.2) (fun s=>(digs 65536 R).length-s.1)
   (0,c0,[],x,H1) (Settle.now rfl) ⟨Nat.zero_le _,DblI.zero _ hc1,hg⟩ ?_
  rintro⟨i,c,done,x',H2⟩ ⟨g1,g2,g3⟩
  dsimp only at g1 g2 g3 ⊢
  have hd:=g2.1
  have hc:=g2.2.2.1
  have hcl:(done++(digs 65536 R).drop i).length=(digs 65536 R).length:=by simp[hd];omega
  have hlen: ∀K,zD8 false x' K=K (.int .i64 (((digs 65536 R).length:Nat):Int)):=fun K=>by
   rw[zQj g3 (by omega),hcl]
  by_cases hi:i<(digs 65536 R).length
  ·have hx:=hXl.getD (by omega) i
   rcases g3 with⟨e1,_,_⟩|⟨br,hbr,rfl,rfl⟩
   ·rw[e1]at hcl;simp at hcl;omega
   ·have p1:(done++(digs 65536 R).drop i).getD i 0=(digs 65536 R).getD i 0:=zH6 hd hi
    have p2: ∀y,(done++(digs 65536 R).drop i).set i y=(done++[y])++(digs 65536 R).drop (i+1):=fun y=>zH8 hd hi
    rw[hcl]
    generalize hrow:done++(digs 65536 R).drop i=row at*
    simp(disch:=first|exact Xe|fail)only[hi,p1,ne_eq,Nat.reduceEqDiff,↓Xa,Xb,Xc,↓reduceIte,Nat.reduceLT,Nat.reduceEqDiff,Nat.reduceBEq,Nat.reduceLeDiff,Nat.reduceAdd,Nat.reduceMul]
    rw[p2]
    have e3:(done++[(c+2*(digs 65536 R).getD i 0)%65536]++(digs 65536 R).drop (i+1)).length=(digs 65536 R).length:=by
     simp[hd];omega
    exact Settle.now ⟨(i+1,_,done++[(c+2*(digs 65536 R).getD i 0)%65536],_,_),by dsimp only;omega,⟨by dsimp only;omega,g2.step hXl rfl,.inr ⟨br,hbr,by rw[e3],rfl⟩⟩,rfl⟩
  ·obtain rfl:i=(digs 65536 R).length:=by omega
   have hend:=g2.end hc1
   rw[List.drop_of_length_le (Nat.le_refl _),List.append_nil]at g3
   simp(disch:=first|exact Xe|fail)only[hlen,hi,↓Xa,Xb,Xc,↓reduceIte,Nat.reduceLT,Nat.reduceEqDiff,Nat.reduceBEq,Nat.reduceLeDiff,Nat.reduceAdd,Nat.reduceMul]
   refine Settle.now ?_
   by_cases h0:0<c
   ·rw[if_pos h0]at hend
    simp(disch:=first|exact Xe|fail)only[h0,↓Xa,Xb,Xc,↓reduceIte,Nat.reduceLT,Nat.reduceEqDiff,Nat.reduceBEq,Nat.reduceLeDiff,Nat.reduceAdd,Nat.reduceMul]
    refine appO (m:=[c]) g3 rfl (by simp) (by simp;omega) fun x2 H3 g4=>?_
    rw[hend]at g4
    simp(disch:=first|exact Xe|fail)only[↓Xa,Xb,Xc,↓reduceIte,Nat.reduceLT,Nat.reduceEqDiff,Nat.reduceBEq,Nat.reduceLeDiff,Nat.reduceAdd,Nat.reduceMul]
    rcases g4 with⟨z1,rfl,rfl⟩|⟨b2,hb2,rfl,rfl⟩
    ·have z2:2*R+c0=0:=(zCn (B:=65536) (by omega)).1 z1
     obtain⟨f1,f2⟩:=hls.2 (by omega)
     rw[zd2 65536]
     refine(zF2 0 V true tb (by rw[zAQ];simp) (by omega)).call ?_
     rw[show zBv 0 V= -1 by simp[zBv,hV]]
     simp(disch:=first|exact Xe|fail)only[zDM,↓Xa,Xb,Xc,↓reduceIte,Nat.reduceLT,Nat.reduceEqDiff,Nat.reduceBEq,Nat.reduceLeDiff,Nat.reduceAdd,Nat.reduceMul]
     refine Settle.keep [0,1,9,10,11] ⟨(k,ql,_,_),by dsimp only;omega,⟨⟨by dsimp only;omega,hk.qlen,hk.qlim,?_⟩,.inl ⟨?_,rfl,rfl⟩⟩,by rw[← zd2 65536];rfl⟩
     ·dsimp only;rw[hk.qval,f2,Nat.pow_succ];grind
     ·dsimp only;rw[f1,z2,zAQ]
    ·have ap1:=(zAB.1 hb2).1
     have hX2l:(digs 65536 (2*R+c0)).length≤1099511627776:=by
      refine Nat.le_trans (zA4 (by omega) ((digs 65536 V).length+1) _ ?_) (by omega)
      have q1:=zBE (zAG (B:=65536) (by omega) V)
      rw[zAJ (by omega)]at q1
      have q2:R<V:=hR▸Nat.mod_lt _ hV
      rw[Nat.pow_succ];omega
     refine zAM (zMv (2*R+c0) V false tb (zAC _ _ _) rfl ?_ hX2l (by omega))
     by_cases hge:V≤2*R+c0
     ·obtain⟨f1,f2⟩:=hls.1 hge
      have c3: ∀K,zAx .geq (.int .i64 (zBv (2*R+c0) V)) (.int .i64 ((0:Nat):Int)) K↔K (.bool true):=fun K=>by
       have:(0:Int)≤zBv (2*R+c0) V:=by unfold zBv;rw[if_neg (by omega)];split<;>omega
       simp[zAx,zAf];rw[decide_eq_true this]
      simp(disch:=first|exact Xe|fail)only[c3,↓Xa,Xb,Xc,↓reduceIte,Nat.reduceLT,Nat.reduceEqDiff,Nat.reduceBEq,Nat.reduceLeDiff,Nat.reduceAdd,Nat.reduceMul]
      refine zAM (zJF (2*R+c0) V false tb (zAC _ _ _) rfl ?_ hge hX2l)
      intro x3 H4 g5
      have hpl:(digs 65536 (2*R+c0-V)).length≤(digs 65536 (2*R+c0)).length:=zA4 (by omega) _ _ (by
       have:=zBE (zAG (B:=65536) (by omega) (2*R+c0));rw[zAJ (by omega)]at this;omega)
      have hpad:=zER hpl
      have hp0:0<(digs 65536 (2*R+c0)).length:=by rw[zAz (by omega) (show 0<2*R+c0 by omega)];simp
      rcases g5 with⟨z1,_,_⟩|⟨_,b3,hb3,rfl,rfl⟩
      ·rw[z1]at hpad;simp at hpad;omega
      ·have ap2:=(zAB.1 hb3).1
       have ap3:=(zAB.1 (zAB.1 hb3).2).1
       have hn3:=(zAB.1 (zAB.1 hb3).2).2
       simp(disch:=first|exact Xe|fail)only[↓Xa,Xb,Xc,↓reduceIte,Nat.reduceLT,Nat.reduceEqDiff,Nat.reduceBEq,Nat.reduceLeDiff,Nat.reduceAdd,Nat.reduceMul]
       refine zAM (zGb false false (zAC _ _ _) rfl (fun ti=>?_) (zDj (by omega)) (by omega))
       have htr:tr (pad 65536 (2*R+c0-V) (digs 65536 (2*R+c0)).length)=digs 65536 (2*R+c0-V):=by
        rw[zAr (B:=65536) (by omega) (zDj (by omega)),zE9 (by omega)]
       have hpt:(pad 65536 (2*R+c0-V) (digs 65536 (2*R+c0)).length).take (digs 65536 (2*R+c0-V)).length=digs 65536 (2*R+c0-V):=by
        unfold pad;simp
       rw[htr,hpad]
       obtain⟨o1,o2,o3⟩:=zOo hk.qlim (by rw[hk.qlen];exact hkl) hk.qval
       have hql:=hk.qlen
       have hqd:=hk.qlim.getD (by omega) (k / 16)
       have hk16:k / 16<9223372036854775808:=by omega
       have hpw:(2:Nat)^(k%16)≤2^15:=Nat.pow_le_pow_right (by omega) (by omega)
       have hk32:k%16≤32:=by omega
       have or1: ∀K,zAx .or (.int .u32 ((ql.getD (k / 16) 0:Nat):Int)) (.int .u32 ((2^(k%16):Nat):Int)) K↔K (.int .u32 ((ql.getD (k / 16) 0+2^(k%16):Nat):Int)):=fun K=>by
        rw[zHL .u32 (by simp only[IntKind.bits];omega) (by simp only[IntKind.bits];omega),o1,zEt (by omega)]
       simp(disch:=first|exact Xe|fail)only[hkl,hql,or1,Nat.one_mul,zGN,ne_eq,Nat.reduceEqDiff,↓Xa,Xb,Xc,↓reduceIte,Nat.reduceLT,Nat.reduceEqDiff,Nat.reduceBEq,Nat.reduceLeDiff,Nat.reduceAdd,Nat.reduceMul]
       refine Settle.kill b2 ?_
       rw[zD6 ap2,zAV _ (zAB.2 ⟨ap1,(zAB.1 hb2).2⟩)]
       refine Settle.renew 10 rfl (zAC _ _ _) hpad hpl fun b' hb'=>?_
       rw[zAO,zAV _ (zAB.2 ⟨ap3,hn3⟩)]at hb' ⊢
       rw[hpt]
       refine Settle.now ⟨(k,ql.set (k / 16) (ql.getD (k / 16) 0+2^(k%16)),_,_),by dsimp only;omega,⟨⟨by dsimp only;omega,by simpa using hql,zCr hk.qlim _ _ o2,?_⟩,.inr ⟨b',hb',?_,?_⟩⟩,rfl⟩
       ·dsimp only;rw[f2];exact o3
       ·dsimp only;rw[f1]
       ·exact congrArg (fun z=>(H.upd bq (some (ABlk.row 168 1 (U (ql.set (k / 16) (ql.getD (k / 16) 0+2^(k%16))))))).upd b' (some (.row 168 1 (U (digs 65536 z))))) f1.symm
     ·obtain⟨f1,f2⟩:=hls.2 (by omega)
      have c3: ∀K,zAx .geq (.int .i64 (zBv (2*R+c0) V)) (.int .i64 ((0:Nat):Int)) K↔K (.bool false):=fun K=>by
       simp[zAx,zAf,zBv,show 2*R+c0<V by omega]
      simp(disch:=first|exact Xe|fail)only[c3,↓Xa,Xb,Xc,↓reduceIte,Nat.reduceLT,Nat.reduceEqDiff,Nat.reduceBEq,Nat.reduceLeDiff,Nat.reduceAdd,Nat.reduceMul]
      refine Settle.keep [0,1,9,10,11] ⟨(k,ql,_,_),by dsimp only;omega,⟨⟨by dsimp only;omega,hk.qlen,hk.qlim,?_⟩,.inr ⟨b2,hb2,?_,?_⟩⟩,rfl⟩
      ·dsimp only;rw[hk.qval,f2,Nat.pow_succ];grind
      ·dsimp only;rw[f1]
      ·exact congrArg (fun z=>(H.upd bq (some (ABlk.row 168 1 (U ql)))).upd b2 (some (.row 168 1 (U (digs 65536 z))))) f1.symm
   ·rw[if_neg h0]at hend
    rw[hend]at g3
    have g4:=g3
    simp(disch:=first|exact Xe|fail)only[h0,↓Xa,Xb,Xc,↓reduceIte,Nat.reduceLT,Nat.reduceEqDiff,Nat.reduceBEq,Nat.reduceLeDiff,Nat.reduceAdd,Nat.reduceMul]
    rcases g4 with⟨z1,rfl,rfl⟩|⟨b2,hb2,rfl,rfl⟩
    ·have z2:2*R+c0=0:=(zCn (B:=65536) (by omega)).1 z1
     obtain⟨f1,f2⟩:=hls.2 (by omega)
     rw[zd2 65536]
     refine(zF2 0 V true tb (by rw[zAQ];simp) (by omega)).call ?_
     rw[show zBv 0 V= -1 by simp[zBv,hV]]
     simp(disch:=first|exact Xe|fail)only[zDM,↓Xa,Xb,Xc,↓reduceIte,Nat.reduceLT,Nat.reduceEqDiff,Nat.reduceBEq,Nat.reduceLeDiff,Nat.reduceAdd,Nat.reduceMul]
     refine Settle.keep [0,1,9,10,11] ⟨(k,ql,_,_),by dsimp only;omega,⟨⟨by dsimp only;omega,hk.qlen,hk.qlim,?_⟩,.inl ⟨?_,rfl,rfl⟩⟩,by rw[← zd2 65536];rfl⟩
     ·dsimp only;rw[hk.qval,f2,Nat.pow_succ];grind
     ·dsimp only;rw[f1,z2,zAQ]
    ·have ap1:=(zAB.1 hb2).1
     have hX2l:(digs 65536 (2*R+c0)).length≤1099511627776:=by
      refine Nat.le_trans (zA4 (by omega) ((digs 65536 V).length+1) _ ?_) (by omega)
      have q1:=zBE (zAG (B:=65536) (by omega) V)
      rw[zAJ (by omega)]at q1
      have q2:R<V:=hR▸Nat.mod_lt _ hV
      rw[Nat.pow_succ];omega
     refine zAM (zMv (2*R+c0) V false tb (zAC _ _ _) rfl ?_ hX2l (by omega))
     by_cases hge:V≤2*R+c0
     ·obtain⟨f1,f2⟩:=hls.1 hge
      have c3: ∀K,zAx .geq (.int .i64 (zBv (2*R+c0) V)) (.int .i64 ((0:Nat):Int)) K↔K (.bool true):=fun K=>by
       have:(0:Int)≤zBv (2*R+c0) V:=by unfold zBv;rw[if_neg (by omega)];split<;>omega
       simp[zAx,zAf];rw[decide_eq_true this]
      simp(disch:=first|exact Xe|fail)only[c3,↓Xa,Xb,Xc,↓reduceIte,Nat.reduceLT,Nat.reduceEqDiff,Nat.reduceBEq,Nat.reduceLeDiff,Nat.reduceAdd,Nat.reduceMul]
      refine zAM (zJF (2*R+c0) V false tb (zAC _ _ _) rfl ?_ hge hX2l)
      intro x3 H4 g5
      have hpl:(digs 65536 (2*R+c0-V)).length≤(digs 65536 (2*R+c0)).length:=zA4 (by omega) _ _ (by
       have:=zBE (zAG (B:=65536) (by omega) (2*R+c0));rw[zAJ (by omega)]at this;omega)
      have hpad:=zER hpl
      have hp0:0<(digs 65536 (2*R+c0)).length:=by rw[zAz (by omega) (show 0<2*R+c0 by omega)];simp
      rcases g5 with⟨z1,_,_⟩|⟨_,b3,hb3,rfl,rfl⟩
      ·rw[z1]at hpad;simp at hpad;omega
      ·have ap2:=(zAB.1 hb3).1
       have ap3:=(zAB.1 (zAB.1 hb3).2).1
       have hn3:=(zAB.1 (zAB.1 hb3).2).2
       simp(disch:=first|exact Xe|fail)only[↓Xa,Xb,Xc,↓reduceIte,Nat.reduceLT,Nat.reduceEqDiff,Nat.reduceBEq,Nat.reduceLeDiff,Nat.reduceAdd,Nat.reduceMul]
       refine zAM (zGb false false (zAC _ _ _) rfl (fun ti=>?_) (zDj (by omega)) (by omega))
       have htr:tr (pad 65536 (2*R+c0-V) (digs 65536 (2*R+c0)).length)=digs 65536 (2*R+c0-V):=by
        rw[zAr (B:=65536) (by omega) (zDj (by omega)),zE9 (by omega)]
       have hpt:(pad 65536 (2*R+c0-V) (digs 65536 (2*R+c0)).length).take (digs 65536 (2*R+c0-V)).length=digs 65536 (2*R+c0-V):=by
        unfold pad;simp
       rw[htr,hpad]
       obtain⟨o1,o2,o3⟩:=zOo hk.qlim (by rw[hk.qlen];exact hkl) hk.qval
       have hql:=hk.qlen
       have hqd:=hk.qlim.getD (by omega) (k / 16)
       have hk16:k / 16<9223372036854775808:=by omega
       have hpw:(2:Nat)^(k%16)≤2^15:=Nat.pow_le_pow_right (by omega) (by omega)
       have hk32:k%16≤32:=by omega
       have or1: ∀K,zAx .or (.int .u32 ((ql.getD (k / 16) 0:Nat):Int)) (.int .u32 ((2^(k%16):Nat):Int)) K↔K (.int .u32 ((ql.getD (k / 16) 0+2^(k%16):Nat):Int)):=fun K=>by
        rw[zHL .u32 (by simp only[IntKind.bits];omega) (by simp only[IntKind.bits];omega),o1,zEt (by omega)]
       simp(disch:=first|exact Xe|fail)only[hkl,hql,or1,Nat.one_mul,zGN,ne_eq,Nat.reduceEqDiff,↓Xa,Xb,Xc,↓reduceIte,Nat.reduceLT,Nat.reduceEqDiff,Nat.reduceBEq,Nat.reduceLeDiff,Nat.reduceAdd,Nat.reduceMul]
       refine Settle.kill b2 ?_
       rw[zD6 ap2,zAV _ (zAB.2 ⟨ap1,(zAB.1 hb2).2⟩)]
       refine Settle.renew 10 rfl (zAC _ _ _) hpad hpl fun b' hb'=>?_
       rw[zAO,zAV _ (zAB.2 ⟨ap3,hn3⟩)]at hb' ⊢
       rw[hpt]
       refine Settle.now ⟨(k,ql.set (k / 16) (ql.getD (k / 16) 0+2^(k%16)),_,_),by dsimp only;omega,⟨⟨by dsimp only;omega,by simpa using hql,zCr hk.qlim _ _ o2,?_⟩,.inr ⟨b',hb',?_,?_⟩⟩,rfl⟩
       ·dsimp only;rw[f2];exact o3
       ·dsimp only;rw[f1]
       ·exact congrArg (fun z=>(H.upd bq (some (ABlk.row 168 1 (U (ql.set (k / 16) (ql.getD (k / 16) 0+2^(k%16))))))).upd b' (some (.row 168 1 (U (digs 65536 z))))) f1.symm
     ·obtain⟨f1,f2⟩:=hls.2 (by omega)
      have c3: ∀K,zAx .geq (.int .i64 (zBv (2*R+c0) V)) (.int .i64 ((0:Nat):Int)) K↔K (.bool false):=fun K=>by
       simp[zAx,zAf,zBv,show 2*R+c0<V by omega]
      simp(disch:=first|exact Xe|fail)only[c3,↓Xa,Xb,Xc,↓reduceIte,Nat.reduceLT,Nat.reduceEqDiff,Nat.reduceBEq,Nat.reduceLeDiff,Nat.reduceAdd,Nat.reduceMul]
      refine Settle.keep [0,1,9,10,11] ⟨(k,ql,_,_),by dsimp only;omega,⟨⟨by dsimp only;omega,hk.qlen,hk.qlim,?_⟩,.inr ⟨b2,hb2,?_,?_⟩⟩,rfl⟩
      ·dsimp only;rw[hk.qval,f2,Nat.pow_succ];grind
      ·dsimp only;rw[f1]
      ·exact congrArg (fun z=>(H.upd bq (some (ABlk.row 168 1 (U ql)))).upd b2 (some (.row 168 1 (U (digs 65536 z))))) f1.symm
theorem zNz{A V:Nat}(ta tb:Bool)(hV:0<V)(hA:(digs 65536 A).length≤549755813888)(hVl:(digs 65536 V).length≤549755813888):
 PFn Tryz.prog 134 [LS (digs 65536 A) ta,LS (digs 65536 V) tb] (.tup [LS (digs 65536 (A / V)) false,LS (digs 65536 (A%V)) false]):=by
 by_cases h1:(digs 65536 V).length=1
 ·have h2:=zBE (zAG (B:=65536) (by omega) V)
  rw[zAJ (by omega),h1]at h2
  exact zUU ta tb hV (by simpa using h2) (by omega)
 ·exact zOd ta tb hV h1 hA hVl
theorem zNY{x y:Int}{k k':Nat}(hx:Bd k x)(hk:k≤137438953472)(hy:Bd k' y)(hk':k'≤137438953472)(hy0:y≠0):PFn Tryz.prog 234 [zBa x false,zBa y false] (.tup [zBa (x / y) false,zBa (x%y) false]):=by
 intro H Q hq
 have hl:=hx.rlen
 have hl':=hy.rlen
 have hyp:0<y.natAbs:=by omega
 have hbq: ∀b,Bd k (sg b (x.natAbs / y.natAbs)):=fun b=>Bd.sgn (Nat.lt_of_le_of_lt (Nat.div_le_self _ _) hx)
 have hbr: ∀b,Bd k (sg b (x.natAbs%y.natAbs)):=fun b=>Bd.sgn (Nat.lt_of_le_of_lt (Nat.mod_le _ _) hx)
 have hlq:=(hbq false).rlen
 have hlr:=(hbr false).rlen
 rw[zCe]at hlq hlr
 refine zUF (by simp) ?_
 simp(disch:=first|exact Xe|fail)only[zaD,zAd,↓Xa,Xb,Xc,↓reduceIte,Nat.reduceLT,Nat.reduceEqDiff,Nat.reduceBEq,Nat.reduceLeDiff,Nat.reduceAdd,Nat.reduceMul]
 refine zAD fun p hp=>?_
 simp(disch:=first|exact Xe|fail)only[↓Xa,Xb,Xc,↓reduceIte,Nat.reduceLT,Nat.reduceEqDiff,Nat.reduceBEq,Nat.reduceLeDiff,Nat.reduceAdd,Nat.reduceMul]
 refine zAD fun p2 hp2=>?_
 have n2:=hp2
 simp only[zAB]at n2
 obtain⟨_,n2⟩:=n2
 simp(disch:=first|exact Xe|fail)only[↓Xa,Xb,Xc,↓reduceIte,Nat.reduceLT,Nat.reduceEqDiff,Nat.reduceBEq,Nat.reduceLeDiff,Nat.reduceAdd,Nat.reduceMul]
 refine zAD fun p3 hp3=>?_
 have n3:=hp3
 simp only[zAB]at n3
 obtain⟨_,_,n3⟩:=n3
 simp(disch:=first|exact Xe|fail)only[↓Xa,Xb,Xc,↓reduceIte,Nat.reduceLT,Nat.reduceEqDiff,Nat.reduceBEq,Nat.reduceLeDiff,Nat.reduceAdd,Nat.reduceMul]
 refine zAD fun p4 hp4=>?_
 have n4:=hp4
 simp only[zAB]at n4
 obtain⟨_,_,_,n4⟩:=n4
 simp(disch:=first|exact Xe|fail)only[↓Xa,Xb,Xc,↓reduceIte,Nat.reduceLT,Nat.reduceEqDiff,Nat.reduceBEq,Nat.reduceLeDiff,Nat.reduceAdd,Nat.reduceMul]
 refine(zNz (A:=x.natAbs) (V:=y.natAbs) false false hyp (by omega) (by omega)).call ?_
 simp(disch:=first|exact Xe|fail)only[zDx,zEa,↓Xa,Xb,Xc,↓reduceIte,Nat.reduceLT,Nat.reduceEqDiff,Nat.reduceBEq,Nat.reduceLeDiff,Nat.reduceAdd,Nat.reduceMul]
 refine PFn.dcall (zBp _ false (zAG (by omega) _) (by omega)) ?_
 simp(disch:=first|exact Xe|fail)only[↓Xa,Xb,Xc,↓reduceIte,Nat.reduceLT,Nat.reduceEqDiff,Nat.reduceBEq,Nat.reduceLeDiff,Nat.reduceAdd,Nat.reduceMul]
 refine PFn.dcall (zBp _ false (zAG (by omega) _) (by omega)) ?_
 rw[zAJ (by omega),zAJ (by omega)]
 simp(disch:=first|exact Xe|fail)only[↓Xa,Xb,Xc,↓reduceIte,Nat.reduceLT,Nat.reduceEqDiff,Nat.reduceBEq,Nat.reduceLeDiff,Nat.reduceAdd,Nat.reduceMul]
 refine zCi fun p5 hp5=>?_
 have n5:=hp5
 simp only[zAB]at n5
 obtain⟨_,_,_,_,n5⟩:=n5
 simp(disch:=first|exact Xe|fail)only[↓Xa,Xb,Xc,↓reduceIte,Nat.reduceLT,Nat.reduceEqDiff,Nat.reduceBEq,Nat.reduceLeDiff,Nat.reduceAdd,Nat.reduceMul]
 refine zCi fun p6 hp6=>?_
 have n6:=hp6
 simp only[zAB]at n6
 obtain⟨_,_,_,_,_,n6⟩:=n6
 simp(disch:=first|exact Xe|fail)only[zAd,↓Xa,Xb,Xc,↓reduceIte,Nat.reduceLT,Nat.reduceEqDiff,Nat.reduceBEq,Nat.reduceLeDiff,Nat.reduceAdd,Nat.reduceMul]
 have bq:=hbq (!(decide (x<0)==decide (y<0)))
 have br:=hbr (decide (x<0))
 have cs:(sg (!(decide (x<0)==decide (y<0))) (x.natAbs / y.natAbs)=x / y∧sg (decide (x<0)) (x.natAbs%y.natAbs)=x%y∧zDx (sg (decide (x<0)) (x.natAbs%y.natAbs))=.bool false)∨
  (sg (!(decide (x<0)==decide (y<0))) (x.natAbs / y.natAbs)-zDw y=x / y∧sg (decide (x<0)) (x.natAbs%y.natAbs)+(y.natAbs:Int)=x%y∧zDx (sg (decide (x<0)) (x.natAbs%y.natAbs))=.bool true):=by
  by_cases h:x<0
  ·obtain⟨e1,e2⟩:=zGe hy0 h
   rw[decide_eq_true h]
   have eb:(!(true==decide (y<0)))=!decide (y<0):=by simp
   rw[eb]
   rcases Nat.eq_zero_or_pos (x.natAbs%y.natAbs)with hz|hz
   ·left
    obtain⟨f1,f2⟩:=e1 hz
    rw[hz,f1,f2]
    exact⟨rfl,rfl,rfl⟩
   ·right
    obtain⟨f1,f2⟩:=e2 hz
    exact⟨f1.symm,f2.symm,congrArg AV.bool (decide_eq_true (by simp[sg];omega))⟩
  ·left
   obtain⟨f1,f2⟩:=zIg hy0 (show 0≤x by omega)
   rw[decide_eq_false h]
   have eb:(!(false==decide (y<0)))=decide (y<0):=by simp
   rw[eb,f1,f2]
   exact⟨rfl,rfl,congrArg AV.bool (decide_eq_false (by simp[sg];omega))⟩
 generalize sg (!(decide (x<0)==decide (y<0))) (x.natAbs / y.natAbs)=q0 at*
 generalize sg (decide (x<0)) (x.natAbs%y.natAbs)=r0 at*
 have fin: ∀{v a b c d e f},Q v H→SetR Q v ((((((H.upd p a).upd p2 b).upd p3 c).upd p4 d).upd p5 e).upd p6 f):=fun{v a b c d e f} hv=>SetR.dropTo (((((((Le.refl H).updB hp).updB n2).updB n3).updB n4).updB n5).updB n6) (SetR.now hv)
 have zE2:AV.agg [.bool (decide (y<0)),LS (digs 65536 y.natAbs) false]=zBa y false:=rfl
 have zFE:AV.agg [.bool (decide (y<0)),zFB y]=zBa y false:=rfl
 rcases cs with⟨c1,c2,c3⟩|⟨c1,c2,c3⟩
 ·rw[← c1,← c2]at hq
  have f0:AV.agg [.bool false,zFB r0]=zBa r0 false:=by rw[zPu,c3]
  simp(disch:=first|exact Xe|fail)only[c3,zA0,f0,zAd,zXU,↓Xa,Xb,Xc,↓reduceIte,Nat.reduceLT,Nat.reduceEqDiff,Nat.reduceBEq,Nat.reduceLeDiff,Nat.reduceAdd,Nat.reduceMul]
  exact fin hq
 ·rw[← c1,← c2]at hq
  have f0:AV.agg [.bool true,zFB r0]=zBa r0 false:=by rw[zPu,c3]
  simp(disch:=first|exact Xe|fail)only[c3,zA0,f0,zE2,zFE,↓Xa,Xb,Xc,↓reduceIte,Nat.reduceLT,Nat.reduceEqDiff,Nat.reduceBEq,Nat.reduceLeDiff,Nat.reduceAdd,Nat.reduceMul]
  refine PFn.dcall (zYs false hy (by omega)) ?_
  simp(disch:=first|exact Xe|fail)only[zA0,zE2,zFE,f0,↓Xa,Xb,Xc,↓reduceIte,Nat.reduceLT,Nat.reduceEqDiff,Nat.reduceBEq,Nat.reduceLeDiff,Nat.reduceAdd,Nat.reduceMul]
  refine(zIk false false br (by omega) hy.abs (by omega)).call ?_
  simp(disch:=first|exact Xe|fail)only[zA0,zE2,zFE,f0,zAd,↓Xa,Xb,Xc,↓reduceIte,Nat.reduceLT,Nat.reduceEqDiff,Nat.reduceBEq,Nat.reduceLeDiff,Nat.reduceAdd,Nat.reduceMul]
  refine PFn.dcall (zIX false hy (by omega)) ?_
  simp(disch:=first|exact Xe|fail)only[zA0,zE2,zFE,f0,↓Xa,Xb,Xc,↓reduceIte,Nat.reduceLT,Nat.reduceEqDiff,Nat.reduceBEq,Nat.reduceLeDiff,Nat.reduceAdd,Nat.reduceMul]
  refine PFn.dcall (zDS (zIU y)) ?_
  simp(disch:=first|exact Xe|fail)only[zA0,zE2,zFE,f0,↓Xa,Xb,Xc,↓reduceIte,Nat.reduceLT,Nat.reduceEqDiff,Nat.reduceBEq,Nat.reduceLeDiff,Nat.reduceAdd,Nat.reduceMul]
  refine(zTv false false bq (by omega) (Bd.i64 (zIU y)) (by omega)).call ?_
  simp(disch:=first|exact Xe|fail)only[zA0,zE2,zFE,f0,zAd,zXU,↓Xa,Xb,Xc,↓reduceIte,Nat.reduceLT,Nat.reduceEqDiff,Nat.reduceBEq,Nat.reduceLeDiff,Nat.reduceAdd,Nat.reduceMul]
  exact fin hq
theorem zXu{t:Bool}:AV.agg [.bool false,.seq 0 [] t]=zBa 0 t:=by simp[zBa,zAQ,LS,U]
theorem zVQ{x y:Int}{k k':Nat}(hx:Bd k x)(hk:k≤137438953472)(hy:Bd k' y)(hk':k'≤137438953472)(hy0:y≠0):PFn Tryz.prog 216 [zBa x false,zBa y false] (if x%y=0 then .tup [zBa (x / y) false,.bool true]else .tup [zBa 0 false,.bool false]):=by
 intro H Q hq
 have hbr:Bd k' (x%y):=by
  have h1:=Int.emod_lt x hy0
  have h2:=Int.emod_nonneg x hy0
  unfold Bd at hy ⊢
  omega
 have hl:=hbr.rlen
 refine zVR (by simp) ?_
 simp(disch:=first|exact Xe|fail)only[zde,zAd,↓Xa,Xb,Xc,↓reduceIte,Nat.reduceLT,Nat.reduceEqDiff,Nat.reduceBEq,Nat.reduceLeDiff,Nat.reduceAdd,Nat.reduceMul]
 refine zAD fun p hp=>?_
 simp(disch:=first|exact Xe|fail)only[↓Xa,Xb,Xc,↓reduceIte,Nat.reduceLT,Nat.reduceEqDiff,Nat.reduceBEq,Nat.reduceLeDiff,Nat.reduceAdd,Nat.reduceMul]
 refine zAD fun p2 hp2=>?_
 have n2:=hp2
 simp only[zAB]at n2
 obtain⟨_,n2⟩:=n2
 simp(disch:=first|exact Xe|fail)only[↓Xa,Xb,Xc,↓reduceIte,Nat.reduceLT,Nat.reduceEqDiff,Nat.reduceBEq,Nat.reduceLeDiff,Nat.reduceAdd,Nat.reduceMul]
 refine zAD fun p3 hp3=>?_
 have n3:=hp3
 simp only[zAB]at n3
 obtain⟨_,_,n3⟩:=n3
 simp(disch:=first|exact Xe|fail)only[zA0,↓Xa,Xb,Xc,↓reduceIte,Nat.reduceLT,Nat.reduceEqDiff,Nat.reduceBEq,Nat.reduceLeDiff,Nat.reduceAdd,Nat.reduceMul]
 refine(zNY hx hk hy hk' hy0).call ?_
 simp(disch:=first|exact Xe|fail)only[↓Xa,Xb,Xc,↓reduceIte,Nat.reduceLT,Nat.reduceEqDiff,Nat.reduceBEq,Nat.reduceLeDiff,Nat.reduceAdd,Nat.reduceMul]
 refine zAD fun p4 hp4=>?_
 have n4:=hp4
 simp only[zAB]at n4
 obtain⟨_,_,_,n4⟩:=n4
 simp(disch:=first|exact Xe|fail)only[↓Xa,Xb,Xc,↓reduceIte,Nat.reduceLT,Nat.reduceEqDiff,Nat.reduceBEq,Nat.reduceLeDiff,Nat.reduceAdd,Nat.reduceMul]
 refine zAD fun p5 hp5=>?_
 have n5:=hp5
 simp only[zAB]at n5
 obtain⟨_,_,_,_,n5⟩:=n5
 have fin: ∀{v a b c d e},Q v H→SetR Q v (((((H.upd p a).upd p2 b).upd p3 c).upd p4 d).upd p5 e):=fun{v a b c d e} hv=>SetR.dropTo ((((((Le.refl H).updB hp).updB n2).updB n3).updB n4).updB n5) (SetR.now hv)
 have hz:=zCu (B:=65536) (n:=(x%y).natAbs) (by omega)
 have hlen: ∀K:AV→Prop,zD8 false (zFB (x%y)) K=K (.int .i64 ((digs 65536 (x%y).natAbs).length:Nat)):=fun K=>by unfold zFB;simp(disch:=first|exact Xe|fail)only[↓Xa,Xb,Xc,↓reduceIte,Nat.reduceLT,Nat.reduceEqDiff,Nat.reduceBEq,Nat.reduceLeDiff,Nat.reduceAdd,Nat.reduceMul]
 by_cases h:x%y=0
 ·rw[if_pos h]at hq
  have h1:(digs 65536 (x%y).natAbs).length=0:=by rw[hz];omega
  rw[h1]at hlen
  simp(disch:=first|exact Xe|fail)only[zAd,zA0,↓hlen,zZU,↓Xa,Xb,Xc,↓reduceIte,Nat.reduceLT,Nat.reduceEqDiff,Nat.reduceBEq,Nat.reduceLeDiff,Nat.reduceAdd,Nat.reduceMul]
  exact fin hq
 ·rw[if_neg h]at hq
  have h1:0<(digs 65536 (x%y).natAbs).length:=by
   have: ¬(digs 65536 (x%y).natAbs).length=0:=by rw[hz];omega
   omega
  simp(disch:=first|exact Xe|fail)only[zAd,zA0,↓hlen,decide_eq_true h1,zZU,↓Xa,Xb,Xc,↓reduceIte,Nat.reduceLT,Nat.reduceEqDiff,Nat.reduceBEq,Nat.reduceLeDiff,Nat.reduceAdd,Nat.reduceMul]
  refine SetR.loose ?_
  refine fin ?_
  rw[← zXu]at hq
  exact hq
theorem Bd.le{x y:Int}{k:Nat}(h:Bd k y)(hl:x.natAbs≤y.natAbs):Bd k x:=Nat.lt_of_le_of_lt hl h
theorem Bd.ediv{x y:Int}{k:Nat}(h:Bd k x):Bd k (x / y):=h.le (Int.natAbs_ediv_le_natAbs x y)
theorem zTb{x y:Int}{K:AV→Prop}:zAx .eql (.int .i64 (zFd x y)) (.int .i64 ((0:Nat):Int)) K↔K (.bool (decide (x=y))):=by
 have:(zFd x y=((0:Nat):Int))↔x=y:=by unfold zFd;(repeat' split)<;>omega
 simp only[zAx,zAf,true_and,this]
theorem zYM{x y:Int}{k k':Nat}(hx:Bd k x)(hk:k≤274877906944)(hy:Bd k' y)(hk':k'≤274877906944):PFn Tryz.prog 92 [zBa x false,zBa y false] (.bool (decide (x=y))):=by
 intro H Q hq
 refine zYU (by simp) ?_
 simp(disch:=first|exact Xe|fail)only[zgn,zAd,↓Xa,Xb,Xc,↓reduceIte,Nat.reduceLT,Nat.reduceEqDiff,Nat.reduceBEq,Nat.reduceLeDiff,Nat.reduceAdd,Nat.reduceMul]
 refine zAD fun p1 hp1=>?_
 have n1:=hp1
 simp(disch:=first|exact Xe|fail)only[zAd,zA0,↓Xa,Xb,Xc,↓reduceIte,Nat.reduceLT,Nat.reduceEqDiff,Nat.reduceBEq,Nat.reduceLeDiff,Nat.reduceAdd,Nat.reduceMul]
 refine zAD fun p2 hp2=>?_
 have n2:=hp2
 simp only[zAB]at n2
 obtain⟨_,n2⟩:=n2
 simp(disch:=first|exact Xe|fail)only[zAd,zA0,↓Xa,Xb,Xc,↓reduceIte,Nat.reduceLT,Nat.reduceEqDiff,Nat.reduceBEq,Nat.reduceLeDiff,Nat.reduceAdd,Nat.reduceMul]
 refine(zXa false false hx (by omega) hy (by omega)).call ?_
 simp(disch:=first|exact Xe|fail)only[zTb,zhH,↓Xa,Xb,Xc,↓reduceIte,Nat.reduceLT,Nat.reduceEqDiff,Nat.reduceBEq,Nat.reduceLeDiff,Nat.reduceAdd,Nat.reduceMul]
 exact SetR.dropTo (((Le.refl H).updB n1).updB n2) (SetR.now hq)
def IC(zs:List Int):List AV:=zs.flatMap fun z=>[zBx z,zBy z]
theorem zBP(zs:List Int):(IC zs).length=zs.length*2:=by
 induction zs with
 |nil=>rfl
 |cons a l ih=>simp only[IC,List.flatMap_cons,List.length_append,List.length_cons,List.length_nil]at *; omega
theorem zO0(zs:List Int)(z:Int):IC (zs++[z])=IC zs++[zBx z,zBy z]:=by simp[IC,List.flatMap_append]
theorem zFq: ∀(l:List Int)(i:Nat)(h:i<l.length),(IC l).drop (i*2)=zBx (l[i])::zBy (l[i])::(IC l).drop (i*2+2)
 |a::l,0,_=>rfl
 |a::l,i+1,h=>by
  have:=zFq l i (by simpa using h)
  rw[show(i+1)*2=i*2+2 by omega]
  show((zBx a::zBy a::IC l).drop (i*2+2))=_
  simp only[List.drop_succ_cons,List.getElem_cons_succ]
  rw[this]
  show _=_::_::((zBx a::zBy a::IC l).drop (i*2+2+2))
  simp only[List.drop_succ_cons]
def RowI(H:AHeap)(x:AV)(zs:List Int):Prop:=
 (∃t,x=.seq zs.length (IC zs) t)∨∃b ty t,x=.own b (zs.length*2) 0 zs.length t∧H b=some (.row ty 2 (IC zs))
theorem RowI.le{H H':AHeap}{x:AV}{zs:List Int}(h:RowI H x zs)(hl:Le H H'):RowI H' x zs:=by
 rcases h with h|⟨b,ty,t,e,hb⟩
 ·exact .inl h
 ·exact .inr ⟨b,ty,t,e,hl b _ hb⟩
theorem RowI.nil{H:AHeap}:RowI H (.seq 0 [] true) []:=.inl ⟨true,rfl⟩
theorem RowI.grown{H0 H:AHeap}{ty:TypeId}{x:AV}{zs:List Int}(h:zBH H0 ty 2 zs.length (IC zs) x H):RowI H x zs:=by
 rcases h with⟨h1,h2,rfl,rfl⟩|⟨h1,h2,b,hb,rfl,rfl⟩
 ·have:zs=[]:=List.length_eq_zero_iff.1 h1
  subst this;exact RowI.nil
 ·exact .inr ⟨b,ty,false,rfl,zAC _ _ _⟩
theorem RowI.len{H:AHeap}{x:AV}{zs:List Int}(h:RowI H x zs)(hn:zs.length<9223372036854775808){K:AV→Prop}:zD8 false x K=K (.int .i64 ((zs.length:Nat):Int)):=by
 rcases h with⟨t,rfl⟩|⟨b,ty,t,rfl,hb⟩<;>simp[zD8,hn]
theorem RowI.get{H:AHeap}{x:AV}{zs:List Int}(h:RowI H x zs){i:Nat}(hi:i<zs.length): ∃p,(∀{k:IntKind}{K:AV→Prop},(zCH H x∧zBf 2 x (.int k (i:Int)) K)↔K p)∧∀{K:AV→Prop},zBB H (some 2) p K↔K (zAi (zs[i])):=by
 rcases h with⟨t,rfl⟩|⟨b,ty,t,rfl,hb⟩
 ·refine⟨.cptr ((IC zs).drop (i*2)),fun{k K}=>?_,fun{K}=>?_⟩
  ·simp[zCH,zBf,zBP,hi]
  ·simp only[zBB,zBC,zFq zs i hi];simp[zE6]
 ·have hl:=zBP zs
  refine⟨.ptr b (zs.length*2) (i*2),fun{k K}=>?_,fun{K}=>?_⟩
  ·simp[zCH,zBf,hb,hl,hi]
  ·simp only[zBB,zBC,hb,zFq zs i hi]
   simp[zE6,hl]
   omega
end Go.Proofs.YtmndejlpfmmaiaaGreatDoor.Fw
namespace Go.Proofs.YtmndejlpfmmaiaaGreatDoor.Fw
open Go Go.Proofs.YtmndejlpfmmaiaaGreatDoor.Ma
def zDY(f:Int→Int→Int)(zs ws:List Int):List Int:=List.zipWith f zs ws
end Go.Proofs.YtmndejlpfmmaiaaGreatDoor.Fw
namespace Go.Proofs.YtmndejlpfmmaiaaGreatDoor.Fw
open Go Go.Proofs.YtmndejlpfmmaiaaGreatDoor.Ma
set_option maxRecDepth 20000
end Go.Proofs.YtmndejlpfmmaiaaGreatDoor.Fw
namespace Go.Proofs.YtmndejlpfmmaiaaGreatDoor.Ma
def chr(d:Nat):UInt8:=UInt8.ofNat (48+d)
theorem zLL{d:Nat}(h:d<10):(chr d).toNat=48+d:=by unfold chr;rw[UInt8.toNat_ofNat'];omega
def dec(n:Nat):List UInt8:=(digs 10 n).reverse.map chr
def wide(k n:Nat):List UInt8:=(pad 10 n k).reverse.map chr
theorem zHw:dec 0=[]:=by simp[dec,zAQ]
theorem zSd{k n:Nat}(h:n<10^k):(wide k n).length=k:=by
 simp only[wide,List.length_map,List.length_reverse]
 exact zER (zA4 (by omega) k n h)
theorem zIP{k n:Nat}(h:n<10^k):(dec n).length≤k:=by
 simp only[dec,List.length_map,List.length_reverse]
 exact zA4 (by omega) k n h
theorem zEM{l m:List Nat}(h:m≠[]):(l++m).getD ((l++m).length-1) 0=m.getD (m.length-1) 0:=by
 have:0<m.length:=List.length_pos_iff.2 h
 rw[List.getD_eq_getElem?_getD,List.getD_eq_getElem?_getD,List.length_append,List.getElem?_append_right (by omega)]
 congr 2;omega
theorem zX6{k p m:Nat}(hp:p<10^k)(hm:0<m):dec (p+10^k*m)=dec m++wide k p:=by
 have hne:digs 10 m≠[]:=fun e=>by have:=(zCn (B:=10) (by omega)).1 e;omega
 have hlen:=zER (zA4 (B:=10) (by omega) k p hp)
 have e:digs 10 (p+10^k*m)=pad 10 p k++digs 10 m:=by
  have h1:Lim 10 (pad 10 p k++digs 10 m):=(zDj (by omega)).append (zAG (by omega) m)
  have h2:=zE8 (B:=10) (by omega) h1 (.inr (by rw[zEM hne];exact zBl (by omega) hm))
  rw[h2,zBQ,zE9 (by omega),zAJ (by omega),hlen]
 simp only[dec,e,wide,List.reverse_append,List.map_append]
theorem zOb{j q:Nat}(h:q<10^(j+1)):wide (j+1) q=chr (q / 10^j)::wide j (q%10^j):=by
 have hp:0<10^j:=Nat.pow_pos (by omega)
 have hlt:q%10^j<10^j:=Nat.mod_lt _ hp
 have hd:q / 10^j<10:=Nat.div_lt_of_lt_mul (by rw[Nat.pow_succ]at h;omega)
 have hlen:=zER (zA4 (B:=10) (by omega) j _ hlt)
 have e:pad 10 q (j+1)=pad 10 (q%10^j) j++[q / 10^j]:=by
  have h1:Lim 10 (pad 10 (q%10^j) j++[q / 10^j]):=(zDj (by omega)).append (Lim.one hd)
  have h2:=zVp (B:=10) (by omega) h1
  rw[zBQ,zE9 (by omega),hlen,zFK,List.length_append,hlen,Nat.mod_add_div]at h2
  exact h2.symm
 simp only[wide,e,List.reverse_append,List.map_append,List.reverse_singleton,List.map_cons,List.map_nil,List.singleton_append]
theorem zPd{j p:Nat}:wide (j+1) (p%10^(j+1))=chr (p / 10^j%10)::wide j (p%10^j):=by
 have hp:0<10^(j+1):=Nat.pow_pos (by omega)
 rw[zOb (Nat.mod_lt _ hp)]
 have e1:p%10^(j+1) / 10^j=p / 10^j%10:=by rw[Nat.pow_succ,Nat.mod_mul_right_div_self]
 have e2:p%10^(j+1)%10^j=p%10^j:=by rw[Nat.pow_succ];exact Nat.mod_mod_of_dvd _ (Nat.dvd_mul_right _ _)
 rw[e1,e2]
theorem zcz{d:Nat}(h:d<10):(chr d=48)↔d=0:=by
 constructor
 ·intro e
  have:=congrArg UInt8.toNat e
  rw[zLL h]at this
  simp at this;omega
 ·rintro rfl;rfl
theorem zQg{k p:Nat}:(wide k p).dropWhile (· ==48)=dec p:=by
 have e:wide k p=List.replicate (k-(digs 10 p).length) 48++dec p:=by
  simp only[wide,pad,dec,List.reverse_append,List.map_append,List.reverse_replicate,List.map_replicate]
  rfl
 rw[e]
 have h: ∀n(l:List UInt8),(List.replicate n 48++l).dropWhile (· ==48)=l.dropWhile (· ==48):=by
  intro n
  induction n with
  |zero=>intro l;simp
  |succ n ih=>intro l;rw[List.replicate_succ,List.cons_append,List.dropWhile_cons];simp[ih]
 rw[h]
 rcases Nat.eq_zero_or_pos p with hp|hp
 ·subst hp;rw[zHw];rfl
 ·have hl:=zBl (B:=10) (by omega) hp
  have hne:digs 10 p≠[]:=fun e=>by have:=(zCn (B:=10) (by omega)).1 e;omega
  obtain⟨l,x,hx⟩: ∃l x,digs 10 p=l++[x]:=⟨_,_,(List.dropLast_concat_getLast hne).symm⟩
  have hx0:x≠0:=by
   rw[hx,zEM (by simp)]at hl
   simpa using hl
  have hx10:x<10:=zAG (B:=10) (by omega) p x (by rw[hx];simp)
  have hd:dec p=chr x::l.reverse.map chr:=by simp[dec,hx]
  rw[hd,List.dropWhile_cons]
  have:(chr x==48)=false:=by
   rw[beq_eq_false_iff_ne];exact fun h=>hx0 ((zcz hx10).1 h)
  rw[this];rfl
theorem zIT{B n k:Nat}(hB:2≤B)(hk:k<(digs B n).length):0<val B ((digs B n).drop k):=by
 have hn:0<n:=by
  rcases Nat.eq_zero_or_pos n with h|h
  ·subst h;rw[zAQ]at hk;simp at hk
  ·exact h
 have hl:=zBl hB hn
 have h1:Lim B ((digs B n).drop k):=(zAG hB n).drop k
 have h2:((digs B n).drop k).getD (((digs B n).drop k).length-1) 0≠0:=by
  rw[List.length_drop,List.getD_eq_getElem?_getD,List.getElem?_drop,← List.getD_eq_getElem?_getD]
  have:k+((digs B n).length-k-1)=(digs B n).length-1:=by omega
  rw[this];exact hl
 have h3:=zE8 hB h1 (.inr h2)
 rcases Nat.eq_zero_or_pos (val B ((digs B n).drop k))with h|h
 ·rw[h,zAQ]at h3
  have:=congrArg List.length h3
  simp at this;omega
 ·exact h
def zMx(n:Nat):List UInt8:=if n=0 then[48]else dec n
theorem zLJ{n:Nat}(h:0<n):dec n≠[]:=by
 intro e
 have:(digs 10 n)=[]:=by simpa[dec]using e
 have:=(zCn (B:=10) (by omega)).1 this
 omega
theorem zNP{n k p:Nat}(hk:k<(digs 1000000000 n).length)(hp:p=(digs 1000000000 n).getD k 0):
 p<1000000000∧dec (val 1000000000 ((digs 1000000000 n).drop k))=dec (val 1000000000 ((digs 1000000000 n).drop (k+1)))++(if k+1=(digs 1000000000 n).length then dec p else wide 9 p):=by
 have hlt:p<1000000000:=hp▸(zAG (B:=1000000000) (by omega) n).getD (by omega) k
 refine⟨hlt,?_⟩
 rw[zBo 1000000000 hk,← hp]
 by_cases h:k+1=(digs 1000000000 n).length
 ·rw[if_pos h,List.drop_of_length_le (by omega)]
  simp[val,zHw]
 ·rw[if_neg h]
  have:=zIT (B:=1000000000) (n:=n) (k:=k+1) (by omega) (by omega)
  exact zX6 (k:=9) hlt this
end Go.Proofs.YtmndejlpfmmaiaaGreatDoor.Ma
namespace Go.Proofs.YtmndejlpfmmaiaaGreatDoor.Fw
open Go Go.Proofs.YtmndejlpfmmaiaaGreatDoor.Ma
set_option maxRecDepth 20000
def Sx(l:List UInt8):AV:=.str ⟨l.toArray⟩
theorem zJU{l:List UInt8}:AV.str ⟨l.toArray⟩=Sx l:=id rfl
theorem zEN{l:List UInt8}:(⟨l.toArray⟩:ByteArray).size=l.length:=by simp[ByteArray.size]
section
variable {K:AV→Prop} {K2:AV→AHeap→Prop} {KD:AV→List Nat→Option (Nat×ABlk)→Prop} {l m:List UInt8} {k k':IntKind} {H:AHeap}
theorem zHq:zD8 true (Sx l) K=K (.int .i64 ((l.length:Nat):Int)):=by simp only[Sx,zD8,zEN]
theorem zPi{i:Nat}(h:i<l.length):zGo (Sx l) (.int k (i:Int)) K=K (.int .u8 (((l.getD i 0).toNat:Nat):Int)):=by
 simp[Sx,zGo,zB8,zEN,h]
theorem zOJ{a b:Nat}:(⟨l.toArray⟩:ByteArray).extract a b=⟨((l.drop a).take (b-a)).toArray⟩:=by
 apply ByteArray.ext
 rw[ByteArray.data_extract]
 simp[List.extract_toArray]
theorem zXt{a:Nat}(hb:a≤l.length):zIB (Sx l) (some (.int k (a:Int))) none K=K (Sx (l.drop a)):=by
 have h1:(0:Int)≤(a:Int)∧(a:Int)≤((l.length:Nat):Int):=by omega
 have e:(l.drop a).take (l.length-a)=l.drop a:=List.take_of_length_le (by simp)
 simp[Sx,zIB,zDX,zEN,h1,zOJ,e]
theorem zZH{a b:List UInt8}:(a==b)=decide (a=b):=by by_cases h:a=b<;>simp[h]
theorem zOY:zAx .eql (Sx l) (Sx m) K=K (.bool (decide (l=m))):=by
 simp only[Sx,zAx,zML,ByteArray.toList_eq,List.toList_toArray,zZH]
theorem zTQ:(Sx l).cells=some [Sx l]:=id rfl
theorem zZo{ty:Nat}(h0:0<l.length)(hb:l.length≤70368744177664)(kk: ∀b,H b=none→K2 (.own b l.length 0 l.length false) (H.upd b (some (.row ty 1 (Bt l))))):zM3 H ty 1 1 (.seq 0 [] true) (Sx l) K2:=.inl <| by
 have hal:(Bt l).all AV.cell=true:=by
  rw[List.all_eq_true];intro x hx
  obtain⟨b,_,rfl⟩:=List.mem_map.1 hx;rfl
 refine⟨rfl,?_⟩
 show(zFV ⟨l.toArray⟩).all AV.cell=true∧_
 rw[zJf,zEN]
 refine⟨hal,rfl,rfl,by omega,by omega,fun e=>by omega,fun _ b hb'=>?_⟩
 simpa using kk b hb'
theorem zcp{ty b:Nat}{t:Bool}{o:List UInt8}(hH:H b=some (.row ty 1 (Bt o)))(hb:o.length+l.length≤70368744177664)(kk:K2 (.own b (o++l).length 0 (o++l).length false) (H.upd b (some (.row ty 1 (Bt (o++l)))))):zM3 H ty 1 1 (.own b o.length 0 o.length t) (Sx l) K2:=.inl <| by
 have hal:(Bt l).all AV.cell=true:=by
  rw[List.all_eq_true];intro x hx
  obtain⟨b,_,rfl⟩:=List.mem_map.1 hx;rfl
 refine⟨rfl,?_⟩
 show(zFV ⟨l.toArray⟩).all AV.cell=true∧_
 rw[zJf,zEN]
 refine⟨hal,?_⟩
 dsimp only
 rw[hH]
 refine⟨zEA,rfl,by omega,rfl,rfl,by omega,by omega,?_⟩
 have e:Bt o++Bt l=Bt (o++l):=by simp[Bt]
 rw[List.length_append]at kk
 rw[Nat.mul_one,e]
 exact kk
end
theorem zVK{l:List UInt8}{c:UInt8}(hl:l.length<9223372036854775808):PFn Tryz.prog 236 [Sx l,.int .u8 ((c.toNat:Nat):Int)] (Sx (l.dropWhile (· ==c))):=by
 intro H Q hq
 refine zSc (by simp) ?_
 simp(disch:=first|exact Xe|fail)only[zZ7,↓Xa,Xb,Xc,↓reduceIte,Nat.reduceLT,Nat.reduceEqDiff,Nat.reduceBEq,Nat.reduceLeDiff,Nat.reduceAdd,Nat.reduceMul]
 refine zAP (fun m:List UInt8=>⟨[],[(0,Sx m),(1,.int .u8 ((c.toNat:Nat):Int))],_⟩) (fun m=>m.length≤l.length∧m.dropWhile (· ==c)=l.dropWhile (· ==c)) (fun m=>m.length) l (Settle.now rfl) ⟨Nat.le_refl _,rfl⟩ ?_
 rintro m ⟨hm,h1⟩
 cases m with
 |nil=>
  simp(disch:=first|exact Xe|fail)only[zHq,List.length_nil,↓Xa,Xb,Xc,↓reduceIte,Nat.reduceLT,Nat.reduceEqDiff,Nat.reduceBEq,Nat.reduceLeDiff,Nat.reduceAdd,Nat.reduceMul]
  refine Settle.now ?_
  simp(disch:=first|exact Xe|fail)only[zXe,↓Xa,Xb,Xc,↓reduceIte,Nat.reduceLT,Nat.reduceEqDiff,Nat.reduceBEq,Nat.reduceLeDiff,Nat.reduceAdd,Nat.reduceMul]
  rw[← h1]at hq
  exact SetR.now hq
 |cons x m=>
  have hpos:0<m.length+1:=Nat.succ_pos _
  have e:(x::m).getD 0 0=x:=rfl
  have hm':m.length+1≤l.length:=hm
  rw[List.dropWhile_cons]at h1
  by_cases hx:x=c
  ·have hb:(x==c)=true:=by simp[hx]
   have hx':x.toNat=c.toNat:=by rw[hx]
   rw[if_pos hb]at h1
   simp(disch:=first|exact Xe|fail)only[zHq,hpos,zPi,e,hx',zXt,List.drop_succ_cons,List.drop_zero,↓Xa,Xb,Xc,↓reduceIte,Nat.reduceLT,Nat.reduceEqDiff,Nat.reduceBEq,Nat.reduceLeDiff,Nat.reduceAdd,Nat.reduceMul]
   exact Settle.now ⟨m,by simp,⟨by omega,h1⟩,rfl⟩
  ·have hb: ¬(x==c)=true:=by simp[hx]
   have hx': ¬x.toNat=c.toNat:=fun h=>hx (UInt8.toNat_inj.1 h)
   rw[if_neg hb]at h1
   simp(disch:=first|exact Xe|fail)only[zHq,hpos,zPi,e,hx',↓Xa,Xb,Xc,↓reduceIte,Nat.reduceLT,Nat.reduceEqDiff,Nat.reduceBEq,Nat.reduceLeDiff,Nat.reduceAdd,Nat.reduceMul]
   refine Settle.now ?_
   simp(disch:=first|exact Xe|fail)only[zXe,↓Xa,Xb,Xc,↓reduceIte,Nat.reduceLT,Nat.reduceEqDiff,Nat.reduceBEq,Nat.reduceLeDiff,Nat.reduceAdd,Nat.reduceMul]
   rw[← h1]at hq
   exact SetR.now hq
theorem zT8{l:List UInt8}{c:UInt8}(hl:l.length<9223372036854775808)(hc:c.toNat<128):PFn Tryz.prog 228 [Sx l,Sx [c]] (Sx (l.dropWhile (· ==c))):=by
 intro H Q hq
 refine zU2 (by simp) ?_
 have e:([c]:List UInt8).getD 0 0=c:=rfl
 have h1:([c]=([]:List UInt8))=False:=by simp
 have h2:0<([c]:List UInt8).length:=by simp
 cases l with
 |nil=>
  simp(disch:=first|exact Xe|fail)only[zXo,zJU,zOY,zXr,↓Xa,Xb,Xc,↓reduceIte,Nat.reduceLT,Nat.reduceEqDiff,Nat.reduceBEq,Nat.reduceLeDiff,Nat.reduceAdd,Nat.reduceMul]
  exact SetR.now hq
 |cons x l=>
  have h3:(x::l=([]:List UInt8))=False:=by simp
  simp(disch:=first|exact Xe|fail)only[zXo,zJU,zOY,h1,h3,zHq,zPi,h2,e,hc,↓Xa,Xb,Xc,↓reduceIte,Nat.reduceLT,Nat.reduceEqDiff,Nat.reduceBEq,Nat.reduceLeDiff,Nat.reduceAdd,Nat.reduceMul]
  refine(zVK hl).call ?_
  simp(disch:=first|exact Xe|fail)only[zXr,↓Xa,Xb,Xc,↓reduceIte,Nat.reduceLT,Nat.reduceEqDiff,Nat.reduceBEq,Nat.reduceLeDiff,Nat.reduceAdd,Nat.reduceMul]
  exact SetR.now hq
theorem zO1{H:AHeap}{p:Nat}{v:AV}{K:AV→AHeap→Prop}(hH:H p=some (.row 257 0 [.nilP,v]))(k:K (.tup []) (H.upd p (some (.row 257 0 [.ptr p 2 0,v])))):Run Tryz.prog 230 [.ptr p 2 0] H K:=by
 refine zL0 (by simp) ?_
 simp(disch:=first|exact Xe|fail)only[zXw,hH,zYZ,↓Xa,Xb,Xc,↓reduceIte,Nat.reduceLT,Nat.reduceEqDiff,Nat.reduceBEq,Nat.reduceLeDiff,Nat.reduceAdd,Nat.reduceMul]
 exact SetR.now k
theorem zHd{H:AHeap}{p:Nat}{v:AV}{K:AV→AHeap→Prop}(hH:H p=some (.row 257 0 [.ptr p 2 0,v]))(k:K (.tup []) H):Run Tryz.prog 230 [.ptr p 2 0] H K:=by
 refine zL0 (by simp) ?_
 simp(disch:=first|exact Xe|fail)only[zXw,hH,zYZ,↓Xa,Xb,Xc,↓reduceIte,Nat.reduceLT,Nat.reduceEqDiff,Nat.reduceBEq,Nat.reduceLeDiff,Nat.reduceAdd,Nat.reduceMul]
 exact SetR.now k
def bld(p:Nat)(l:List UInt8)(H0 H:AHeap):Prop:=
 (l=[]∧(H=H0.upd p (some (.row 257 0 [.nilP,.seq 0 [] true]))∨H=H0.upd p (some (.row 257 0 [.ptr p 2 0,.seq 0 [] true]))))∨
 (l≠[]∧∃bb,H0 bb=none∧Ap bb p∧H=(H0.upd p (some (.row 257 0 [.ptr p 2 0,.own bb l.length 0 l.length false]))).upd bb (some (.row 5 1 (Bt l))))
theorem zYv{p:Nat}{H:AHeap}:bld p [] H (H.upd p (some (.row 257 0 [.nilP,.seq 0 [] true]))):=.inl ⟨rfl,.inl rfl⟩
theorem zZQ{p q:Nat}{l:List UInt8}{H0 H:AHeap}{x:ABlk}(h:bld p l H0 H)(hq:H q=none):Ap q p∧H0 q=none∧bld p l (H0.upd q (some x)) (H.upd q (some x)):=by
 rcases h with⟨rfl,rfl|rfl⟩|⟨h0,bb,hbb,hap,rfl⟩
 ·obtain⟨a,b⟩:=zAB.1 hq
  exact⟨a,b,.inl ⟨rfl,.inl (zAt _ _ _ (Ap.symm a))⟩⟩
 ·obtain⟨a,b⟩:=zAB.1 hq
  exact⟨a,b,.inl ⟨rfl,.inr (zAt _ _ _ (Ap.symm a))⟩⟩
 ·obtain⟨a1,a2,b⟩:Ap q bb∧Ap q p∧H0 q=none:=by simpa only[zAB]using hq
  refine⟨a2,b,.inr ⟨h0,bb,?_,hap,?_⟩⟩
  ·rw[zBi (Ap.symm a1)];exact hbb
  ·rw[zAt _ _ _ (Ap.symm a1),zAt (b:=p) (b':=q) _ _ _ (Ap.symm a2)]
theorem zMc{p:Nat}{l m:List UInt8}{H0 H:AHeap}{K:AV→AHeap→Prop}(hb:bld p l H0 H)(hl:l.length+m.length≤70368744177664)(hm:0<m.length)
 (k: ∀H',bld p (l++m) H0 H'→K (.tup [.int .i64 ((m.length:Nat):Int),.nilI]) H'):Run Tryz.prog 210 [.ptr p 2 0,Sx m] H K:=by
 refine zTK (by simp) ?_
 simp(disch:=first|exact Xe|fail)only[zNj,↓Xa,Xb,Xc,↓reduceIte,Nat.reduceLT,Nat.reduceEqDiff,Nat.reduceBEq,Nat.reduceLeDiff,Nat.reduceAdd,Nat.reduceMul]
 have hne: ∀{x:List UInt8},x++m≠[]:=fun{x} e=>by have:=congrArg List.length e;rw[List.length_append,List.length_nil]at this;omega
 have first: ∀{M:AHeap},M=H0.upd p (some (.row 257 0 [.ptr p 2 0,.seq 0 [] true]))→l=[]→
  W Tryz.prog (zBT (zBT zNj)) (zFC zTe K) ⟨[],[(0,.ptr p 2 0),(1,Sx m)],M⟩:=by
  rintro M rfl rfl
  simp(disch:=first|exact Xe|fail)only[zBT,zNj,↓Xa,Xb,Xc,↓reduceIte,Nat.reduceLT,Nat.reduceEqDiff,Nat.reduceBEq,Nat.reduceLeDiff,Nat.reduceAdd,Nat.reduceMul]
  refine zZo hm (by simp at hl;omega) fun b hb=>?_
  obtain⟨a1,a2⟩:=zAB.1 hb
  simp(disch:=first|exact Xe|fail)only[zHq,zTe,↓Xa,Xb,Xc,↓reduceIte,Nat.reduceLT,Nat.reduceEqDiff,Nat.reduceBEq,Nat.reduceLeDiff,Nat.reduceAdd,Nat.reduceMul]
  refine SetR.now (k _ (.inr ⟨by simpa using hne (x:=[]),b,a2,a1,?_⟩))
  simp only[List.nil_append]
 rcases hb with⟨rfl,rfl|rfl⟩|⟨h0,bb,hbb,hap,rfl⟩
 ·refine zAM (zO1 (zAC _ _ _) ?_)
  have f:=first rfl rfl
  simp(disch:=first|exact Xe|fail)only[zBT,zNj,↓Xa,Xb,Xc,↓reduceIte,Nat.reduceLT,Nat.reduceEqDiff,Nat.reduceBEq,Nat.reduceLeDiff,Nat.reduceAdd,Nat.reduceMul]at f
  simp(disch:=first|exact Xe|fail)only[↓Xa,Xb,Xc,↓reduceIte,Nat.reduceLT,Nat.reduceEqDiff,Nat.reduceBEq,Nat.reduceLeDiff,Nat.reduceAdd,Nat.reduceMul]
  exact f
 ·refine zAM (zHd (zAC _ _ _) ?_)
  have f:=first rfl rfl
  simp(disch:=first|exact Xe|fail)only[zBT,zNj,↓Xa,Xb,Xc,↓reduceIte,Nat.reduceLT,Nat.reduceEqDiff,Nat.reduceBEq,Nat.reduceLeDiff,Nat.reduceAdd,Nat.reduceMul]at f
  simp(disch:=first|exact Xe|fail)only[↓Xa,Xb,Xc,↓reduceIte,Nat.reduceLT,Nat.reduceEqDiff,Nat.reduceBEq,Nat.reduceLeDiff,Nat.reduceAdd,Nat.reduceMul]
  exact f
 ·refine zAM (zHd (v:=.own bb l.length 0 l.length false) (by rw[zBi (Ap.symm hap),zAC]) ?_)
  simp(disch:=first|exact Xe|fail)only[↓Xa,Xb,Xc,↓reduceIte,Nat.reduceLT,Nat.reduceEqDiff,Nat.reduceBEq,Nat.reduceLeDiff,Nat.reduceAdd,Nat.reduceMul]
  refine zcp (zAC _ _ _) hl ?_
  simp(disch:=first|exact Xe|fail)only[zHq,zTe,↓Xa,Xb,Xc,↓reduceIte,Nat.reduceLT,Nat.reduceEqDiff,Nat.reduceBEq,Nat.reduceLeDiff,Nat.reduceAdd,Nat.reduceMul]
  refine SetR.now (k _ (.inr ⟨hne,bb,hbb,hap,?_⟩))
  simp only[List.length_append]
theorem zVS{p:Nat}{l:List UInt8}{H0 H:AHeap}{K:AV→AHeap→Prop}(hb:bld p l H0 H)(hp:H0 p=none)(hl:l.length≤70368744177664)(h0:0<l.length)(k: ∀H',Le H0 H'→K (Sx l) H'):Run Tryz.prog 211 [.ptr p 2 0] H K:=by
 refine zSN (by simp) ?_
 rcases hb with⟨rfl,_⟩|⟨h1,bb,hbb,hap,rfl⟩
 ·simp at h0
 ·have hbl:(Bt l).length=l.length:=zEA
  simp(disch:=first|exact Xe|fail)only[zci,h0,zcd,↓Xa,Xb,Xc,↓reduceIte,Nat.reduceLT,Nat.reduceEqDiff,Nat.reduceBEq,Nat.reduceLeDiff,Nat.reduceAdd,Nat.reduceMul]
  exact SetR.now (k _ (((Le.refl H0).updB hp).updB hbb))
end Go.Proofs.YtmndejlpfmmaiaaGreatDoor.Fw
