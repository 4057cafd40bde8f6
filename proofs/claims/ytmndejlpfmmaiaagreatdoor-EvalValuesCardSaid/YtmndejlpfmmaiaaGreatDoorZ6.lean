/- The texts Ll Lm In Re Rf Rg Ri Rj Rk Rl Rm Rn Ro Io Rp Rq Rr Rs Rt Ru Rv Rw Ka Kn Kb Nb Sa Sb Sc Sd Se Sf Sh Nd Tb Ya Yb Yc Yd, joined. -/
import Derived.Test.YtmndejlpfmmaiaaGreatDoorZ5
set_option linter.unusedSimpArgs false
set_option linter.unusedVariables false
namespace Go.Proofs.YtmndejlpfmmaiaaGreatDoor.Fw
open Go Go.Proofs.YtmndejlpfmmaiaaGreatDoor.Ma
set_option maxRecDepth 20000
section
variable {H:AHeap} {b ty off L n:Nat} {ti:Bool} {pre u post:List Nat}
theorem zSU{v:List Nat}{t:Nat}(tv:Bool){Q:AV→AHeap→Prop}(hH:H b=some (.row ty 1 (U (pre++(u++post)))))(hL:L=pre.length+(u.length+post.length))(ho:off=pre.length)(hn:n=u.length)
 (hu:Lim 4294967296 u) (hv:Lim 4294967296 v) (ht:t<4294967296) (hvu:v.length<u.length) (hul:L≤2199023255552)
 (hq: ∀(w:List Nat)(bo:Nat),w.length=u.length→Lim 4294967296 w→bo≤1→val 4294967296 u+4294967296^u.length*bo=val 4294967296 w+t*val 4294967296 v→Q (.bool (decide (0<bo))) (H.upd b (some (.row ty 1 (U (pre++(w++post))))))):
 Run Tryz.prog 244 [.own b L off n ti,LS v tv,.int .u64 (t:Int)] H Q:=by
 subst hL;subst ho;subst hn
 refine zTV (by simp) ?_
 simp(disch:=first|exact Xe|fail)only[zZN,↓Xa,Xb,Xc,↓reduceIte,Nat.reduceLT,Nat.reduceEqDiff,Nat.reduceBEq,Nat.reduceLeDiff,Nat.reduceAdd,Nat.reduceMul]
 refine zAO (fun s:Nat×Nat×Nat×List Nat=>⟨[],[(0,.own b (pre.length+(u.length+post.length)) pre.length u.length ti),(1,LS v tv),(2,.int .u64 t),(7,.int .u64 s.2.1),(8,.int .u64 s.2.2.1),(12,.int .i64 u.length),(13,.int .i64 s.1)],
  H.upd b (some (.row ty 1 (U (pre++((s.2.2.2++u.drop s.1)++post)))))⟩)
  (fun s=>s.1≤u.length∧LessI u v t s.1 s.2.1 s.2.2.1 s.2.2.2) (fun s=>u.length-s.1) (0,0,0,[]) (Settle.now (by simp[zAZ _ hH])) ⟨by simp,LessI.zero u v t⟩ ?_
 rintro⟨i,c,bo,done⟩ ⟨h1,h2⟩
 dsimp only at h1 h2 ⊢
 have hd:=h2.1
 have hc:=h2.2.2.1
 have hbo:=h2.2.2.2.1
 by_cases hi:i<u.length
 ·have hx:=hu.getD (by omega) i
  have hy:=hv.getD (by omega) i
  have hm:v.getD i 0*t≤4294967295*4294967295:=Nat.mul_le_mul (by omega) (by omega)
  have hcl:(done++u.drop i).length=u.length:=by simp[hd];omega
  have len1:(pre++((done++u.drop i)++post)).length=pre.length+(u.length+post.length):=by simp only[List.length_append,hd,List.length_drop];omega
  have g1:(pre++((done++u.drop i)++post)).getD (pre.length+i) 0=u.getD i 0:=by rw[zK9 (by omega),zH8 hd hi]
  have s1: ∀x,(pre++((done++u.drop i)++post)).set (pre.length+i) x=pre++(((done++[x])++u.drop (i+1))++post):=fun x=>by rw[zPH (by omega),zIZ hd hi]
  generalize hrow:pre++((done++u.drop i)++post)=row at*
  by_cases hj:i<v.length
  ·simp(disch:=first|exact Xe|fail)only[hi,hj,g1,↓Xa,Xb,Xc,↓reduceIte,Nat.reduceLT,Nat.reduceEqDiff,Nat.reduceBEq,Nat.reduceLeDiff,Nat.reduceAdd,Nat.reduceMul]
   rw[s1]
   refine Settle.now ⟨(i+1,_,_,_),by dsimp only;omega,⟨by dsimp only;omega,h2.step hu hv ht rfl rfl⟩,rfl⟩
  ·have h0:=zAk (show v.length≤i by omega)
   simp(disch:=first|exact Xe|fail)only[hi,hj,g1,↓Xa,Xb,Xc,↓reduceIte,Nat.reduceLT,Nat.reduceEqDiff,Nat.reduceBEq,Nat.reduceLeDiff,Nat.reduceAdd,Nat.reduceMul]
   rw[s1]
   refine Settle.now ⟨(i+1,_,_,_),by dsimp only;omega,⟨by dsimp only;omega,h2.step hu hv ht (c1:=c) (by rw[h0];omega) rfl⟩,rfl⟩
 ·obtain rfl:i=u.length:=by omega
  simp(disch:=first|exact Xe|fail)only[hi,↓Xa,Xb,Xc,↓reduceIte,Nat.reduceLT,Nat.reduceEqDiff,Nat.reduceBEq,Nat.reduceLeDiff,Nat.reduceAdd,Nat.reduceMul]
  refine Settle.now ?_
  simp(disch:=first|exact Xe|fail)only[zZf,↓Xa,Xb,Xc,↓reduceIte,Nat.reduceLT,Nat.reduceEqDiff,Nat.reduceBEq,Nat.reduceLeDiff,Nat.reduceAdd,Nat.reduceMul]
  refine SetR.now ?_
  rw[List.drop_of_length_le (Nat.le_refl _),List.append_nil]
  exact hq done bo hd h2.2.1 hbo (h2.end hvu)
def scC:ACode→ACode
 |.scope0 c=>c
 |x=>x
theorem zQY{v:List Nat}{m:Nat}(tv:Bool){Q:AV→AHeap→Prop}(h:DigI u v m)(hH:H b=some (.row ty 1 (U (pre++(u++post)))))(hL:L=pre.length+(u.length+post.length))(ho:off=pre.length)(hn:n=u.length)(hul:L≤2199023255552)
 (hq: ∀(w:List Nat),w.length=u.length→Lim 4294967296 w→val 4294967296 w=val 4294967296 u%val 4294967296 v→Q (.int .u32 ((val 4294967296 u / val 4294967296 v:Nat):Int)) (H.upd b (some (.row ty 1 (U (pre++(w++post))))))):
 Run Tryz.prog 233 [.own b L off n ti,LS v tv] H Q:=by
 subst hL;subst ho;subst hn
 have hlu:=h.hu
 have hlv:=h.hv
 have hq1:=h.q_lt
 have hl:=h.lims
 have htop:=h.top
 have hqm:val 4294967296 u / val 4294967296 v*val 4294967296 v+val 4294967296 u%val 4294967296 v=val 4294967296 u:=Nat.div_add_mod' _ _
 have hml:=Nat.mod_lt (val 4294967296 u) h.vpos
 have hvl:=zA5 h.lu
 refine zSa (by simp) ?_
 have fin: ∀g,val 4294967296 u / val 4294967296 v≤g→g≤val 4294967296 u / val 4294967296 v+1→g<4294967296→W Tryz.prog (zBV (zBV (zBV (zBV (zBV (scC (zBV zSp))))))) (zF0 (zFF zSD Q)) ⟨[],[(0,.own b (pre.length+(u.length+post.length)) pre.length u.length ti),(1,LS v tv),(5,.int .i64 v.length),(7,.int .u64 g)],H⟩:=by
  intro g g1 g2 g3
  simp(disch:=first|exact Xe|fail)only[zSp,zBV,scC,↓Xa,Xb,Xc,↓reduceIte,Nat.reduceLT,Nat.reduceEqDiff,Nat.reduceBEq,Nat.reduceLeDiff,Nat.reduceAdd,Nat.reduceMul]
  refine zAM (zSU tv hH rfl rfl rfl h.lu h.lv g3 (by omega) hul fun w bo hw1 hw2 hb e=>?_)
  have hwl:=zA5 hw2
  rw[hw1]at hwl
  generalize val 4294967296 u / val 4294967296 v=q at*
  have hgv:g=q∨g=q+1:=by omega
  have hgm:g*val 4294967296 v=q*val 4294967296 v∨g*val 4294967296 v=q*val 4294967296 v+val 4294967296 v:=by
   rcases hgv with e|e
   ·left;rw[e]
   ·right;rw[e,Nat.add_mul,Nat.one_mul]
  have hbc:bo=0∨bo=1:=by omega
  rcases hbc with rfl|rfl
  ·have hg:g=q:=by
    rcases hgv with e1|e1
    ·exact e1
    ·rw[e1,Nat.add_mul,Nat.one_mul]at e;omega
   simp(disch:=first|exact Xe|fail)only[zSD,↓Xa,Xb,Xc,↓reduceIte,Nat.reduceLT,Nat.reduceEqDiff,Nat.reduceBEq,Nat.reduceLeDiff,Nat.reduceAdd,Nat.reduceMul]
   refine SetR.now ?_
   rw[hg]
   exact hq w hw1 hw2 (by rw[hg]at e;omega)
  ·have hg:g=q+1:=by
    rcases hgv with e1|e1
    ·rw[e1]at e;omega
    ·exact e1
   subst hg
   simp(disch:=first|exact Xe|fail)only[↓Xa,Xb,Xc,↓reduceIte,Nat.reduceLT,Nat.reduceEqDiff,Nat.reduceBEq,Nat.reduceLeDiff,Nat.reduceAdd,Nat.reduceMul]
   refine zAO (fun s:Nat×Nat×List Nat=>⟨[],[(0,.own b (pre.length+(u.length+post.length)) pre.length u.length ti),(1,LS v tv),(5,.int .i64 v.length),(7,.int .u64 q),(9,.int .u64 s.2.1),(88,.int .i64 u.length),(89,.int .i64 s.1)],
    H.upd b (some (.row ty 1 (U (pre++((s.2.2++w.drop s.1)++post)))))⟩)
    (fun s=>s.1≤u.length∧AddI w v s.1 s.2.1 s.2.2) (fun s=>u.length-s.1) (0,0,[]) (Settle.now rfl) ⟨by simp,AddI.zero w v⟩ ?_
   rintro⟨i,c,done⟩ ⟨h1,h2⟩
   dsimp only at h1 h2 ⊢
   have hd:=h2.1
   have hc:=h2.2.2.1
   by_cases hi:i<u.length
   ·have hiw:i<w.length:=by omega
    have hx:=hw2.getD (by omega) i
    have hy:=h.lv.getD (by omega) i
    have len1:(pre++((done++w.drop i)++post)).length=pre.length+(u.length+post.length):=by simp only[List.length_append,hd,List.length_drop];omega
    have hcl:i<(done++w.drop i).length:=by simp only[List.length_append,hd,List.length_drop];omega
    have g1:(pre++((done++w.drop i)++post)).getD (pre.length+i) 0=w.getD i 0:=by rw[zK9 hcl,zH8 hd hiw]
    have s1: ∀x,(pre++((done++w.drop i)++post)).set (pre.length+i) x=pre++(((done++[x])++w.drop (i+1))++post):=fun x=>by rw[zPH hcl,zIZ hd hiw]
    generalize hrow:pre++((done++w.drop i)++post)=row at*
    by_cases hj:i<v.length
    ·simp(disch:=first|exact Xe|fail)only[hi,hj,g1,↓Xa,Xb,Xc,↓reduceIte,Nat.reduceLT,Nat.reduceEqDiff,Nat.reduceBEq,Nat.reduceLeDiff,Nat.reduceAdd,Nat.reduceMul]
     rw[s1]
     refine Settle.now ⟨(i+1,_,_),by dsimp only;omega,⟨by dsimp only;omega,h2.step hw2 h.lv rfl⟩,rfl⟩
    ·have h0:=zAk (show v.length≤i by omega)
     simp(disch:=first|exact Xe|fail)only[hi,hj,g1,↓Xa,Xb,Xc,↓reduceIte,Nat.reduceLT,Nat.reduceEqDiff,Nat.reduceBEq,Nat.reduceLeDiff,Nat.reduceAdd,Nat.reduceMul]
     rw[s1]
     refine Settle.now ⟨(i+1,_,_),by dsimp only;omega,⟨by dsimp only;omega,h2.step hw2 h.lv (s:=c+w.getD i 0) (by omega)⟩,rfl⟩
   ·obtain rfl:i=u.length:=by omega
    simp(disch:=first|exact Xe|fail)only[hi,↓Xa,Xb,Xc,↓reduceIte,Nat.reduceLT,Nat.reduceEqDiff,Nat.reduceBEq,Nat.reduceLeDiff,Nat.reduceAdd,Nat.reduceMul]
    refine Settle.now ?_
    simp(disch:=first|exact Xe|fail)only[zSD,↓Xa,Xb,Xc,↓reduceIte,Nat.reduceLT,Nat.reduceEqDiff,Nat.reduceBEq,Nat.reduceLeDiff,Nat.reduceAdd,Nat.reduceMul]
    refine SetR.now ?_
    rw[List.drop_of_length_le (by omega),List.append_nil]
    refine hq done hd h2.2.1 ?_
    have e2:=h2.2.2.2
    rw[List.take_of_length_le (by omega),List.take_of_length_le (by omega)]at e2
    have hdl:=zA5 h2.2.1
    rw[hd]at hdl
    rw[Nat.add_mul,Nat.one_mul]at e
    have hcc:c=0∨c=1:=by omega
    rcases hcc with rfl|rfl<;>omega
 have gl: ∀i,i<u.length→(pre++(u++post)).getD (pre.length+i) 0=u.getD i 0:=fun i hi=>zK9 hi
 have hul2:(pre++(u++post)).length=pre.length+(u.length+post.length):=by simp
 have g1:=gl (m+2) (by omega)
 have g2:=gl (m+1) (by omega)
 have g3:=gl m (by omega)
 have e1:m+2-1=m+1:=by omega
 have e2:m+2-2=m:=by omega
 have hst:=h.start
 have hU2:U2 u m=u.getD (m+2) 0*2^32+u.getD (m+1) 0:=rfl
 have hne:(v.getD (m+1) 0=0)=False:=eq_false (by omega)
 have hrl:U2 u m%v.getD (m+1) 0<v.getD (m+1) 0:=Nat.mod_lt _ (by omega)
 have hgl:U2 u m / v.getD (m+1) 0<18446744073709551616:=Nat.lt_of_le_of_lt (Nat.div_le_self _ _) (by rw[hU2];omega)
 generalize hrow:pre++(u++post)=row at*
 simp(disch:=first|exact Xe|fail)only[zSp,hH,hlv,e1,e2,g1,g2,← hU2,hne,ne_eq,↓Xa,Xb,Xc,↓reduceIte,Nat.reduceLT,Nat.reduceEqDiff,Nat.reduceBEq,Nat.reduceLeDiff,Nat.reduceAdd,Nat.reduceMul]
 simp only[hlv]at fin
 refine zAO (fun s:Nat×Nat=>⟨[],[(0,.own b (pre.length+(u.length+post.length)) pre.length u.length ti),(1,LS v tv),(5,.int .i64 ((m+2:Nat):Int)),(7,.int .u64 s.1),(8,.int .u64 s.2)],H⟩)
  (fun s=>GuessI u v m s.1 s.2∧s.2<4294967296) (fun s=>s.1) (U2 u m / v.getD (m+1) 0,U2 u m%v.getD (m+1) 0) (Settle.now rfl) ⟨hst,by dsimp only;omega⟩ ?_
 rintro⟨g,r⟩ ⟨hg,hr⟩
 dsimp only at hg hr ⊢
 have hgm:=hg.2.2
 have next:(4294967296≤g∨r*2^32+u.getD m 0<g*v.getD m 0)→0<g∧GuessI u v m (g-1) (r+v.getD (m+1) 0):=fun hc=>hg.step h hc
 have leave:(4294967296≤g∨r*2^32+u.getD m 0<g*v.getD m 0)→4294967296≤r+v.getD (m+1) 0→val 4294967296 u / val 4294967296 v≤g-1∧g-1≤val 4294967296 u / val 4294967296 v+1∧g-1<4294967296:=fun hc hr'=>by
  have h1:=next hc
  have h2:=h1.2.endB h hr' (by omega)
  have h3:=h1.2.2.1
  exact⟨h3,by omega,Nat.lt_of_le_of_lt h2 hq1⟩
 by_cases hgB:4294967296≤g
 ·have c1:0<g / 2^32:=by omega
  have hp:=(next (.inl hgB)).1
  by_cases hr':4294967296≤r+v.getD (m+1) 0
  ·have c2:0<(r+v.getD (m+1) 0) / 2^32:=by omega
   obtain⟨f1,f2,f3⟩:=leave (.inl hgB) hr'
   simp(disch:=first|exact Xe|fail)only[hH,e1,e2,g1,g2,g3,c1,c2,↓Xa,Xb,Xc,↓reduceIte,Nat.reduceLT,Nat.reduceEqDiff,Nat.reduceBEq,Nat.reduceLeDiff,Nat.reduceAdd,Nat.reduceMul]
   exact Settle.keep [0,1,5,7] (fin (g-1) f1 f2 f3)
  ·have c2: ¬0<(r+v.getD (m+1) 0) / 2^32:=by omega
   simp(disch:=first|exact Xe|fail)only[hH,e1,e2,g1,g2,g3,c1,c2,↓Xa,Xb,Xc,↓reduceIte,Nat.reduceLT,Nat.reduceEqDiff,Nat.reduceBEq,Nat.reduceLeDiff,Nat.reduceAdd,Nat.reduceMul]
   exact Settle.keep [0,1,5,7,8] ⟨(g-1,r+v.getD (m+1) 0),by dsimp only;omega,⟨(next (.inl hgB)).2,by dsimp only;omega⟩,rfl⟩
 ·have c1: ¬0<g / 2^32:=by omega
  have hm2:g*v.getD m 0≤4294967295*4294967295:=Nat.mul_le_mul (by omega) (by omega)
  by_cases hc:r*2^32+u.getD m 0<g*v.getD m 0
  ·have hp:=(next (.inr hc)).1
   by_cases hr':4294967296≤r+v.getD (m+1) 0
   ·have c2:0<(r+v.getD (m+1) 0) / 2^32:=by omega
    obtain⟨f1,f2,f3⟩:=leave (.inr hc) hr'
    simp(disch:=first|exact Xe|fail)only[hH,e1,e2,g1,g2,g3,c1,c2,hc,↓Xa,Xb,Xc,↓reduceIte,Nat.reduceLT,Nat.reduceEqDiff,Nat.reduceBEq,Nat.reduceLeDiff,Nat.reduceAdd,Nat.reduceMul]
    exact Settle.keep [0,1,5,7] (fin (g-1) f1 f2 f3)
   ·have c2: ¬0<(r+v.getD (m+1) 0) / 2^32:=by omega
    simp(disch:=first|exact Xe|fail)only[hH,e1,e2,g1,g2,g3,c1,c2,hc,↓Xa,Xb,Xc,↓reduceIte,Nat.reduceLT,Nat.reduceEqDiff,Nat.reduceBEq,Nat.reduceLeDiff,Nat.reduceAdd,Nat.reduceMul]
    exact Settle.keep [0,1,5,7,8] ⟨(g-1,r+v.getD (m+1) 0),by dsimp only;omega,⟨(next (.inr hc)).2,by dsimp only;omega⟩,rfl⟩
  ·simp(disch:=first|exact Xe|fail)only[hH,e1,e2,g1,g2,g3,c1,hc,↓Xa,Xb,Xc,↓reduceIte,Nat.reduceLT,Nat.reduceEqDiff,Nat.reduceBEq,Nat.reduceLeDiff,Nat.reduceAdd,Nat.reduceMul]
   exact Settle.keep [0,1,5,7] (fin g hg.2.1 (hg.endA h (by omega) (by omega)) (by omega))
end
theorem zcu(B:Nat):AV.seq 0 [] true=LS (digs B 0) true:=by rw[zAL];rfl
theorem zKO{m n:Nat}{K:AV→Prop}:zAv .lss (.int .i64 (zBt m n)) (.int .i64 ((0:Nat):Int)) K↔K (.bool (decide (m<n))):=by
 have:(zBt m n<((0:Nat):Int))↔m<n:=by unfold zBt;split<;>simp_all;split<;>omega
 simp only[zAv,zAi,true_and,this]
theorem zXu{l x:List Nat}{b ty n:Nat}{t:Bool}{H:AHeap}{Q:AV→AHeap→Prop}{k:IntKind}{m:Int}(hb:H b=none)(hn:l.length=n)(hq:Q (.tup [LS (tr l) true,LS x t,.int k m]) H):SetR Q (.tup [.own b n 0 (tr l).length true,LS x t,.int k m]) (H.upd b (some (.row ty 1 (U l)))):=by
 refine SetR.frz b (zAC _ _ _) ?_
 rw[zAR,zAZ _ hb,frz,List.map_cons,List.map_cons,List.map_cons,List.map_nil,zKN hn,zFf]
 exact SetR.now hq
theorem zZS{H:AHeap}{ty n:Nat}{l m:List Nat}{t:Bool}{K:AV→AHeap→Prop}(hn:n=m.length)(hm:m≠[])(hb:l.length+m.length≤17592186044416)
 (k: ∀b,H b=none→K (.own b (l.length+m.length) 0 (l.length+m.length) false) (H.upd b (some (.row ty 1 (U (l++m)))))):zKG H ty 1 4 (LS l true) (.seq n (U m) t) K:=by
 subst hn
 have hpos:0<m.length:=List.length_pos_iff.2 hm
 refine .inl ⟨by simp,zLz m,rfl,by simp,by omega,by omega,fun e=>absurd e (by omega),fun _ b hb'=>?_⟩
 have:=k b hb'
 rw[zXR]at this
 simpa using this
theorem zRo{a b:List Nat}(ta tb:Bool)(ha:Lim 4294967296 a)(hb:Lim 4294967296 b)(h0:0<val 4294967296 b)(hla:a.length≤549755813888)(hlb:b.length≤549755813888)(hlt:val 4294967296 a<val 4294967296 b):
 PFn Tryz.prog 213 [LS a ta,LS b tb] (.tup [LS (digs 4294967296 (val 4294967296 a / val 4294967296 b)) true,LS (digs 4294967296 (val 4294967296 a%val 4294967296 b)) true,.int .i64 ((0:Nat):Int)]):=by
 intro H Q hq
 refine zHz (by simp) ?_
 simp(disch:=first|exact Xe|fail)only[zUV,↓Xa,Xb,Xc,↓reduceIte,Nat.reduceLT,Nat.reduceEqDiff,Nat.reduceBEq,Nat.reduceLeDiff,Nat.reduceAdd,Nat.reduceMul]
 refine(zD6 b tb).call ?_
 have htb:=zFn b
 rw[zAt (by omega) hb]at htb ⊢
 generalize val 4294967296 b=Bv at*
 have hY:=zAG (B:=4294967296) (by omega) Bv
 have hYv:=zAJ (B:=4294967296) (by omega) Bv
 have hYp:0<(digs 4294967296 Bv).length:=by rw[zAf (by omega) h0];simp
 generalize digs 4294967296 Bv=Y at*
 have hY0:(Y.length=0)=False:=eq_false (by omega)
 simp(disch:=first|exact Xe|fail)only[hY0,↓Xa,Xb,Xc,↓reduceIte,Nat.reduceLT,Nat.reduceEqDiff,Nat.reduceBEq,Nat.reduceLeDiff,Nat.reduceAdd,Nat.reduceMul]
 refine(zF9 ta true ha hY).call ?_
 rw[hYv]
 simp(disch:=first|exact Xe|fail)only[zKO,hlt,↓Xa,Xb,Xc,↓reduceIte,Nat.reduceLT,Nat.reduceEqDiff,Nat.reduceBEq,Nat.reduceLeDiff,Nat.reduceAdd,Nat.reduceMul]
 refine(zHn ta (by omega)).call ?_
 rw[zAt (by omega) ha]
 simp(disch:=first|exact Xe|fail)only[zUZ,↓Xa,Xb,Xc,↓reduceIte,Nat.reduceLT,Nat.reduceEqDiff,Nat.reduceBEq,Nat.reduceLeDiff,Nat.reduceAdd,Nat.reduceMul]
 rw[Nat.div_eq_of_lt hlt,Nat.mod_eq_of_lt hlt,← zcu 4294967296]at hq
 exact SetR.now hq
theorem zNP{a b:List Nat}(ta tb:Bool)(ha:Lim 4294967296 a)(hb:Lim 4294967296 b)(h0:0<val 4294967296 b)(hla:a.length≤549755813888)(hlb:b.length≤549755813888)(hlt: ¬val 4294967296 a<val 4294967296 b)(h1:(digs 4294967296 (val 4294967296 b)).length=1):
 PFn Tryz.prog 213 [LS a ta,LS b tb] (.tup [LS (digs 4294967296 (val 4294967296 a / val 4294967296 b)) true,LS (digs 4294967296 (val 4294967296 a%val 4294967296 b)) true,.int .i64 ((0:Nat):Int)]):=by
 intro H Q hq
 refine zHz (by simp) ?_
 simp(disch:=first|exact Xe|fail)only[zUV,↓Xa,Xb,Xc,↓reduceIte,Nat.reduceLT,Nat.reduceEqDiff,Nat.reduceBEq,Nat.reduceLeDiff,Nat.reduceAdd,Nat.reduceMul]
 refine(zD6 b tb).call ?_
 rw[zAt (by omega) hb]
 generalize val 4294967296 b=Bv at*
 have hY:=zAG (B:=4294967296) (by omega) Bv
 have hYv:=zAJ (B:=4294967296) (by omega) Bv
 generalize digs 4294967296 Bv=Y at*
 simp(disch:=first|exact Xe|fail)only[h1,↓Xa,Xb,Xc,↓reduceIte,Nat.reduceLT,Nat.reduceEqDiff,Nat.reduceBEq,Nat.reduceLeDiff,Nat.reduceAdd,Nat.reduceMul]
 refine(zF9 ta true ha hY).call ?_
 rw[hYv]
 have hd:val 4294967296 Y=Y.getD 0 0:=by
  have:=zAW 4294967296 Y (0+1) (by omega)
  rw[← this,zAa];simp[val]
 rw[hYv]at hd
 have hBl:Bv<4294967296:=by rw[hd];exact hY.getD (by omega) 0
 simp(disch:=first|exact Xe|fail)only[zKO,hlt,h1,zH5,← hd,↓Xa,Xb,Xc,↓reduceIte,Nat.reduceLT,Nat.reduceEqDiff,Nat.reduceBEq,Nat.reduceLeDiff,Nat.reduceAdd,Nat.reduceMul]
 refine(zGQ ta ha h0 hBl (by omega)).call ?_
 simp(disch:=first|exact Xe|fail)only[↓Xa,Xb,Xc,↓reduceIte,Nat.reduceLT,Nat.reduceEqDiff,Nat.reduceBEq,Nat.reduceLeDiff,Nat.reduceAdd,Nat.reduceMul]
 have hm:val 4294967296 a%Bv<4294967296:=Nat.lt_trans (Nat.mod_lt _ h0) hBl
 refine(zHn (l:=[val 4294967296 a%Bv]) true (by simp)).call ?_
 rw[zAt (by omega) (Lim.one hm),zEw]
 simp(disch:=first|exact Xe|fail)only[zUZ,↓Xa,Xb,Xc,↓reduceIte,Nat.reduceLT,Nat.reduceEqDiff,Nat.reduceBEq,Nat.reduceLeDiff,Nat.reduceAdd,Nat.reduceMul]
 exact SetR.now hq
theorem zKl{a b:List Nat}(ta tb:Bool)(ha:Lim 4294967296 a)(hb:Lim 4294967296 b)(h0:0<val 4294967296 b)(hla:a.length≤549755813888)(hlb:b.length≤549755813888)(hlt: ¬val 4294967296 a<val 4294967296 b)(h1: ¬(digs 4294967296 (val 4294967296 b)).length=1):
 PFn Tryz.prog 213 [LS a ta,LS b tb] (.tup [LS (digs 4294967296 (val 4294967296 a / val 4294967296 b)) true,LS (digs 4294967296 (val 4294967296 a%val 4294967296 b)) true,.int .i64 ((0:Nat):Int)]):=by
 intro H Q hq
 refine zHz (by simp) ?_
 simp(disch:=first|exact Xe|fail)only[zUV,↓Xa,Xb,Xc,↓reduceIte,Nat.reduceLT,Nat.reduceEqDiff,Nat.reduceBEq,Nat.reduceLeDiff,Nat.reduceAdd,Nat.reduceMul]
 refine(zD6 b tb).call ?_
 have htb:=zFn b
 rw[zAt (by omega) hb]at htb ⊢
 generalize val 4294967296 b=Bv at*
 have hY:=zAG (B:=4294967296) (by omega) Bv
 have hYv:=zAJ (B:=4294967296) (by omega) Bv
 have hYp:0<(digs 4294967296 Bv).length:=by rw[zAf (by omega) h0];simp
 have hY0:((digs 4294967296 Bv).length=0)=False:=eq_false (by omega)
 simp(disch:=first|exact Xe|fail)only[hY0,↓Xa,Xb,Xc,↓reduceIte,Nat.reduceLT,Nat.reduceEqDiff,Nat.reduceBEq,Nat.reduceLeDiff,Nat.reduceAdd,Nat.reduceMul]
 refine(zF9 ta true ha hY).call ?_
 rw[hYv]
 have hn2:2≤(digs 4294967296 Bv).length:=by omega
 have htop:=hY.getD (by omega) ((digs 4294967296 Bv).length-1)
 have htl:blen ((digs 4294967296 Bv).getD ((digs 4294967296 Bv).length-1) 0)≤32:=zBP.2 (by omega)
 simp(disch:=first|exact Xe|fail)only[zKO,hlt,h1,↓Xa,Xb,Xc,↓reduceIte,Nat.reduceLT,Nat.reduceEqDiff,Nat.reduceBEq,Nat.reduceLeDiff,Nat.reduceAdd,Nat.reduceMul]
 refine(zdo htop).call ?_
 generalize hs:32-blen ((digs 4294967296 Bv).getD ((digs 4294967296 Bv).length-1) 0)=s at*
 have hs32:s≤32:=by omega
 obtain⟨w1,w2,w3⟩:=zXU h0 hs.symm
 simp(disch:=first|exact Xe|fail)only[↓Xa,Xb,Xc,↓reduceIte,Nat.reduceLT,Nat.reduceEqDiff,Nat.reduceBEq,Nat.reduceLeDiff,Nat.reduceAdd,Nat.reduceMul]
 refine(zQm true hY (by omega) (by omega)).call ?_
 rw[hYv]
 simp(disch:=first|exact Xe|fail)only[↓Xa,Xb,Xc,↓reduceIte,Nat.reduceLT,Nat.reduceEqDiff,Nat.reduceBEq,Nat.reduceLeDiff,Nat.reduceAdd,Nat.reduceMul]
 refine(zQm ta ha (by omega) (by omega)).call ?_
 have hV0:0<Bv*2^s:=Nat.mul_pos h0 (Nat.pow_pos (by omega))
 have hlv:=zAG (B:=4294967296) (by omega) (Bv*2^s)
 have hvv:=zAJ (B:=4294967296) (by omega) (Bv*2^s)
 have hlu:=zAG (B:=4294967296) (by omega) (val 4294967296 a*2^s)
 have hvu:=zAJ (B:=4294967296) (by omega) (val 4294967296 a*2^s)
 have hAB:Bv*2^s≤val 4294967296 a*2^s:=Nat.mul_le_mul_right _ (by omega)
 have hll:(digs 4294967296 (Bv*2^s)).length≤(digs 4294967296 (val 4294967296 a*2^s)).length:=by
  rcases Nat.lt_or_ge (digs 4294967296 (val 4294967296 a*2^s)).length (digs 4294967296 (Bv*2^s)).length with h|h
  ·have:=zBL (by omega) h;omega
  ·exact h
 have hul:(digs 4294967296 (val 4294967296 a*2^s)).length≤a.length+1:=zAu (by omega) _ _ (by
  have h1:=zA5 ha
  have h2:(2:Nat)^s≤2^32:=Nat.pow_le_pow_right (by omega) hs32
  rw[Nat.pow_succ]
  exact Nat.mul_lt_mul_of_lt_of_le h1 h2 (by omega))
 rw[w1]at hll
 have hdiv:val 4294967296 a*2^s / (Bv*2^s)=val 4294967296 a / Bv:=Nat.mul_div_mul_right _ _ (Nat.pow_pos (by omega))
 have hmod:val 4294967296 a*2^s%(Bv*2^s) / 2^s=val 4294967296 a%Bv:=by
  rw[Nat.mul_mod_mul_right,Nat.mul_div_cancel _ (Nat.pow_pos (by omega))]
 generalize val 4294967296 a*2^s=T at*
 generalize Bv*2^s=V at*
 generalize digs 4294967296 V=v at*
 generalize hn:(digs 4294967296 Bv).length=n at*
 generalize digs 4294967296 T=u0 at*
 simp(disch:=first|exact Xe|fail)only[↓Xa,Xb,Xc,↓reduceIte,Nat.reduceLT,Nat.reduceEqDiff,Nat.reduceBEq,Nat.reduceLeDiff,Nat.reduceAdd,Nat.reduceMul]
 refine zZS (l:=u0) (m:=[0]) rfl (by simp) (by simp;omega) fun bu hbu=>?_
 obtain⟨k0,hk0⟩: ∃k0,u0.length=n+k0:=⟨u0.length-n,by omega⟩
 have hum:u0.length+[0].length=n+k0+1:=by simp[hk0]
 rw[hum]
 have hdn:n+k0+1-n=k0+1:=by omega
 simp(disch:=first|exact Xe|fail)only[w1,hdn,↓Xa,Xb,Xc,↓reduceIte,Nat.reduceLT,Nat.reduceEqDiff,Nat.reduceBEq,Nat.reduceLeDiff,Nat.reduceAdd,Nat.reduceMul]
 refine zDe fun bq hbq=>?_
 have nb:=hbq
 simp only[zAB]at nb
 obtain⟨nbA,nbq⟩:=nb
 simp(disch:=first|exact Xe|fail)only[hdn,Nat.add_sub_cancel,↓Xa,Xb,Xc,↓reduceIte,Nat.reduceLT,Nat.reduceEqDiff,Nat.reduceBEq,Nat.reduceLeDiff,Nat.reduceAdd,Nat.reduceMul]
 have hlz:(u0++[0]).length=n+k0+1:=by simp[hk0]
 refine zAO (fun z:Nat×List Nat×List Nat=>⟨[],[(10,.int .i64 s),(11,LS v true),(13,.own bu (n+k0+1) 0 (n+k0+1) false),(15,.int .i64 n),(16,.own bq (k0+1) 0 (k0+1) true),(17,.int .i64 (dn z.1))],
  (H.upd bu (some (.row 168 1 (U z.2.1)))).upd bq (some (.row 168 1 (U z.2.2)))⟩)
  (fun z=>DivK T V n k0 z.1 z.2.1 z.2.2) (fun z=>z.1) (k0+1,u0++[0],List.replicate (k0+1) 0) (Settle.now rfl) ?_ ?_
 ·refine⟨Nat.le_refl _,hlz,zBa hlu (by omega),by simp,zB5 (by omega) _,?_,?_⟩
  ·
   have e:=zBH 4294967296 (u0.drop (k0+1)) [0]
   have h1:=zA5 (hlu.drop (k0+1))
   rw[List.length_drop]at h1
   have h2:(u0++[0]).drop (k0+1)=u0.drop (k0+1)++[0]:=by rw[List.drop_append_of_le_length (by omega)]
   rw[h2,e,zEw,Nat.mul_zero,Nat.add_zero]
   have h3:=zIM (B:=4294967296) (l:=v) (n:=n-1) (by omega)
   rw[hvv]at h3
   have h4:4294967296^(n-1)*1≤4294967296^(n-1)*v.getD (n-1) 0:=Nat.mul_le_mul_left _ (by omega)
   rw[show u0.length-(k0+1)=n-1 by omega]at h1
   omega
  ·have z:val 4294967296 []=0:=rfl
   show T=V*(4294967296^(k0+1)*val 4294967296 ((List.replicate (k0+1) 0).drop (k0+1)))+val 4294967296 (u0++[0])
   rw[List.drop_of_length_le (Nat.le_of_eq List.length_replicate),zBK,hvu,z,Nat.mul_zero,Nat.mul_zero,Nat.mul_zero,Nat.zero_add,Nat.add_zero]
 rintro⟨M,ul,ql⟩ hk
 dsimp only at hk ⊢
 have hu1:=hk.ulen
 have hq1:=hk.qlen
 cases M with
 |zero=>
  obtain⟨d1,d2⟩:=hk.end
  simp(disch:=first|exact Xe|fail)only[↓Xa,Xb,Xc,↓reduceIte,Nat.reduceLT,Nat.reduceEqDiff,Nat.reduceBEq,Nat.reduceLeDiff,Nat.reduceAdd,Nat.reduceMul]
  refine Settle.freeze 13 rfl (by rw[zBZ nbA.symm,zAC]) (by simp[hu1]) (.inr (by simp)) ?_
  have e1:AV.seq (n+k0+1) (((U ul).drop 0).take ((n+k0+1)*1)) false=LS ul false:=by
   rw[List.drop_zero,Nat.mul_one,← hu1,List.take_of_length_le (by simp)];rfl
  rw[e1,zDj nbA,zAZ H hbu]
  refine Settle.now ?_
  simp(disch:=first|exact Xe|fail)only[↓Xa,Xb,Xc,↓reduceIte,Nat.reduceLT,Nat.reduceEqDiff,Nat.reduceBEq,Nat.reduceLeDiff,Nat.reduceAdd,Nat.reduceMul]
  refine(zVC false hk.ulim (by omega) (by omega)).call ?_
  rw[d2,hmod]
  simp(disch:=first|exact Xe|fail)only[↓Xa,Xb,Xc,↓reduceIte,Nat.reduceLT,Nat.reduceEqDiff,Nat.reduceBEq,Nat.reduceLeDiff,Nat.reduceAdd,Nat.reduceMul]
  refine zCP (zAC _ _ _) hq1 ?_
  simp(disch:=first|exact Xe|fail)only[zUZ,↓Xa,Xb,Xc,↓reduceIte,Nat.reduceLT,Nat.reduceEqDiff,Nat.reduceBEq,Nat.reduceLeDiff,Nat.reduceAdd,Nat.reduceMul]
  refine zXu nbq hq1 ?_
  rw[zAt (by omega) hk.qlim,d1,hdiv]
  exact hq
 |succ k=>
  have hM:=hk.hM
  have hkl:k≤k0:=by omega
  obtain⟨s1,s2,s3⟩:=hk.seg w2
  have hseg:((ul.drop k).take (n+1)).length=n+1:=by rw[List.length_take,List.length_drop];omega
  have hparts:ul=ul.take k++((ul.drop k).take (n+1)++ul.drop (k+(n+1))):=by
   rw[← List.drop_drop,List.take_append_drop,List.take_append_drop]
  have hD:DigI ((ul.drop k).take (n+1)) v (n-2):=by
   refine⟨by omega,by omega,(hk.ulim.drop k).take _,hlv,?_,?_⟩
   ·rw[show n-2+1=n-1 by omega];exact w3
   ·rw[s1,hvv];exact s2
  have hkn:k+n+1-k=n+1:=by omega
  have hpre:(ul.take k).length=k:=by rw[List.length_take];omega
  simp(disch:=first|exact Xe|fail)only[hkn,↓Xa,Xb,Xc,↓reduceIte,Nat.reduceLT,Nat.reduceEqDiff,Nat.reduceBEq,Nat.reduceLeDiff,Nat.reduceAdd,Nat.reduceMul]
  refine zAM (zQY (pre:=ul.take k) (u:=(ul.drop k).take (n+1)) (post:=ul.drop (k+(n+1))) true hD (by rw[zBZ nbA.symm,zAC,← hparts]) (by rw[hpre,hseg,List.length_drop];omega) hpre.symm hseg.symm (by omega) fun w g1 g2 g3=>?_)
  rw[hseg]at g1
  rw[hvv]at g3 ⊢
  have hqd:val 4294967296 ((ul.drop k).take (n+1)) / V<4294967296:=Nat.div_lt_of_lt_mul (by rw[s1,Nat.mul_comm];exact s2)
  have stp:=hk.step w2 hV0 g1 g2 g3 rfl
  rw[Nat.mod_eq_of_lt hqd]at stp
  generalize val 4294967296 ((ul.drop k).take (n+1)) / V=qd at*
  simp(disch:=first|exact Xe|fail)only[↓Xa,Xb,Xc,↓reduceIte,Nat.reduceLT,Nat.reduceEqDiff,Nat.reduceBEq,Nat.reduceLeDiff,Nat.reduceAdd,Nat.reduceMul]
  exact Settle.keep [10,11,13,15,16,17] ⟨(k,_,_),by dsimp only;omega,stp,rfl⟩
theorem zI1{a b:List Nat}(ta tb:Bool)(ha:Lim 4294967296 a)(hb:Lim 4294967296 b)(h0:0<val 4294967296 b)(hla:a.length≤549755813888)(hlb:b.length≤549755813888):
 PFn Tryz.prog 213 [LS a ta,LS b tb] (.tup [LS (digs 4294967296 (val 4294967296 a / val 4294967296 b)) true,LS (digs 4294967296 (val 4294967296 a%val 4294967296 b)) true,.int .i64 ((0:Nat):Int)]):=by
 by_cases hlt:val 4294967296 a<val 4294967296 b
 ·exact zRo ta tb ha hb h0 hla hlb hlt
 ·by_cases h1:(digs 4294967296 (val 4294967296 b)).length=1
  ·exact zNP ta tb ha hb h0 hla hlb hlt h1
  ·exact zKl ta tb ha hb h0 hla hlb hlt h1
def zAe(z:Int):AV:=.agg [.bool (decide (z<0)),LS (digs 4294967296 z.natAbs) true]
def sg(neg:Bool)(n:Nat):Int:=if neg then -(n:Int)else n
theorem zCv(neg:Bool)(n:Nat):(sg neg n).natAbs=n:=by cases neg<;>simp[sg]
theorem zWG(neg:Bool)(n:Nat):decide (sg neg n<0)=(neg&&decide (0<n)):=by cases neg<;>simp[sg]<;>omega
theorem zXp(z:Int):sg (decide (z<0)) z.natAbs=z:=by unfold sg;by_cases h:z<0<;>simp[h];omega;omega
theorem zLZ{z:Int}(h:0≤z):((z.natAbs:Nat):Int)=z:=by omega
theorem zLt{z:Int}(h:z≤0): -((z.natAbs:Nat):Int)=z:=by omega
theorem zXo(neg:Bool)(n:Nat):zAe (sg neg n)=.agg [.bool (neg&&decide (0<(digs 4294967296 n).length)),LS (digs 4294967296 n) true]:=by
 simp only[zAe,zCv,zWG,zFI (B:=4294967296) (n:=n) (by omega)]
def zBO(z:Int):AV:=.bool (decide (z<0))
def zBU(z:Int):AV:=LS (digs 4294967296 z.natAbs) true
theorem zE2{z:Int}:zAe z=.agg [zBO z,zBU z]:=id rfl
theorem zAE{z:Int}:(zAe z).cells=some [zBO z,zBU z]:=id rfl
theorem zAF{z:Int}:AV.agg [zBO z,zBU z]=zAe z:=id rfl
theorem zLR:AV.agg [.bool false,.seq 0 [] true]=zAe 0:=by simp[zAe,zAL,LS,U]
theorem zQh{z:Int}:(zBO z).cells=some [zBO z]:=id rfl
theorem zPG{z:Int}:(zBU z).cells=some [zBU z]:=id rfl
theorem zOv{z:Int}:(zBO z).cell=true:=id rfl
theorem zRn{z:Int}:(zBU z).cell=true:=id rfl
theorem zCA(neg:Bool)(n:Nat)(hl:(digs 4294967296 n).length≤1099511627776):PFn Tryz.prog 161 [.bool neg,LS (digs 4294967296 n) true] (zAe (sg neg n)):=by
 intro H Q hq
 refine zSw (by simp) ?_
 rw[zXo]at hq
 simp(disch:=first|exact Xe|fail)only[zbB,↓Xa,Xb,Xc,↓reduceIte,Nat.reduceLT,Nat.reduceEqDiff,Nat.reduceBEq,Nat.reduceLeDiff,Nat.reduceAdd,Nat.reduceMul]
 refine zAD fun p hp=>?_
 cases neg
 ·simp(disch:=first|exact Xe|fail)only[zYb,↓Xa,Xb,Xc,↓reduceIte,Nat.reduceLT,Nat.reduceEqDiff,Nat.reduceBEq,Nat.reduceLeDiff,Nat.reduceAdd,Nat.reduceMul]
  exact SetR.dropTo ((Le.refl H).upd hp) (SetR.now hq)
 ·simp(disch:=first|exact Xe|fail)only[zYb,↓Xa,Xb,Xc,↓reduceIte,Nat.reduceLT,Nat.reduceEqDiff,Nat.reduceBEq,Nat.reduceLeDiff,Nat.reduceAdd,Nat.reduceMul]
  exact SetR.dropTo ((Le.refl H).upd hp) (SetR.now hq)
def Bd(k:Nat)(z:Int):Prop:=z.natAbs<4294967296^k
theorem Bd.len{k:Nat}{z:Int}(h:Bd k z):(digs 4294967296 z.natAbs).length≤k:=zAu (by omega) k _ h
theorem Bd.mono{k k':Nat}{z:Int}(h:Bd k z)(hk:k≤k'):Bd k' z:=Nat.lt_of_lt_of_le h (Nat.pow_le_pow_right (by omega) hk)
theorem Bd.neg{k:Nat}{z:Int}(h:Bd k z):Bd k (-z):=by unfold Bd at *; omega
theorem Bd.sgn{k n:Nat}{b:Bool}(h:n<4294967296^k):Bd k (sg b n):=by unfold Bd;rw[zCv];exact h
theorem Bd.abs{k:Nat}{z:Int}(h:Bd k z):Bd k (z.natAbs:Int):=by unfold Bd at *; omega
theorem Bd.add{k:Nat}{x y:Int}(h:Bd k x)(h':Bd k y):Bd (k+1) (x+y):=by
 unfold Bd at *; rw[Nat.pow_succ];omega
theorem Bd.sub{k:Nat}{x y:Int}(h:Bd k x)(h':Bd k y):Bd (k+1) (x-y):=by
 unfold Bd at *; rw[Nat.pow_succ];omega
theorem Bd.mul{k k':Nat}{x y:Int}(h:Bd k x)(h':Bd k' y):Bd (k+k') (x*y):=by
 unfold Bd at *; rw[Int.natAbs_mul,Nat.pow_add]
 exact Nat.mul_lt_mul_of_lt_of_lt h h'
theorem Bd.zero(k:Nat):Bd k 0:=by unfold Bd;exact Nat.pow_pos (by omega)
theorem Bd.i64{n:Int}(h: -9223372036854775808≤n∧n<9223372036854775808):Bd 2 n:=by unfold Bd;omega
theorem zYQ{l:List Nat}(neg t:Bool)(hl:Lim 4294967296 l)(hn:l.length≤1099511627776):PFn Tryz.prog 98 [.bool neg,LS l t] (zAe (sg neg (val 4294967296 l))):=by
 intro H Q hq
 refine zXc (by simp) ?_
 simp(disch:=first|exact Xe|fail)only[zgD,↓Xa,Xb,Xc,↓reduceIte,Nat.reduceLT,Nat.reduceEqDiff,Nat.reduceBEq,Nat.reduceLeDiff,Nat.reduceAdd,Nat.reduceMul]
 refine zAD fun p hp=>?_
 simp(disch:=first|exact Xe|fail)only[↓Xa,Xb,Xc,↓reduceIte,Nat.reduceLT,Nat.reduceEqDiff,Nat.reduceBEq,Nat.reduceLeDiff,Nat.reduceAdd,Nat.reduceMul]
 refine(zHn t (by omega)).call ?_
 rw[zAt (by omega) hl]
 simp(disch:=first|exact Xe|fail)only[↓Xa,Xb,Xc,↓reduceIte,Nat.reduceLT,Nat.reduceEqDiff,Nat.reduceBEq,Nat.reduceLeDiff,Nat.reduceAdd,Nat.reduceMul]
 refine(zCA neg _ (by have:=zFn l;rw[zAt (by omega) hl]at this;omega)).call ?_
 simp(disch:=first|exact Xe|fail)only[zfg,zAe,↓Xa,Xb,Xc,↓reduceIte,Nat.reduceLT,Nat.reduceEqDiff,Nat.reduceBEq,Nat.reduceLeDiff,Nat.reduceAdd,Nat.reduceMul]
 exact SetR.dropTo ((Le.refl H).upd hp) (SetR.now hq)
theorem zGo{n:Int}(hn: -9223372036854775808≤n∧n<9223372036854775808):PFn Tryz.prog 31 [.int .i64 n] (zAe n):=by
 intro H Q hq
 refine zYp (by simp) ?_
 have v2: ∀u:Nat,u<18446744073709551616→val 4294967296 [u%4294967296,u / 2^32]=u:=by
  intro u hu;simp only[val];omega
 have l2: ∀u:Nat,u<18446744073709551616→Lim 4294967296 [u%4294967296,u / 2^32]:=fun u hu=>Lim.cons (Nat.mod_lt _ (by omega)) (Lim.one (by omega))
 simp(disch:=first|exact Xe|fail)only[zf0,↓Xa,Xb,Xc,↓reduceIte,Nat.reduceLT,Nat.reduceEqDiff,Nat.reduceBEq,Nat.reduceLeDiff,Nat.reduceAdd,Nat.reduceMul]
 refine zAD fun p hp=>?_
 have key': ∀(u:Nat)(neg:Bool),u<18446744073709551616→sg neg u=n→∀{H K},K (zAe n) H→zBn Tryz.prog (.fn (.func 98) [] []) [.bool neg,.seq 2 [.int .u32 ((u%4294967296:Nat):Int),.int .u32 ((u / 2^32:Nat):Int)] true] H K:=by
  intro u neg hu hs H K hk
  have:=zYQ neg true (l2 u hu) (by simp)
  rw[v2 u hu,hs]at this
  exact this.call hk
 by_cases h0:n<0
 ·obtain⟨m,rfl⟩: ∃m:Nat,n= -(m:Int):=⟨n.natAbs,by omega⟩
  have c1: ∀K,zEr .u64 (.int .i64 (-(m:Int))) K↔K (.int .u64 ((18446744073709551616-m:Nat):Int)):=fun K=>by
   simp only[zEr,zBy];rw[show(-(m:Int))%18446744073709551616=((18446744073709551616-m:Nat):Int) by omega]
  have c2: ∀K,unW .neg (.int .u64 ((18446744073709551616-m:Nat):Int)) K↔K (.int .u64 (m:Int)):=fun K=>by
   simp only[unW,zBy];rw[show(0-((18446744073709551616-m:Nat):Int))%18446744073709551616=(m:Int) by omega]
  have c3: ∀K,zAv .lss (.int .i64 (-(m:Int))) (.int .i64 ((0:Nat):Int)) K↔K (.bool true):=fun K=>by
   simp only[zAv,zAi,true_and];rw[decide_eq_true (by omega)]
  simp(disch:=first|exact Xe|fail)only[c1,c2,c3,↓Xa,Xb,Xc,↓reduceIte,Nat.reduceLT,Nat.reduceEqDiff,Nat.reduceBEq,Nat.reduceLeDiff,Nat.reduceAdd,Nat.reduceMul]
  refine key' m true (by omega) (by simp[sg]) ?_
  simp(disch:=first|exact Xe|fail)only[ze6,zAe,↓Xa,Xb,Xc,↓reduceIte,Nat.reduceLT,Nat.reduceEqDiff,Nat.reduceBEq,Nat.reduceLeDiff,Nat.reduceAdd,Nat.reduceMul]
  exact SetR.dropTo ((Le.refl H).upd hp) (SetR.now hq)
 ·obtain⟨m,rfl⟩: ∃m:Nat,n=(m:Int):=⟨n.natAbs,by omega⟩
  simp(disch:=first|exact Xe|fail)only[↓Xa,Xb,Xc,↓reduceIte,Nat.reduceLT,Nat.reduceEqDiff,Nat.reduceBEq,Nat.reduceLeDiff,Nat.reduceAdd,Nat.reduceMul]
  refine key' m false (by omega) (by simp[sg]) ?_
  simp(disch:=first|exact Xe|fail)only[ze6,zAe,↓Xa,Xb,Xc,↓reduceIte,Nat.reduceLT,Nat.reduceEqDiff,Nat.reduceBEq,Nat.reduceLeDiff,Nat.reduceAdd,Nat.reduceMul]
  exact SetR.dropTo ((Le.refl H).upd hp) (SetR.now hq)
theorem zQr{x:Int}{k:Nat}(hx:Bd k x)(hk:k≤549755813888):PFn Tryz.prog 149 [zAe x] (zAe (-x)):=by
 intro H Q hq
 have hl:=hx.len
 have e: -x=sg (!decide (x<0)) x.natAbs:=by unfold sg;by_cases h:x<0<;>simp[h]<;>omega
 rw[e]at hq
 refine zUx (by simp) ?_
 simp(disch:=first|exact Xe|fail)only[zc2,zAe,↓Xa,Xb,Xc,↓reduceIte,Nat.reduceLT,Nat.reduceEqDiff,Nat.reduceBEq,Nat.reduceLeDiff,Nat.reduceAdd,Nat.reduceMul]
 refine zAD fun p hp=>?_
 simp(disch:=first|exact Xe|fail)only[↓Xa,Xb,Xc,↓reduceIte,Nat.reduceLT,Nat.reduceEqDiff,Nat.reduceBEq,Nat.reduceLeDiff,Nat.reduceAdd,Nat.reduceMul]
 refine zAD fun p2 hp2=>?_
 have hne:=(zAB.1 hp2).1
 simp(disch:=first|exact Xe|fail)only[↓Xa,Xb,Xc,↓reduceIte,Nat.reduceLT,Nat.reduceEqDiff,Nat.reduceBEq,Nat.reduceLeDiff,Nat.reduceAdd,Nat.reduceMul]
 refine(zCA _ _ (by omega)).call ?_
 simp(disch:=first|exact Xe|fail)only[zbQ,zAe,↓Xa,Xb,Xc,↓reduceIte,Nat.reduceLT,Nat.reduceEqDiff,Nat.reduceBEq,Nat.reduceLeDiff,Nat.reduceAdd,Nat.reduceMul]
 exact SetR.dropTo (((Le.refl H).upd hp).upd hp2) (SetR.now hq)
theorem zZQ{x:Int}{k:Nat}(hx:Bd k x)(hk:k≤549755813888):PFn Tryz.prog 188 [zAe x] (zAe (x.natAbs:Int)):=by
 intro H Q hq
 have hl:=hx.len
 refine zUF (by simp) ?_
 simp(disch:=first|exact Xe|fail)only[zZ2,zAe,↓Xa,Xb,Xc,↓reduceIte,Nat.reduceLT,Nat.reduceEqDiff,Nat.reduceBEq,Nat.reduceLeDiff,Nat.reduceAdd,Nat.reduceMul]
 refine zAD fun p hp=>?_
 simp(disch:=first|exact Xe|fail)only[↓Xa,Xb,Xc,↓reduceIte,Nat.reduceLT,Nat.reduceEqDiff,Nat.reduceBEq,Nat.reduceLeDiff,Nat.reduceAdd,Nat.reduceMul]
 refine zAD fun p2 hp2=>?_
 have hne:=(zAB.1 hp2).1
 simp(disch:=first|exact Xe|fail)only[↓Xa,Xb,Xc,↓reduceIte,Nat.reduceLT,Nat.reduceEqDiff,Nat.reduceBEq,Nat.reduceLeDiff,Nat.reduceAdd,Nat.reduceMul]
 refine(zCA false _ (by omega)).call ?_
 simp(disch:=first|exact Xe|fail)only[zaN,zAe,↓Xa,Xb,Xc,↓reduceIte,Nat.reduceLT,Nat.reduceEqDiff,Nat.reduceBEq,Nat.reduceLeDiff,Nat.reduceAdd,Nat.reduceMul]
 exact SetR.dropTo (((Le.refl H).upd hp).upd hp2) (SetR.now (by simpa[zAe,sg]using hq))
def zGl(x:Int):Int:=if x=0 then((0:Nat):Int)else if x<0 then -1 else((1:Nat):Int)
theorem zC2{x:Int}{k:Nat}(hx:Bd k x)(hk:k≤549755813888):PFn Tryz.prog 52 [zAe x] (.int .i64 (zGl x)):=by
 intro H Q hq
 have hl:=hx.len
 have h0:=zEg (B:=4294967296) (n:=x.natAbs) (by omega)
 refine zYG (by simp) ?_
 simp(disch:=first|exact Xe|fail)only[zfz,zAe,↓Xa,Xb,Xc,↓reduceIte,Nat.reduceLT,Nat.reduceEqDiff,Nat.reduceBEq,Nat.reduceLeDiff,Nat.reduceAdd,Nat.reduceMul]
 refine zAD fun p hp=>?_
 by_cases hz:x=0
 ·have h1:(digs 4294967296 x.natAbs).length=0:=by rw[h0];omega
  simp(disch:=first|exact Xe|fail)only[zdP,h1,↓Xa,Xb,Xc,↓reduceIte,Nat.reduceLT,Nat.reduceEqDiff,Nat.reduceBEq,Nat.reduceLeDiff,Nat.reduceAdd,Nat.reduceMul]
  refine SetR.dropTo ((Le.refl H).upd hp) (SetR.now ?_)
  simpa[zGl,hz]using hq
 ·have h1:((digs 4294967296 x.natAbs).length=0)=False:=by rw[h0];simp;omega
  by_cases hn:x<0
  ·simp(disch:=first|exact Xe|fail)only[zdP,h1,hn,↓Xa,Xb,Xc,↓reduceIte,Nat.reduceLT,Nat.reduceEqDiff,Nat.reduceBEq,Nat.reduceLeDiff,Nat.reduceAdd,Nat.reduceMul]
   refine SetR.dropTo ((Le.refl H).upd hp) (SetR.now ?_)
   simpa[zGl,hz,hn]using hq
  ·simp(disch:=first|exact Xe|fail)only[zdP,h1,hn,↓Xa,Xb,Xc,↓reduceIte,Nat.reduceLT,Nat.reduceEqDiff,Nat.reduceBEq,Nat.reduceLeDiff,Nat.reduceAdd,Nat.reduceMul]
   refine SetR.dropTo ((Le.refl H).upd hp) (SetR.now ?_)
   simpa[zGl,hz,hn]using hq
def zOQ(x y:Int):Int:=if x<y then -1 else if y<x then((1:Nat):Int)else((0:Nat):Int)
theorem zYm{x y:Int}{k k':Nat}(hx:Bd k x)(hk:k≤549755813888)(hy:Bd k' y)(hk':k'≤549755813888):PFn Tryz.prog 46 [zAe x,zAe y] (.int .i64 (zOQ x y)):=by
 intro H Q hq
 have hl:=hx.len
 have hl':=hy.len
 have vx:=zAJ (B:=4294967296) (by omega) x.natAbs
 have vy:=zAJ (B:=4294967296) (by omega) y.natAbs
 have lx:=zAG (B:=4294967296) (by omega) x.natAbs
 have ly:=zAG (B:=4294967296) (by omega) y.natAbs
 refine zX7 (by simp) ?_
 simp(disch:=first|exact Xe|fail)only[zgK,zAe,↓Xa,Xb,Xc,↓reduceIte,Nat.reduceLT,Nat.reduceEqDiff,Nat.reduceBEq,Nat.reduceLeDiff,Nat.reduceAdd,Nat.reduceMul]
 refine zAD fun p hp=>?_
 simp(disch:=first|exact Xe|fail)only[↓Xa,Xb,Xc,↓reduceIte,Nat.reduceLT,Nat.reduceEqDiff,Nat.reduceBEq,Nat.reduceLeDiff,Nat.reduceAdd,Nat.reduceMul]
 refine zAD fun p2 hp2=>?_
 have hne:=(zAB.1 hp2).1
 have fin: ∀v,zOQ x y=v→SetR Q (.int .i64 v) ((H.upd p (some (.row 48 0 [.bool (decide (x<0)),LS (digs 4294967296 x.natAbs) true]))).upd p2 (some (.row 48 0 [.bool (decide (y<0)),LS (digs 4294967296 y.natAbs) true]))):=fun v hv=>SetR.dropTo (((Le.refl H).upd hp).upd hp2) (SetR.now (hv▸hq))
 by_cases hn:x<0
 ·by_cases hn':y<0
  ·simp(disch:=first|exact Xe|fail)only[hn,hn',↓Xa,Xb,Xc,↓reduceIte,Nat.reduceLT,Nat.reduceEqDiff,Nat.reduceBEq,Nat.reduceLeDiff,Nat.reduceAdd,Nat.reduceMul]
   refine(zF9 true true ly lx).call ?_
   rw[vx,vy]
   have:zOQ x y=zBt y.natAbs x.natAbs:=by unfold zOQ zBt;split<;>split<;>first|rfl|omega|(split<;>first|rfl|omega|(split<;>first|rfl|omega))
   simp only[hn,hn',decide_true]at fin
   simp(disch:=first|exact Xe|fail)only[zcS,↓Xa,Xb,Xc,↓reduceIte,Nat.reduceLT,Nat.reduceEqDiff,Nat.reduceBEq,Nat.reduceLeDiff,Nat.reduceAdd,Nat.reduceMul]
   exact fin _ this
  ·simp(disch:=first|exact Xe|fail)only[hn,hn',zcS,↓Xa,Xb,Xc,↓reduceIte,Nat.reduceLT,Nat.reduceEqDiff,Nat.reduceBEq,Nat.reduceLeDiff,Nat.reduceAdd,Nat.reduceMul]
   simp only[hn,hn',decide_true,decide_false]at fin
   exact fin _ (by unfold zOQ;rw[if_pos (by omega)])
 ·by_cases hn':y<0
  ·simp(disch:=first|exact Xe|fail)only[hn,hn',zcS,↓Xa,Xb,Xc,↓reduceIte,Nat.reduceLT,Nat.reduceEqDiff,Nat.reduceBEq,Nat.reduceLeDiff,Nat.reduceAdd,Nat.reduceMul]
   simp only[hn,hn',decide_true,decide_false]at fin
   exact fin _ (by unfold zOQ;rw[if_neg (by omega),if_pos (by omega)])
  ·simp(disch:=first|exact Xe|fail)only[hn,hn',↓Xa,Xb,Xc,↓reduceIte,Nat.reduceLT,Nat.reduceEqDiff,Nat.reduceBEq,Nat.reduceLeDiff,Nat.reduceAdd,Nat.reduceMul]
   refine(zF9 true true lx ly).call ?_
   rw[vx,vy]
   have:zOQ x y=zBt x.natAbs y.natAbs:=by unfold zOQ zBt;split<;>split<;>first|rfl|omega|(split<;>first|rfl|omega|(split<;>first|rfl|omega))
   simp only[hn,hn',decide_false]at fin
   simp(disch:=first|exact Xe|fail)only[zcS,↓Xa,Xb,Xc,↓reduceIte,Nat.reduceLT,Nat.reduceEqDiff,Nat.reduceBEq,Nat.reduceLeDiff,Nat.reduceAdd,Nat.reduceMul]
   exact fin _ this
theorem zFp{x y:Int}{k k':Nat}(hx:Bd k x)(hk:k≤549755813888)(hy:Bd k' y)(hk':k'≤549755813888):PFn Tryz.prog 138 [zAe x,zAe y] (zAe (x+y)):=by
 intro H Q hq
 have hl:=hx.len
 have hl':=hy.len
 have vx:=zAJ (B:=4294967296) (by omega) x.natAbs
 have vy:=zAJ (B:=4294967296) (by omega) y.natAbs
 have lx:=zAG (B:=4294967296) (by omega) x.natAbs
 have ly:=zAG (B:=4294967296) (by omega) y.natAbs
 have hxm:=hx.mono (Nat.le_max_left k k')
 have hym:=hy.mono (Nat.le_max_right k k')
 refine zTm (by simp) ?_
 simp(disch:=first|exact Xe|fail)only[zb1,zAe,↓Xa,Xb,Xc,↓reduceIte,Nat.reduceLT,Nat.reduceEqDiff,Nat.reduceBEq,Nat.reduceLeDiff,Nat.reduceAdd,Nat.reduceMul]
 refine zAD fun p hp=>?_
 simp(disch:=first|exact Xe|fail)only[↓Xa,Xb,Xc,↓reduceIte,Nat.reduceLT,Nat.reduceEqDiff,Nat.reduceBEq,Nat.reduceLeDiff,Nat.reduceAdd,Nat.reduceMul]
 refine zAD fun p2 hp2=>?_
 simp(disch:=first|exact Xe|fail)only[↓Xa,Xb,Xc,↓reduceIte,Nat.reduceLT,Nat.reduceEqDiff,Nat.reduceBEq,Nat.reduceLeDiff,Nat.reduceAdd,Nat.reduceMul]
 refine zAD fun p3 hp3=>?_
 have hne:=(zAB.1 hp2).1
 have hne3:=(zAB.1 hp3).1
 have hne4:=(zAB.1 (zAB.1 hp3).2).1
 by_cases hs:decide (x<0)=decide (y<0)
 ·have hsb:(decide (x<0)==decide (y<0))=true:=by rw[hs];simp
  simp(disch:=first|exact Xe|fail)only[hsb,↓Xa,Xb,Xc,↓reduceIte,Nat.reduceLT,Nat.reduceEqDiff,Nat.reduceBEq,Nat.reduceLeDiff,Nat.reduceAdd,Nat.reduceMul]
  refine PFn.dcall (zaX true true lx ly (by omega) (by omega)) ?_
  rw[vx,vy]
  simp(disch:=first|exact Xe|fail)only[↓Xa,Xb,Xc,↓reduceIte,Nat.reduceLT,Nat.reduceEqDiff,Nat.reduceBEq,Nat.reduceLeDiff,Nat.reduceAdd,Nat.reduceMul]
  have hb:Bd (max k k'+1) (sg (decide (x<0)) (x.natAbs+y.natAbs)):=Bd.sgn (by unfold Bd at hxm hym;rw[Nat.pow_succ];omega)
  have hb':=hb.len
  rw[zCv]at hb'
  refine(zCA _ _ (by omega)).call ?_
  simp(disch:=first|exact Xe|fail)only[zTq,zAe,↓Xa,Xb,Xc,↓reduceIte,Nat.reduceLT,Nat.reduceEqDiff,Nat.reduceBEq,Nat.reduceLeDiff,Nat.reduceAdd,Nat.reduceMul]
  have e:x+y=sg (decide (x<0)) (x.natAbs+y.natAbs):=by
   have:=decide_eq_decide.1 hs
   unfold sg;by_cases h:x<0<;>simp[h]<;>omega
  rw[e]at hq
  exact SetR.dropTo ((((Le.refl H).upd hp).upd hp2).upd hp3) (SetR.now hq)
 ·have hsb:(decide (x<0)==decide (y<0))=false:=by simpa using hs
  have hs': ¬((x<0)↔(y<0)):=fun h=>hs (decide_eq_decide.2 h)
  simp(disch:=first|exact Xe|fail)only[hsb,↓Xa,Xb,Xc,↓reduceIte,Nat.reduceLT,Nat.reduceEqDiff,Nat.reduceBEq,Nat.reduceLeDiff,Nat.reduceAdd,Nat.reduceMul]
  refine(zF9 true true lx ly).call ?_
  rw[vx,vy]
  by_cases hc:x.natAbs<y.natAbs
  ·have c3: ∀K,zAv .lss (.int .i64 (zBt x.natAbs y.natAbs)) (.int .i64 ((0:Nat):Int)) K↔K (.bool true):=fun K=>by
    simp[zAv,zAi,zBt,hc]
   simp(disch:=first|exact Xe|fail)only[c3,↓Xa,Xb,Xc,↓reduceIte,Nat.reduceLT,Nat.reduceEqDiff,Nat.reduceBEq,Nat.reduceLeDiff,Nat.reduceAdd,Nat.reduceMul]
   refine(zWN true true ly lx (by rw[vx,vy];omega) (by omega) (by omega)).call ?_
   rw[vx,vy]
   simp(disch:=first|exact Xe|fail)only[↓Xa,Xb,Xc,↓reduceIte,Nat.reduceLT,Nat.reduceEqDiff,Nat.reduceBEq,Nat.reduceLeDiff,Nat.reduceAdd,Nat.reduceMul]
   have hb:Bd k' (sg (decide (y<0)) (y.natAbs-x.natAbs)):=Bd.sgn (by unfold Bd at hy;omega)
   have hb':=hb.len
   rw[zCv]at hb'
   refine(zCA _ _ (by omega)).call ?_
   simp(disch:=first|exact Xe|fail)only[zTq,zAe,↓Xa,Xb,Xc,↓reduceIte,Nat.reduceLT,Nat.reduceEqDiff,Nat.reduceBEq,Nat.reduceLeDiff,Nat.reduceAdd,Nat.reduceMul]
   have e:x+y=sg (decide (y<0)) (y.natAbs-x.natAbs):=by
    unfold sg;by_cases h:y<0<;>simp[h]<;>omega
   rw[e]at hq
   exact SetR.dropTo ((((Le.refl H).updB hp).updB (zAB.1 hp2).2).updB (zAB.1 (zAB.1 hp3).2).2) (SetR.now hq)
  ·have c3: ∀K,zAv .lss (.int .i64 (zBt x.natAbs y.natAbs)) (.int .i64 ((0:Nat):Int)) K↔K (.bool false):=fun K=>by
    have: ¬(zBt x.natAbs y.natAbs<0):=by unfold zBt;rw[if_neg hc];split<;>omega
    simp[zAv,zAi];rw[decide_eq_false this]
   simp(disch:=first|exact Xe|fail)only[c3,↓Xa,Xb,Xc,↓reduceIte,Nat.reduceLT,Nat.reduceEqDiff,Nat.reduceBEq,Nat.reduceLeDiff,Nat.reduceAdd,Nat.reduceMul]
   refine(zWN true true lx ly (by rw[vx,vy];omega) (by omega) (by omega)).call ?_
   rw[vx,vy]
   simp(disch:=first|exact Xe|fail)only[↓Xa,Xb,Xc,↓reduceIte,Nat.reduceLT,Nat.reduceEqDiff,Nat.reduceBEq,Nat.reduceLeDiff,Nat.reduceAdd,Nat.reduceMul]
   have hb:Bd k (sg (decide (x<0)) (x.natAbs-y.natAbs)):=Bd.sgn (by unfold Bd at hx;omega)
   have hb':=hb.len
   rw[zCv]at hb'
   refine(zCA _ _ (by omega)).call ?_
   simp(disch:=first|exact Xe|fail)only[zTq,zAe,↓Xa,Xb,Xc,↓reduceIte,Nat.reduceLT,Nat.reduceEqDiff,Nat.reduceBEq,Nat.reduceLeDiff,Nat.reduceAdd,Nat.reduceMul]
   have e:x+y=sg (decide (x<0)) (x.natAbs-y.natAbs):=by
    unfold sg;by_cases h:x<0<;>simp[h]<;>omega
   rw[e]at hq
   exact SetR.dropTo ((((Le.refl H).upd hp).upd hp2).upd hp3) (SetR.now hq)
theorem zLC{x y:Int}{k k':Nat}(hx:Bd k x)(hk:k≤549755813888)(hy:Bd k' y)(hk':k'≤549755813888):PFn Tryz.prog 150 [zAe x,zAe y] (zAe (x-y)):=by
 intro H Q hq
 refine zUr (by simp) ?_
 simp(disch:=first|exact Xe|fail)only[zcz,zAe,↓Xa,Xb,Xc,↓reduceIte,Nat.reduceLT,Nat.reduceEqDiff,Nat.reduceBEq,Nat.reduceLeDiff,Nat.reduceAdd,Nat.reduceMul]
 refine zAD fun p hp=>?_
 simp(disch:=first|exact Xe|fail)only[↓Xa,Xb,Xc,↓reduceIte,Nat.reduceLT,Nat.reduceEqDiff,Nat.reduceBEq,Nat.reduceLeDiff,Nat.reduceAdd,Nat.reduceMul]
 refine zAD fun p2 hp2=>?_
 simp(disch:=first|exact Xe|fail)only[↓Xa,Xb,Xc,↓reduceIte,Nat.reduceLT,Nat.reduceEqDiff,Nat.reduceBEq,Nat.reduceLeDiff,Nat.reduceAdd,Nat.reduceMul]
 refine zAD fun p3 hp3=>?_
 have hne:=(zAB.1 hp2).1
 have hne3:=(zAB.1 hp3).1
 have hne4:=(zAB.1 (zAB.1 hp3).2).1
 simp(disch:=first|exact Xe|fail)only[↓Xa,Xb,Xc,↓reduceIte,Nat.reduceLT,Nat.reduceEqDiff,Nat.reduceBEq,Nat.reduceLeDiff,Nat.reduceAdd,Nat.reduceMul]
 refine PFn.dcall (zQr hy hk') ?_
 simp(disch:=first|exact Xe|fail)only[↓Xa,Xb,Xc,↓reduceIte,Nat.reduceLT,Nat.reduceEqDiff,Nat.reduceBEq,Nat.reduceLeDiff,Nat.reduceAdd,Nat.reduceMul]
 refine(zFp hx hk hy.neg hk').call ?_
 simp(disch:=first|exact Xe|fail)only[zbw,zAe,↓Xa,Xb,Xc,↓reduceIte,Nat.reduceLT,Nat.reduceEqDiff,Nat.reduceBEq,Nat.reduceLeDiff,Nat.reduceAdd,Nat.reduceMul]
 exact SetR.dropTo ((((Le.refl H).upd hp).upd hp2).upd hp3) (SetR.now hq)
theorem zIR{x y:Int}{k k':Nat}(hx:Bd k x)(hk:k≤549755813888)(hy:Bd k' y)(hk':k'≤549755813888):PFn Tryz.prog 121 [zAe x,zAe y] (zAe (x*y)):=by
 intro H Q hq
 have hl:=hx.len
 have hl':=hy.len
 have vx:=zAJ (B:=4294967296) (by omega) x.natAbs
 have vy:=zAJ (B:=4294967296) (by omega) y.natAbs
 have lx:=zAG (B:=4294967296) (by omega) x.natAbs
 have ly:=zAG (B:=4294967296) (by omega) y.natAbs
 have hb:=(hx.mul hy).len
 refine zS3 (by simp) ?_
 simp(disch:=first|exact Xe|fail)only[zZx,zAe,↓Xa,Xb,Xc,↓reduceIte,Nat.reduceLT,Nat.reduceEqDiff,Nat.reduceBEq,Nat.reduceLeDiff,Nat.reduceAdd,Nat.reduceMul]
 refine zAD fun p hp=>?_
 simp(disch:=first|exact Xe|fail)only[↓Xa,Xb,Xc,↓reduceIte,Nat.reduceLT,Nat.reduceEqDiff,Nat.reduceBEq,Nat.reduceLeDiff,Nat.reduceAdd,Nat.reduceMul]
 refine zAD fun p2 hp2=>?_
 simp(disch:=first|exact Xe|fail)only[↓Xa,Xb,Xc,↓reduceIte,Nat.reduceLT,Nat.reduceEqDiff,Nat.reduceBEq,Nat.reduceLeDiff,Nat.reduceAdd,Nat.reduceMul]
 refine zAD fun p3 hp3=>?_
 have hne:=(zAB.1 hp2).1
 have hne3:=(zAB.1 hp3).1
 have hne4:=(zAB.1 (zAB.1 hp3).2).1
 simp(disch:=first|exact Xe|fail)only[↓Xa,Xb,Xc,↓reduceIte,Nat.reduceLT,Nat.reduceEqDiff,Nat.reduceBEq,Nat.reduceLeDiff,Nat.reduceAdd,Nat.reduceMul]
 refine PFn.dcall (zc1 true true lx ly (by omega) (by omega)) ?_
 rw[vx,vy]
 simp(disch:=first|exact Xe|fail)only[↓Xa,Xb,Xc,↓reduceIte,Nat.reduceLT,Nat.reduceEqDiff,Nat.reduceBEq,Nat.reduceLeDiff,Nat.reduceAdd,Nat.reduceMul]
 rw[Int.natAbs_mul]at hb
 refine(zCA _ _ (by omega)).call ?_
 have e:sg (!(decide (x<0)==decide (y<0))) (x.natAbs*y.natAbs)=x*y:=by
  rw[← Int.natAbs_mul]
  unfold sg
  by_cases h:x<0<;>by_cases h':y<0<;>simp[h,h']
  ·rw[zLZ (Int.mul_nonneg_of_nonpos_of_nonpos (by omega) (by omega))]
  ·rw[zLt (Int.mul_nonpos_of_nonpos_of_nonneg (by omega) (by omega))]
  ·rw[zLt (Int.mul_nonpos_of_nonneg_of_nonpos (by omega) (by omega))]
  ·rw[zLZ (Int.mul_nonneg (by omega) (by omega))]
 rw[e]
 simp(disch:=first|exact Xe|fail)only[zb8,zAe,↓Xa,Xb,Xc,↓reduceIte,Nat.reduceLT,Nat.reduceEqDiff,Nat.reduceBEq,Nat.reduceLeDiff,Nat.reduceAdd,Nat.reduceMul]
 exact SetR.dropTo ((((Le.refl H).upd hp).upd hp2).upd hp3) (SetR.now hq)
theorem zGR{x n:Int}{k:Nat}(hx:Bd k x)(hk:k≤549755813888)(hn: -9223372036854775808≤n∧n<9223372036854775808):PFn Tryz.prog 170 [zAe x,.int .i64 n] (zAe (x*n)):=by
 intro H Q hq
 refine zUW (by simp) ?_
 simp(disch:=first|exact Xe|fail)only[zbP,zAe,↓Xa,Xb,Xc,↓reduceIte,Nat.reduceLT,Nat.reduceEqDiff,Nat.reduceBEq,Nat.reduceLeDiff,Nat.reduceAdd,Nat.reduceMul]
 refine zAD fun p hp=>?_
 simp(disch:=first|exact Xe|fail)only[↓Xa,Xb,Xc,↓reduceIte,Nat.reduceLT,Nat.reduceEqDiff,Nat.reduceBEq,Nat.reduceLeDiff,Nat.reduceAdd,Nat.reduceMul]
 refine zAD fun p2 hp2=>?_
 have hne:=(zAB.1 hp2).1
 simp(disch:=first|exact Xe|fail)only[↓Xa,Xb,Xc,↓reduceIte,Nat.reduceLT,Nat.reduceEqDiff,Nat.reduceBEq,Nat.reduceLeDiff,Nat.reduceAdd,Nat.reduceMul]
 refine PFn.dcall (zGo hn) ?_
 simp(disch:=first|exact Xe|fail)only[↓Xa,Xb,Xc,↓reduceIte,Nat.reduceLT,Nat.reduceEqDiff,Nat.reduceBEq,Nat.reduceLeDiff,Nat.reduceAdd,Nat.reduceMul]
 refine(zIR hx hk (Bd.i64 hn) (by omega)).call ?_
 simp(disch:=first|exact Xe|fail)only[zbf,zAe,↓Xa,Xb,Xc,↓reduceIte,Nat.reduceLT,Nat.reduceEqDiff,Nat.reduceBEq,Nat.reduceLeDiff,Nat.reduceAdd,Nat.reduceMul]
 exact SetR.dropTo (((Le.refl H).upd hp).upd hp2) (SetR.now hq)
def zDg(z:Int)(t:Bool):AV:=.agg [.bool (decide (z<0)),LS (digs 65536 z.natAbs) t]
theorem zXF(neg:Bool)(n:Nat)(t:Bool):zDg (sg neg n) t=.agg [.bool (neg&&decide (0<(digs 65536 n).length)),LS (digs 65536 n) t]:=by
 simp only[zDg,zCv,zWG,zFI (B:=65536) (n:=n) (by omega)]
theorem zCZ{l:List Nat}(neg t:Bool)(hl:Lim 65536 l)(hn:l.length≤8796093022208):PFn Tryz.prog 147 [.bool neg,LS l t] (zDg (sg neg (val 65536 l)) false):=by
 intro H Q hq
 rw[zXF]at hq
 refine zLm (by simp) ?_
 simp(disch:=first|exact Xe|fail)only[zIV,↓Xa,Xb,Xc,↓reduceIte,Nat.reduceLT,Nat.reduceEqDiff,Nat.reduceBEq,Nat.reduceLeDiff,Nat.reduceAdd,Nat.reduceMul]
 refine zAD fun p hp=>?_
 simp(disch:=first|exact Xe|fail)only[↓Xa,Xb,Xc,↓reduceIte,Nat.reduceLT,Nat.reduceEqDiff,Nat.reduceBEq,Nat.reduceLeDiff,Nat.reduceAdd,Nat.reduceMul]
 refine zAO (fun n:Nat=>⟨[],[(0,.bool neg),(1,LS l t),(4,.ptr p 2 0),(5,.int .i64 n)],H.upd p (some (.row 44 0 [.bool false,.seq 0 [] true]))⟩) (fun n=>n≤l.length∧∀i,n≤i→i<l.length→l.getD i 0=0) id l.length (Settle.now rfl) ⟨Nat.le_refl _,fun i h1 h2=>absurd h1 (by omega)⟩ ?_
 rintro n ⟨h1,hz⟩
 have fin: ∀ti,(n=0∨l.getD (n-1) 0≠0)→SetR Q (.agg [.bool (neg&&decide (0<n)),LS (l.take n) ti]) (H.upd p (some (.row 44 0 [.bool (neg&&decide (0<n)),LS (l.take n) ti]))):=fun ti h=>by
  have e:=zGC h1 hz h
  have e2:n=(digs 65536 (val 65536 l)).length:=by
   have:=congrArg List.length e
   rw[List.length_take,Nat.min_eq_left h1,zAt (by omega) hl]at this;exact this
  rw[e,zAt (by omega) hl,e2]
  exact SetR.dropTo ((Le.refl H).upd hp) (SetR.loose (SetR.now hq))
 have last:(n=0∨l.getD (n-1) 0≠0)→W Tryz.prog (zBV (zBV (zBV zIV))) (zFF zKX Q) ⟨[],[(0,.bool neg),(1,LS l t),(4,.ptr p 2 0),(5,.int .i64 n),(17,.bool false)],H.upd p (some (.row 44 0 [.bool false,.seq 0 [] true]))⟩:=fun h=>by
  have f:=fun ti=>fin ti h
  cases neg
  ·simp(disch:=first|exact Xe|fail)only[zIV,zKX,zBV,↓Xa,Xb,Xc,↓reduceIte,Nat.reduceLT,Nat.reduceEqDiff,Nat.reduceBEq,Nat.reduceLeDiff,Nat.reduceAdd,Nat.reduceMul]
   exact f _
  ·simp(disch:=first|exact Xe|fail)only[zIV,zKX,zBV,↓Xa,Xb,Xc,↓reduceIte,Nat.reduceLT,Nat.reduceEqDiff,Nat.reduceBEq,Nat.reduceLeDiff,Nat.reduceAdd,Nat.reduceMul]
   exact f _
 by_cases h0:0<n
 ·by_cases h2:l.getD (n-1) 0=0
  ·simp(disch:=first|exact Xe|fail)only[h0,h2,↓Xa,Xb,Xc,↓reduceIte,Nat.reduceLT,Nat.reduceEqDiff,Nat.reduceBEq,Nat.reduceLeDiff,Nat.reduceAdd,Nat.reduceMul]
   refine Settle.now ⟨n-1,?_,⟨by omega,fun i hi hl'=>?_⟩,rfl⟩
   ·show n-1<n;omega
   ·rcases Nat.lt_or_ge i n with h|h
    ·rw[show i=n-1 by omega];exact h2
    ·exact hz i h hl'
  ·simp(disch:=first|exact Xe|fail)only[h0,h2,↓Xa,Xb,Xc,↓reduceIte,Nat.reduceLT,Nat.reduceEqDiff,Nat.reduceBEq,Nat.reduceLeDiff,Nat.reduceAdd,Nat.reduceMul]
   exact Settle.now (last (.inr h2))
 ·simp(disch:=first|exact Xe|fail)only[h0,↓Xa,Xb,Xc,↓reduceIte,Nat.reduceLT,Nat.reduceEqDiff,Nat.reduceBEq,Nat.reduceLeDiff,Nat.reduceAdd,Nat.reduceMul]
  exact Settle.now (last (.inl (by omega)))
theorem zIg{n:Int}{K:AV→Prop}:zAv .lss (.int .i64 n) (.int .i64 ((0:Nat):Int)) K↔K (.bool (decide (n<0))):=by
 simp only[zAv,zAi,true_and];exact Iff.rfl
theorem zL5{n:Int}(hn: -9223372036854775808≤n∧n<9223372036854775808):PFn Tryz.prog 82 [.int .i64 n] (zDg n false):=by
 intro H Q hq
 refine zXd (by simp) ?_
 rw[show zSb=.seq (zVM zSb) (.seq (zVM (zBV zSb)) (.seq (zVM (zBV (zBV zSb))) (zIQ (zBV (zBV (zBV zSb))))))from rfl]
 simp(disch:=first|exact Xe|fail)only[zVM,zBV,zSb,↓Xa,Xb,Xc,↓reduceIte,Nat.reduceLT,Nat.reduceEqDiff,Nat.reduceBEq,Nat.reduceLeDiff,Nat.reduceAdd,Nat.reduceMul]
 refine zAD fun p hp=>?_
 have tail: ∀(u0:Nat),u0<18446744073709551616→sg (decide (n<0)) u0=n→W Tryz.prog (zIQ (zBV (zBV (zBV zSb)))) (zFF zeV Q) ⟨[],[(0,.int .i64 n),(2,.ptr p 2 0),(3,.int .u64 u0)],H.upd p (some (.row 44 0 [.bool false,.seq 0 [] true]))⟩:=by
  intro u0 hu0 hs
  simp(disch:=first|exact Xe|fail)only[zSb,zBV,zIQ,↓Xa,Xb,Xc,↓reduceIte,Nat.reduceLT,Nat.reduceEqDiff,Nat.reduceBEq,Nat.reduceLeDiff,Nat.reduceAdd,Nat.reduceMul]
  refine zAO (fun s:Nat×List Nat×AV×AHeap=>⟨[],[(0,.int .i64 n),(2,.ptr p 2 0),(3,.int .u64 s.1),(4,s.2.2.1)],s.2.2.2⟩)
   (fun s=>grow (H.upd p (some (.row 44 0 [.bool false,.seq 0 [] true]))) 168 s.2.1 s.2.2.1 s.2.2.2∧Lim 65536 s.2.1∧val 65536 s.2.1+65536^s.2.1.length*s.1=u0∧s.2.1.length≤4∧s.1<65536^(4-s.2.1.length)) (fun s=>s.1)
   (u0,[],_,_) (Settle.now rfl) ⟨zDl,Lim.nil _,by simp[val],by simp,by simpa using hu0⟩ ?_
  rintro⟨u,done,x,H'⟩ ⟨hg,h1,h2,h3,h4⟩
  dsimp only at hg h1 h2 h3 h4 ⊢
  have hu:u<18446744073709551616:=by
   have:(65536:Nat)^(4-done.length)≤65536^4:=Nat.pow_le_pow_right (by omega) (by omega)
   omega
  by_cases h0:0<u
  ·have hm:u / 65536<18446744073709551616:=by omega
   have hr:u%65536<4294967296:=by omega
   simp(disch:=first|exact Xe|fail)only[h0,ne_eq,Nat.reduceEqDiff,↓Xa,Xb,Xc,↓reduceIte,Nat.reduceLT,Nat.reduceEqDiff,Nat.reduceBEq,Nat.reduceLeDiff,Nat.reduceAdd,Nat.reduceMul]
   refine zBF (m:=[u%65536]) hg rfl (by simp) (by simp;omega) fun x' H2 hg2=>?_
   simp(disch:=first|exact Xe|fail)only[ne_eq,Nat.reduceEqDiff,↓Xa,Xb,Xc,↓reduceIte,Nat.reduceLT,Nat.reduceEqDiff,Nat.reduceBEq,Nat.reduceLeDiff,Nat.reduceAdd,Nat.reduceMul]
   refine Settle.now ⟨(u / 65536,_,_,_),Nat.div_lt_self h0 (by omega),⟨hg2,zBa h1 (Nat.mod_lt _ (by omega)),?_,?_,?_⟩,rfl⟩
   ·rw[zBK,List.length_append,List.length_singleton,Nat.pow_succ,Nat.add_assoc,Nat.mul_assoc,← Nat.mul_add,Nat.mod_add_div];exact h2
   ·simp only[List.length_append,List.length_singleton]
    rcases Nat.lt_or_ge done.length 4 with e|e
    ·omega
    ·rw[show 4-done.length=0 by omega]at h4;simp at h4;omega
   ·simp only[List.length_append,List.length_singleton]
    rcases Nat.lt_or_ge done.length 4 with e|e
    ·rw[show 4-done.length=4-(done.length+1)+1 by omega,Nat.pow_succ]at h4
     exact Nat.div_lt_of_lt_mul (by rw[Nat.mul_comm];exact h4)
    ·rw[show 4-done.length=0 by omega]at h4;simp at h4;omega
  ·obtain rfl:u=0:=by omega
   rw[Nat.mul_zero,Nat.add_zero]at h2
   simp(disch:=first|exact Xe|fail)only[h0,↓Xa,Xb,Xc,↓reduceIte,Nat.reduceLT,Nat.reduceEqDiff,Nat.reduceBEq,Nat.reduceLeDiff,Nat.reduceAdd,Nat.reduceMul]
   refine Settle.grown 4 rfl hg (Settle.now ?_)
   simp(disch:=first|exact Xe|fail)only[zIg,↓Xa,Xb,Xc,↓reduceIte,Nat.reduceLT,Nat.reduceEqDiff,Nat.reduceBEq,Nat.reduceLeDiff,Nat.reduceAdd,Nat.reduceMul]
   refine(zCZ _ false h1 (by omega)).call ?_
   rw[h2,hs]
   simp(disch:=first|exact Xe|fail)only[zeV,zDg,↓Xa,Xb,Xc,↓reduceIte,Nat.reduceLT,Nat.reduceEqDiff,Nat.reduceBEq,Nat.reduceLeDiff,Nat.reduceAdd,Nat.reduceMul]
   exact SetR.dropTo ((Le.refl H).upd hp) (SetR.now hq)
 by_cases h0:n<0
 ·obtain⟨m,rfl⟩: ∃m:Nat,n= -(m:Int):=⟨n.natAbs,by omega⟩
  have c1: ∀K,zEr .u64 (.int .i64 (-(m:Int))) K↔K (.int .u64 ((18446744073709551616-m:Nat):Int)):=fun K=>by
   simp only[zEr,zBy];rw[show(-(m:Int))%18446744073709551616=((18446744073709551616-m:Nat):Int) by omega]
  have c2: ∀K,unW .neg (.int .u64 ((18446744073709551616-m:Nat):Int)) K↔K (.int .u64 (m:Int)):=fun K=>by
   simp only[unW,zBy];rw[show(0-((18446744073709551616-m:Nat):Int))%18446744073709551616=(m:Int) by omega]
  simp(disch:=first|exact Xe|fail)only[c1,c2,zIg,h0,↓Xa,Xb,Xc,↓reduceIte,Nat.reduceLT,Nat.reduceEqDiff,Nat.reduceBEq,Nat.reduceLeDiff,Nat.reduceAdd,Nat.reduceMul]
  exact tail m (by omega) (by simp only[sg,h0,decide_true,if_true])
 ·obtain⟨m,rfl⟩: ∃m:Nat,n=(m:Int):=⟨n.natAbs,by omega⟩
  simp(disch:=first|exact Xe|fail)only[h0,↓Xa,Xb,Xc,↓reduceIte,Nat.reduceLT,Nat.reduceEqDiff,Nat.reduceBEq,Nat.reduceLeDiff,Nat.reduceAdd,Nat.reduceMul]
  exact tail m (by omega) (by simp only[sg,h0,decide_false,Bool.false_eq_true,if_false])
theorem Bd.rlen{k:Nat}{z:Int}(h:Bd k z):(digs 65536 z.natAbs).length≤2*k:=zAu (by omega) _ _ (by
 unfold Bd at h;rw[Nat.pow_mul];exact h)
theorem zLN(m n:Nat)(ta tb:Bool)(hm:(digs 65536 m).length≤1099511627776)(hn:(digs 65536 n).length≤1099511627776):PFn Tryz.prog 191 [LS (digs 65536 m) ta,LS (digs 65536 n) tb] (.int .i64 (zBt m n)):=by
 intro H Q hq
 have hx:=zAG (B:=65536) (by omega) m
 have hy:=zAG (B:=65536) (by omega) n
 have vx:=zAJ (B:=65536) (by omega) m
 have vy:=zAJ (B:=65536) (by omega) n
 have lt1:=zBL (B:=65536) (a:=m) (b:=n) (by omega)
 have lt2:=zBL (B:=65536) (a:=n) (b:=m) (by omega)
 generalize digs 65536 m=x at*
 generalize digs 65536 n=y at*
 have less:m<n→SetR Q (.int .i64 (-1)) H:=fun h=>by
  have:zBt m n= -1:=by simp[zBt,h]
  rw[← this];exact SetR.now hq
 have more:n<m→SetR Q (.int .i64 ((1:Nat):Int)) H:=fun h=>by
  have:zBt m n=((1:Nat):Int):=by simp[zBt,h,Nat.not_lt_of_lt h]
  rw[← this];exact SetR.now hq
 refine zMO (by simp) ?_
 by_cases c0:x.length=y.length
 ·simp(disch:=first|exact Xe|fail)only[zKa,c0,↓Xa,Xb,Xc,↓reduceIte,Nat.reduceLT,Nat.reduceEqDiff,Nat.reduceBEq,Nat.reduceLeDiff,Nat.reduceAdd,Nat.reduceMul]
  refine zAO (fun k:Nat=>⟨[],[(0,LS x ta),(1,LS y tb),(5,.int .i64 (dn k))],H⟩) (fun k=>k≤x.length∧x.drop k=y.drop k) id y.length (Settle.now rfl) ⟨by omega,by rw[List.drop_of_length_le (by omega),List.drop_of_length_le (by omega)]⟩ ?_
  rintro k ⟨hk,hd⟩
  cases k with
  |zero=>
   simp(disch:=first|exact Xe|fail)only[↓Xa,Xb,Xc,↓reduceIte,Nat.reduceLT,Nat.reduceEqDiff,Nat.reduceBEq,Nat.reduceLeDiff,Nat.reduceAdd,Nat.reduceMul]
   refine Settle.now ?_
   simp(disch:=first|exact Xe|fail)only[zGj,↓Xa,Xb,Xc,↓reduceIte,Nat.reduceLT,Nat.reduceEqDiff,Nat.reduceBEq,Nat.reduceLeDiff,Nat.reduceAdd,Nat.reduceMul]
   have e:m=n:=by rw[← vx,← vy];rw[List.drop_zero,List.drop_zero]at hd;rw[hd]
   have:zBt m n=((0:Nat):Int):=by simp[zBt,e]
   rw[← this];exact SetR.now hq
  |succ k=>
   by_cases d1:x.getD k 0<y.getD k 0
   ·simp(disch:=first|exact Xe|fail)only[d1,zGj,↓Xa,Xb,Xc,↓reduceIte,Nat.reduceLT,Nat.reduceEqDiff,Nat.reduceBEq,Nat.reduceLeDiff,Nat.reduceAdd,Nat.reduceMul]
    exact less (by rw[← vx,← vy];exact zBw hx (by omega) k (by omega) c0 hd d1)
   by_cases d2:y.getD k 0<x.getD k 0
   ·simp(disch:=first|exact Xe|fail)only[d1,d2,zGj,↓Xa,Xb,Xc,↓reduceIte,Nat.reduceLT,Nat.reduceEqDiff,Nat.reduceBEq,Nat.reduceLeDiff,Nat.reduceAdd,Nat.reduceMul]
    exact more (by rw[← vx,← vy];exact zBw hy (by omega) k (by omega) c0.symm hd.symm d2)
   simp(disch:=first|exact Xe|fail)only[d1,d2,↓Xa,Xb,Xc,↓reduceIte,Nat.reduceLT,Nat.reduceEqDiff,Nat.reduceBEq,Nat.reduceLeDiff,Nat.reduceAdd,Nat.reduceMul]
   refine Settle.now ⟨k,Nat.lt_succ_self k,⟨by omega,?_⟩,rfl⟩
   rw[List.drop_eq_getElem_cons (by omega),List.drop_eq_getElem_cons (i:=k) (l:=y) (by omega),hd]
   congr 1
   have e1:x.getD k 0=x[k]:=by simp[List.getD_eq_getElem?_getD,List.getElem?_eq_getElem (show k<x.length by omega)]
   have e2:y.getD k 0=y[k]:=by simp[List.getD_eq_getElem?_getD,List.getElem?_eq_getElem (show k<y.length by omega)]
   omega
 ·by_cases c1:x.length<y.length
  ·simp(disch:=first|exact Xe|fail)only[zKa,c0,c1,zGj,↓Xa,Xb,Xc,↓reduceIte,Nat.reduceLT,Nat.reduceEqDiff,Nat.reduceBEq,Nat.reduceLeDiff,Nat.reduceAdd,Nat.reduceMul]
   exact less (lt1 c1)
  ·simp(disch:=first|exact Xe|fail)only[zKa,c0,c1,zGj,↓Xa,Xb,Xc,↓reduceIte,Nat.reduceLT,Nat.reduceEqDiff,Nat.reduceBEq,Nat.reduceLeDiff,Nat.reduceAdd,Nat.reduceMul]
   exact more (lt2 (by omega))
theorem zYh(m n:Nat)(ta tb:Bool)(hm:(digs 65536 m).length≤1099511627776)(hn:(digs 65536 n).length≤1099511627776):PFn Tryz.prog 202 [LS (digs 65536 m) ta,LS (digs 65536 n) tb] (LS (digs 65536 (m+n)) false):=by
 intro H Q hq
 have la:=zAG (B:=65536) (by omega) m
 have lb:=zAG (B:=65536) (by omega) n
 refine zTv (by simp) ?_
 simp(disch:=first|exact Xe|fail)only[zbZ,↓Xa,Xb,Xc,↓reduceIte,Nat.reduceLT,Nat.reduceEqDiff,Nat.reduceBEq,Nat.reduceLeDiff,Nat.reduceAdd,Nat.reduceMul]
 refine zAO (fun s:Nat×Nat×List Nat×AV×AHeap=>⟨[],[(0,LS (digs 65536 m) ta),(1,LS (digs 65536 n) tb),(5,s.2.2.2.1),(6,.int .u32 s.2.1),(7,.int .i64 s.1)],s.2.2.2.2⟩)
  (fun s=>s.1≤max (digs 65536 m).length (digs 65536 n).length+1∧(s.1=max (digs 65536 m).length (digs 65536 n).length+1→s.2.1=0)∧grow H 168 s.2.2.1 s.2.2.2.1 s.2.2.2.2∧PlusI (digs 65536 m) (digs 65536 n) s.1 s.2.1 s.2.2.1) (fun s=>max (digs 65536 m).length (digs 65536 n).length+1-s.1)
  (0,0,[],_,_) (Settle.now rfl) ⟨by dsimp only;omega,fun _=>rfl,zDl,PlusI.zero _ _⟩ ?_
 rintro⟨i,c,done,x,H'⟩ ⟨g0,g1,hg,h1⟩
 dsimp only at g0 g1 hg h1 ⊢
 have hd:=h1.1
 have hc:=h1.2.2.1
 have hx:=la.getD (by omega) i
 have hy:=lb.getD (by omega) i
 have nx: ∀s,s=c+(digs 65536 m).getD i 0+(digs 65536 n).getD i 0→max (digs 65536 m).length (digs 65536 n).length≤i→s / 65536=0:=by
  intro s hs hi
  have a:=zAk (show(digs 65536 m).length≤i by omega)
  have b:=zAk (show(digs 65536 n).length≤i by omega)
  rw[hs,a,b];omega
 by_cases hi:i<(digs 65536 m).length
 ·by_cases hj:i<(digs 65536 n).length
  ·simp(disch:=first|exact Xe|fail)only[hi,hj,ne_eq,Nat.reduceEqDiff,↓Xa,Xb,Xc,↓reduceIte,Nat.reduceLT,Nat.reduceEqDiff,Nat.reduceBEq,Nat.reduceLeDiff,Nat.reduceAdd,Nat.reduceMul]
   refine zBF (m:=[(c+(digs 65536 m).getD i 0+(digs 65536 n).getD i 0)%65536]) hg rfl (by simp) (by simp;omega) fun x' H2 hg2=>?_
   simp(disch:=first|exact Xe|fail)only[ne_eq,Nat.reduceEqDiff,↓Xa,Xb,Xc,↓reduceIte,Nat.reduceLT,Nat.reduceEqDiff,Nat.reduceBEq,Nat.reduceLeDiff,Nat.reduceAdd,Nat.reduceMul]
   refine Settle.now ⟨(i+1,_,_,_,_),by dsimp only;omega,⟨by dsimp only;omega,fun e=>nx _ rfl (by dsimp only at e;omega),hg2,h1.step (.inl hi) rfl⟩,rfl⟩
  ·have b:=zAk (show(digs 65536 n).length≤i by omega)
   simp(disch:=first|exact Xe|fail)only[hi,hj,ne_eq,Nat.reduceEqDiff,↓Xa,Xb,Xc,↓reduceIte,Nat.reduceLT,Nat.reduceEqDiff,Nat.reduceBEq,Nat.reduceLeDiff,Nat.reduceAdd,Nat.reduceMul]
   refine zBF (m:=[(c+(digs 65536 m).getD i 0)%65536]) hg rfl (by simp) (by simp;omega) fun x' H2 hg2=>?_
   simp(disch:=first|exact Xe|fail)only[ne_eq,Nat.reduceEqDiff,↓Xa,Xb,Xc,↓reduceIte,Nat.reduceLT,Nat.reduceEqDiff,Nat.reduceBEq,Nat.reduceLeDiff,Nat.reduceAdd,Nat.reduceMul]
   refine Settle.now ⟨(i+1,_,_,_,_),by dsimp only;omega,⟨by dsimp only;omega,fun e=>nx _ (by rw[b];rfl) (by dsimp only at e;omega),hg2,h1.step (.inl hi) (by rw[b];rfl)⟩,rfl⟩
 ·have a:=zAk (show(digs 65536 m).length≤i by omega)
  by_cases hj:i<(digs 65536 n).length
  ·simp(disch:=first|exact Xe|fail)only[hi,hj,ne_eq,Nat.reduceEqDiff,↓Xa,Xb,Xc,↓reduceIte,Nat.reduceLT,Nat.reduceEqDiff,Nat.reduceBEq,Nat.reduceLeDiff,Nat.reduceAdd,Nat.reduceMul]
   refine zBF (m:=[(c+(digs 65536 n).getD i 0)%65536]) hg rfl (by simp) (by simp;omega) fun x' H2 hg2=>?_
   simp(disch:=first|exact Xe|fail)only[ne_eq,Nat.reduceEqDiff,↓Xa,Xb,Xc,↓reduceIte,Nat.reduceLT,Nat.reduceEqDiff,Nat.reduceBEq,Nat.reduceLeDiff,Nat.reduceAdd,Nat.reduceMul]
   refine Settle.now ⟨(i+1,_,_,_,_),by dsimp only;omega,⟨by dsimp only;omega,fun e=>nx _ (by rw[a];rfl) (by dsimp only at e;omega),hg2,h1.step (.inr (.inl hj)) (by rw[a];rfl)⟩,rfl⟩
  ·have b:=zAk (show(digs 65536 n).length≤i by omega)
   by_cases h0:0<c
   ·simp(disch:=first|exact Xe|fail)only[hi,hj,h0,ne_eq,Nat.reduceEqDiff,↓Xa,Xb,Xc,↓reduceIte,Nat.reduceLT,Nat.reduceEqDiff,Nat.reduceBEq,Nat.reduceLeDiff,Nat.reduceAdd,Nat.reduceMul]
    refine zBF (m:=[c%65536]) hg rfl (by simp) (by simp;omega) fun x' H2 hg2=>?_
    simp(disch:=first|exact Xe|fail)only[ne_eq,Nat.reduceEqDiff,↓Xa,Xb,Xc,↓reduceIte,Nat.reduceLT,Nat.reduceEqDiff,Nat.reduceBEq,Nat.reduceLeDiff,Nat.reduceAdd,Nat.reduceMul]
    have:i≠max (digs 65536 m).length (digs 65536 n).length+1:=fun e=>by have:=g1 e;omega
    refine Settle.now ⟨(i+1,_,_,_,_),by dsimp only;omega,⟨by dsimp only;omega,fun e=>nx _ (by rw[a,b];rfl) (by dsimp only at e;omega),hg2,h1.step (.inr (.inr h0)) (by rw[a,b];rfl)⟩,rfl⟩
   ·obtain rfl:c=0:=by omega
    simp(disch:=first|exact Xe|fail)only[hi,hj,h0,↓Xa,Xb,Xc,↓reduceIte,Nat.reduceLT,Nat.reduceEqDiff,Nat.reduceBEq,Nat.reduceLeDiff,Nat.reduceAdd,Nat.reduceMul]
    refine Settle.grown 5 rfl hg (Settle.now ?_)
    simp(disch:=first|exact Xe|fail)only[zal,↓Xa,Xb,Xc,↓reduceIte,Nat.reduceLT,Nat.reduceEqDiff,Nat.reduceBEq,Nat.reduceLeDiff,Nat.reduceAdd,Nat.reduceMul]
    rw[h1.end (by omega) (by omega)]
    exact SetR.now hq
theorem zLi(m n:Nat)(ta tb:Bool)(hmn:n≤m)(hm:(digs 65536 m).length≤1099511627776):PFn Tryz.prog 201 [LS (digs 65536 m) ta,LS (digs 65536 n) tb] (LS (pad 65536 (m-n) (digs 65536 m).length) false):=by
 intro H Q hq
 have la:=zAG (B:=65536) (by omega) m
 have lb:=zAG (B:=65536) (by omega) n
 have va:=zAJ (B:=65536) (by omega) m
 have vb:=zAJ (B:=65536) (by omega) n
 have hlb:(digs 65536 n).length≤(digs 65536 m).length:=by
  rcases Nat.lt_or_ge (digs 65536 m).length (digs 65536 n).length with h|h
  ·have:=zBL (by omega) h;omega
  ·exact h
 refine zMn (by simp) ?_
 simp(disch:=first|exact Xe|fail)only[zW9,↓Xa,Xb,Xc,↓reduceIte,Nat.reduceLT,Nat.reduceEqDiff,Nat.reduceBEq,Nat.reduceLeDiff,Nat.reduceAdd,Nat.reduceMul]
 refine zAO (fun s:Nat×Nat×List Nat×AV×AHeap=>⟨[],[(0,LS (digs 65536 m) ta),(1,LS (digs 65536 n) tb),(5,s.2.2.2.1),(6,.int .u32 s.2.1),(7,.int .i64 s.1)],s.2.2.2.2⟩)
  (fun s=>s.1≤(digs 65536 m).length∧grow H 168 s.2.2.1 s.2.2.2.1 s.2.2.2.2∧MinI (digs 65536 m) (digs 65536 n) s.1 s.2.1 s.2.2.1) (fun s=>(digs 65536 m).length-s.1)
  (0,0,[],_,_) (Settle.now rfl) ⟨by simp,zDl,MinI.zero _ _⟩ ?_
 rintro⟨i,c,done,x,H'⟩ ⟨g0,hg,h1⟩
 dsimp only at g0 hg h1 ⊢
 have hd:=h1.1
 have hc:=h1.2.2.1
 have hx:=la.getD (by omega) i
 have hy:=lb.getD (by omega) i
 by_cases hi:i<(digs 65536 m).length
 ·by_cases hj:i<(digs 65536 n).length
  ·by_cases hv:(digs 65536 m).getD i 0<c+(digs 65536 n).getD i 0
   ·simp(disch:=first|exact Xe|fail)only[hi,hj,hv,↓Xa,Xb,Xc,↓reduceIte,Nat.reduceLT,Nat.reduceEqDiff,Nat.reduceBEq,Nat.reduceLeDiff,Nat.reduceAdd,Nat.reduceMul]
    refine zBF (m:=[(digs 65536 m).getD i 0+65536-(c+(digs 65536 n).getD i 0)]) hg rfl (by simp) (by simp;omega) fun x' H2 hg2=>?_
    simp(disch:=first|exact Xe|fail)only[↓Xa,Xb,Xc,↓reduceIte,Nat.reduceLT,Nat.reduceEqDiff,Nat.reduceBEq,Nat.reduceLeDiff,Nat.reduceAdd,Nat.reduceMul]
    refine Settle.now ⟨(i+1,1,_,_,_),by dsimp only;omega,⟨by dsimp only;omega,hg2,h1.step (c':=1) (by omega) rfl (by omega) (by omega)⟩,rfl⟩
   ·simp(disch:=first|exact Xe|fail)only[hi,hj,hv,↓Xa,Xb,Xc,↓reduceIte,Nat.reduceLT,Nat.reduceEqDiff,Nat.reduceBEq,Nat.reduceLeDiff,Nat.reduceAdd,Nat.reduceMul]
    refine zBF (m:=[(digs 65536 m).getD i 0-(c+(digs 65536 n).getD i 0)]) hg rfl (by simp) (by simp;omega) fun x' H2 hg2=>?_
    simp(disch:=first|exact Xe|fail)only[↓Xa,Xb,Xc,↓reduceIte,Nat.reduceLT,Nat.reduceEqDiff,Nat.reduceBEq,Nat.reduceLeDiff,Nat.reduceAdd,Nat.reduceMul]
    refine Settle.now ⟨(i+1,0,_,_,_),by dsimp only;omega,⟨by dsimp only;omega,hg2,h1.step (c':=0) (by omega) rfl (by omega) (by omega)⟩,rfl⟩
  ·have b:=zAk (show(digs 65536 n).length≤i by omega)
   by_cases hv:(digs 65536 m).getD i 0<c
   ·simp(disch:=first|exact Xe|fail)only[hi,hj,hv,↓Xa,Xb,Xc,↓reduceIte,Nat.reduceLT,Nat.reduceEqDiff,Nat.reduceBEq,Nat.reduceLeDiff,Nat.reduceAdd,Nat.reduceMul]
    refine zBF (m:=[(digs 65536 m).getD i 0+65536-c]) hg rfl (by simp) (by simp;omega) fun x' H2 hg2=>?_
    simp(disch:=first|exact Xe|fail)only[↓Xa,Xb,Xc,↓reduceIte,Nat.reduceLT,Nat.reduceEqDiff,Nat.reduceBEq,Nat.reduceLeDiff,Nat.reduceAdd,Nat.reduceMul]
    refine Settle.now ⟨(i+1,1,_,_,_),by dsimp only;omega,⟨by dsimp only;omega,hg2,h1.step (c':=1) (by omega) rfl (by omega) (by omega)⟩,rfl⟩
   ·simp(disch:=first|exact Xe|fail)only[hi,hj,hv,↓Xa,Xb,Xc,↓reduceIte,Nat.reduceLT,Nat.reduceEqDiff,Nat.reduceBEq,Nat.reduceLeDiff,Nat.reduceAdd,Nat.reduceMul]
    refine zBF (m:=[(digs 65536 m).getD i 0-c]) hg rfl (by simp) (by simp;omega) fun x' H2 hg2=>?_
    simp(disch:=first|exact Xe|fail)only[↓Xa,Xb,Xc,↓reduceIte,Nat.reduceLT,Nat.reduceEqDiff,Nat.reduceBEq,Nat.reduceLeDiff,Nat.reduceAdd,Nat.reduceMul]
    refine Settle.now ⟨(i+1,0,_,_,_),by dsimp only;omega,⟨by dsimp only;omega,hg2,h1.step (c':=0) (by omega) rfl (by omega) (by omega)⟩,rfl⟩
 ·obtain rfl:i=(digs 65536 m).length:=by omega
  simp(disch:=first|exact Xe|fail)only[hi,↓Xa,Xb,Xc,↓reduceIte,Nat.reduceLT,Nat.reduceEqDiff,Nat.reduceBEq,Nat.reduceLeDiff,Nat.reduceAdd,Nat.reduceMul]
  refine Settle.grown 5 rfl hg (Settle.now ?_)
  simp(disch:=first|exact Xe|fail)only[zYg,↓Xa,Xb,Xc,↓reduceIte,Nat.reduceLT,Nat.reduceEqDiff,Nat.reduceBEq,Nat.reduceLeDiff,Nat.reduceAdd,Nat.reduceMul]
  have e:=h1.end la hlb (by omega)
  rw[va,vb]at e
  rw[e]
  exact SetR.now hq
theorem zUR{x y:Int}{k k':Nat}(tx ty:Bool)(hx:Bd k x)(hk:k≤274877906944)(hy:Bd k' y)(hk':k'≤274877906944):PFn Tryz.prog 135 [zDg x tx,zDg y ty] (zDg (x+y) false):=by
 intro H Q hq
 have hl:=hx.rlen
 have hl':=hy.rlen
 have hxm:=hx.mono (Nat.le_max_left k k')
 have hym:=hy.mono (Nat.le_max_right k k')
 refine zSX (by simp) ?_
 simp(disch:=first|exact Xe|fail)only[zbo,zDg,↓Xa,Xb,Xc,↓reduceIte,Nat.reduceLT,Nat.reduceEqDiff,Nat.reduceBEq,Nat.reduceLeDiff,Nat.reduceAdd,Nat.reduceMul]
 refine zAD fun p hp=>?_
 simp(disch:=first|exact Xe|fail)only[↓Xa,Xb,Xc,↓reduceIte,Nat.reduceLT,Nat.reduceEqDiff,Nat.reduceBEq,Nat.reduceLeDiff,Nat.reduceAdd,Nat.reduceMul]
 refine zAD fun p2 hp2=>?_
 simp(disch:=first|exact Xe|fail)only[↓Xa,Xb,Xc,↓reduceIte,Nat.reduceLT,Nat.reduceEqDiff,Nat.reduceBEq,Nat.reduceLeDiff,Nat.reduceAdd,Nat.reduceMul]
 refine zAD fun p3 hp3=>?_
 have hne:=(zAB.1 hp2).1
 have hne3:=(zAB.1 hp3).1
 have hne4:=(zAB.1 (zAB.1 hp3).2).1
 by_cases hs:decide (x<0)=decide (y<0)
 ·have hsb:(decide (x<0)==decide (y<0))=true:=by rw[hs];simp
  simp(disch:=first|exact Xe|fail)only[hsb,↓Xa,Xb,Xc,↓reduceIte,Nat.reduceLT,Nat.reduceEqDiff,Nat.reduceBEq,Nat.reduceLeDiff,Nat.reduceAdd,Nat.reduceMul]
  refine PFn.dcall (zYh _ _ tx ty (by omega) (by omega)) ?_
  simp(disch:=first|exact Xe|fail)only[↓Xa,Xb,Xc,↓reduceIte,Nat.reduceLT,Nat.reduceEqDiff,Nat.reduceBEq,Nat.reduceLeDiff,Nat.reduceAdd,Nat.reduceMul]
  have hb:Bd (max k k'+1) (sg (decide (x<0)) (x.natAbs+y.natAbs)):=Bd.sgn (by unfold Bd at hxm hym;rw[Nat.pow_succ];omega)
  have hb':=hb.rlen
  rw[zCv]at hb'
  refine(zCZ _ false (zAG (by omega) _) (by omega)).call ?_
  rw[zAJ (by omega)]
  have e:x+y=sg (decide (x<0)) (x.natAbs+y.natAbs):=by
   have:=decide_eq_decide.1 hs
   unfold sg;by_cases h:x<0<;>simp[h]<;>omega
  rw[e]at hq
  simp(disch:=first|exact Xe|fail)only[zSv,zDg,↓Xa,Xb,Xc,↓reduceIte,Nat.reduceLT,Nat.reduceEqDiff,Nat.reduceBEq,Nat.reduceLeDiff,Nat.reduceAdd,Nat.reduceMul]
  exact SetR.dropTo ((((Le.refl H).upd hp).upd hp2).upd hp3) (SetR.now hq)
 ·have hsb:(decide (x<0)==decide (y<0))=false:=by simpa using hs
  have hs': ¬((x<0)↔(y<0)):=fun h=>hs (decide_eq_decide.2 h)
  simp(disch:=first|exact Xe|fail)only[hsb,↓Xa,Xb,Xc,↓reduceIte,Nat.reduceLT,Nat.reduceEqDiff,Nat.reduceBEq,Nat.reduceLeDiff,Nat.reduceAdd,Nat.reduceMul]
  refine(zLN _ _ tx ty (by omega) (by omega)).call ?_
  by_cases hc:x.natAbs<y.natAbs
  ·have c3: ∀K,zAv .geq (.int .i64 (zBt x.natAbs y.natAbs)) (.int .i64 ((0:Nat):Int)) K↔K (.bool false):=fun K=>by
    simp[zAv,zAi,zBt,hc]
   simp(disch:=first|exact Xe|fail)only[c3,↓Xa,Xb,Xc,↓reduceIte,Nat.reduceLT,Nat.reduceEqDiff,Nat.reduceBEq,Nat.reduceLeDiff,Nat.reduceAdd,Nat.reduceMul]
   refine PFn.dcall (zLi y.natAbs x.natAbs ty tx (by omega) (by omega)) ?_
   simp(disch:=first|exact Xe|fail)only[↓Xa,Xb,Xc,↓reduceIte,Nat.reduceLT,Nat.reduceEqDiff,Nat.reduceBEq,Nat.reduceLeDiff,Nat.reduceAdd,Nat.reduceMul]
   have hle:(digs 65536 (y.natAbs-x.natAbs)).length≤(digs 65536 y.natAbs).length:=zAu (by omega) _ _ (by
    have:=zA5 (zAG (B:=65536) (by omega) y.natAbs);rw[zAJ (by omega)]at this;omega)
   refine(zCZ _ false (zDP (by omega)) (by rw[zD8 hle];omega)).call ?_
   rw[zFE (by omega)]
   have e:x+y=sg (decide (y<0)) (y.natAbs-x.natAbs):=by
    unfold sg;by_cases h:y<0<;>simp[h]<;>omega
   rw[e]at hq
   simp(disch:=first|exact Xe|fail)only[zSv,zDg,↓Xa,Xb,Xc,↓reduceIte,Nat.reduceLT,Nat.reduceEqDiff,Nat.reduceBEq,Nat.reduceLeDiff,Nat.reduceAdd,Nat.reduceMul]
   exact SetR.dropTo ((((Le.refl H).upd hp).upd hp2).upd hp3) (SetR.now hq)
  ·have c3: ∀K,zAv .geq (.int .i64 (zBt x.natAbs y.natAbs)) (.int .i64 ((0:Nat):Int)) K↔K (.bool true):=fun K=>by
    have:(0:Int)≤zBt x.natAbs y.natAbs:=by unfold zBt;rw[if_neg hc];split<;>omega
    simp[zAv,zAi];rw[decide_eq_true this]
   simp(disch:=first|exact Xe|fail)only[c3,↓Xa,Xb,Xc,↓reduceIte,Nat.reduceLT,Nat.reduceEqDiff,Nat.reduceBEq,Nat.reduceLeDiff,Nat.reduceAdd,Nat.reduceMul]
   refine PFn.dcall (zLi x.natAbs y.natAbs tx ty (by omega) (by omega)) ?_
   simp(disch:=first|exact Xe|fail)only[↓Xa,Xb,Xc,↓reduceIte,Nat.reduceLT,Nat.reduceEqDiff,Nat.reduceBEq,Nat.reduceLeDiff,Nat.reduceAdd,Nat.reduceMul]
   have hle:(digs 65536 (x.natAbs-y.natAbs)).length≤(digs 65536 x.natAbs).length:=zAu (by omega) _ _ (by
    have:=zA5 (zAG (B:=65536) (by omega) x.natAbs);rw[zAJ (by omega)]at this;omega)
   refine(zCZ _ false (zDP (by omega)) (by rw[zD8 hle];omega)).call ?_
   rw[zFE (by omega)]
   have e:x+y=sg (decide (x<0)) (x.natAbs-y.natAbs):=by
    unfold sg;by_cases h:x<0<;>simp[h]<;>omega
   rw[e]at hq
   simp(disch:=first|exact Xe|fail)only[zSv,zDg,↓Xa,Xb,Xc,↓reduceIte,Nat.reduceLT,Nat.reduceEqDiff,Nat.reduceBEq,Nat.reduceLeDiff,Nat.reduceAdd,Nat.reduceMul]
   exact SetR.dropTo ((((Le.refl H).upd hp).upd hp2).upd hp3) (SetR.now hq)
theorem zIO{x y:Int}{k k':Nat}(tx ty:Bool)(hx:Bd k x)(hk:k≤274877906944)(hy:Bd k' y)(hk':k'≤274877906944):PFn Tryz.prog 136 [zDg x tx,zDg y ty] (zDg (x*y) false):=by
 intro H Q hq
 have hl:=hx.rlen
 have hl':=hy.rlen
 have vx0:=zAJ (B:=65536) (by omega) x.natAbs
 have vy0:=zAJ (B:=65536) (by omega) y.natAbs
 have lx:=zAG (B:=65536) (by omega) x.natAbs
 have ly:=zAG (B:=65536) (by omega) y.natAbs
 refine zUo (by simp) ?_
 simp(disch:=first|exact Xe|fail)only[za9,zDg,↓Xa,Xb,Xc,↓reduceIte,Nat.reduceLT,Nat.reduceEqDiff,Nat.reduceBEq,Nat.reduceLeDiff,Nat.reduceAdd,Nat.reduceMul]
 refine zAD fun p hp=>?_
 simp(disch:=first|exact Xe|fail)only[↓Xa,Xb,Xc,↓reduceIte,Nat.reduceLT,Nat.reduceEqDiff,Nat.reduceBEq,Nat.reduceLeDiff,Nat.reduceAdd,Nat.reduceMul]
 refine zAD fun p2 hp2=>?_
 simp(disch:=first|exact Xe|fail)only[↓Xa,Xb,Xc,↓reduceIte,Nat.reduceLT,Nat.reduceEqDiff,Nat.reduceBEq,Nat.reduceLeDiff,Nat.reduceAdd,Nat.reduceMul]
 refine zAD fun p3 hp3=>?_
 have hne:=(zAB.1 hp2).1
 have hne3:=(zAB.1 hp3).1
 have hne4:=(zAB.1 (zAB.1 hp3).2).1
 simp(disch:=first|exact Xe|fail)only[↓Xa,Xb,Xc,↓reduceIte,Nat.reduceLT,Nat.reduceEqDiff,Nat.reduceBEq,Nat.reduceLeDiff,Nat.reduceAdd,Nat.reduceMul]
 refine zDe fun o ho=>?_
 have n1:=(zAB.1 ho).1
 have n2:=(zAB.1 (zAB.1 ho).2).1
 have n3:=(zAB.1 (zAB.1 (zAB.1 ho).2).2).1
 simp(disch:=first|exact Xe|fail)only[↓Xa,Xb,Xc,↓reduceIte,Nat.reduceLT,Nat.reduceEqDiff,Nat.reduceBEq,Nat.reduceLeDiff,Nat.reduceAdd,Nat.reduceMul]
 generalize hX:digs 65536 x.natAbs=X at*
 generalize hY:digs 65536 y.natAbs=Y at*
 refine zAO (fun s:Nat×List Nat=>⟨[],[(2,.ptr p 2 0),(3,.ptr p2 2 0),(4,.ptr p3 2 0),(5,.own o (X.length+Y.length+1) 0 (X.length+Y.length+1) true),(6,.int .i64 s.1)],
  (((H.upd p (some (.row 44 0 [.bool (decide (x<0)),LS X tx]))).upd p2 (some (.row 44 0 [.bool (decide (y<0)),LS Y ty]))).upd p3 (some (.row 44 0 [.bool false,.seq 0 [] true]))).upd o (some (.row 168 1 (U s.2)))⟩)
  (fun s=>s.1≤X.length∧MulJ X Y s.1 s.2) (fun s=>X.length-s.1) (0,List.replicate (X.length+Y.length+1) 0) (Settle.now rfl) ⟨by simp,MulJ.zero X Y⟩ ?_
 rintro⟨i,out⟩ ⟨h1,h2⟩
 dsimp only at h1 h2 ⊢
 have hol:=h2.1
 by_cases hi:i<X.length
 ·simp(disch:=first|exact Xe|fail)only[hi,↓Xa,Xb,Xc,↓reduceIte,Nat.reduceLT,Nat.reduceEqDiff,Nat.reduceBEq,Nat.reduceLeDiff,Nat.reduceAdd,Nat.reduceMul]
  refine zAO (fun s:Nat×Nat×List Nat=>⟨[],[(2,.ptr p 2 0),(3,.ptr p2 2 0),(4,.ptr p3 2 0),(5,.own o (X.length+Y.length+1) 0 (X.length+Y.length+1) true),(6,.int .i64 i),(7,.int .u64 s.2.1),(8,.int .i64 s.1)],
   (((H.upd p (some (.row 44 0 [.bool (decide (x<0)),LS X tx]))).upd p2 (some (.row 44 0 [.bool (decide (y<0)),LS Y ty]))).upd p3 (some (.row 44 0 [.bool false,.seq 0 [] true]))).upd o (some (.row 168 1 (U s.2.2)))⟩)
   (fun s=>(s.1≤Y.length∧MulH X Y i s.1 s.2.1 s.2.2)∨(s.1=Y.length+1∧s.2.1=0∧MulJ X Y (i+1) s.2.2)) (fun s=>Y.length+1-s.1) (0,0,out) (Settle.now rfl) (.inl ⟨by simp,MulH.start h2⟩) ?_
  rintro⟨j,c,out⟩ hinv
  dsimp only at hinv ⊢
  have fin:c=0→Y.length≤j→MulJ X Y (i+1) out:=by
   intro hc hj
   rcases hinv with⟨g1,g2⟩|⟨g1,g2,g3⟩
   ·obtain rfl:j=Y.length:=by omega
    subst hc
    have:=g2.end hi
    have e:out.set (i+Y.length) 0=out:=by
     have hz:=g2.2.2.2.2 (i+Y.length) (Nat.le_refl _)
     have hlt:i+Y.length<out.length:=by rw[g2.1];omega
     rw[List.getD_eq_getElem?_getD,List.getElem?_eq_getElem hlt,Option.getD_some]at hz
     rw[← hz];exact List.set_getElem_self hlt
    rwa[e]at this
   ·exact g3
  by_cases hj:j<Y.length
  ·rcases hinv with⟨g1,g2⟩|⟨g1,g2,g3⟩
   ·have gol:=g2.1
    have gc:=g2.2.2.1
    have ax:=lx.getD (by omega) i
    have ay:=ly.getD (by omega) j
    have ao:=g2.2.1.getD (by omega) (i+j)
    have hm:X.getD i 0*Y.getD j 0≤65535*65535:=Nat.mul_le_mul (by omega) (by omega)
    have es:c+out.getD (i+j) 0+X.getD i 0*Y.getD j 0=c+(X.getD i 0*Y.getD j 0+out.getD (i+j) 0):=by omega
    have em:((c+(X.getD i 0*Y.getD j 0+out.getD (i+j) 0))%65536)<4294967296:=by omega
    simp(disch:=first|exact Xe|fail)only[hj,es,ne_eq,Nat.reduceEqDiff,↓Xa,Xb,Xc,↓reduceIte,Nat.reduceLT,Nat.reduceEqDiff,Nat.reduceBEq,Nat.reduceLeDiff,Nat.reduceAdd,Nat.reduceMul]
    refine Settle.now ⟨(j+1,_,_),by dsimp only;omega,.inl ⟨by dsimp only;omega,g2.step hi hj lx ly rfl⟩,rfl⟩
   ·omega
  ·by_cases hc:0<c
   ·rcases hinv with⟨g1,g2⟩|⟨g1,g2,g3⟩
    ·obtain rfl:j=Y.length:=by omega
     have gol:=g2.1
     have gc:=g2.2.2.1
     have ao:=g2.2.2.2.2 (i+Y.length) (Nat.le_refl _)
     have em:c%65536=c:=by omega
     have ed:c / 65536=0:=by omega
     simp(disch:=first|exact Xe|fail)only[hj,hc,ao,em,ed,ne_eq,Nat.reduceEqDiff,↓Xa,Xb,Xc,↓reduceIte,Nat.reduceLT,Nat.reduceEqDiff,Nat.reduceBEq,Nat.reduceLeDiff,Nat.reduceAdd,Nat.reduceMul]
     refine Settle.now ⟨(Y.length+1,0,_),by dsimp only;omega,.inr ⟨rfl,rfl,g2.end hi⟩,rfl⟩
    ·omega
   ·obtain rfl:c=0:=by omega
    simp(disch:=first|exact Xe|fail)only[hj,hc,↓Xa,Xb,Xc,↓reduceIte,Nat.reduceLT,Nat.reduceEqDiff,Nat.reduceBEq,Nat.reduceLeDiff,Nat.reduceAdd,Nat.reduceMul]
    refine Settle.now ?_
    simp(disch:=first|exact Xe|fail)only[↓Xa,Xb,Xc,↓reduceIte,Nat.reduceLT,Nat.reduceEqDiff,Nat.reduceBEq,Nat.reduceLeDiff,Nat.reduceAdd,Nat.reduceMul]
    exact Settle.now ⟨(i+1,out),by dsimp only;omega,⟨by dsimp only;omega,fin rfl (by omega)⟩,rfl⟩
 ·obtain rfl:i=X.length:=by omega
  simp(disch:=first|exact Xe|fail)only[hi,↓Xa,Xb,Xc,↓reduceIte,Nat.reduceLT,Nat.reduceEqDiff,Nat.reduceBEq,Nat.reduceLeDiff,Nat.reduceAdd,Nat.reduceMul]
  refine Settle.freeze 5 rfl (zAC _ _ _) (by simp[hol]) (.inr (by simp)) ?_
  have e1:AV.seq (X.length+Y.length+1) (((U out).drop 0).take ((X.length+Y.length+1)*1)) true=LS out true:=by
   rw[List.drop_zero,Nat.mul_one,← hol,List.take_of_length_le (by simp)];rfl
  rw[e1,zAR,zAZ _ ho]
  refine Settle.now ?_
  simp(disch:=first|exact Xe|fail)only[↓Xa,Xb,Xc,↓reduceIte,Nat.reduceLT,Nat.reduceEqDiff,Nat.reduceBEq,Nat.reduceLeDiff,Nat.reduceAdd,Nat.reduceMul]
  refine(zCZ _ true h2.2.1 (by omega)).call ?_
  have e2:sg (!(decide (x<0)==decide (y<0))) (val 65536 out)=x*y:=by
   rw[h2.2.2.1,zAW _ _ _ (Nat.le_refl _),vx0,vy0,← Int.natAbs_mul]
   unfold sg
   by_cases h:x<0<;>by_cases h':y<0<;>simp[h,h']
   ·rw[zLZ (Int.mul_nonneg_of_nonpos_of_nonpos (by omega) (by omega))]
   ·rw[zLt (Int.mul_nonpos_of_nonpos_of_nonneg (by omega) (by omega))]
   ·rw[zLt (Int.mul_nonpos_of_nonneg_of_nonpos (by omega) (by omega))]
   ·rw[zLZ (Int.mul_nonneg (by omega) (by omega))]
  rw[e2]
  simp(disch:=first|exact Xe|fail)only[zcV,zDg,↓Xa,Xb,Xc,↓reduceIte,Nat.reduceLT,Nat.reduceEqDiff,Nat.reduceBEq,Nat.reduceLeDiff,Nat.reduceAdd,Nat.reduceMul]
  exact SetR.dropTo ((((Le.refl H).upd hp).upd hp2).updB (zAB.1 (zAB.1 hp3).2).2) (SetR.now hq)
section
variable {l:List Int} {t:Bool} {H:AHeap} {K:AV→Prop}
end
theorem zPr(n:Nat)(t:Bool)(hn:(digs 65536 n).length≤1099511627776):PFn Tryz.prog 199 [LS (digs 65536 n) t] (.int .i64 ((blen n:Nat):Int)):=by
 intro H Q hq
 refine zR6 (by simp) ?_
 rcases Nat.eq_zero_or_pos n with e|e
 ·subst e
  rw[zAL]at*
  simp(disch:=first|exact Xe|fail)only[zXX,zX8,↓Xa,Xb,Xc,↓reduceIte,Nat.reduceLT,Nat.reduceEqDiff,Nat.reduceBEq,Nat.reduceLeDiff,Nat.reduceAdd,Nat.reduceMul]
  exact SetR.now hq
 ·have hp:0<(digs 65536 n).length:=by rw[zAf (by omega) e];simp
  have hne:((digs 65536 n).length=0)=False:=eq_false (by omega)
  have hb:=zEK (w:=16) (by omega) e
  have hlim:=(zAG (B:=65536) (by omega) n).getD (by omega) ((digs 65536 n).length-1)
  have hb16:blen ((digs 65536 n).getD ((digs 65536 n).length-1) 0)≤16:=zBP.2 (by omega)
  change blen n=16*((digs 65536 n).length-1)+blen ((digs 65536 n).getD ((digs 65536 n).length-1) 0)at hb
  simp(disch:=first|exact Xe|fail)only[zXX,hne,↓Xa,Xb,Xc,↓reduceIte,Nat.reduceLT,Nat.reduceEqDiff,Nat.reduceBEq,Nat.reduceLeDiff,Nat.reduceAdd,Nat.reduceMul]
  refine zAO (fun s:Nat×Nat=>⟨[],[(3,.int .i64 s.1),(4,.int .u32 s.2)],H⟩) (fun s=>s.1+blen s.2=blen n∧s.2<65536) (fun s=>s.2)
   (16*((digs 65536 n).length-1),(digs 65536 n).getD ((digs 65536 n).length-1) 0) (Settle.now rfl) ⟨hb.symm,hlim⟩ ?_
  rintro⟨m,u⟩ ⟨h1,h2⟩
  dsimp only at h1 h2 ⊢
  have hbn:blen n≤16*1099511627776+16:=by omega
  by_cases h0:0<u
  ·have hh:=zRK h0
   simp(disch:=first|exact Xe|fail)only[h0,ne_eq,Nat.reduceEqDiff,↓Xa,Xb,Xc,↓reduceIte,Nat.reduceLT,Nat.reduceEqDiff,Nat.reduceBEq,Nat.reduceLeDiff,Nat.reduceAdd,Nat.reduceMul]
   refine Settle.now ⟨(m+1,u / 2),by dsimp only;omega,⟨by dsimp only;omega,by dsimp only;omega⟩,rfl⟩
  ·obtain rfl:u=0:=by omega
   rw[zIq,Nat.add_zero]at h1
   simp(disch:=first|exact Xe|fail)only[h0,↓Xa,Xb,Xc,↓reduceIte,Nat.reduceLT,Nat.reduceEqDiff,Nat.reduceBEq,Nat.reduceLeDiff,Nat.reduceAdd,Nat.reduceMul]
   refine Settle.now ?_
   simp(disch:=first|exact Xe|fail)only[zX8,↓Xa,Xb,Xc,↓reduceIte,Nat.reduceLT,Nat.reduceEqDiff,Nat.reduceBEq,Nat.reduceLeDiff,Nat.reduceAdd,Nat.reduceMul]
   rw[h1]
   exact SetR.now hq
theorem zFa{x:Int}{K:AV→Prop}:zAv .eql (.int .i64 (zGl x)) (.int .i64 ((0:Nat):Int)) K↔K (.bool (decide (x=0))):=by
 have:(zGl x=((0:Nat):Int))↔x=0:=by unfold zGl;split<;>simp_all;split<;>omega
 simp only[zAv,zAi,true_and,this]
theorem zLs{x:Int}{K:AV→Prop}:zAv .neq (.int .i64 (zGl x)) (.int .i64 ((0:Nat):Int)) K↔K (.bool (!decide (x=0))):=by
 have:(zGl x=((0:Nat):Int))↔x=0:=by unfold zGl;split<;>simp_all;split<;>omega
 simp only[zAv,zAi,true_and,this]
theorem zPN{x:Int}{n k:Nat}(t:Bool)(hx:Bd k x)(hk:k≤1000)(hn:n≤1000):PFn Tryz.prog 196 [zDg x t,.int .i64 (n:Int)] (zDg (x^n) false):=by
 intro H Q hq
 refine zTl (by simp) ?_
 simp(disch:=first|exact Xe|fail)only[zbV,zDg,↓Xa,Xb,Xc,↓reduceIte,Nat.reduceLT,Nat.reduceEqDiff,Nat.reduceBEq,Nat.reduceLeDiff,Nat.reduceAdd,Nat.reduceMul]
 refine zAD fun p hp=>?_
 simp(disch:=first|exact Xe|fail)only[↓Xa,Xb,Xc,↓reduceIte,Nat.reduceLT,Nat.reduceEqDiff,Nat.reduceBEq,Nat.reduceLeDiff,Nat.reduceAdd,Nat.reduceMul]
 refine zAD fun p2 hp2=>?_
 have n2:=hp2
 simp only[zAB]at n2
 obtain⟨_,n2⟩:=n2
 simp(disch:=first|exact Xe|fail)only[↓Xa,Xb,Xc,↓reduceIte,Nat.reduceLT,Nat.reduceEqDiff,Nat.reduceBEq,Nat.reduceLeDiff,Nat.reduceAdd,Nat.reduceMul]
 refine(zL5 (n:=((1:Nat):Int)) (by omega)).call ?_
 simp(disch:=first|exact Xe|fail)only[↓Xa,Xb,Xc,↓reduceIte,Nat.reduceLT,Nat.reduceEqDiff,Nat.reduceBEq,Nat.reduceLeDiff,Nat.reduceAdd,Nat.reduceMul]
 refine zAD fun p3 hp3=>?_
 have n3:=hp3
 simp only[zAB]at n3
 obtain⟨_,_,n3⟩:=n3
 simp(disch:=first|exact Xe|fail)only[zDg,↓Xa,Xb,Xc,↓reduceIte,Nat.reduceLT,Nat.reduceEqDiff,Nat.reduceBEq,Nat.reduceLeDiff,Nat.reduceAdd,Nat.reduceMul]
 refine zAO (fun s:Nat=>⟨[],[(1,.int .i64 n),(2,.ptr p 2 0),(4,.ptr p2 2 0),(5,.ptr p3 2 0),(6,.int .i64 s)],
  ((H.upd p (some (.row 44 0 [.bool (decide (x<0)),LS (digs 65536 x.natAbs) t]))).upd p2 (some (.row 44 0 [.bool false,.seq 0 [] true]))).upd p3 (some (.row 44 0 [.bool (decide (x^s<0)),LS (digs 65536 (x^s).natAbs) false]))⟩)
  (fun s=>s≤n∧Bd (2+k*s) (x^s)) (fun s=>n-s) 0 (Settle.now (by rw[Int.pow_zero];rfl)) ⟨by simp,by rw[Int.pow_zero];exact Bd.i64 (by omega)⟩ ?_
 rintro s ⟨hs,hb⟩
 have hks:k*s≤1000*1000:=Nat.mul_le_mul hk (by omega)
 by_cases h2:s<n
 ·simp(disch:=first|exact Xe|fail)only[h2,↓Xa,Xb,Xc,↓reduceIte,Nat.reduceLT,Nat.reduceEqDiff,Nat.reduceBEq,Nat.reduceLeDiff,Nat.reduceAdd,Nat.reduceMul]
  refine(zIO false t hb (by omega) hx (by omega)).call ?_
  simp(disch:=first|exact Xe|fail)only[zDg,↓Xa,Xb,Xc,↓reduceIte,Nat.reduceLT,Nat.reduceEqDiff,Nat.reduceBEq,Nat.reduceLeDiff,Nat.reduceAdd,Nat.reduceMul]
  refine Settle.now ⟨s+1,by omega,⟨by omega,?_⟩,?_⟩
  ·rw[Int.pow_succ];exact(hb.mul hx).mono (by rw[Nat.mul_succ];omega)
  ·rw[Int.pow_succ]
 ·obtain rfl:s=n:=by omega
  simp(disch:=first|exact Xe|fail)only[h2,↓Xa,Xb,Xc,↓reduceIte,Nat.reduceLT,Nat.reduceEqDiff,Nat.reduceBEq,Nat.reduceLeDiff,Nat.reduceAdd,Nat.reduceMul]
  refine Settle.now ?_
  simp(disch:=first|exact Xe|fail)only[zbH,↓Xa,Xb,Xc,↓reduceIte,Nat.reduceLT,Nat.reduceEqDiff,Nat.reduceBEq,Nat.reduceLeDiff,Nat.reduceAdd,Nat.reduceMul]
  exact SetR.dropTo ((((Le.refl H).updB hp).updB n2).updB n3) (SetR.now hq)
def zG8(z:Int):AV:=.bool (decide (z<0))
def zRy(z:Int):AV:=LS (digs 65536 z.natAbs) false
theorem zG6{z:Int}:(zDg z false).cells=some [zG8 z,zRy z]:=id rfl
theorem Bd.blen{z:Int}{k:Nat}(h:Bd k z):Ma.blen z.natAbs≤32*k:=by rw[zBP,Nat.pow_mul];exact h
theorem zMj{x y:Int}(hy:y≠0)(hx:0≤x):x / y=sg (decide (y<0)) (x.natAbs / y.natAbs)∧x%y=((x.natAbs%y.natAbs:Nat):Int):=by
 have e:((x.natAbs:Nat):Int)=x:=by omega
 by_cases h:y<0
 ·have e2:y= -((y.natAbs:Nat):Int):=by omega
  constructor
  ·rw[sg,decide_eq_true h,if_pos rfl]
   conv=>lhs;rw[e2,Int.ediv_neg,← e]
   rw[← Int.natCast_ediv]
  ·conv=>lhs;rw[e2,Int.emod_neg,← e]
   rw[← Int.natCast_emod]
 ·have e2:y=((y.natAbs:Nat):Int):=by omega
  constructor
  ·rw[sg,decide_eq_false h]
   conv=>lhs;rw[e2,← e]
   rw[← Int.natCast_ediv];rfl
  ·conv=>lhs;rw[e2,← e]
   rw[← Int.natCast_emod]
theorem zKA{x y:Int}(hy:y≠0)(hx:x<0):
 (x.natAbs%y.natAbs=0→x / y=sg (!decide (y<0)) (x.natAbs / y.natAbs)∧x%y=0)∧
 (0<x.natAbs%y.natAbs→x / y=sg (!decide (y<0)) (x.natAbs / y.natAbs)-zGl y∧x%y=sg true (x.natAbs%y.natAbs)+(y.natAbs:Int)):=by
 have hm:=Nat.div_add_mod x.natAbs y.natAbs
 have hl:=Nat.mod_lt x.natAbs (show 0<y.natAbs by omega)
 generalize x.natAbs / y.natAbs=q at*
 generalize x.natAbs%y.natAbs=r at*
 have hb:0<(y.natAbs:Int):=by omega
 have hxe:x= -((y.natAbs:Int)*q+r):=by
  have:((y.natAbs*q+r:Nat):Int)=(x.natAbs:Int):=by rw[hm]
  rw[Int.natCast_add,Int.natCast_mul]at this
  omega
 have key: ∀(q' r':Int),r'+(y.natAbs:Int)*q'=x→0≤r'→r'<(y.natAbs:Int)→x / (y.natAbs:Int)=q'∧x%(y.natAbs:Int)=r':=fun q' r' a b c=>(Int.ediv_emod_unique hb).2 ⟨a,b,c⟩
 have neg: ∀q':Int,x / (y.natAbs:Int)=q'→x / y=if y<0 then -q' else q':=fun q' h=>by
  split
  ·conv=>lhs;rw[show y= -((y.natAbs:Nat):Int) by omega,Int.ediv_neg,h]
  ·conv=>lhs;rw[show y=((y.natAbs:Nat):Int) by omega,h]
 have mod:x%y=x%(y.natAbs:Int):=by
  by_cases h:y<0
  ·conv=>lhs;rw[show y= -((y.natAbs:Nat):Int) by omega,Int.emod_neg]
  ·conv=>lhs;rw[show y=((y.natAbs:Nat):Int) by omega]
 constructor
 ·intro hr
  obtain⟨k1,k2⟩:=key (-(q:Int)) 0 (by rw[hxe,hr,Int.mul_neg];omega) (by omega) hb
  refine⟨?_,by rw[mod,k2]⟩
  rw[neg _ k1,sg]
  by_cases h:y<0<;>simp[h]
 ·intro hr
  obtain⟨k1,k2⟩:=key (-(q:Int)-1) ((y.natAbs:Int)-r) (by rw[hxe,Int.mul_sub,Int.mul_neg,Int.mul_one];omega) (by omega) (by omega)
  refine⟨?_,by rw[mod,k2,sg,if_pos rfl];omega⟩
  rw[neg _ k1,sg,zGl,if_neg hy]
  by_cases h:y<0<;>simp[h]<;>omega
theorem zNl{z:Int}:AV.agg [.bool (decide (z<0)),LS (digs 4294967296 z.natAbs) true]=zAe z:=id rfl
theorem zOB{z:Int}:AV.agg [.bool (decide (z<0)),zBU z]=zAe z:=id rfl
theorem zRq(y:Int): -9223372036854775808≤zGl y∧zGl y<9223372036854775808:=by unfold zGl;(repeat' split)<;>omega
theorem zN9{x y:Int}{k k':Nat}(hx:Bd k x)(hk:k≤274877906944)(hy:Bd k' y)(hk':k'≤274877906944)(hy0:y≠0):PFn Tryz.prog 152 [zAe x,zAe y] (.tup [zAe (x / y),zAe (x%y),.int .i64 ((0:Nat):Int)]):=by
 intro H Q hq
 have hl:=hx.len
 have hl':=hy.len
 have vx:=zAJ (B:=4294967296) (by omega) x.natAbs
 have vy:=zAJ (B:=4294967296) (by omega) y.natAbs
 have lx:=zAG (B:=4294967296) (by omega) x.natAbs
 have ly:=zAG (B:=4294967296) (by omega) y.natAbs
 have hyp:0<y.natAbs:=by omega
 have hbq: ∀b,Bd k (sg b (x.natAbs / y.natAbs)):=fun b=>Bd.sgn (Nat.lt_of_le_of_lt (Nat.div_le_self _ _) hx)
 have hbr: ∀b,Bd k (sg b (x.natAbs%y.natAbs)):=fun b=>Bd.sgn (Nat.lt_of_le_of_lt (Nat.mod_le _ _) hx)
 have hlq:=(hbq false).len
 have hlr:=(hbr false).len
 rw[zCv]at hlq hlr
 refine zUO (by simp) ?_
 simp(disch:=first|exact Xe|fail)only[zaw,zAE,↓Xa,Xb,Xc,↓reduceIte,Nat.reduceLT,Nat.reduceEqDiff,Nat.reduceBEq,Nat.reduceLeDiff,Nat.reduceAdd,Nat.reduceMul]
 refine zAD fun p hp=>?_
 simp(disch:=first|exact Xe|fail)only[↓Xa,Xb,Xc,↓reduceIte,Nat.reduceLT,Nat.reduceEqDiff,Nat.reduceBEq,Nat.reduceLeDiff,Nat.reduceAdd,Nat.reduceMul]
 refine zAD fun p2 hp2=>?_
 have n2:=hp2
 simp only[zAB]at n2
 obtain⟨_,n2⟩:=n2
 simp(disch:=first|exact Xe|fail)only[↓Xa,Xb,Xc,↓reduceIte,Nat.reduceLT,Nat.reduceEqDiff,Nat.reduceBEq,Nat.reduceLeDiff,Nat.reduceAdd,Nat.reduceMul]
 refine zAD fun p3 hp3=>?_
 have n3:=hp3
 simp only[zAB]at n3
 obtain⟨_,_,n3⟩:=n3
 simp(disch:=first|exact Xe|fail)only[↓Xa,Xb,Xc,↓reduceIte,Nat.reduceLT,Nat.reduceEqDiff,Nat.reduceBEq,Nat.reduceLeDiff,Nat.reduceAdd,Nat.reduceMul]
 refine zAD fun p4 hp4=>?_
 have n4:=hp4
 simp only[zAB]at n4
 obtain⟨_,_,_,n4⟩:=n4
 simp(disch:=first|exact Xe|fail)only[↓Xa,Xb,Xc,↓reduceIte,Nat.reduceLT,Nat.reduceEqDiff,Nat.reduceBEq,Nat.reduceLeDiff,Nat.reduceAdd,Nat.reduceMul]
 refine(zI1 (a:=digs 4294967296 x.natAbs) (b:=digs 4294967296 y.natAbs) true true lx ly (by omega) (by omega) (by omega)).call ?_
 rw[vx,vy]
 have ifold: ∀z:Int,AV.bool (decide (z<0))=zBO z:=fun z=>rfl
 simp(disch:=first|exact Xe|fail)only[zBO,zFb,↓Xa,Xb,Xc,↓reduceIte,Nat.reduceLT,Nat.reduceEqDiff,Nat.reduceBEq,Nat.reduceLeDiff,Nat.reduceAdd,Nat.reduceMul]
 refine PFn.dcall (zCA _ _ (by omega)) ?_
 simp(disch:=first|exact Xe|fail)only[↓Xa,Xb,Xc,↓reduceIte,Nat.reduceLT,Nat.reduceEqDiff,Nat.reduceBEq,Nat.reduceLeDiff,Nat.reduceAdd,Nat.reduceMul]
 refine PFn.dcall (zCA _ _ (by omega)) ?_
 simp(disch:=first|exact Xe|fail)only[↓Xa,Xb,Xc,↓reduceIte,Nat.reduceLT,Nat.reduceEqDiff,Nat.reduceBEq,Nat.reduceLeDiff,Nat.reduceAdd,Nat.reduceMul]
 refine zCd fun p5 hp5=>?_
 have n5:=hp5
 simp only[zAB]at n5
 obtain⟨_,_,_,_,n5⟩:=n5
 simp(disch:=first|exact Xe|fail)only[↓Xa,Xb,Xc,↓reduceIte,Nat.reduceLT,Nat.reduceEqDiff,Nat.reduceBEq,Nat.reduceLeDiff,Nat.reduceAdd,Nat.reduceMul]
 refine zCd fun p6 hp6=>?_
 have n6:=hp6
 simp only[zAB]at n6
 obtain⟨_,_,_,_,_,n6⟩:=n6
 simp(disch:=first|exact Xe|fail)only[zAE,↓Xa,Xb,Xc,↓reduceIte,Nat.reduceLT,Nat.reduceEqDiff,Nat.reduceBEq,Nat.reduceLeDiff,Nat.reduceAdd,Nat.reduceMul]
 have bq:=hbq (!(decide (x<0)==decide (y<0)))
 have br:=hbr (decide (x<0))
 have cs:(sg (!(decide (x<0)==decide (y<0))) (x.natAbs / y.natAbs)=x / y∧sg (decide (x<0)) (x.natAbs%y.natAbs)=x%y∧zBO (sg (decide (x<0)) (x.natAbs%y.natAbs))=.bool false)∨
  (sg (!(decide (x<0)==decide (y<0))) (x.natAbs / y.natAbs)-zGl y=x / y∧sg (decide (x<0)) (x.natAbs%y.natAbs)+(y.natAbs:Int)=x%y∧zBO (sg (decide (x<0)) (x.natAbs%y.natAbs))=.bool true):=by
  by_cases h:x<0
  ·obtain⟨e1,e2⟩:=zKA hy0 h
   rw[decide_eq_true h]
   have eb:(!(true==decide (y<0)))=!decide (y<0):=by simp
   rw[eb]
   rcases Nat.eq_zero_or_pos (x.natAbs%y.natAbs)with hz|hz
   ·left
    obtain⟨f1,f2⟩:=e1 hz
    rw[hz,f1,f2]
    exact⟨rfl,rfl,rfl⟩
   ·right
    obtain⟨f1,f2⟩:=e2 hz
    exact⟨f1.symm,f2.symm,congrArg AV.bool (decide_eq_true (by simp[sg];omega))⟩
  ·left
   obtain⟨f1,f2⟩:=zMj hy0 (show 0≤x by omega)
   rw[decide_eq_false h]
   have eb:(!(false==decide (y<0)))=decide (y<0):=by simp
   rw[eb,f1,f2]
   exact⟨rfl,rfl,congrArg AV.bool (decide_eq_false (by simp[sg];omega))⟩
 generalize sg (!(decide (x<0)==decide (y<0))) (x.natAbs / y.natAbs)=q0 at*
 generalize sg (decide (x<0)) (x.natAbs%y.natAbs)=r0 at*
 have fin: ∀{v a b c d e f},Q v H→SetR Q v ((((((H.upd p a).upd p2 b).upd p3 c).upd p4 d).upd p5 e).upd p6 f):=fun{v a b c d e f} hv=>SetR.dropTo (((((((Le.refl H).updB hp).updB n2).updB n3).updB n4).updB n5).updB n6) (SetR.now hv)
 rcases cs with⟨c1,c2,c3⟩|⟨c1,c2,c3⟩
 ·rw[← c1,← c2]at hq
  have f0:AV.agg [.bool false,zBU r0]=zAe r0:=by rw[zE2,c3]
  simp(disch:=first|exact Xe|fail)only[c3,zAF,f0,zAE,zYF,↓Xa,Xb,Xc,↓reduceIte,Nat.reduceLT,Nat.reduceEqDiff,Nat.reduceBEq,Nat.reduceLeDiff,Nat.reduceAdd,Nat.reduceMul]
  exact fin hq
 ·rw[← c1,← c2]at hq
  have f0:AV.agg [.bool true,zBU r0]=zAe r0:=by rw[zE2,c3]
  simp(disch:=first|exact Xe|fail)only[c3,zAF,f0,zNl,zOB,↓Xa,Xb,Xc,↓reduceIte,Nat.reduceLT,Nat.reduceEqDiff,Nat.reduceBEq,Nat.reduceLeDiff,Nat.reduceAdd,Nat.reduceMul]
  refine PFn.dcall (zZQ hy (by omega)) ?_
  simp(disch:=first|exact Xe|fail)only[zAF,zNl,zOB,f0,↓Xa,Xb,Xc,↓reduceIte,Nat.reduceLT,Nat.reduceEqDiff,Nat.reduceBEq,Nat.reduceLeDiff,Nat.reduceAdd,Nat.reduceMul]
  refine(zFp br (by omega) hy.abs (by omega)).call ?_
  simp(disch:=first|exact Xe|fail)only[zAF,zNl,zOB,f0,zAE,↓Xa,Xb,Xc,↓reduceIte,Nat.reduceLT,Nat.reduceEqDiff,Nat.reduceBEq,Nat.reduceLeDiff,Nat.reduceAdd,Nat.reduceMul]
  refine PFn.dcall (zC2 hy (by omega)) ?_
  simp(disch:=first|exact Xe|fail)only[zAF,zNl,zOB,f0,↓Xa,Xb,Xc,↓reduceIte,Nat.reduceLT,Nat.reduceEqDiff,Nat.reduceBEq,Nat.reduceLeDiff,Nat.reduceAdd,Nat.reduceMul]
  refine PFn.dcall (zGo (zRq y)) ?_
  simp(disch:=first|exact Xe|fail)only[zAF,zNl,zOB,f0,↓Xa,Xb,Xc,↓reduceIte,Nat.reduceLT,Nat.reduceEqDiff,Nat.reduceBEq,Nat.reduceLeDiff,Nat.reduceAdd,Nat.reduceMul]
  refine(zLC bq (by omega) (Bd.i64 (zRq y)) (by omega)).call ?_
  simp(disch:=first|exact Xe|fail)only[zAF,zNl,zOB,f0,zAE,zYF,↓Xa,Xb,Xc,↓reduceIte,Nat.reduceLT,Nat.reduceEqDiff,Nat.reduceBEq,Nat.reduceLeDiff,Nat.reduceAdd,Nat.reduceMul]
  exact fin hq
theorem zTb{x c:Int}{k:Nat}(hx:Bd k x)(hk:k≤274877906944)(hc: -9223372036854775808≤c∧c<9223372036854775808)(hc0:c≠0):
 PFn Tryz.prog 172 [zAe x,.int .i64 c] (if x%c=0 then .tup [zAe (x / c),.int .i64 ((0:Nat):Int)]else .tup [zAe 0,.int .i64 ((20:Nat):Int)]):=by
 intro H Q hq
 have hy:Bd 2 c:=Bd.i64 hc
 have hl:=hx.len
 have hl':=hy.len
 have vx:=zAJ (B:=4294967296) (by omega) x.natAbs
 have vy:=zAJ (B:=4294967296) (by omega) c.natAbs
 have lx:=zAG (B:=4294967296) (by omega) x.natAbs
 have ly:=zAG (B:=4294967296) (by omega) c.natAbs
 have hbq: ∀b,Bd k (sg b (x.natAbs / c.natAbs)):=fun b=>Bd.sgn (Nat.lt_of_le_of_lt (Nat.div_le_self _ _) hx)
 have hlq:=(hbq false).len
 rw[zCv]at hlq
 refine zT3 (by simp) ?_
 simp(disch:=first|exact Xe|fail)only[zb3,zAE,↓Xa,Xb,Xc,↓reduceIte,Nat.reduceLT,Nat.reduceEqDiff,Nat.reduceBEq,Nat.reduceLeDiff,Nat.reduceAdd,Nat.reduceMul]
 refine zAD fun p hp=>?_
 simp(disch:=first|exact Xe|fail)only[↓Xa,Xb,Xc,↓reduceIte,Nat.reduceLT,Nat.reduceEqDiff,Nat.reduceBEq,Nat.reduceLeDiff,Nat.reduceAdd,Nat.reduceMul]
 refine zAD fun p2 hp2=>?_
 have n2:=hp2
 simp only[zAB]at n2
 obtain⟨_,n2⟩:=n2
 simp(disch:=first|exact Xe|fail)only[↓Xa,Xb,Xc,↓reduceIte,Nat.reduceLT,Nat.reduceEqDiff,Nat.reduceBEq,Nat.reduceLeDiff,Nat.reduceAdd,Nat.reduceMul]
 refine(zGo hc).call ?_
 simp(disch:=first|exact Xe|fail)only[↓Xa,Xb,Xc,↓reduceIte,Nat.reduceLT,Nat.reduceEqDiff,Nat.reduceBEq,Nat.reduceLeDiff,Nat.reduceAdd,Nat.reduceMul]
 refine zAD fun p3 hp3=>?_
 have n3:=hp3
 simp only[zAB]at n3
 obtain⟨_,_,n3⟩:=n3
 simp(disch:=first|exact Xe|fail)only[zAE,↓Xa,Xb,Xc,↓reduceIte,Nat.reduceLT,Nat.reduceEqDiff,Nat.reduceBEq,Nat.reduceLeDiff,Nat.reduceAdd,Nat.reduceMul]
 refine(zI1 (a:=digs 4294967296 x.natAbs) (b:=digs 4294967296 c.natAbs) true true lx ly (by omega) (by omega) (by omega)).call ?_
 rw[vx,vy]
 have fin: ∀{v a b c},Q v H→SetR Q v (((H.upd p a).upd p2 b).upd p3 c):=fun{v a b c} hv=>SetR.dropTo ((((Le.refl H).updB hp).updB n2).updB n3) (SetR.now hv)
 have hr0:=zEg (B:=4294967296) (n:=x.natAbs%c.natAbs) (by omega)
 have hrl:(digs 4294967296 (x.natAbs%c.natAbs)).length≤k:=zAu (by omega) _ _ (Nat.lt_of_le_of_lt (Nat.mod_le _ _) hx)
 have hxm:x%c=0↔x.natAbs%c.natAbs=0:=by
  rw[← Int.dvd_iff_emod_eq_zero,← Nat.dvd_iff_mod_eq_zero,Int.natAbs_dvd_natAbs]
 by_cases hz:x.natAbs%c.natAbs=0
 ·rw[if_pos (hxm.2 hz)]at hq
  have e:x / c=sg (!(decide (x<0)==decide (c<0))) (x.natAbs / c.natAbs):=by
   by_cases h:x<0
   ·rw[((zKA hc0 h).1 hz).1,decide_eq_true h];simp
   ·rw[(zMj hc0 (show 0≤x by omega)).1,decide_eq_false h];simp
  rw[e]at hq
  rw[hz,zAL]
  simp(disch:=first|exact Xe|fail)only[zBO,zFb,↓Xa,Xb,Xc,↓reduceIte,Nat.reduceLT,Nat.reduceEqDiff,Nat.reduceBEq,Nat.reduceLeDiff,Nat.reduceAdd,Nat.reduceMul]
  refine(zCA _ _ (by omega)).call ?_
  simp(disch:=first|exact Xe|fail)only[zAE,zXZ,↓Xa,Xb,Xc,↓reduceIte,Nat.reduceLT,Nat.reduceEqDiff,Nat.reduceBEq,Nat.reduceLeDiff,Nat.reduceAdd,Nat.reduceMul]
  exact fin hq
 ·rw[if_neg (fun h=>hz (hxm.1 h))]at hq
  have hp0:0<(digs 4294967296 (x.natAbs%c.natAbs)).length:=by
   have: ¬(digs 4294967296 (x.natAbs%c.natAbs)).length=0:=by rw[hr0];exact hz
   omega
  simp(disch:=first|exact Xe|fail)only[hp0,zXZ,↓Xa,Xb,Xc,↓reduceIte,Nat.reduceLT,Nat.reduceEqDiff,Nat.reduceBEq,Nat.reduceLeDiff,Nat.reduceAdd,Nat.reduceMul]
  rw[zLR]
  exact fin hq
theorem zNB{b:Bool}{bb L off n:Nat}{t:Bool}:(AV.agg [.bool b,.own bb L off n t]).cells=some [.bool b,.own bb L off n t]:=id rfl
theorem zLb{H:AHeap}{Q:AV→AHeap→Prop}{bb ty L:Nat}(m n:Nat)(ta tb:Bool)(hH:H bb=some (.row ty 1 (U (digs 65536 m))))(hL:(digs 65536 m).length=L)(hq:Q (.int .i64 (zBt m n)) H)(hm:(digs 65536 m).length≤1099511627776)(hn:(digs 65536 n).length≤1099511627776):Run Tryz.prog 191 [.own bb L 0 L ta,LS (digs 65536 n) tb] H Q:=by
 subst hL
 have hx:=zAG (B:=65536) (by omega) m
 have hy:=zAG (B:=65536) (by omega) n
 have vx:=zAJ (B:=65536) (by omega) m
 have vy:=zAJ (B:=65536) (by omega) n
 have lt1:=zBL (B:=65536) (a:=m) (b:=n) (by omega)
 have lt2:=zBL (B:=65536) (a:=n) (b:=m) (by omega)
 generalize digs 65536 m=x at*
 generalize digs 65536 n=y at*
 have less:m<n→SetR Q (.int .i64 (-1)) H:=fun h=>by
  have:zBt m n= -1:=by simp[zBt,h]
  rw[← this];exact SetR.now hq
 have more:n<m→SetR Q (.int .i64 ((1:Nat):Int)) H:=fun h=>by
  have:zBt m n=((1:Nat):Int):=by simp[zBt,h,Nat.not_lt_of_lt h]
  rw[← this];exact SetR.now hq
 refine zMO (by simp) ?_
 by_cases c0:x.length=y.length
 ·have c0':=c0
  simp(disch:=first|exact Xe|fail)only[zKa,c0,↓Xa,Xb,Xc,↓reduceIte,Nat.reduceLT,Nat.reduceEqDiff,Nat.reduceBEq,Nat.reduceLeDiff,Nat.reduceAdd,Nat.reduceMul]
  refine zAO (fun k:Nat=>⟨[],[(0,.own bb y.length 0 y.length ta),(1,LS y tb),(5,.int .i64 (dn k))],H⟩) (fun k=>k≤x.length∧x.drop k=y.drop k) id y.length (Settle.now rfl) ⟨by omega,by rw[List.drop_of_length_le (by omega),List.drop_of_length_le (by omega)]⟩ ?_
  rintro k ⟨hk,hd⟩
  cases k with
  |zero=>
   simp(disch:=first|exact Xe|fail)only[hH,↓Xa,Xb,Xc,↓reduceIte,Nat.reduceLT,Nat.reduceEqDiff,Nat.reduceBEq,Nat.reduceLeDiff,Nat.reduceAdd,Nat.reduceMul]
   refine Settle.now ?_
   simp(disch:=first|exact Xe|fail)only[hH,zGj,↓Xa,Xb,Xc,↓reduceIte,Nat.reduceLT,Nat.reduceEqDiff,Nat.reduceBEq,Nat.reduceLeDiff,Nat.reduceAdd,Nat.reduceMul]
   have e:m=n:=by rw[← vx,← vy];rw[List.drop_zero,List.drop_zero]at hd;rw[hd]
   have:zBt m n=((0:Nat):Int):=by simp[zBt,e]
   rw[← this];exact SetR.now hq
  |succ k=>
   by_cases d1:x.getD k 0<y.getD k 0
   ·simp(disch:=first|exact Xe|fail)only[hH,d1,zGj,↓Xa,Xb,Xc,↓reduceIte,Nat.reduceLT,Nat.reduceEqDiff,Nat.reduceBEq,Nat.reduceLeDiff,Nat.reduceAdd,Nat.reduceMul]
    exact less (by rw[← vx,← vy];exact zBw hx (by omega) k (by omega) c0 hd d1)
   by_cases d2:y.getD k 0<x.getD k 0
   ·simp(disch:=first|exact Xe|fail)only[hH,d1,d2,zGj,↓Xa,Xb,Xc,↓reduceIte,Nat.reduceLT,Nat.reduceEqDiff,Nat.reduceBEq,Nat.reduceLeDiff,Nat.reduceAdd,Nat.reduceMul]
    exact more (by rw[← vx,← vy];exact zBw hy (by omega) k (by omega) c0.symm hd.symm d2)
   simp(disch:=first|exact Xe|fail)only[hH,d1,d2,↓Xa,Xb,Xc,↓reduceIte,Nat.reduceLT,Nat.reduceEqDiff,Nat.reduceBEq,Nat.reduceLeDiff,Nat.reduceAdd,Nat.reduceMul]
   refine Settle.now ⟨k,Nat.lt_succ_self k,⟨by omega,?_⟩,rfl⟩
   rw[List.drop_eq_getElem_cons (by omega),List.drop_eq_getElem_cons (i:=k) (l:=y) (by omega),hd]
   congr 1
   have e1:x.getD k 0=x[k]:=by simp[List.getD_eq_getElem?_getD,List.getElem?_eq_getElem (show k<x.length by omega)]
   have e2:y.getD k 0=y[k]:=by simp[List.getD_eq_getElem?_getD,List.getElem?_eq_getElem (show k<y.length by omega)]
   omega
 ·by_cases c1:x.length<y.length
  ·simp(disch:=first|exact Xe|fail)only[hH,zKa,c0,c1,zGj,↓Xa,Xb,Xc,↓reduceIte,Nat.reduceLT,Nat.reduceEqDiff,Nat.reduceBEq,Nat.reduceLeDiff,Nat.reduceAdd,Nat.reduceMul]
   exact less (lt1 c1)
  ·simp(disch:=first|exact Xe|fail)only[hH,zKa,c0,c1,zGj,↓Xa,Xb,Xc,↓reduceIte,Nat.reduceLT,Nat.reduceEqDiff,Nat.reduceBEq,Nat.reduceLeDiff,Nat.reduceAdd,Nat.reduceMul]
   exact more (lt2 (by omega))
theorem zJH{H:AHeap}{Q:AV→AHeap→Prop}{bb ty L:Nat}(m n:Nat)(ta tb:Bool)(hH:H bb=some (.row ty 1 (U (digs 65536 m))))(hL:(digs 65536 m).length=L)(hq: ∀x H',grow H 168 (pad 65536 (m-n) (digs 65536 m).length) x H'→Q x H')(hmn:n≤m)(hm:(digs 65536 m).length≤1099511627776):Run Tryz.prog 201 [.own bb L 0 L ta,LS (digs 65536 n) tb] H Q:=by
 subst hL
 have la:=zAG (B:=65536) (by omega) m
 have lb:=zAG (B:=65536) (by omega) n
 have va:=zAJ (B:=65536) (by omega) m
 have vb:=zAJ (B:=65536) (by omega) n
 have hlb:(digs 65536 n).length≤(digs 65536 m).length:=by
  rcases Nat.lt_or_ge (digs 65536 m).length (digs 65536 n).length with h|h
  ·have:=zBL (by omega) h;omega
  ·exact h
 refine zMn (by simp) ?_
 simp(disch:=first|exact Xe|fail)only[zW9,↓Xa,Xb,Xc,↓reduceIte,Nat.reduceLT,Nat.reduceEqDiff,Nat.reduceBEq,Nat.reduceLeDiff,Nat.reduceAdd,Nat.reduceMul]
 refine zAO (fun s:Nat×Nat×List Nat×AV×AHeap=>⟨[],[(0,.own bb (digs 65536 m).length 0 (digs 65536 m).length ta),(1,LS (digs 65536 n) tb),(5,s.2.2.2.1),(6,.int .u32 s.2.1),(7,.int .i64 s.1)],s.2.2.2.2⟩)
  (fun s=>s.1≤(digs 65536 m).length∧grow H 168 s.2.2.1 s.2.2.2.1 s.2.2.2.2∧MinI (digs 65536 m) (digs 65536 n) s.1 s.2.1 s.2.2.1) (fun s=>(digs 65536 m).length-s.1)
  (0,0,[],_,_) (Settle.now rfl) ⟨by simp,zDl,MinI.zero _ _⟩ ?_
 rintro⟨i,c,done,x,H'⟩ ⟨g0,hg,h1⟩
 dsimp only at g0 hg h1 ⊢
 have zIQ:=zEp hg hH
 have hd:=h1.1
 have hc:=h1.2.2.1
 have hx:=la.getD (by omega) i
 have hy:=lb.getD (by omega) i
 by_cases hi:i<(digs 65536 m).length
 ·by_cases hj:i<(digs 65536 n).length
  ·by_cases hv:(digs 65536 m).getD i 0<c+(digs 65536 n).getD i 0
   ·simp(disch:=first|exact Xe|fail)only[zIQ,hi,hj,hv,↓Xa,Xb,Xc,↓reduceIte,Nat.reduceLT,Nat.reduceEqDiff,Nat.reduceBEq,Nat.reduceLeDiff,Nat.reduceAdd,Nat.reduceMul]
    refine zBF (m:=[(digs 65536 m).getD i 0+65536-(c+(digs 65536 n).getD i 0)]) hg rfl (by simp) (by simp;omega) fun x' H2 hg2=>?_
    have hold2:=zEp hg2 hH
    simp(disch:=first|exact Xe|fail)only[↓Xa,Xb,Xc,↓reduceIte,Nat.reduceLT,Nat.reduceEqDiff,Nat.reduceBEq,Nat.reduceLeDiff,Nat.reduceAdd,Nat.reduceMul]
    refine Settle.now ⟨(i+1,1,_,_,_),by dsimp only;omega,⟨by dsimp only;omega,hg2,h1.step (c':=1) (by omega) rfl (by omega) (by omega)⟩,rfl⟩
   ·simp(disch:=first|exact Xe|fail)only[zIQ,hi,hj,hv,↓Xa,Xb,Xc,↓reduceIte,Nat.reduceLT,Nat.reduceEqDiff,Nat.reduceBEq,Nat.reduceLeDiff,Nat.reduceAdd,Nat.reduceMul]
    refine zBF (m:=[(digs 65536 m).getD i 0-(c+(digs 65536 n).getD i 0)]) hg rfl (by simp) (by simp;omega) fun x' H2 hg2=>?_
    have hold2:=zEp hg2 hH
    simp(disch:=first|exact Xe|fail)only[↓Xa,Xb,Xc,↓reduceIte,Nat.reduceLT,Nat.reduceEqDiff,Nat.reduceBEq,Nat.reduceLeDiff,Nat.reduceAdd,Nat.reduceMul]
    refine Settle.now ⟨(i+1,0,_,_,_),by dsimp only;omega,⟨by dsimp only;omega,hg2,h1.step (c':=0) (by omega) rfl (by omega) (by omega)⟩,rfl⟩
  ·have b:=zAk (show(digs 65536 n).length≤i by omega)
   by_cases hv:(digs 65536 m).getD i 0<c
   ·simp(disch:=first|exact Xe|fail)only[zIQ,hi,hj,hv,↓Xa,Xb,Xc,↓reduceIte,Nat.reduceLT,Nat.reduceEqDiff,Nat.reduceBEq,Nat.reduceLeDiff,Nat.reduceAdd,Nat.reduceMul]
    refine zBF (m:=[(digs 65536 m).getD i 0+65536-c]) hg rfl (by simp) (by simp;omega) fun x' H2 hg2=>?_
    have hold2:=zEp hg2 hH
    simp(disch:=first|exact Xe|fail)only[↓Xa,Xb,Xc,↓reduceIte,Nat.reduceLT,Nat.reduceEqDiff,Nat.reduceBEq,Nat.reduceLeDiff,Nat.reduceAdd,Nat.reduceMul]
    refine Settle.now ⟨(i+1,1,_,_,_),by dsimp only;omega,⟨by dsimp only;omega,hg2,h1.step (c':=1) (by omega) rfl (by omega) (by omega)⟩,rfl⟩
   ·simp(disch:=first|exact Xe|fail)only[zIQ,hi,hj,hv,↓Xa,Xb,Xc,↓reduceIte,Nat.reduceLT,Nat.reduceEqDiff,Nat.reduceBEq,Nat.reduceLeDiff,Nat.reduceAdd,Nat.reduceMul]
    refine zBF (m:=[(digs 65536 m).getD i 0-c]) hg rfl (by simp) (by simp;omega) fun x' H2 hg2=>?_
    have hold2:=zEp hg2 hH
    simp(disch:=first|exact Xe|fail)only[↓Xa,Xb,Xc,↓reduceIte,Nat.reduceLT,Nat.reduceEqDiff,Nat.reduceBEq,Nat.reduceLeDiff,Nat.reduceAdd,Nat.reduceMul]
    refine Settle.now ⟨(i+1,0,_,_,_),by dsimp only;omega,⟨by dsimp only;omega,hg2,h1.step (c':=0) (by omega) rfl (by omega) (by omega)⟩,rfl⟩
 ·obtain rfl:i=(digs 65536 m).length:=by omega
  simp(disch:=first|exact Xe|fail)only[zIQ,hi,↓Xa,Xb,Xc,↓reduceIte,Nat.reduceLT,Nat.reduceEqDiff,Nat.reduceBEq,Nat.reduceLeDiff,Nat.reduceAdd,Nat.reduceMul]
  refine Settle.now ?_
  simp(disch:=first|exact Xe|fail)only[zYg,↓Xa,Xb,Xc,↓reduceIte,Nat.reduceLT,Nat.reduceEqDiff,Nat.reduceBEq,Nat.reduceLeDiff,Nat.reduceAdd,Nat.reduceMul]
  have e:=h1.end la hlb (by omega)
  rw[va,vb]at e
  rw[e]at hg
  exact SetR.now (hq _ _ hg)
theorem zI4{H:AHeap}{Q:AV→AHeap→Prop}{bb ty L:Nat}{l:List Nat}(neg t:Bool)(hH:H bb=some (.row ty 1 (U l)))(hL:l.length=L)(hq: ∀ti,Q (.agg [.bool (neg&&decide (0<(tr l).length)),.own bb L 0 (tr l).length ti]) H)(hl:Lim 65536 l)(hn:l.length≤8796093022208):Run Tryz.prog 147 [.bool neg,.own bb L 0 L t] H Q:=by
 subst hL
 refine zLm (by simp) ?_
 simp(disch:=first|exact Xe|fail)only[zIV,↓Xa,Xb,Xc,↓reduceIte,Nat.reduceLT,Nat.reduceEqDiff,Nat.reduceBEq,Nat.reduceLeDiff,Nat.reduceAdd,Nat.reduceMul]
 refine zAD fun p hp=>?_
 have hAp:Ap bb p:=fun e=>by rw[e,hp]at hH;cases hH
 simp(disch:=first|exact Xe|fail)only[↓Xa,Xb,Xc,↓reduceIte,Nat.reduceLT,Nat.reduceEqDiff,Nat.reduceBEq,Nat.reduceLeDiff,Nat.reduceAdd,Nat.reduceMul]
 refine zAO (fun n:Nat=>⟨[],[(0,.bool neg),(1,.own bb l.length 0 l.length t),(4,.ptr p 2 0),(5,.int .i64 n)],H.upd p (some (.row 44 0 [.bool false,.seq 0 [] true]))⟩) (fun n=>n≤l.length∧∀i,n≤i→i<l.length→l.getD i 0=0) id l.length (Settle.now rfl) ⟨Nat.le_refl _,fun i h1 h2=>absurd h1 (by omega)⟩ ?_
 rintro n ⟨h1,hz⟩
 have fin: ∀ti,(n=0∨l.getD (n-1) 0≠0)→SetR Q (.agg [.bool (neg&&decide (0<n)),.own bb l.length 0 n ti]) (H.upd p (some (.row 44 0 [.bool (neg&&decide (0<n)),.own bb l.length 0 n ti]))):=fun ti h=>by
  have e2:n=(tr l).length:=by
   have:=congrArg List.length (zGC h1 hz h)
   rw[List.length_take,Nat.min_eq_left h1]at this;exact this
  have:=hq ti
  rw[← e2]at this
  exact SetR.dropTo ((Le.refl H).upd hp) (SetR.now this)
 have last:(n=0∨l.getD (n-1) 0≠0)→W Tryz.prog (zBV (zBV (zBV zIV))) (zFF zKX Q) ⟨[],[(0,.bool neg),(1,.own bb l.length 0 l.length t),(4,.ptr p 2 0),(5,.int .i64 n),(17,.bool false)],H.upd p (some (.row 44 0 [.bool false,.seq 0 [] true]))⟩:=fun h=>by
  have f:=fun ti=>fin ti h
  cases neg
  ·simp(disch:=first|exact Xe|fail)only[hH,zNB,zIV,zKX,zBV,↓Xa,Xb,Xc,↓reduceIte,Nat.reduceLT,Nat.reduceEqDiff,Nat.reduceBEq,Nat.reduceLeDiff,Nat.reduceAdd,Nat.reduceMul]
   exact f _
  ·simp(disch:=first|exact Xe|fail)only[hH,zNB,zIV,zKX,zBV,↓Xa,Xb,Xc,↓reduceIte,Nat.reduceLT,Nat.reduceEqDiff,Nat.reduceBEq,Nat.reduceLeDiff,Nat.reduceAdd,Nat.reduceMul]
   exact f _
 by_cases h0:0<n
 ·by_cases h2:l.getD (n-1) 0=0
  ·simp(disch:=first|exact Xe|fail)only[hH,h0,h2,↓Xa,Xb,Xc,↓reduceIte,Nat.reduceLT,Nat.reduceEqDiff,Nat.reduceBEq,Nat.reduceLeDiff,Nat.reduceAdd,Nat.reduceMul]
   refine Settle.now ⟨n-1,?_,⟨by omega,fun i hi hl'=>?_⟩,rfl⟩
   ·show n-1<n;omega
   ·rcases Nat.lt_or_ge i n with h|h
    ·rw[show i=n-1 by omega];exact h2
    ·exact hz i h hl'
  ·simp(disch:=first|exact Xe|fail)only[hH,h0,h2,↓Xa,Xb,Xc,↓reduceIte,Nat.reduceLT,Nat.reduceEqDiff,Nat.reduceBEq,Nat.reduceLeDiff,Nat.reduceAdd,Nat.reduceMul]
   exact Settle.now (last (.inr h2))
 ·simp(disch:=first|exact Xe|fail)only[hH,h0,↓Xa,Xb,Xc,↓reduceIte,Nat.reduceLT,Nat.reduceEqDiff,Nat.reduceBEq,Nat.reduceLeDiff,Nat.reduceAdd,Nat.reduceMul]
  exact Settle.now (last (.inl (by omega)))
theorem zac(n k:Nat)(t:Bool)(hn:(digs 65536 n).length≤1099511627776)(hk:k / 16<(digs 65536 n).length):PFn Tryz.prog 200 [LS (digs 65536 n) t,.int .i64 (k:Int)] (.int .u32 ((n / 2^k%2:Nat):Int)):=by
 intro H Q hq
 have hd:=(zAG (B:=65536) (by omega) n).getD (by omega) (k / 16)
 have hb:=zZ8 (n:=n) (k:=k)
 have hk2:k<9223372036854775808:=by omega
 have and1: ∀{a:Nat}{K:AV→Prop}(_:a<4294967296),zAv .and (.int .u32 (a:Int)) (.int .u32 ((1:Nat):Int)) K↔K (.int .u32 ((a%2:Nat):Int)):=fun{a K} ha=>by
  rw[zGf .u32 (by simpa[IntKind.bits]using ha) (by simp[IntKind.bits]),Nat.and_one_is_mod,zEN (by omega)]
 have hdiv:(digs 65536 n).getD (k / 16) 0 / 2^(k%16)<4294967296:=Nat.lt_of_le_of_lt (Nat.div_le_self _ _) (by omega)
 have ht:k%16≤32:=by omega
 have hq16:k / 16<9223372036854775808:=by omega
 refine zTZ (by simp) ?_
 simp(disch:=first|exact Xe|fail)only[zZa,ne_eq,Nat.reduceEqDiff,and1,hb,zaf,↓Xa,Xb,Xc,↓reduceIte,Nat.reduceLT,Nat.reduceEqDiff,Nat.reduceBEq,Nat.reduceLeDiff,Nat.reduceAdd,Nat.reduceMul]
 exact SetR.now hq
theorem zU0{m n:Nat}(ta tb:Bool)(hn:0<n)(hn1:n<65536)(hm:(digs 65536 m).length≤1099511627776):
 PFn Tryz.prog 134 [LS (digs 65536 m) ta,LS (digs 65536 n) tb] (.tup [LS (digs 65536 (m / n)) false,LS (digs 65536 (m%n)) false]):=by
 intro H Q hq
 have vm:=zAJ (B:=65536) (by omega) m
 have lm:=zAG (B:=65536) (by omega) m
 have hne:(n=0)=False:=eq_false (by omega)
 have hY:digs 65536 n=[n]:=by rw[zAf (by omega) hn,Nat.mod_eq_of_lt hn1,Nat.div_eq_of_lt hn1,zAL]
 rw[hY]
 generalize digs 65536 m=a at*
 refine zMr (by simp) ?_
 have l1:([n]:List Nat).length=1:=rfl
 have g1:([n]:List Nat).getD 0 0=n:=rfl
 simp(disch:=first|exact Xe|fail)only[zXW,l1,g1,zH5,↓Xa,Xb,Xc,↓reduceIte,Nat.reduceLT,Nat.reduceEqDiff,Nat.reduceBEq,Nat.reduceLeDiff,Nat.reduceAdd,Nat.reduceMul]
 refine zDe fun o ho=>?_
 simp(disch:=first|exact Xe|fail)only[↓Xa,Xb,Xc,↓reduceIte,Nat.reduceLT,Nat.reduceEqDiff,Nat.reduceBEq,Nat.reduceLeDiff,Nat.reduceAdd,Nat.reduceMul]
 refine zAO (fun p:Nat×Nat×List Nat=>⟨[],[(0,LS a ta),(1,LS [n] tb),(6,.own o a.length 0 a.length true),(7,.int .u64 p.2.1),(8,.int .i64 (dn p.1))],
  H.upd o (some (.row 168 1 (U p.2.2)))⟩)
  (fun p=>p.1≤a.length∧DivJ a n p.1 p.2.1 p.2.2) (fun p=>p.1) (a.length,0,List.replicate a.length 0) (Settle.now rfl) ⟨by simp,DivJ.zero a hn⟩ ?_
 rintro⟨k,r,out⟩ ⟨h1,h2⟩
 dsimp only at h1 h2 ⊢
 have hol:=h2.1
 have hr:=h2.2.2.1
 cases k with
 |zero=>
  simp(disch:=first|exact Xe|fail)only[↓Xa,Xb,Xc,↓reduceIte,Nat.reduceLT,Nat.reduceEqDiff,Nat.reduceBEq,Nat.reduceLeDiff,Nat.reduceAdd,Nat.reduceMul]
  refine Settle.freeze 6 rfl (zAC _ _ _) (by simp[hol]) (.inr (by simp)) ?_
  have e1:AV.seq a.length (((U out).drop 0).take (a.length*1)) true=LS out true:=by
   rw[List.drop_zero,Nat.mul_one,← hol,List.take_of_length_le (by simp)];rfl
  rw[e1,zAR,zAZ _ ho]
  refine Settle.now ?_
  simp(disch:=first|exact Xe|fail)only[↓Xa,Xb,Xc,↓reduceIte,Nat.reduceLT,Nat.reduceEqDiff,Nat.reduceBEq,Nat.reduceLeDiff,Nat.reduceAdd,Nat.reduceMul]
  refine(zCZ false true h2.2.1 (by omega)).call ?_
  simp(disch:=first|exact Xe|fail)only[zDg,↓Xa,Xb,Xc,↓reduceIte,Nat.reduceLT,Nat.reduceEqDiff,Nat.reduceBEq,Nat.reduceLeDiff,Nat.reduceAdd,Nat.reduceMul]
  refine(zCZ (l:=[r]) false true (Lim.one (by omega)) (by simp)).call ?_
  simp(disch:=first|exact Xe|fail)only[zDg,zYx,↓Xa,Xb,Xc,↓reduceIte,Nat.reduceLT,Nat.reduceEqDiff,Nat.reduceBEq,Nat.reduceLeDiff,Nat.reduceAdd,Nat.reduceMul]
  refine SetR.now ?_
  have e2:=h2.end
  rw[zAt (by omega) h2.2.1,vm]at e2
  rw[zCv,zCv,zEw,e2.1,e2.2]
  exact hq
 |succ k=>
  clear l1 g1 hY vm hne ho
  have hx:=lm.getD (by omega) k
  have hs:r*65536+a.getD k 0<4294967296:=by omega
  have hne:(n=0)=False:=eq_false (by omega)
  have hw:IntKind.u32.wrap (((r*65536+a.getD k 0) / n:Nat):Int)=(((r*65536+a.getD k 0) / n:Nat):Int):=zEN (Nat.lt_of_le_of_lt (Nat.div_le_self _ _) hs)
  have hw2:IntKind.u64.wrap (((r*65536+a.getD k 0) / n:Nat):Int)=(((r*65536+a.getD k 0) / n:Nat):Int):=zDV (Nat.lt_trans (Nat.lt_of_le_of_lt (Nat.div_le_self _ _) hs) (by decide))
  have hwm:IntKind.u64.wrap ((r*65536:Nat):Int)=((r*65536:Nat):Int):=zDV (Nat.lt_trans (Nat.lt_of_le_of_lt (Nat.le_add_right _ _) hs) (by decide))
  have hwa:IntKind.u64.wrap ((r*65536+a.getD k 0:Nat):Int)=((r*65536+a.getD k 0:Nat):Int):=zDV (Nat.lt_trans hs (by decide))
  have hd66:(r*65536+a.getD k 0) / n<65536:=by
   apply Nat.div_lt_of_lt_mul
   have:(r+1)*65536≤n*65536:=Nat.mul_le_mul_right _ hr
   omega
  have hst:=h2.step (s:=r*65536+a.getD k 0) (by omega) lm hn1 rfl
  rw[Nat.mod_eq_of_lt hd66]at hst
  have hqm:(r*65536+a.getD k 0) / n%18446744073709551616%4294967296=(r*65536+a.getD k 0) / n:=by
   rw[Nat.mod_eq_of_lt (Nat.lt_trans hd66 (by decide)),Nat.mod_eq_of_lt (Nat.lt_trans hd66 (by decide))]
  clear hd66
  generalize hqd:(r*65536+a.getD k 0) / n=qd at*
  generalize hrd:(r*65536+a.getD k 0)%n=rd at*
  generalize hsd:r*65536+a.getD k 0=sd at*
  simp(disch:=first|exact Xe|fail)only[hne,ne_eq,List.getD_cons_zero,zH5,↓hwm,↓hwa,hsd,hqd,hrd,↓hw,↓hw2,↓Xa,Xb,Xc,↓reduceIte,Nat.reduceLT,Nat.reduceEqDiff,Nat.reduceBEq,Nat.reduceLeDiff,Nat.reduceAdd,Nat.reduceMul]
  exact Settle.now ⟨(k,_,_),by dsimp only;omega,⟨by dsimp only;omega,hst⟩,rfl⟩
theorem zPb{H0 H:AHeap}{ty:Nat}{l:List Nat}{x:AV}{K:AV→Prop}(h:zKu H0 ty l x H)(hl:l.length<2^63):zDr false x K=K (.int .i64 ((l.length:Nat):Int)):=by
 rcases h with⟨rfl,rfl,rfl⟩|⟨b,_,rfl,rfl⟩
 ·simp[zDr]
 ·simp[zDr,hl]
structure LongK(A V M:Nat)(ql:List Nat):Prop where
 hM:M≤blen A
 qlen:ql.length=(digs 65536 A).length
 qlim:Lim 65536 ql
 qval:val 65536 ql=A / 2^M / V*2^M
theorem zOo{A V:Nat}(ta tb:Bool)(hV:0<V)(hV1: ¬(digs 65536 V).length=1)(hA:(digs 65536 A).length≤549755813888)(hVl:(digs 65536 V).length≤549755813888):
 PFn Tryz.prog 134 [LS (digs 65536 A) ta,LS (digs 65536 V) tb] (.tup [LS (digs 65536 (A / V)) false,LS (digs 65536 (A%V)) false]):=by
 intro H Q hq
 have hbl:blen A≤16*549755813888:=by
  rcases Nat.eq_zero_or_pos A with e|e
  ·rw[e,zIq];omega
  ·have hb:blen A=16*((digs 65536 A).length-1)+blen ((digs 65536 A).getD ((digs 65536 A).length-1) 0):=zEK (w:=16) (by omega) e
   have hd:=(zAG (B:=65536) (by omega) A).getD (by omega) ((digs 65536 A).length-1)
   have hp:0<(digs 65536 A).length:=by rw[zAf (by omega) e];simp
   have:blen ((digs 65536 A).getD ((digs 65536 A).length-1) 0)≤16:=zBP.2 (by omega)
   omega
 refine zMr (by simp) ?_
 simp(disch:=first|exact Xe|fail)only[zXW,hV1,↓Xa,Xb,Xc,↓reduceIte,Nat.reduceLT,Nat.reduceEqDiff,Nat.reduceBEq,Nat.reduceLeDiff,Nat.reduceAdd,Nat.reduceMul]
 refine zDe fun bq hbq=>?_
 simp(disch:=first|exact Xe|fail)only[↓Xa,Xb,Xc,↓reduceIte,Nat.reduceLT,Nat.reduceEqDiff,Nat.reduceBEq,Nat.reduceLeDiff,Nat.reduceAdd,Nat.reduceMul]
 refine(zPr A ta (by omega)).call ?_
 simp(disch:=first|exact Xe|fail)only[↓Xa,Xb,Xc,↓reduceIte,Nat.reduceLT,Nat.reduceEqDiff,Nat.reduceBEq,Nat.reduceLeDiff,Nat.reduceAdd,Nat.reduceMul]
 refine zAO (fun s:Nat×List Nat×AV×AHeap=>⟨[],[(0,LS (digs 65536 A) ta),(1,LS (digs 65536 V) tb),(9,.own bq (digs 65536 A).length 0 (digs 65536 A).length true),(10,s.2.2.1),(11,.int .i64 (dn s.1))],s.2.2.2⟩)
  (fun s=>LongK A V s.1 s.2.1∧zKu (H.upd bq (some (.row 168 1 (U s.2.1)))) 168 (digs 65536 (A / 2^s.1%V)) s.2.2.1 s.2.2.2) (fun s=>s.1)
  (blen A,List.replicate (digs 65536 A).length 0,.seq 0 [] true,H.upd bq (some (.row 168 1 (U (List.replicate (digs 65536 A).length 0))))) (Settle.now rfl) ?_ ?_
 ·have z:A / 2^blen A=0:=Nat.div_eq_of_lt (zPe A)
  refine⟨⟨Nat.le_refl _,by simp,zB5 (by omega) _,?_⟩,.inl ⟨?_,rfl,rfl⟩⟩
  ·dsimp only;rw[zDY,z,Nat.zero_div,Nat.zero_mul]
  ·dsimp only;rw[z,Nat.zero_mod,zAL]
 rintro⟨M,ql,x,H1⟩ ⟨hk,hg⟩
 dsimp only at hk hg ⊢
 have hM:=hk.hM
 cases M with
 |zero=>
  obtain⟨q1,q2,q3⟩:ql.length=(digs 65536 A).length∧Lim 65536 ql∧val 65536 ql=A / V:=⟨hk.qlen,hk.qlim,by have:=hk.qval;simpa using this⟩
  rw[Nat.pow_zero,Nat.div_one]at hg
  have hkeep:=hg
  simp(disch:=first|exact Xe|fail)only[↓Xa,Xb,Xc,↓reduceIte,Nat.reduceLT,Nat.reduceEqDiff,Nat.reduceBEq,Nat.reduceLeDiff,Nat.reduceAdd,Nat.reduceMul]
  refine Settle.grownO 10 rfl hg ?_
  refine Settle.freeze 9 rfl (zAC _ _ _) (by simp[q1]) (.inr (by simp)) ?_
  have e1:AV.seq (digs 65536 A).length (((U ql).drop 0).take ((digs 65536 A).length*1)) true=LS ql true:=by
   rw[List.drop_zero,Nat.mul_one,← q1,List.take_of_length_le (by simp)];rfl
  rw[e1,zAR,zAZ _ hbq]
  refine Settle.now ?_
  simp(disch:=first|exact Xe|fail)only[↓Xa,Xb,Xc,↓reduceIte,Nat.reduceLT,Nat.reduceEqDiff,Nat.reduceBEq,Nat.reduceLeDiff,Nat.reduceAdd,Nat.reduceMul]
  refine(zCZ false true q2 (by omega)).call ?_
  simp(disch:=first|exact Xe|fail)only[zDg,zYx,↓Xa,Xb,Xc,↓reduceIte,Nat.reduceLT,Nat.reduceEqDiff,Nat.reduceBEq,Nat.reduceLeDiff,Nat.reduceAdd,Nat.reduceMul]
  refine SetR.now ?_
  rw[zCv,q3]
  exact hq
 |succ k=>
  have hA0:0<A:=zEQ.1 (by omega)
  have h2k:2^k≤A:=Nat.le_trans (Nat.pow_le_pow_right (by omega) (by omega)) (zH4 hA0)
  have hkl:=zYj h2k
  have hRl:(digs 65536 (A / 2^(k+1)%V)).length≤549755813888:=by
   refine Nat.le_trans (zAu (by omega) _ _ ?_) hVl
   have h1:=zA5 (zAG (B:=65536) (by omega) V)
   rw[zAJ (by omega)]at h1
   exact Nat.lt_trans (Nat.mod_lt _ hV) h1
  have hc1:A / 2^k%2≤1:=by omega
  have hls:=zQi (A:=A) (k:=k) hV
  simp(disch:=first|exact Xe|fail)only[↓Xa,Xb,Xc,↓reduceIte,Nat.reduceLT,Nat.reduceEqDiff,Nat.reduceBEq,Nat.reduceLeDiff,Nat.reduceAdd,Nat.reduceMul]
  refine(zac A k ta (by omega) hkl).call ?_
  simp(disch:=first|exact Xe|fail)only[↓Xa,Xb,Xc,↓reduceIte,Nat.reduceLT,Nat.reduceEqDiff,Nat.reduceBEq,Nat.reduceLeDiff,Nat.reduceAdd,Nat.reduceMul]
  generalize hR:A / 2^(k+1)%V=R at*
  generalize A / 2^k%2=c0 at*
  have hXl:=zAG (B:=65536) (by omega) R
  refine zAO (fun s:Nat×Nat×List Nat×AV×AHeap=>⟨[],[(0,LS (digs 65536 A) ta),(1,LS (digs 65536 V) tb),(9,.own bq (digs 65536 A).length 0 (digs 65536 A).length true),(10,s.2.2.2.1),(11,.int .i64 k),(12,.int .u32 s.2.1),(13,.int .i64 s.1)],s.2.2.2.2⟩)
   (fun s=>s.1≤(digs 65536 R).length∧DblI (digs 65536 R) c0 s.1 s.2.1 s.2.2.1∧zKu (H.upd bq (some (.row 168 1 (U ql)))) 168 (s.2.2.1++(digs 65536 R).drop s.1) s.2.2.2.1 s.2.2.2.2) (fun s=>(digs 65536 R).length-s.1)
   (0,c0,[],x,H1) (Settle.now rfl) ⟨Nat.zero_le _,DblI.zero _ hc1,hg⟩ ?_
  rintro⟨i,c,done,x',H2⟩ ⟨g1,g2,g3⟩
  dsimp only at g1 g2 g3 ⊢
  have hd:=g2.1
  have hc:=g2.2.2.1
  have hcl:(done++(digs 65536 R).drop i).length=(digs 65536 R).length:=by simp[hd];omega
  have hlen: ∀K,zDr false x' K=K (.int .i64 (((digs 65536 R).length:Nat):Int)):=fun K=>by
   rw[zPb g3 (by omega),hcl]
  by_cases hi:i<(digs 65536 R).length
  ·have hx:=hXl.getD (by omega) i
   rcases g3 with⟨e1,_,_⟩|⟨br,hbr,rfl,rfl⟩
   ·rw[e1]at hcl;simp at hcl;omega
   ·have p1:(done++(digs 65536 R).drop i).getD i 0=(digs 65536 R).getD i 0:=zH8 hd hi
    have p2: ∀y,(done++(digs 65536 R).drop i).set i y=(done++[y])++(digs 65536 R).drop (i+1):=fun y=>zIZ hd hi
    rw[hcl]
    generalize hrow:done++(digs 65536 R).drop i=row at*
    simp(disch:=first|exact Xe|fail)only[hi,p1,ne_eq,Nat.reduceEqDiff,↓Xa,Xb,Xc,↓reduceIte,Nat.reduceLT,Nat.reduceEqDiff,Nat.reduceBEq,Nat.reduceLeDiff,Nat.reduceAdd,Nat.reduceMul]
    rw[p2]
    have e3:(done++[(c+2*(digs 65536 R).getD i 0)%65536]++(digs 65536 R).drop (i+1)).length=(digs 65536 R).length:=by
     simp[hd];omega
    exact Settle.now ⟨(i+1,_,done++[(c+2*(digs 65536 R).getD i 0)%65536],_,_),by dsimp only;omega,⟨by dsimp only;omega,g2.step hXl rfl,.inr ⟨br,hbr,by rw[e3],rfl⟩⟩,rfl⟩
  ·obtain rfl:i=(digs 65536 R).length:=by omega
   have hend:=g2.end hc1
   rw[List.drop_of_length_le (Nat.le_refl _),List.append_nil]at g3
   simp(disch:=first|exact Xe|fail)only[hlen,hi,↓Xa,Xb,Xc,↓reduceIte,Nat.reduceLT,Nat.reduceEqDiff,Nat.reduceBEq,Nat.reduceLeDiff,Nat.reduceAdd,Nat.reduceMul]
   refine Settle.now ?_
   by_cases h0:0<c
   ·rw[if_pos h0]at hend
    simp(disch:=first|exact Xe|fail)only[h0,↓Xa,Xb,Xc,↓reduceIte,Nat.reduceLT,Nat.reduceEqDiff,Nat.reduceBEq,Nat.reduceLeDiff,Nat.reduceAdd,Nat.reduceMul]
    refine appO (m:=[c]) g3 rfl (by simp) (by simp;omega) fun x2 H3 g4=>?_
    rw[hend]at g4
    simp(disch:=first|exact Xe|fail)only[↓Xa,Xb,Xc,↓reduceIte,Nat.reduceLT,Nat.reduceEqDiff,Nat.reduceBEq,Nat.reduceLeDiff,Nat.reduceAdd,Nat.reduceMul]
    rcases g4 with⟨z1,rfl,rfl⟩|⟨b2,hb2,rfl,rfl⟩
    ·have z2:2*R+c0=0:=(zCb (B:=65536) (by omega)).1 z1
     obtain⟨f1,f2⟩:=hls.2 (by omega)
     rw[zcu 65536]
     refine(zLN 0 V true tb (by rw[zAL];simp) (by omega)).call ?_
     rw[show zBt 0 V= -1 by simp[zBt,hV]]
     simp(disch:=first|exact Xe|fail)only[zC0,↓Xa,Xb,Xc,↓reduceIte,Nat.reduceLT,Nat.reduceEqDiff,Nat.reduceBEq,Nat.reduceLeDiff,Nat.reduceAdd,Nat.reduceMul]
     refine Settle.keep [0,1,9,10,11] ⟨(k,ql,_,_),by dsimp only;omega,⟨⟨by dsimp only;omega,hk.qlen,hk.qlim,?_⟩,.inl ⟨?_,rfl,rfl⟩⟩,by rw[← zcu 65536];rfl⟩
     ·dsimp only;rw[hk.qval,f2,Nat.pow_succ];grind
     ·dsimp only;rw[f1,z2,zAL]
    ·have ap1:=(zAB.1 hb2).1
     have hX2l:(digs 65536 (2*R+c0)).length≤1099511627776:=by
      refine Nat.le_trans (zAu (by omega) ((digs 65536 V).length+1) _ ?_) (by omega)
      have q1:=zA5 (zAG (B:=65536) (by omega) V)
      rw[zAJ (by omega)]at q1
      have q2:R<V:=hR▸Nat.mod_lt _ hV
      rw[Nat.pow_succ];omega
     refine zAM (zLb (2*R+c0) V false tb (zAC _ _ _) rfl ?_ hX2l (by omega))
     by_cases hge:V≤2*R+c0
     ·obtain⟨f1,f2⟩:=hls.1 hge
      have c3: ∀K,zAv .geq (.int .i64 (zBt (2*R+c0) V)) (.int .i64 ((0:Nat):Int)) K↔K (.bool true):=fun K=>by
       have:(0:Int)≤zBt (2*R+c0) V:=by unfold zBt;rw[if_neg (by omega)];split<;>omega
       simp[zAv,zAi];rw[decide_eq_true this]
      simp(disch:=first|exact Xe|fail)only[c3,↓Xa,Xb,Xc,↓reduceIte,Nat.reduceLT,Nat.reduceEqDiff,Nat.reduceBEq,Nat.reduceLeDiff,Nat.reduceAdd,Nat.reduceMul]
      refine zAM (zJH (2*R+c0) V false tb (zAC _ _ _) rfl ?_ hge hX2l)
      intro x3 H4 g5
      have hpl:(digs 65536 (2*R+c0-V)).length≤(digs 65536 (2*R+c0)).length:=zAu (by omega) _ _ (by
       have:=zA5 (zAG (B:=65536) (by omega) (2*R+c0));rw[zAJ (by omega)]at this;omega)
      have hpad:=zD8 hpl
      have hp0:0<(digs 65536 (2*R+c0)).length:=by rw[zAf (by omega) (show 0<2*R+c0 by omega)];simp
      rcases g5 with⟨z1,_,_⟩|⟨_,b3,hb3,rfl,rfl⟩
      ·rw[z1]at hpad;simp at hpad;omega
      ·have ap2:=(zAB.1 hb3).1
       have ap3:=(zAB.1 (zAB.1 hb3).2).1
       have hn3:=(zAB.1 (zAB.1 hb3).2).2
       simp(disch:=first|exact Xe|fail)only[↓Xa,Xb,Xc,↓reduceIte,Nat.reduceLT,Nat.reduceEqDiff,Nat.reduceBEq,Nat.reduceLeDiff,Nat.reduceAdd,Nat.reduceMul]
       refine zAM (zI4 false false (zAC _ _ _) rfl (fun ti=>?_) (zDP (by omega)) (by omega))
       have htr:tr (pad 65536 (2*R+c0-V) (digs 65536 (2*R+c0)).length)=digs 65536 (2*R+c0-V):=by
        rw[zAt (B:=65536) (by omega) (zDP (by omega)),zFE (by omega)]
       have hpt:(pad 65536 (2*R+c0-V) (digs 65536 (2*R+c0)).length).take (digs 65536 (2*R+c0-V)).length=digs 65536 (2*R+c0-V):=by
        unfold pad;simp
       rw[htr,hpad]
       obtain⟨o1,o2,o3⟩:=zQN hk.qlim (by rw[hk.qlen];exact hkl) hk.qval
       have hql:=hk.qlen
       have hqd:=hk.qlim.getD (by omega) (k / 16)
       have hk16:k / 16<9223372036854775808:=by omega
       have hpw:(2:Nat)^(k%16)≤2^15:=Nat.pow_le_pow_right (by omega) (by omega)
       have hk32:k%16≤32:=by omega
       have or1: ∀K,zAv .or (.int .u32 ((ql.getD (k / 16) 0:Nat):Int)) (.int .u32 ((2^(k%16):Nat):Int)) K↔K (.int .u32 ((ql.getD (k / 16) 0+2^(k%16):Nat):Int)):=fun K=>by
        rw[zG1 .u32 (by simp only[IntKind.bits];omega) (by simp only[IntKind.bits];omega),o1,zEN (by omega)]
       simp(disch:=first|exact Xe|fail)only[hkl,hql,or1,Nat.one_mul,zJb,ne_eq,Nat.reduceEqDiff,↓Xa,Xb,Xc,↓reduceIte,Nat.reduceLT,Nat.reduceEqDiff,Nat.reduceBEq,Nat.reduceLeDiff,Nat.reduceAdd,Nat.reduceMul]
       refine Settle.kill b2 ?_
       rw[zDj ap2,zAZ _ (zAB.2 ⟨ap1,(zAB.1 hb2).2⟩)]
       refine Settle.renew 10 rfl (zAC _ _ _) hpad hpl fun b' hb'=>?_
       rw[zAR,zAZ _ (zAB.2 ⟨ap3,hn3⟩)]at hb' ⊢
       rw[hpt]
       refine Settle.now ⟨(k,ql.set (k / 16) (ql.getD (k / 16) 0+2^(k%16)),_,_),by dsimp only;omega,⟨⟨by dsimp only;omega,by simpa using hql,zCy hk.qlim _ _ o2,?_⟩,.inr ⟨b',hb',?_,?_⟩⟩,rfl⟩
       ·dsimp only;rw[f2];exact o3
       ·dsimp only;rw[f1]
       ·exact congrArg (fun z=>(H.upd bq (some (ABlk.row 168 1 (U (ql.set (k / 16) (ql.getD (k / 16) 0+2^(k%16))))))).upd b' (some (.row 168 1 (U (digs 65536 z))))) f1.symm
     ·obtain⟨f1,f2⟩:=hls.2 (by omega)
      have c3: ∀K,zAv .geq (.int .i64 (zBt (2*R+c0) V)) (.int .i64 ((0:Nat):Int)) K↔K (.bool false):=fun K=>by
       simp[zAv,zAi,zBt,show 2*R+c0<V by omega]
      simp(disch:=first|exact Xe|fail)only[c3,↓Xa,Xb,Xc,↓reduceIte,Nat.reduceLT,Nat.reduceEqDiff,Nat.reduceBEq,Nat.reduceLeDiff,Nat.reduceAdd,Nat.reduceMul]
      refine Settle.keep [0,1,9,10,11] ⟨(k,ql,_,_),by dsimp only;omega,⟨⟨by dsimp only;omega,hk.qlen,hk.qlim,?_⟩,.inr ⟨b2,hb2,?_,?_⟩⟩,rfl⟩
      ·dsimp only;rw[hk.qval,f2,Nat.pow_succ];grind
      ·dsimp only;rw[f1]
      ·exact congrArg (fun z=>(H.upd bq (some (ABlk.row 168 1 (U ql)))).upd b2 (some (.row 168 1 (U (digs 65536 z))))) f1.symm
   ·rw[if_neg h0]at hend
    rw[hend]at g3
    have g4:=g3
    simp(disch:=first|exact Xe|fail)only[h0,↓Xa,Xb,Xc,↓reduceIte,Nat.reduceLT,Nat.reduceEqDiff,Nat.reduceBEq,Nat.reduceLeDiff,Nat.reduceAdd,Nat.reduceMul]
    rcases g4 with⟨z1,rfl,rfl⟩|⟨b2,hb2,rfl,rfl⟩
    ·have z2:2*R+c0=0:=(zCb (B:=65536) (by omega)).1 z1
     obtain⟨f1,f2⟩:=hls.2 (by omega)
     rw[zcu 65536]
     refine(zLN 0 V true tb (by rw[zAL];simp) (by omega)).call ?_
     rw[show zBt 0 V= -1 by simp[zBt,hV]]
     simp(disch:=first|exact Xe|fail)only[zC0,↓Xa,Xb,Xc,↓reduceIte,Nat.reduceLT,Nat.reduceEqDiff,Nat.reduceBEq,Nat.reduceLeDiff,Nat.reduceAdd,Nat.reduceMul]
     refine Settle.keep [0,1,9,10,11] ⟨(k,ql,_,_),by dsimp only;omega,⟨⟨by dsimp only;omega,hk.qlen,hk.qlim,?_⟩,.inl ⟨?_,rfl,rfl⟩⟩,by rw[← zcu 65536];rfl⟩
     ·dsimp only;rw[hk.qval,f2,Nat.pow_succ];grind
     ·dsimp only;rw[f1,z2,zAL]
    ·have ap1:=(zAB.1 hb2).1
     have hX2l:(digs 65536 (2*R+c0)).length≤1099511627776:=by
      refine Nat.le_trans (zAu (by omega) ((digs 65536 V).length+1) _ ?_) (by omega)
      have q1:=zA5 (zAG (B:=65536) (by omega) V)
      rw[zAJ (by omega)]at q1
      have q2:R<V:=hR▸Nat.mod_lt _ hV
      rw[Nat.pow_succ];omega
     refine zAM (zLb (2*R+c0) V false tb (zAC _ _ _) rfl ?_ hX2l (by omega))
     by_cases hge:V≤2*R+c0
     ·obtain⟨f1,f2⟩:=hls.1 hge
      have c3: ∀K,zAv .geq (.int .i64 (zBt (2*R+c0) V)) (.int .i64 ((0:Nat):Int)) K↔K (.bool true):=fun K=>by
       have:(0:Int)≤zBt (2*R+c0) V:=by unfold zBt;rw[if_neg (by omega)];split<;>omega
       simp[zAv,zAi];rw[decide_eq_true this]
      simp(disch:=first|exact Xe|fail)only[c3,↓Xa,Xb,Xc,↓reduceIte,Nat.reduceLT,Nat.reduceEqDiff,Nat.reduceBEq,Nat.reduceLeDiff,Nat.reduceAdd,Nat.reduceMul]
      refine zAM (zJH (2*R+c0) V false tb (zAC _ _ _) rfl ?_ hge hX2l)
      intro x3 H4 g5
      have hpl:(digs 65536 (2*R+c0-V)).length≤(digs 65536 (2*R+c0)).length:=zAu (by omega) _ _ (by
       have:=zA5 (zAG (B:=65536) (by omega) (2*R+c0));rw[zAJ (by omega)]at this;omega)
      have hpad:=zD8 hpl
      have hp0:0<(digs 65536 (2*R+c0)).length:=by rw[zAf (by omega) (show 0<2*R+c0 by omega)];simp
      rcases g5 with⟨z1,_,_⟩|⟨_,b3,hb3,rfl,rfl⟩
      ·rw[z1]at hpad;simp at hpad;omega
      ·have ap2:=(zAB.1 hb3).1
       have ap3:=(zAB.1 (zAB.1 hb3).2).1
       have hn3:=(zAB.1 (zAB.1 hb3).2).2
       simp(disch:=first|exact Xe|fail)only[↓Xa,Xb,Xc,↓reduceIte,Nat.reduceLT,Nat.reduceEqDiff,Nat.reduceBEq,Nat.reduceLeDiff,Nat.reduceAdd,Nat.reduceMul]
       refine zAM (zI4 false false (zAC _ _ _) rfl (fun ti=>?_) (zDP (by omega)) (by omega))
       have htr:tr (pad 65536 (2*R+c0-V) (digs 65536 (2*R+c0)).length)=digs 65536 (2*R+c0-V):=by
        rw[zAt (B:=65536) (by omega) (zDP (by omega)),zFE (by omega)]
       have hpt:(pad 65536 (2*R+c0-V) (digs 65536 (2*R+c0)).length).take (digs 65536 (2*R+c0-V)).length=digs 65536 (2*R+c0-V):=by
        unfold pad;simp
       rw[htr,hpad]
       obtain⟨o1,o2,o3⟩:=zQN hk.qlim (by rw[hk.qlen];exact hkl) hk.qval
       have hql:=hk.qlen
       have hqd:=hk.qlim.getD (by omega) (k / 16)
       have hk16:k / 16<9223372036854775808:=by omega
       have hpw:(2:Nat)^(k%16)≤2^15:=Nat.pow_le_pow_right (by omega) (by omega)
       have hk32:k%16≤32:=by omega
       have or1: ∀K,zAv .or (.int .u32 ((ql.getD (k / 16) 0:Nat):Int)) (.int .u32 ((2^(k%16):Nat):Int)) K↔K (.int .u32 ((ql.getD (k / 16) 0+2^(k%16):Nat):Int)):=fun K=>by
        rw[zG1 .u32 (by simp only[IntKind.bits];omega) (by simp only[IntKind.bits];omega),o1,zEN (by omega)]
       simp(disch:=first|exact Xe|fail)only[hkl,hql,or1,Nat.one_mul,zJb,ne_eq,Nat.reduceEqDiff,↓Xa,Xb,Xc,↓reduceIte,Nat.reduceLT,Nat.reduceEqDiff,Nat.reduceBEq,Nat.reduceLeDiff,Nat.reduceAdd,Nat.reduceMul]
       refine Settle.kill b2 ?_
       rw[zDj ap2,zAZ _ (zAB.2 ⟨ap1,(zAB.1 hb2).2⟩)]
       refine Settle.renew 10 rfl (zAC _ _ _) hpad hpl fun b' hb'=>?_
       rw[zAR,zAZ _ (zAB.2 ⟨ap3,hn3⟩)]at hb' ⊢
       rw[hpt]
       refine Settle.now ⟨(k,ql.set (k / 16) (ql.getD (k / 16) 0+2^(k%16)),_,_),by dsimp only;omega,⟨⟨by dsimp only;omega,by simpa using hql,zCy hk.qlim _ _ o2,?_⟩,.inr ⟨b',hb',?_,?_⟩⟩,rfl⟩
       ·dsimp only;rw[f2];exact o3
       ·dsimp only;rw[f1]
       ·exact congrArg (fun z=>(H.upd bq (some (ABlk.row 168 1 (U (ql.set (k / 16) (ql.getD (k / 16) 0+2^(k%16))))))).upd b' (some (.row 168 1 (U (digs 65536 z))))) f1.symm
     ·obtain⟨f1,f2⟩:=hls.2 (by omega)
      have c3: ∀K,zAv .geq (.int .i64 (zBt (2*R+c0) V)) (.int .i64 ((0:Nat):Int)) K↔K (.bool false):=fun K=>by
       simp[zAv,zAi,zBt,show 2*R+c0<V by omega]
      simp(disch:=first|exact Xe|fail)only[c3,↓Xa,Xb,Xc,↓reduceIte,Nat.reduceLT,Nat.reduceEqDiff,Nat.reduceBEq,Nat.reduceLeDiff,Nat.reduceAdd,Nat.reduceMul]
      refine Settle.keep [0,1,9,10,11] ⟨(k,ql,_,_),by dsimp only;omega,⟨⟨by dsimp only;omega,hk.qlen,hk.qlim,?_⟩,.inr ⟨b2,hb2,?_,?_⟩⟩,rfl⟩
      ·dsimp only;rw[hk.qval,f2,Nat.pow_succ];grind
      ·dsimp only;rw[f1]
      ·exact congrArg (fun z=>(H.upd bq (some (ABlk.row 168 1 (U ql)))).upd b2 (some (.row 168 1 (U (digs 65536 z))))) f1.symm
theorem zNU{A V:Nat}(ta tb:Bool)(hV:0<V)(hA:(digs 65536 A).length≤549755813888)(hVl:(digs 65536 V).length≤549755813888):
 PFn Tryz.prog 134 [LS (digs 65536 A) ta,LS (digs 65536 V) tb] (.tup [LS (digs 65536 (A / V)) false,LS (digs 65536 (A%V)) false]):=by
 by_cases h1:(digs 65536 V).length=1
 ·have h2:=zA5 (zAG (B:=65536) (by omega) V)
  rw[zAJ (by omega),h1]at h2
  exact zU0 ta tb hV (by simpa using h2) (by omega)
 ·exact zOo ta tb hV h1 hA hVl
theorem Bd.le{x y:Int}{k:Nat}(h:Bd k y)(hl:x.natAbs≤y.natAbs):Bd k x:=Nat.lt_of_le_of_lt hl h
theorem Bd.ediv{x y:Int}{k:Nat}(h:Bd k x):Bd k (x / y):=h.le (Int.natAbs_ediv_le_natAbs x y)
def IC(zs:List Int):List AV:=zs.flatMap fun z=>[zBO z,zBU z]
theorem zBQ(zs:List Int):(IC zs).length=zs.length*2:=by
 induction zs with
 |nil=>rfl
 |cons a l ih=>simp only[IC,List.flatMap_cons,List.length_append,List.length_cons,List.length_nil]at *; omega
theorem zRu(zs:List Int)(z:Int):IC (zs++[z])=IC zs++[zBO z,zBU z]:=by simp[IC,List.flatMap_append]
theorem zFz: ∀(l:List Int)(i:Nat)(h:i<l.length),(IC l).drop (i*2)=zBO (l[i])::zBU (l[i])::(IC l).drop (i*2+2)
 |a::l,0,_=>rfl
 |a::l,i+1,h=>by
  have:=zFz l i (by simpa using h)
  rw[show(i+1)*2=i*2+2 by omega]
  show((zBO a::zBU a::IC l).drop (i*2+2))=_
  simp only[List.drop_succ_cons,List.getElem_cons_succ]
  rw[this]
  show _=_::_::((zBO a::zBU a::IC l).drop (i*2+2+2))
  simp only[List.drop_succ_cons]
def RowI(H:AHeap)(x:AV)(zs:List Int):Prop:=
 (∃t,x=.seq zs.length (IC zs) t)∨∃b ty t,x=.own b (zs.length*2) 0 zs.length t∧H b=some (.row ty 2 (IC zs))
theorem RowI.le{H H':AHeap}{x:AV}{zs:List Int}(h:RowI H x zs)(hl:Le H H'):RowI H' x zs:=by
 rcases h with h|⟨b,ty,t,e,hb⟩
 ·exact .inl h
 ·exact .inr ⟨b,ty,t,e,hl b _ hb⟩
theorem RowI.nil{H:AHeap}:RowI H (.seq 0 [] true) []:=.inl ⟨true,rfl⟩
theorem RowI.grown{H0 H:AHeap}{ty:TypeId}{x:AV}{zs:List Int}(h:zA7 H0 ty 2 zs.length (IC zs) x H):RowI H x zs:=by
 rcases h with⟨h1,h2,rfl,rfl⟩|⟨h1,h2,b,hb,rfl,rfl⟩
 ·have:zs=[]:=List.length_eq_zero_iff.1 h1
  subst this;exact RowI.nil
 ·exact .inr ⟨b,ty,false,rfl,zAC _ _ _⟩
theorem RowI.len{H:AHeap}{x:AV}{zs:List Int}(h:RowI H x zs)(hn:zs.length<9223372036854775808){K:AV→Prop}:zDr false x K=K (.int .i64 ((zs.length:Nat):Int)):=by
 rcases h with⟨t,rfl⟩|⟨b,ty,t,rfl,hb⟩<;>simp[zDr,hn]
theorem RowI.get{H:AHeap}{x:AV}{zs:List Int}(h:RowI H x zs){i:Nat}(hi:i<zs.length): ∃p,(∀{k:IntKind}{K:AV→Prop},(zCB H x∧zBg 2 x (.int k (i:Int)) K)↔K p)∧∀{K:AV→Prop},zA9 H (some 2) p K↔K (zAe (zs[i])):=by
 rcases h with⟨t,rfl⟩|⟨b,ty,t,rfl,hb⟩
 ·refine⟨.cptr ((IC zs).drop (i*2)),fun{k K}=>?_,fun{K}=>?_⟩
  ·simp[zCB,zBg,zBQ,hi]
  ·simp only[zA9,zA4,zFz zs i hi];simp[zE2]
 ·have hl:=zBQ zs
  refine⟨.ptr b (zs.length*2) (i*2),fun{k K}=>?_,fun{K}=>?_⟩
  ·simp[zCB,zBg,hb,hl,hi]
  ·simp only[zA9,zA4,hb,zFz zs i hi]
   simp[zE2,hl]
   omega
end Go.Proofs.YtmndejlpfmmaiaaGreatDoor.Fw
namespace Go.Proofs.YtmndejlpfmmaiaaGreatDoor.Fw
open Go Go.Proofs.YtmndejlpfmmaiaaGreatDoor.Ma
def zHO(f:Int→Int→Int)(zs ws:List Int):List Int:=List.zipWith f zs ws
end Go.Proofs.YtmndejlpfmmaiaaGreatDoor.Fw
namespace Go.Proofs.YtmndejlpfmmaiaaGreatDoor.Fw
open Go Go.Proofs.YtmndejlpfmmaiaaGreatDoor.Ma
set_option maxRecDepth 20000
end Go.Proofs.YtmndejlpfmmaiaaGreatDoor.Fw
namespace Go.Proofs.YtmndejlpfmmaiaaGreatDoor.Ma
def chr(d:Nat):UInt8:=UInt8.ofNat (48+d)
theorem zLH{d:Nat}(h:d<10):(chr d).toNat=48+d:=by unfold chr;rw[UInt8.toNat_ofNat'];omega
def dec(n:Nat):List UInt8:=(digs 10 n).reverse.map chr
def wide(k n:Nat):List UInt8:=(pad 10 n k).reverse.map chr
theorem zHv:dec 0=[]:=by simp[dec,zAL]
theorem zTR{k n:Nat}(h:n<10^k):(wide k n).length=k:=by
 simp only[wide,List.length_map,List.length_reverse]
 exact zD8 (zAu (by omega) k n h)
theorem zIa{k n:Nat}(h:n<10^k):(dec n).length≤k:=by
 simp only[dec,List.length_map,List.length_reverse]
 exact zAu (by omega) k n h
theorem zED{l m:List Nat}(h:m≠[]):(l++m).getD ((l++m).length-1) 0=m.getD (m.length-1) 0:=by
 have:0<m.length:=List.length_pos_iff.2 h
 rw[List.getD_eq_getElem?_getD,List.getD_eq_getElem?_getD,List.length_append,List.getElem?_append_right (by omega)]
 congr 2;omega
theorem zXD{k p m:Nat}(hp:p<10^k)(hm:0<m):dec (p+10^k*m)=dec m++wide k p:=by
 have hne:digs 10 m≠[]:=fun e=>by have:=(zCb (B:=10) (by omega)).1 e;omega
 have hlen:=zD8 (zAu (B:=10) (by omega) k p hp)
 have e:digs 10 (p+10^k*m)=pad 10 p k++digs 10 m:=by
  have h1:Lim 10 (pad 10 p k++digs 10 m):=(zDP (by omega)).append (zAG (by omega) m)
  have h2:=zE4 (B:=10) (by omega) h1 (.inr (by rw[zED hne];exact zBe (by omega) hm))
  rw[h2,zBH,zFE (by omega),zAJ (by omega),hlen]
 simp only[dec,e,wide,List.reverse_append,List.map_append]
theorem zPa{j q:Nat}(h:q<10^(j+1)):wide (j+1) q=chr (q / 10^j)::wide j (q%10^j):=by
 have hp:0<10^j:=Nat.pow_pos (by omega)
 have hlt:q%10^j<10^j:=Nat.mod_lt _ hp
 have hd:q / 10^j<10:=Nat.div_lt_of_lt_mul (by rw[Nat.pow_succ]at h;omega)
 have hlen:=zD8 (zAu (B:=10) (by omega) j _ hlt)
 have e:pad 10 q (j+1)=pad 10 (q%10^j) j++[q / 10^j]:=by
  have h1:Lim 10 (pad 10 (q%10^j) j++[q / 10^j]):=(zDP (by omega)).append (Lim.one hd)
  have h2:=zWq (B:=10) (by omega) h1
  rw[zBH,zFE (by omega),hlen,zEw,List.length_append,hlen,Nat.mod_add_div]at h2
  exact h2.symm
 simp only[wide,e,List.reverse_append,List.map_append,List.reverse_singleton,List.map_cons,List.map_nil,List.singleton_append]
theorem zQs{j p:Nat}:wide (j+1) (p%10^(j+1))=chr (p / 10^j%10)::wide j (p%10^j):=by
 have hp:0<10^(j+1):=Nat.pow_pos (by omega)
 rw[zPa (Nat.mod_lt _ hp)]
 have e1:p%10^(j+1) / 10^j=p / 10^j%10:=by rw[Nat.pow_succ,Nat.mod_mul_right_div_self]
 have e2:p%10^(j+1)%10^j=p%10^j:=by rw[Nat.pow_succ];exact Nat.mod_mod_of_dvd _ (Nat.dvd_mul_right _ _)
 rw[e1,e2]
theorem zZ3{d:Nat}(h:d<10):(chr d=48)↔d=0:=by
 constructor
 ·intro e
  have:=congrArg UInt8.toNat e
  rw[zLH h]at this
  simp at this;omega
 ·rintro rfl;rfl
theorem zQj{k p:Nat}:(wide k p).dropWhile (· ==48)=dec p:=by
 have e:wide k p=List.replicate (k-(digs 10 p).length) 48++dec p:=by
  simp only[wide,pad,dec,List.reverse_append,List.map_append,List.reverse_replicate,List.map_replicate]
  rfl
 rw[e]
 have h: ∀n(l:List UInt8),(List.replicate n 48++l).dropWhile (· ==48)=l.dropWhile (· ==48):=by
  intro n
  induction n with
  |zero=>intro l;simp
  |succ n ih=>intro l;rw[List.replicate_succ,List.cons_append,List.dropWhile_cons];simp[ih]
 rw[h]
 rcases Nat.eq_zero_or_pos p with hp|hp
 ·subst hp;rw[zHv];rfl
 ·have hl:=zBe (B:=10) (by omega) hp
  have hne:digs 10 p≠[]:=fun e=>by have:=(zCb (B:=10) (by omega)).1 e;omega
  obtain⟨l,x,hx⟩: ∃l x,digs 10 p=l++[x]:=⟨_,_,(List.dropLast_concat_getLast hne).symm⟩
  have hx0:x≠0:=by
   rw[hx,zED (by simp)]at hl
   simpa using hl
  have hx10:x<10:=zAG (B:=10) (by omega) p x (by rw[hx];simp)
  have hd:dec p=chr x::l.reverse.map chr:=by simp[dec,hx]
  rw[hd,List.dropWhile_cons]
  have:(chr x==48)=false:=by
   rw[beq_eq_false_iff_ne];exact fun h=>hx0 ((zZ3 hx10).1 h)
  rw[this];rfl
theorem zIX{B n k:Nat}(hB:2≤B)(hk:k<(digs B n).length):0<val B ((digs B n).drop k):=by
 have hn:0<n:=by
  rcases Nat.eq_zero_or_pos n with h|h
  ·subst h;rw[zAL]at hk;simp at hk
  ·exact h
 have hl:=zBe hB hn
 have h1:Lim B ((digs B n).drop k):=(zAG hB n).drop k
 have h2:((digs B n).drop k).getD (((digs B n).drop k).length-1) 0≠0:=by
  rw[List.length_drop,List.getD_eq_getElem?_getD,List.getElem?_drop,← List.getD_eq_getElem?_getD]
  have:k+((digs B n).length-k-1)=(digs B n).length-1:=by omega
  rw[this];exact hl
 have h3:=zE4 hB h1 (.inr h2)
 rcases Nat.eq_zero_or_pos (val B ((digs B n).drop k))with h|h
 ·rw[h,zAL]at h3
  have:=congrArg List.length h3
  simp at this;omega
 ·exact h
def zIw(n:Nat):List UInt8:=if n=0 then[48]else dec n
theorem zKi{n:Nat}(h:0<n):dec n≠[]:=by
 intro e
 have:(digs 10 n)=[]:=by simpa[dec]using e
 have:=(zCb (B:=10) (by omega)).1 this
 omega
theorem zON{n k p:Nat}(hk:k<(digs 1000000000 n).length)(hp:p=(digs 1000000000 n).getD k 0):
 p<1000000000∧dec (val 1000000000 ((digs 1000000000 n).drop k))=dec (val 1000000000 ((digs 1000000000 n).drop (k+1)))++(if k+1=(digs 1000000000 n).length then dec p else wide 9 p):=by
 have hlt:p<1000000000:=hp▸(zAG (B:=1000000000) (by omega) n).getD (by omega) k
 refine⟨hlt,?_⟩
 rw[zBh 1000000000 hk,← hp]
 by_cases h:k+1=(digs 1000000000 n).length
 ·rw[if_pos h,List.drop_of_length_le (by omega)]
  simp[val,zHv]
 ·rw[if_neg h]
  have:=zIX (B:=1000000000) (n:=n) (k:=k+1) (by omega) (by omega)
  exact zXD (k:=9) hlt this
end Go.Proofs.YtmndejlpfmmaiaaGreatDoor.Ma
namespace Go.Proofs.YtmndejlpfmmaiaaGreatDoor.Fw
open Go Go.Proofs.YtmndejlpfmmaiaaGreatDoor.Ma
set_option maxRecDepth 20000
def Sx(l:List UInt8):AV:=.str ⟨l.toArray⟩
theorem zFt{l:List UInt8}:AV.str ⟨l.toArray⟩=Sx l:=id rfl
theorem zD5{l:List UInt8}:(⟨l.toArray⟩:ByteArray).size=l.length:=by simp[ByteArray.size]
section
variable {K:AV→Prop} {K2:AV→AHeap→Prop} {KD:AV→List Nat→Option (Nat×ABlk)→Prop} {l m:List UInt8} {k k':IntKind} {H:AHeap}
theorem zG5:zDr true (Sx l) K=K (.int .i64 ((l.length:Nat):Int)):=by simp only[Sx,zDr,zD5]
theorem zQq{i:Nat}(h:i<l.length):zGT (Sx l) (.int k (i:Int)) K=K (.int .u8 (((l.getD i 0).toNat:Nat):Int)):=by
 simp[Sx,zGT,zB3,zD5,h]
theorem zNV{a b:Nat}:(⟨l.toArray⟩:ByteArray).extract a b=⟨((l.drop a).take (b-a)).toArray⟩:=by
 apply ByteArray.ext
 rw[ByteArray.data_extract]
 simp[List.extract_toArray]
theorem zX9{a:Nat}(hb:a≤l.length):zH3 (Sx l) (some (.int k (a:Int))) none K=K (Sx (l.drop a)):=by
 have h1:(0:Int)≤(a:Int)∧(a:Int)≤((l.length:Nat):Int):=by omega
 have e:(l.drop a).take (l.length-a)=l.drop a:=List.take_of_length_le (by simp)
 simp[Sx,zH3,zC9,zD5,h1,zNV,e]
theorem zRC{a b:List UInt8}:(a==b)=decide (a=b):=by by_cases h:a=b<;>simp[h]
theorem zPk:zAv .eql (Sx l) (Sx m) K=K (.bool (decide (l=m))):=by
 simp only[Sx,zAv,zJ3,ByteArray.toList_eq,List.toList_toArray,zRC]
theorem zPU:zAv .neq (Sx l) (Sx m) K=K (.bool (!decide (l=m))):=by
 simp only[Sx,zAv,zJ3,ByteArray.toList_eq,List.toList_toArray,zRC]
theorem zUk:(Sx l).cells=some [Sx l]:=id rfl
theorem zar{ty:Nat}(h0:0<l.length)(hb:l.length≤70368744177664)(kk: ∀b,H b=none→K2 (.own b l.length 0 l.length false) (H.upd b (some (.row ty 1 (Bt l))))):zKG H ty 1 1 (.seq 0 [] true) (Sx l) K2:=.inl <| by
 have hal:(Bt l).all AV.cell=true:=by
  rw[List.all_eq_true];intro x hx
  obtain⟨b,_,rfl⟩:=List.mem_map.1 hx;rfl
 refine⟨rfl,?_⟩
 show(zFG ⟨l.toArray⟩).all AV.cell=true∧_
 rw[zIn,zD5]
 refine⟨hal,rfl,rfl,by omega,by omega,fun e=>by omega,fun _ b hb'=>?_⟩
 simpa using kk b hb'
theorem zbJ{ty b:Nat}{t:Bool}{o:List UInt8}(hH:H b=some (.row ty 1 (Bt o)))(hb:o.length+l.length≤70368744177664)(kk:K2 (.own b (o++l).length 0 (o++l).length false) (H.upd b (some (.row ty 1 (Bt (o++l)))))):zKG H ty 1 1 (.own b o.length 0 o.length t) (Sx l) K2:=.inl <| by
 have hal:(Bt l).all AV.cell=true:=by
  rw[List.all_eq_true];intro x hx
  obtain⟨b,_,rfl⟩:=List.mem_map.1 hx;rfl
 refine⟨rfl,?_⟩
 show(zFG ⟨l.toArray⟩).all AV.cell=true∧_
 rw[zIn,zD5]
 refine⟨hal,?_⟩
 dsimp only
 rw[hH]
 refine⟨zCC,rfl,by omega,rfl,rfl,by omega,by omega,?_⟩
 have e:Bt o++Bt l=Bt (o++l):=by simp[Bt]
 rw[List.length_append]at kk
 rw[Nat.mul_one,e]
 exact kk
end
theorem zTj{l:List UInt8}{c:UInt8}(hl:l.length<9223372036854775808):PFn Tryz.prog 236 [Sx l,.int .u8 ((c.toNat:Nat):Int)] (Sx (l.dropWhile (· ==c))):=by
 intro H Q hq
 refine zUh (by simp) ?_
 simp(disch:=first|exact Xe|fail)only[zc3,↓Xa,Xb,Xc,↓reduceIte,Nat.reduceLT,Nat.reduceEqDiff,Nat.reduceBEq,Nat.reduceLeDiff,Nat.reduceAdd,Nat.reduceMul]
 refine zAO (fun m:List UInt8=>⟨[],[(0,Sx m),(1,.int .u8 ((c.toNat:Nat):Int))],_⟩) (fun m=>m.length≤l.length∧m.dropWhile (· ==c)=l.dropWhile (· ==c)) (fun m=>m.length) l (Settle.now rfl) ⟨Nat.le_refl _,rfl⟩ ?_
 rintro m ⟨hm,h1⟩
 cases m with
 |nil=>
  simp(disch:=first|exact Xe|fail)only[zG5,List.length_nil,↓Xa,Xb,Xc,↓reduceIte,Nat.reduceLT,Nat.reduceEqDiff,Nat.reduceBEq,Nat.reduceLeDiff,Nat.reduceAdd,Nat.reduceMul]
  refine Settle.now ?_
  simp(disch:=first|exact Xe|fail)only[zYW,↓Xa,Xb,Xc,↓reduceIte,Nat.reduceLT,Nat.reduceEqDiff,Nat.reduceBEq,Nat.reduceLeDiff,Nat.reduceAdd,Nat.reduceMul]
  rw[← h1]at hq
  exact SetR.now hq
 |cons x m=>
  have hpos:0<m.length+1:=Nat.succ_pos _
  have e:(x::m).getD 0 0=x:=rfl
  have hm':m.length+1≤l.length:=hm
  rw[List.dropWhile_cons]at h1
  by_cases hx:x=c
  ·have hb:(x==c)=true:=by simp[hx]
   have hx':x.toNat=c.toNat:=by rw[hx]
   rw[if_pos hb]at h1
   simp(disch:=first|exact Xe|fail)only[zG5,hpos,zQq,e,hx',zX9,List.drop_succ_cons,List.drop_zero,↓Xa,Xb,Xc,↓reduceIte,Nat.reduceLT,Nat.reduceEqDiff,Nat.reduceBEq,Nat.reduceLeDiff,Nat.reduceAdd,Nat.reduceMul]
   exact Settle.now ⟨m,by simp,⟨by omega,h1⟩,rfl⟩
  ·have hb: ¬(x==c)=true:=by simp[hx]
   have hx': ¬x.toNat=c.toNat:=fun h=>hx (UInt8.toNat_inj.1 h)
   rw[if_neg hb]at h1
   simp(disch:=first|exact Xe|fail)only[zG5,hpos,zQq,e,hx',↓Xa,Xb,Xc,↓reduceIte,Nat.reduceLT,Nat.reduceEqDiff,Nat.reduceBEq,Nat.reduceLeDiff,Nat.reduceAdd,Nat.reduceMul]
   refine Settle.now ?_
   simp(disch:=first|exact Xe|fail)only[zYW,↓Xa,Xb,Xc,↓reduceIte,Nat.reduceLT,Nat.reduceEqDiff,Nat.reduceBEq,Nat.reduceLeDiff,Nat.reduceAdd,Nat.reduceMul]
   rw[← h1]at hq
   exact SetR.now hq
theorem zS7{l:List UInt8}{c:UInt8}(hl:l.length<9223372036854775808)(hc:c.toNat<128):PFn Tryz.prog 228 [Sx l,Sx [c]] (Sx (l.dropWhile (· ==c))):=by
 intro H Q hq
 refine zR3 (by simp) ?_
 have e:([c]:List UInt8).getD 0 0=c:=rfl
 have h1:([c]=([]:List UInt8))=False:=by simp
 have h2:0<([c]:List UInt8).length:=by simp
 cases l with
 |nil=>
  simp(disch:=first|exact Xe|fail)only[zXe,zFt,zPk,zXj,↓Xa,Xb,Xc,↓reduceIte,Nat.reduceLT,Nat.reduceEqDiff,Nat.reduceBEq,Nat.reduceLeDiff,Nat.reduceAdd,Nat.reduceMul]
  exact SetR.now hq
 |cons x l=>
  have h3:(x::l=([]:List UInt8))=False:=by simp
  simp(disch:=first|exact Xe|fail)only[zXe,zFt,zPk,h1,h3,zG5,zQq,h2,e,hc,↓Xa,Xb,Xc,↓reduceIte,Nat.reduceLT,Nat.reduceEqDiff,Nat.reduceBEq,Nat.reduceLeDiff,Nat.reduceAdd,Nat.reduceMul]
  refine(zTj hl).call ?_
  simp(disch:=first|exact Xe|fail)only[zXj,↓Xa,Xb,Xc,↓reduceIte,Nat.reduceLT,Nat.reduceEqDiff,Nat.reduceBEq,Nat.reduceLeDiff,Nat.reduceAdd,Nat.reduceMul]
  exact SetR.now hq
theorem zPp{H:AHeap}{p:Nat}{v:AV}{K:AV→AHeap→Prop}(hH:H p=some (.row 257 0 [.nilP,v]))(k:K (.tup []) (H.upd p (some (.row 257 0 [.ptr p 2 0,v])))):Run Tryz.prog 230 [.ptr p 2 0] H K:=by
 refine zND (by simp) ?_
 simp(disch:=first|exact Xe|fail)only[zYT,hH,zX2,↓Xa,Xb,Xc,↓reduceIte,Nat.reduceLT,Nat.reduceEqDiff,Nat.reduceBEq,Nat.reduceLeDiff,Nat.reduceAdd,Nat.reduceMul]
 exact SetR.now k
theorem zHA{H:AHeap}{p:Nat}{v:AV}{K:AV→AHeap→Prop}(hH:H p=some (.row 257 0 [.ptr p 2 0,v]))(k:K (.tup []) H):Run Tryz.prog 230 [.ptr p 2 0] H K:=by
 refine zND (by simp) ?_
 simp(disch:=first|exact Xe|fail)only[zYT,hH,zX2,↓Xa,Xb,Xc,↓reduceIte,Nat.reduceLT,Nat.reduceEqDiff,Nat.reduceBEq,Nat.reduceLeDiff,Nat.reduceAdd,Nat.reduceMul]
 exact SetR.now k
def bld(p:Nat)(l:List UInt8)(H0 H:AHeap):Prop:=
 (l=[]∧(H=H0.upd p (some (.row 257 0 [.nilP,.seq 0 [] true]))∨H=H0.upd p (some (.row 257 0 [.ptr p 2 0,.seq 0 [] true]))))∨
 (l≠[]∧∃bb,H0 bb=none∧Ap bb p∧H=(H0.upd p (some (.row 257 0 [.ptr p 2 0,.own bb l.length 0 l.length false]))).upd bb (some (.row 5 1 (Bt l))))
theorem zXf{p:Nat}{H:AHeap}:bld p [] H (H.upd p (some (.row 257 0 [.nilP,.seq 0 [] true]))):=.inl ⟨rfl,.inl rfl⟩
theorem zXn{p q:Nat}{l:List UInt8}{H0 H:AHeap}{x:ABlk}(h:bld p l H0 H)(hq:H q=none):Ap q p∧H0 q=none∧bld p l (H0.upd q (some x)) (H.upd q (some x)):=by
 rcases h with⟨rfl,rfl|rfl⟩|⟨h0,bb,hbb,hap,rfl⟩
 ·obtain⟨a,b⟩:=zAB.1 hq
  exact⟨a,b,.inl ⟨rfl,.inl (zAq _ _ _ (Ap.symm a))⟩⟩
 ·obtain⟨a,b⟩:=zAB.1 hq
  exact⟨a,b,.inl ⟨rfl,.inr (zAq _ _ _ (Ap.symm a))⟩⟩
 ·obtain⟨a1,a2,b⟩:Ap q bb∧Ap q p∧H0 q=none:=by simpa only[zAB]using hq
  refine⟨a2,b,.inr ⟨h0,bb,?_,hap,?_⟩⟩
  ·rw[zBZ (Ap.symm a1)];exact hbb
  ·rw[zAq _ _ _ (Ap.symm a1),zAq (b:=p) (b':=q) _ _ _ (Ap.symm a2)]
theorem zNC{p:Nat}{l m:List UInt8}{H0 H:AHeap}{K:AV→AHeap→Prop}(hb:bld p l H0 H)(hl:l.length+m.length≤70368744177664)(hm:0<m.length)
 (k: ∀H',bld p (l++m) H0 H'→K (.tup [.int .i64 ((m.length:Nat):Int),.nilI]) H'):Run Tryz.prog 210 [.ptr p 2 0,Sx m] H K:=by
 refine zTa (by simp) ?_
 simp(disch:=first|exact Xe|fail)only[zNF,↓Xa,Xb,Xc,↓reduceIte,Nat.reduceLT,Nat.reduceEqDiff,Nat.reduceBEq,Nat.reduceLeDiff,Nat.reduceAdd,Nat.reduceMul]
 have hne: ∀{x:List UInt8},x++m≠[]:=fun{x} e=>by have:=congrArg List.length e;rw[List.length_append,List.length_nil]at this;omega
 have first: ∀{M:AHeap},M=H0.upd p (some (.row 257 0 [.ptr p 2 0,.seq 0 [] true]))→l=[]→
  W Tryz.prog (zBV (zBV zNF)) (zFF zUb K) ⟨[],[(0,.ptr p 2 0),(1,Sx m)],M⟩:=by
  rintro M rfl rfl
  simp(disch:=first|exact Xe|fail)only[zBV,zNF,↓Xa,Xb,Xc,↓reduceIte,Nat.reduceLT,Nat.reduceEqDiff,Nat.reduceBEq,Nat.reduceLeDiff,Nat.reduceAdd,Nat.reduceMul]
  refine zar hm (by simp at hl;omega) fun b hb=>?_
  obtain⟨a1,a2⟩:=zAB.1 hb
  simp(disch:=first|exact Xe|fail)only[zG5,zUb,↓Xa,Xb,Xc,↓reduceIte,Nat.reduceLT,Nat.reduceEqDiff,Nat.reduceBEq,Nat.reduceLeDiff,Nat.reduceAdd,Nat.reduceMul]
  refine SetR.now (k _ (.inr ⟨by simpa using hne (x:=[]),b,a2,a1,?_⟩))
  simp only[List.nil_append]
 rcases hb with⟨rfl,rfl|rfl⟩|⟨h0,bb,hbb,hap,rfl⟩
 ·refine zAM (zPp (zAC _ _ _) ?_)
  have f:=first rfl rfl
  simp(disch:=first|exact Xe|fail)only[zBV,zNF,↓Xa,Xb,Xc,↓reduceIte,Nat.reduceLT,Nat.reduceEqDiff,Nat.reduceBEq,Nat.reduceLeDiff,Nat.reduceAdd,Nat.reduceMul]at f
  simp(disch:=first|exact Xe|fail)only[↓Xa,Xb,Xc,↓reduceIte,Nat.reduceLT,Nat.reduceEqDiff,Nat.reduceBEq,Nat.reduceLeDiff,Nat.reduceAdd,Nat.reduceMul]
  exact f
 ·refine zAM (zHA (zAC _ _ _) ?_)
  have f:=first rfl rfl
  simp(disch:=first|exact Xe|fail)only[zBV,zNF,↓Xa,Xb,Xc,↓reduceIte,Nat.reduceLT,Nat.reduceEqDiff,Nat.reduceBEq,Nat.reduceLeDiff,Nat.reduceAdd,Nat.reduceMul]at f
  simp(disch:=first|exact Xe|fail)only[↓Xa,Xb,Xc,↓reduceIte,Nat.reduceLT,Nat.reduceEqDiff,Nat.reduceBEq,Nat.reduceLeDiff,Nat.reduceAdd,Nat.reduceMul]
  exact f
 ·refine zAM (zHA (v:=.own bb l.length 0 l.length false) (by rw[zBZ (Ap.symm hap),zAC]) ?_)
  simp(disch:=first|exact Xe|fail)only[↓Xa,Xb,Xc,↓reduceIte,Nat.reduceLT,Nat.reduceEqDiff,Nat.reduceBEq,Nat.reduceLeDiff,Nat.reduceAdd,Nat.reduceMul]
  refine zbJ (zAC _ _ _) hl ?_
  simp(disch:=first|exact Xe|fail)only[zG5,zUb,↓Xa,Xb,Xc,↓reduceIte,Nat.reduceLT,Nat.reduceEqDiff,Nat.reduceBEq,Nat.reduceLeDiff,Nat.reduceAdd,Nat.reduceMul]
  refine SetR.now (k _ (.inr ⟨hne,bb,hbb,hap,?_⟩))
  simp only[List.length_append]
theorem zSm{p:Nat}{l:List UInt8}{H0 H:AHeap}{K:AV→AHeap→Prop}(hb:bld p l H0 H)(hp:H0 p=none)(hl:l.length≤70368744177664)(h0:0<l.length)(k: ∀H',Le H0 H'→K (Sx l) H'):Run Tryz.prog 211 [.ptr p 2 0] H K:=by
 refine zSS (by simp) ?_
 rcases hb with⟨rfl,_⟩|⟨h1,bb,hbb,hap,rfl⟩
 ·simp at h0
 ·have hbl:(Bt l).length=l.length:=zCC
  simp(disch:=first|exact Xe|fail)only[zdA,h0,zcn,↓Xa,Xb,Xc,↓reduceIte,Nat.reduceLT,Nat.reduceEqDiff,Nat.reduceBEq,Nat.reduceLeDiff,Nat.reduceAdd,Nat.reduceMul]
  exact SetR.now (k _ (((Le.refl H0).updB hp).updB hbb))
theorem zTS{p q:Nat}{l:List UInt8}{H0 H:AHeap}{x:ABlk}(h:bld p l (H0.upd q (some x)) H)(hqp:Ap q p)(hq:H0 q=none): ∃H',bld p l H0 H'∧Le H' H:=by
 have up: ∀{M:AHeap}{r:Option ABlk},M=(H0.upd q (some x)).upd p r→Le (H0.upd p r) M:=fun{M r} e=>by
  rw[e,zAq _ _ _ hqp]
  exact(Le.refl _).updB (by rw[zBZ hqp];exact hq)
 rcases h with⟨rfl,rfl|rfl⟩|⟨h0,bb,hbb,hap,rfl⟩
 ·exact⟨_,.inl ⟨rfl,.inl rfl⟩,up rfl⟩
 ·exact⟨_,.inl ⟨rfl,.inr rfl⟩,up rfl⟩
 ·obtain⟨a1,a2⟩:=zAB.1 hbb
  refine⟨_,.inr ⟨h0,bb,a2,hap,rfl⟩,?_⟩
  rw[zAq _ _ _ hqp,zAq (b:=q) (b':=bb) _ _ _ (Ap.symm a1)]
  exact(Le.refl _).updB (by rw[zBZ (Ap.symm a1),zBZ hqp];exact hq)
theorem zVk{H:AHeap}{K2:AV→AHeap→Prop}{b L off ty es c:Nat}{l:List UInt8}(hL:l.length=L)(h:off<L)(hc:c<256):stP H 1 b L off K2 (some [.int .u8 (c:Int)]) (some (.row ty es (Bt l)))=K2 .bot (H.upd b (some (.row ty es (Bt (l.set off (UInt8.ofNat c)))))):=by
 subst hL
 have h1:off+1≤l.length:=h
 have e:zAh (Bt l) off [.int .u8 (c:Int)]=Bt (l.set off (UInt8.ofNat c)):=by
  have e2:(AV.int .u8 (c:Int))=.int .u8 (((UInt8.ofNat c).toNat:Nat):Int):=by
   rw[UInt8.toNat_ofNat',Nat.mod_eq_of_lt hc]
  rw[e2]
  unfold zAh Bt
  rw[List.map_set,List.set_eq_take_append_cons_drop]
  simp[h]
 simp[stP,zCC,h1,e]
def TxI(p j:Nat)(cells:List UInt8)(x:Nat):Prop:=j≤9∧cells=List.replicate j 0++wide (9-j) (p%10^(9-j))∧x=p / 10^(9-j)
theorem TxI.len{p j x:Nat}{cells:List UInt8}(h:TxI p j cells x):cells.length=9:=by
 obtain⟨h1,rfl,_⟩:=h
 rw[List.length_append,List.length_replicate,zTR (Nat.mod_lt _ (Nat.pow_pos (by omega)))];omega
theorem TxI.step{p j x:Nat}{cells:List UInt8}(h:TxI p (j+1) cells x):TxI p j (cells.set j (UInt8.ofNat (48+x%10))) (x / 10):=by
 obtain⟨h1,rfl,rfl⟩:=h
 have e9:9-j=(9-(j+1))+1:=by omega
 refine⟨by omega,?_,?_⟩
 ·rw[e9,zQs]
  rw[List.replicate_succ',List.append_assoc,List.set_append_right _ _ (by simp)]
  simp[chr]
 ·rw[e9,Nat.pow_succ,Nat.div_div_eq_div_mul]
theorem zXq{l:List Nat}(t:Bool)(hl:Lim 4294967296 l)(hn:l.length≤1099511627776):PFn Tryz.prog 197 [LS l t] (Sx (zIw (val 4294967296 l))):=by
 intro H Q hq
 have hP:(2:Nat)≤1000000000:=by omega
 refine zS9 (by simp) ?_
 simp(disch:=first|exact Xe|fail)only[zZX,zFt,↓Xa,Xb,Xc,↓reduceIte,Nat.reduceLT,Nat.reduceEqDiff,Nat.reduceBEq,Nat.reduceLeDiff,Nat.reduceAdd,Nat.reduceMul]
 refine(zHn t (by omega)).call ?_
 rw[zAt (by omega) hl]
 have hN:val 4294967296 l<4294967296^l.length:=zA5 hl
 have hp2:(digs 1000000000 (val 4294967296 l)).length≤2*l.length:=zAu hP _ _ (Nat.lt_of_lt_of_le hN (by rw[Nat.pow_mul];exact Nat.pow_le_pow_left (by omega) _))
 have hdl:(dec (val 4294967296 l)).length≤10*l.length:=zIa (Nat.lt_of_lt_of_le hN (by rw[Nat.pow_mul];exact Nat.pow_le_pow_left (by omega) _))
 generalize hNe:val 4294967296 l=N at*
 simp(disch:=first|exact Xe|fail)only[↓Xa,Xb,Xc,↓reduceIte,Nat.reduceLT,Nat.reduceEqDiff,Nat.reduceBEq,Nat.reduceLeDiff,Nat.reduceAdd,Nat.reduceMul]
 refine zAO (fun s:List Nat×AV×AHeap×Nat=>⟨[],[(3,s.2.1),(4,LS (digs 4294967296 s.2.2.2) true)],s.2.2.1⟩) (fun s=>grow H 168 s.1 s.2.1 s.2.2.1∧digs 1000000000 N=s.1++digs 1000000000 s.2.2.2∧s.2.2.2≤N) (fun s=>s.2.2.2)
  ([],.seq 0 [] true,H,N) (Settle.now rfl) ⟨zDl,rfl,Nat.le_refl _⟩ ?_
 rintro⟨done,x,G,n⟩ ⟨hg,he,hle⟩
 dsimp only at hg he hle ⊢
 have hdn:(digs 4294967296 n).length≤l.length:=zAu (by omega) _ _ (Nat.lt_of_le_of_lt hle (hNe▸hN))
 have hz:=zEg (B:=4294967296) (n:=n) (by omega)
 by_cases hn0:n=0
 ·have h1:(digs 4294967296 n).length=0:=by rw[hz];exact hn0
  simp(disch:=first|exact Xe|fail)only[h1,↓Xa,Xb,Xc,↓reduceIte,Nat.reduceLT,Nat.reduceEqDiff,Nat.reduceBEq,Nat.reduceLeDiff,Nat.reduceAdd,Nat.reduceMul]
  refine Settle.grown 3 rfl hg (Settle.now ?_)
  rw[hn0,zAL,List.append_nil]at he
  subst he
  have hlim:=zAG hP N
  have hdig:=fun k p=>zON (n:=N) (k:=k) (p:=p)
  have hv:val 1000000000 (digs 1000000000 N)=N:=zAJ hP N
  have hlast:=zBe (B:=1000000000) (n:=N) hP
  have hnil:=zEg (B:=1000000000) (n:=N) hP
  generalize digs 1000000000 N=ps at*
  by_cases hp0:ps.length=0
  ·rw[hnil]at hp0
   have hL:ps.length=0:=by rw[hnil];exact hp0
   simp(disch:=first|exact Xe|fail)only[hL,zFt,zXH,↓Xa,Xb,Xc,↓reduceIte,Nat.reduceLT,Nat.reduceEqDiff,Nat.reduceBEq,Nat.reduceLeDiff,Nat.reduceAdd,Nat.reduceMul]
   have e:zIw N=[48]:=by rw[hp0];rfl
   rw[e]at hq
   exact SetR.now hq
  ·have hN0:0<N:=by rcases Nat.eq_zero_or_pos N with h|h
                    ·exact absurd (hnil▸h) hp0
                    ·exact h
   have eT:zIw N=dec N:=by unfold zIw;rw[if_neg (by omega)]
   rw[eT]at hq
   obtain⟨L,hL⟩: ∃L,ps.length=L+1:=⟨ps.length-1,by omega⟩
   have hLp:(0<L+1)=True:=by simp
   have hL0:(L+1=0)=False:=by simp
   simp(disch:=first|exact Xe|fail)only[hL,hL0,↓Xa,Xb,Xc,↓reduceIte,Nat.reduceLT,Nat.reduceEqDiff,Nat.reduceBEq,Nat.reduceLeDiff,Nat.reduceAdd,Nat.reduceMul]
   refine zAD fun p hp=>?_
   simp(disch:=first|exact Xe|fail)only[hL,zCj,↓Xa,Xb,Xc,↓reduceIte,Nat.reduceLT,Nat.reduceEqDiff,Nat.reduceBEq,Nat.reduceLeDiff,Nat.reduceAdd,Nat.reduceMul]
   refine zfB fun M0 hM0=>?_
   refine zAO (fun s:Nat×AHeap=>⟨[],[(3,LS ps false),(8,.ptr p 2 0),(9,.int .i64 (dn s.1))],s.2⟩) (fun s=>s.1≤ps.length∧bld p (dec (val 1000000000 (ps.drop s.1))) H s.2) (fun s=>s.1) (L+1,M0) (Settle.now rfl) ⟨by dsimp only;omega,?_⟩ ?_
   ·dsimp only
    rw[List.drop_of_length_le (by omega),show val 1000000000 []=0 from rfl,zHv,hM0]
    exact zXf
   rintro⟨k,M⟩ ⟨hk,hb⟩
   dsimp only at hk hb ⊢
   cases k with
   |zero=>
    simp(disch:=first|exact Xe|fail)only[zEt,↓Xa,Xb,Xc,↓reduceIte,Nat.reduceLT,Nat.reduceEqDiff,Nat.reduceBEq,Nat.reduceLeDiff,Nat.reduceAdd,Nat.reduceMul]
    refine Settle.now ?_
    rw[List.drop_zero,hv]at hb
    simp(disch:=first|exact Xe|fail)only[↓Xa,Xb,Xc,↓reduceIte,Nat.reduceLT,Nat.reduceEqDiff,Nat.reduceBEq,Nat.reduceLeDiff,Nat.reduceAdd,Nat.reduceMul]
    have hd0:0<(dec N).length:=List.length_pos_iff.2 (zKi hN0)
    refine zAM (zSm hb hp (by omega) hd0 fun H' hH'=>?_)
    simp(disch:=first|exact Xe|fail)only[zXH,↓Xa,Xb,Xc,↓reduceIte,Nat.reduceLT,Nat.reduceEqDiff,Nat.reduceBEq,Nat.reduceLeDiff,Nat.reduceAdd,Nat.reduceMul]
    exact SetR.dropTo hH' (SetR.now hq)
   |succ k=>
    obtain⟨hlt,hstep⟩:=hdig k _ (by omega) rfl
    have hlt2:ps.getD k 0<1000000000:=hlt
    simp(disch:=first|exact Xe|fail)only[zCj,hL,↓Xa,Xb,Xc,↓reduceIte,Nat.reduceLT,Nat.reduceEqDiff,Nat.reduceBEq,Nat.reduceLeDiff,Nat.reduceAdd,Nat.reduceMul]
    refine zAD fun q hq'=>?_
    generalize hpk:ps.getD k 0=pk at*
    simp(disch:=first|exact Xe|fail)only[hpk,zCj,hL,↓Xa,Xb,Xc,↓reduceIte,Nat.reduceLT,Nat.reduceEqDiff,Nat.reduceBEq,Nat.reduceLeDiff,Nat.reduceAdd,Nat.reduceMul]
    refine zAO (fun s:Nat×List UInt8×Nat=>⟨[],[(3,LS ps false),(8,.ptr p 2 0),(9,.int .i64 (k:Nat)),(10,.ptr q 9 0),(11,.int .u32 (s.2.2:Nat)),(12,.int .i64 (dn s.1))],M.upd q (some (.row 275 1 (Bt s.2.1)))⟩)
     (fun s=>TxI pk s.1 s.2.1 s.2.2) (fun s=>s.1) (9,List.replicate 9 0,pk) (Settle.now rfl) ⟨Nat.le_refl _,by simp[wide,pad,zAL,Nat.mod_one],by simp⟩ ?_
    rintro⟨j,cells,x⟩ hx
    dsimp only at hx ⊢
    have hcl:=hx.len
    have hx32:x<4294967296:=by
     have:=hx.2.2
     have:=Nat.div_le_self pk (10^(9-j))
     omega
    cases j with
    |zero=>
     have ecells:cells=wide 9 pk:=by
      rw[hx.2.1];simp[Nat.mod_eq_of_lt hlt2]
     have htk:(Bt cells).take 9=Bt cells:=List.take_of_length_le (by rw[zCC];omega)
     have hbl:(Bt cells).length=9:=by rw[zCC];exact hcl
     simp(disch:=first|exact Xe|fail)only[zEt,↓Xa,Xb,Xc,↓reduceIte,Nat.reduceLT,Nat.reduceEqDiff,Nat.reduceBEq,Nat.reduceLeDiff,Nat.reduceAdd,Nat.reduceMul]
     refine Settle.now ?_
     simp(disch:=first|exact Xe|fail)only[htk,zFt,hL,zCj,↓Xa,Xb,Xc,↓reduceIte,Nat.reduceLT,Nat.reduceEqDiff,Nat.reduceBEq,Nat.reduceLeDiff,Nat.reduceAdd,Nat.reduceMul]
     refine⟨by decide,?_⟩
     obtain⟨a1,a2,w0⟩:=zXn (x:=.row 275 1 (Bt cells)) hb hq'
     have fin: ∀(m:List UInt8)(M':AHeap),bld p (dec (val 1000000000 (ps.drop (k+1)))++m) (H.upd q (some (.row 275 1 (Bt cells)))) M'→dec (val 1000000000 (ps.drop k))=dec (val 1000000000 (ps.drop (k+1)))++m→
      Settle (fun s'=> ∃x':Nat×AHeap,x'.1<k+1∧(x'.1≤L+1∧bld p (dec (val 1000000000 (ps.drop x'.1))) H x'.2)∧s'=⟨[],[(3,LS ps false),(8,.ptr p 2 0),(9,.int .i64 (dn x'.1))],x'.2⟩) ⟨[],[(3,LS ps false),(8,.ptr p 2 0),(9,.int .i64 (dn k))],M'⟩:=fun m M' hb' e=>by
      obtain⟨M'',h1,h2⟩:=zTS hb' a1 a2
      exact Settle.dropTo h2 (Settle.now ⟨(k,M''),Nat.lt_succ_self k,⟨by dsimp only;omega,by dsimp only;rw[e];exact h1⟩,rfl⟩)
     have hbd:(dec (val 1000000000 (ps.drop (k+1)))).length≤9*ps.length:=by
      refine zIa (Nat.lt_of_lt_of_le (zA5 (hlim.drop (k+1))) ?_)
      rw[show(1000000000:Nat)=10^9 from rfl,← Nat.pow_mul]
      exact Nat.pow_le_pow_right (by omega) (Nat.mul_le_mul_left _ (by simp))
     by_cases hkL:k=L
     ·rw[if_pos (by omega)]at hstep
      have hpk0:pk≠0:=by
       have:=hlast hN0
       rwa[hL,Nat.add_sub_cancel,← hkL,hpk]at this
      have hm0:0<(dec pk).length:=List.length_pos_iff.2 (zKi (by omega))
      have hm9:(dec pk).length≤9:=zIa (k:=9) hlt2
      have hd1:decide (k=L+1-1)=true:=by simp[hkL]
      simp(disch:=first|exact Xe|fail)only[hd1,↓Xa,Xb,Xc,↓reduceIte,Nat.reduceLT,Nat.reduceEqDiff,Nat.reduceBEq,Nat.reduceLeDiff,Nat.reduceAdd,Nat.reduceMul]
      refine(zS7 (c:=48) (l:=cells) (by omega) (by decide)).call ?_
      rw[ecells,zQj,← ecells]
      simp(disch:=first|exact Xe|fail)only[↓Xa,Xb,Xc,↓reduceIte,Nat.reduceLT,Nat.reduceEqDiff,Nat.reduceBEq,Nat.reduceLeDiff,Nat.reduceAdd,Nat.reduceMul]
      refine zAM (zNC w0 (by omega) hm0 fun M' hM'=>?_)
      simp(disch:=first|exact Xe|fail)only[↓Xa,Xb,Xc,↓reduceIte,Nat.reduceLT,Nat.reduceEqDiff,Nat.reduceBEq,Nat.reduceLeDiff,Nat.reduceAdd,Nat.reduceMul]
      exact fin _ _ hM' hstep
     ·rw[if_neg (by omega)]at hstep
      rw[← ecells]at hstep
      have hd1:decide (k=L+1-1)=false:=by simp[hkL]
      simp(disch:=first|exact Xe|fail)only[hd1,↓Xa,Xb,Xc,↓reduceIte,Nat.reduceLT,Nat.reduceEqDiff,Nat.reduceBEq,Nat.reduceLeDiff,Nat.reduceAdd,Nat.reduceMul]
      refine zAM (zNC w0 (by omega) (by omega) fun M' hM'=>?_)
      simp(disch:=first|exact Xe|fail)only[↓Xa,Xb,Xc,↓reduceIte,Nat.reduceLT,Nat.reduceEqDiff,Nat.reduceBEq,Nat.reduceLeDiff,Nat.reduceAdd,Nat.reduceMul]
      exact fin _ _ hM' hstep
    |succ j=>
     have hj:j<9:=by have:=hx.1;omega
     have hbl:(Bt cells).length=9:=by rw[zCC];exact hcl
     have hd:x%10<10:=Nat.mod_lt _ (by omega)
     simp(disch:=first|exact Xe|fail)only[zCj,zVk,↓Xa,Xb,Xc,↓reduceIte,Nat.reduceLT,Nat.reduceEqDiff,Nat.reduceBEq,Nat.reduceLeDiff,Nat.reduceAdd,Nat.reduceMul]
     exact⟨by omega,by omega,Settle.now ⟨(j,_,x / 10),Nat.lt_succ_self j,hx.step,rfl⟩⟩
 ·have h1:0<(digs 4294967296 n).length:=by
   have: ¬(digs 4294967296 n).length=0:=by rw[hz];exact hn0
   omega
  simp(disch:=first|exact Xe|fail)only[h1,↓Xa,Xb,Xc,↓reduceIte,Nat.reduceLT,Nat.reduceEqDiff,Nat.reduceBEq,Nat.reduceLeDiff,Nat.reduceAdd,Nat.reduceMul]
  refine(zGQ (d:=1000000000) true (zAG (by omega) n) (by omega) (by omega) (by omega)).call ?_
  rw[zAJ (by omega)]
  simp(disch:=first|exact Xe|fail)only[↓Xa,Xb,Xc,↓reduceIte,Nat.reduceLT,Nat.reduceEqDiff,Nat.reduceBEq,Nat.reduceLeDiff,Nat.reduceAdd,Nat.reduceMul]
  have hlen:=congrArg List.length he
  rw[List.length_append]at hlen
  refine zBF (m:=[n%1000000000]) hg rfl (by simp) (by simp;omega) fun x' H2 hg2=>?_
  simp(disch:=first|exact Xe|fail)only[↓Xa,Xb,Xc,↓reduceIte,Nat.reduceLT,Nat.reduceEqDiff,Nat.reduceBEq,Nat.reduceLeDiff,Nat.reduceAdd,Nat.reduceMul]
  refine Settle.now ⟨(done++[n%1000000000],x',H2,n / 1000000000),Nat.div_lt_self (by omega) (by omega),⟨hg2,?_,Nat.le_trans (Nat.div_le_self _ _) hle⟩,rfl⟩
  dsimp only
  rw[he,zAf hP (show 0<n by omega),List.append_assoc];rfl
structure Nm(l:List Nat)(n k:Nat):Prop where
 lim:Lim 4294967296 l
 val:val 4294967296 l=n
 len:l.length≤k
theorem Nm.lt{l:List Nat}{n k:Nat}(h:Nm l n k):n<4294967296^k:=by
 rw[← h.val];exact Nat.lt_of_lt_of_le (zA5 h.lim) (Nat.pow_le_pow_right (by omega) h.len)
theorem Nm.digs{n k:Nat}(h:n<4294967296^k):Nm (digs 4294967296 n) n k:=⟨zAG (by omega) n,zAJ (by omega) n,zAu (by omega) k n h⟩
theorem Nm.raw{l:List Nat}{k:Nat}(h:Lim 4294967296 l)(hk:l.length≤k):Nm l (Ma.val 4294967296 l) k:=⟨h,rfl,hk⟩
theorem Nm.mono{l:List Nat}{n k k':Nat}(h:Nm l n k)(hk:k≤k'):Nm l n k':=⟨h.lim,h.val,Nat.le_trans h.len hk⟩
theorem Nm.one{c:Nat}(h:c<4294967296):Nm [c] c 1:=⟨Lim.one h,zEw _ _,Nat.le_refl _⟩
end Go.Proofs.YtmndejlpfmmaiaaGreatDoor.Fw
namespace Go.Proofs.YtmndejlpfmmaiaaGreatDoor.Ma
def zId(b:UInt8):Prop:=48≤b.toNat∧b.toNat≤57
def Good(l:List UInt8):Prop:=l≠[]∧(∀b,b∈l→zId b)∧(l.length=1∨(l.getD 0 0).toNat≠48)
theorem zOd(n:Nat):Good (zIw n):=by
 unfold zIw
 split
 ·exact⟨by simp,by simp[zId],.inl rfl⟩
 ·rename_i h
  have hn:0<n:=by omega
  refine⟨zKi hn,fun b hb=>?_,.inr ?_⟩
  ·unfold dec at hb
   obtain⟨x,hx,rfl⟩:=List.mem_map.1 hb
   have:=zAG (B:=10) (by omega) n x (List.mem_reverse.1 hx)
   unfold zId;rw[zLH this];omega
  ·have hl:=zBe (B:=10) (by omega) hn
   have hne:digs 10 n≠[]:=fun e=>by have:=(zCb (B:=10) (by omega)).1 e;omega
   obtain⟨l,x,hx⟩: ∃l x,digs 10 n=l++[x]:=⟨_,_,(List.dropLast_concat_getLast hne).symm⟩
   have hx0:x≠0:=by
    rw[hx,zED (by simp)]at hl
    simpa using hl
   have hx10:x<10:=zAG (B:=10) (by omega) n x (by rw[hx];simp)
   have:dec n=chr x::l.reverse.map chr:=by simp[dec,hx]
   rw[this]
   show(chr x).toNat≠48
   rw[zLH hx10];omega
end Go.Proofs.YtmndejlpfmmaiaaGreatDoor.Ma
namespace Go.Proofs.YtmndejlpfmmaiaaGreatDoor.Fw
open Go Go.Proofs.YtmndejlpfmmaiaaGreatDoor.Ma
set_option maxRecDepth 20000
def spot(e a:Nat):AV:=.agg [.int .i64 (e:Int),.int .i64 (a:Int)]
theorem zbR{H:AHeap}{l:List UInt8}{K:AV→AHeap→Prop}:zY7 H (Sx l) K=zfK H ⟨l.toArray⟩ K:=id rfl
theorem zQG{l:List UInt8}{i:Nat}:zB3 ⟨l.toArray⟩ i=(l.getD i 0).toNat:=by simp[zB3]
theorem zaA{H:AHeap}{b pos:Nat}{l:List UInt8}{K:AV→AHeap→Prop}(h:pos<l.length)(hb:(l.getD pos 0).toNat<128):zUK H b K (some (.raw (.stringIter ⟨l.toArray⟩ pos)))=K (.tup [.bool true,.int .i64 (pos:Int),.int .i32 (((l.getD pos 0).toNat:Nat):Int)]) (H.upd b (some (.raw (.stringIter ⟨l.toArray⟩ (pos+1))))):=by
 rw[zPg (by rw[zD5];exact h) (by rw[zQG];exact hb),zQG]
theorem zaz{H:AHeap}{b pos:Nat}{l:List UInt8}{K:AV→AHeap→Prop}(h:l.length≤pos):zUK H b K (some (.raw (.stringIter ⟨l.toArray⟩ pos)))=K (.tup [.bool false]) H:=zO7 (by rw[zD5];exact h)
theorem zb9{n:Nat}(h:n<2147483648):IntKind.i32.wrap (n:Int)=(n:Int):=by
 unfold IntKind.wrap;simp only[IntKind.bits,IntKind.signed,Bool.true_and,decide_eq_true_eq,ge_iff_le];split<;>omega
theorem zgM{P:Program}{b:Nat}{args:List AV}{H:AHeap}{K:AV→AHeap→Prop}:zBn P (.yld b) args H K=YieldW P b args H K:=id rfl
theorem zXg{H:AHeap}{l:List UInt8}{K:AV→Prop}:zA9 H none (.cptr [Sx l]) K=K (Sx l):=by simp[zA9,zA4,Sx]
theorem zJv{l:List UInt8}(hg: ∀b,b∈l→zId b)(hl:l.length<4611686018427387904):zZk Tryz.prog 198 [.cptr [Sx l]] (fun d:Nat=>[.int .i64 (d:Int)]) (l.map fun b=>b.toNat-48):=by
 intro b J Jx hy A B hd h0
 refine zUG (by simp) ?_
 simp(disch:=first|exact Xe|fail)only[zbM,zbR,zXg,↓Xa,Xb,Xc,↓reduceIte,Nat.reduceLT,Nat.reduceEqDiff,Nat.reduceBEq,Nat.reduceLeDiff,Nat.reduceAdd,Nat.reduceMul]
 refine zez fun q hq=>?_
 obtain⟨qa,qb⟩:=zBv.1 hq
 simp(disch:=first|exact Xe|fail)only[↓Xa,Xb,Xc,↓reduceIte,Nat.reduceLT,Nat.reduceEqDiff,Nat.reduceBEq,Nat.reduceLeDiff,Nat.reduceAdd,Nat.reduceMul]
 refine zAO (fun s:Nat×AHeap=>⟨[],[(0,.yld b),(6,.ptr q 0 0)],(Un s.2 B).upd q (some (.raw (.stringIter ⟨l.toArray⟩ s.1)))⟩) (fun s=>s.1≤l.length∧Dj s.2 B∧s.2 q=none∧J ((l.map fun b=>b.toNat-48).take s.1) s.2) (fun s=>l.length-s.1) (0,A) (Settle.now rfl) ⟨Nat.zero_le _,hd,qa,by simpa using h0⟩ ?_
 rintro⟨i,A1⟩ ⟨hi,hd1,hq1,hj⟩
 dsimp only at hi hd1 hq1 hj ⊢
 by_cases h:i<l.length
 ·have hdg:=hg _ (List.getElem_mem h)
  have eg:l.getD i 0=l[i]:=by rw[List.getD_eq_getElem?_getD,List.getElem?_eq_getElem h,Option.getD_some]
  rw[← eg]at hdg
  unfold zId at hdg
  have h128:(l.getD i 0).toNat<128:=by omega
  have hx:(l.map fun b=>b.toNat-48)=(l.map fun b=>b.toNat-48).take i++((l.getD i 0).toNat-48)::(l.map fun b=>b.toNat-48).drop (i+1):=by
   conv=>lhs;rw[← List.take_append_drop i (l.map fun b=>b.toNat-48)]
   rw[List.drop_eq_getElem_cons (by simpa using h),List.getElem_map,eg]
  have hx2:(l.map fun b=>b.toNat-48).take (i+1)=(l.map fun b=>b.toNat-48).take i++[(l.getD i 0).toNat-48]:=by
   rw[List.take_add_one,List.getElem?_map,List.getElem?_eq_getElem h,eg];rfl
  simp(disch:=first|exact Xe|fail)only[zaA,zb9,zgM,↓Xa,Xb,Xc,↓reduceIte,Nat.reduceLT,Nat.reduceEqDiff,Nat.reduceBEq,Nat.reduceLeDiff,Nat.reduceAdd,Nat.reduceMul]
  rw[← zBd hq1]
  refine(hy _ _ _ A1 (B.upd q (some (.raw (.stringIter ⟨l.toArray⟩ (i+1))))) hx (zDc hd1 hq1) hj).mono ?_
  rintro r H' ⟨A2,hd2,rfl,(⟨rfl,hj2⟩|⟨rfl,hj2⟩)⟩
  ·have hq2:A2 q=none:=zDG hd2 (zAC _ _ _)
   rw[zBd hq2]
   simp(disch:=first|exact Xe|fail)only[↓Xa,Xb,Xc,↓reduceIte,Nat.reduceLT,Nat.reduceEqDiff,Nat.reduceBEq,Nat.reduceLeDiff,Nat.reduceAdd,Nat.reduceMul]
   refine Settle.keep [0,6] ⟨(i+1,A2),by dsimp only;omega,⟨by dsimp only;omega,?_,hq2,by dsimp only;rw[hx2];exact hj2⟩,rfl⟩
   intro k
   by_cases e:k=q
   ·subst e;exact .inl hq2
   ·have:=hd2 k
    rwa[zAA _ _ e]at this
  ·have hq2:A2 q=none:=zDG hd2 (zAC _ _ _)
   have hd3:Dj A2 B:=fun k=>by
    by_cases e:k=q
    ·subst e;exact .inl hq2
    ·have:=hd2 k
     rwa[zAA _ _ e]at this
   rw[zBd hq2]
   simp(disch:=first|exact Xe|fail)only[zYu,↓Xa,Xb,Xc,↓reduceIte,Nat.reduceLT,Nat.reduceEqDiff,Nat.reduceBEq,Nat.reduceLeDiff,Nat.reduceAdd,Nat.reduceMul]
   refine SetR.dropTo ((Le.refl _).upd (zBv.2 ⟨hq2,qb⟩)) (SetR.now ⟨A2,hd3,rfl,.inr hj2⟩)
 ·obtain rfl:i=l.length:=by omega
  simp(disch:=first|exact Xe|fail)only[zaz,↓Xa,Xb,Xc,↓reduceIte,Nat.reduceLT,Nat.reduceEqDiff,Nat.reduceBEq,Nat.reduceLeDiff,Nat.reduceAdd,Nat.reduceMul]
  refine Settle.now ?_
  simp(disch:=first|exact Xe|fail)only[zYu,↓Xa,Xb,Xc,↓reduceIte,Nat.reduceLT,Nat.reduceEqDiff,Nat.reduceBEq,Nat.reduceLeDiff,Nat.reduceAdd,Nat.reduceMul]
  rw[List.take_of_length_le (by simp)]at hj
  refine SetR.dropTo ((Le.refl _).upd (zBv.2 ⟨hq1,qb⟩)) (SetR.now ⟨A1,hd1,rfl,.inl hj⟩)
theorem zQT{l:List Nat}(t:Bool)(hl:Lim 4294967296 l)(hn:l.length≤1099511627776):PFn Tryz.prog 133 [LS l t] (.fn (.func 198) [] [.cptr [Sx (zIw (val 4294967296 l))]]):=by
 intro H Q hq
 refine zUQ (by simp) ?_
 simp(disch:=first|exact Xe|fail)only[zbI,↓Xa,Xb,Xc,↓reduceIte,Nat.reduceLT,Nat.reduceEqDiff,Nat.reduceBEq,Nat.reduceLeDiff,Nat.reduceAdd,Nat.reduceMul]
 refine(zXq t hl hn).call ?_
 simp(disch:=first|exact Xe|fail)only[↓Xa,Xb,Xc,↓reduceIte,Nat.reduceLT,Nat.reduceEqDiff,Nat.reduceBEq,Nat.reduceLeDiff,Nat.reduceAdd,Nat.reduceMul]
 refine zAD fun p1 hp1=>?_
 have n1:=hp1
 simp(disch:=first|exact Xe|fail)only[zUk,zbk,↓Xa,Xb,Xc,↓reduceIte,Nat.reduceLT,Nat.reduceEqDiff,Nat.reduceBEq,Nat.reduceLeDiff,Nat.reduceAdd,Nat.reduceMul]
 refine SetR.frzP p1 (zAC _ _ _) ?_
 rw[zAR,zAZ _ n1]
 simp[frzP,zGv]
 exact SetR.now hq
def zFP(z:Int):List UInt8:=(if z<0 then[45]else[])++zIw z.natAbs
theorem zOz(l m:List UInt8):Bt (l++m)=Bt l++Bt m:=by simp[Bt]
theorem zVc{n:Nat}(h:n<256):[AV.int .u8 (n:Int)]=Bt [UInt8.ofNat n]:=by
 simp only[Bt,List.map_cons,List.map_nil]
 rw[UInt8.toNat_ofNat',Nat.mod_eq_of_lt (by omega)]
theorem zSK{n k:Nat}(h:n<10^k)(hk:0<k):(zIw n).length≤k:=by
 unfold zIw;split
 ·simp;omega
 ·exact zIa h
theorem zOT{x:Int}{k:Nat}(hx:Bd k x):(zIw x.natAbs).length≤10*k+1:=by
 refine zSK (Nat.lt_of_lt_of_le hx ?_) (by omega)
 calc 4294967296^k≤(10^10)^k:=Nat.pow_le_pow_left (by omega) k
  _=10^(10*k):=by rw[Nat.pow_mul]
  _≤10^(10*k+1):=Nat.pow_le_pow_right (by omega) (by omega)
theorem zOW{n:Nat}(h:n<256):IntKind.u8.wrap (n:Int)=(n:Int):=by
 unfold IntKind.wrap;simp only[IntKind.bits,IntKind.signed,Bool.false_and,Bool.false_eq_true,if_false];omega
theorem zRv{b:UInt8}(h:zId b):UInt8.ofNat (48+(b.toNat-48))=b:=by
 unfold zId at h
 rw[show 48+(b.toNat-48)=b.toNat by omega];exact UInt8.ofNat_toNat
theorem zdc{H0 H:AHeap}{p tb ty:Nat}{l:List UInt8}(h:zFk H0 p tb ty 1 l.length (Bt l) H): ∃x,H p=some (.row tb 0 [x])∧AV.cells x=some [x]∧∀H' K,Le H H'→K (Sx l)→zOO H' x K:=by
 obtain⟨x,hx,hc,_⟩:=zGL h
 refine⟨x,hx,?_,?_⟩
 ·rcases hc with⟨rfl,_,_⟩|⟨_,_,b,rfl,_⟩<;>rfl
 ·intro H' K hle k
  rcases hc with⟨rfl,h0,hc⟩|⟨hn,hl,b,rfl,hb⟩
  ·have:l=[]:=List.eq_nil_of_length_eq_zero h0
   subst this
   exact⟨rfl,k⟩
  ·rw[Nat.mul_one,zKt,hle _ _ hb]
   refine⟨by simp[zCC],rfl,by omega,?_⟩
   rw[List.drop_zero,List.take_of_length_le (by simp[zCC]),zCL]
   exact k
def chD(d:Nat):UInt8:=UInt8.ofNat (48+d)
theorem zSy: ∀{l:List UInt8},(∀b,b∈l→zId b)→(l.map fun b=>b.toNat-48).map chD=l:=by
 intro l h
 rw[List.map_map]
 conv=>rhs;rw[← List.map_id l]
 exact List.map_congr_left fun b hb=>zRv (h b hb)
theorem zFd{x:Int}{k:Nat}(hx:Bd k x)(hk:k≤1000000):PFn Tryz.prog 67 [zAe x] (Sx (zFP x)):=by
 intro H Q hq
 have hdl:=hx.len
 have hdt:=zOT hx
 have hgd:=zOd x.natAbs
 refine zYC (by simp) ?_
 simp(disch:=first|exact Xe|fail)only[zY6,zAe,↓Xa,Xb,Xc,↓reduceIte,Nat.reduceLT,Nat.reduceEqDiff,Nat.reduceBEq,Nat.reduceLeDiff,Nat.reduceAdd,Nat.reduceMul]
 refine zAD fun p1 hp1=>?_
 have n1:=hp1
 simp(disch:=first|exact Xe|fail)only[↓Xa,Xb,Xc,↓reduceIte,Nat.reduceLT,Nat.reduceEqDiff,Nat.reduceBEq,Nat.reduceLeDiff,Nat.reduceAdd,Nat.reduceMul]
 refine zAD fun p2 hp2=>?_
 have n2:=hp2
 simp only[zAB]at n2
 obtain⟨_,n2⟩:=n2
 obtain⟨neg,hneg⟩: ∃b,b=decide (x<0):=⟨_,rfl⟩
 rw[← hneg]at hp2 ⊢
 have tail: ∀(pre:List UInt8)(H2:AHeap)(v:Env),(v=[]∨v=[(6,.bool false)])→pre.length≤1→pre++zIw x.natAbs=zFP x→zFk (H.upd p1 (some (.row 48 0 [.bool neg,LS (digs 4294967296 x.natAbs) true]))) p2 203 5 1 pre.length (Bt pre) H2→
  W Tryz.prog (zBV (zBV (zBV zY6))) (zFF ze1 Q) ⟨[],[(1,.ptr p1 2 0),(2,Sx []),(3,.ptr p2 1 0)]++v,H2⟩:=by
  intro pre H2 v hv hp1 hpre hg
  have h1:H2 p1=some (.row 48 0 [.bool neg,LS (digs 4294967296 x.natAbs) true]):=by
   obtain⟨_,_,_,hle⟩:=zGL hg
   exact hle _ _ (zAC _ _ _)
  rcases hv with rfl|rfl
  all_goals
   simp(disch:=first|exact Xe|fail)only[zBV,zY6,h1,↓Xa,Xb,Xc,↓reduceIte,Nat.reduceLT,Nat.reduceEqDiff,Nat.reduceBEq,Nat.reduceLeDiff,Nat.reduceAdd,Nat.reduceMul]
   refine(zQT true (zAG (by omega) _) (by omega)).call ?_
   rw[zAJ (by omega)]
   simp(disch:=first|exact Xe|fail)only[↓Xa,Xb,Xc,↓reduceIte,Nat.reduceLT,Nat.reduceEqDiff,Nat.reduceBEq,Nat.reduceLeDiff,Nat.reduceAdd,Nat.reduceMul]
   obtain⟨A,hd,rfl,hgA⟩:=zLo hg
   have hle:Le H (H.upd p1 (some (.row 48 0 [.bool neg,LS (digs 4294967296 x.natAbs) true]))):=(Le.refl H).upd n1
   refine zUA (zJv (fun b hb=>hgd.2.1 b hb) (by omega)) (fun _=>rfl) (fun ds A=>zFk zRG p2 203 5 1 (pre++ds.map chD).length (Bt (pre++ds.map chD)) A) (fun _ _=>False) A _ hd rfl (by simpa using hgA) ?_ ?_ (fun _ _ _ _ _ _ h=>h.elim)
   ·intro ds d rest A B hds hdj hj R1 k1
    have hlen:=congrArg List.length hds
    have hd10:d<10:=by
     have:d∈((zIw x.natAbs).map fun b=>b.toNat-48):=by rw[hds];simp
     obtain⟨b,hb,rfl⟩:=List.mem_map.1 this
     have:=hgd.2.1 b hb
     unfold zId at this;omega
    simp(disch:=first|exact Xe|fail)only[zHs,↓Xa,Xb,Xc,↓reduceIte,Nat.reduceLT,Nat.reduceEqDiff,Nat.reduceBEq,Nat.reduceLeDiff,Nat.reduceAdd,Nat.reduceMul]
    refine k1 _ A hdj fun R2 B1 k2 hd1=>?_
    obtain⟨y,hy,happ⟩:=zKD (m:=1) (bytes:=1) (zNA hj hd1)
    have e1:IntKind.i64.wrap ((48:Nat)+(d:Int))=((48+d:Nat):Int):=by rw[← Int.natCast_add];exact zRD (by omega)
    simp(disch:=first|exact Xe|fail)only[hy,zOW,↓Xa,Xb,Xc,↓reduceIte,Nat.reduceLT,Nat.reduceEqDiff,Nat.reduceBEq,Nat.reduceLeDiff,Nat.reduceAdd,Nat.reduceMul]
    refine happ rfl rfl (by omega) ?_ ?_ fun x' H' hp hc hg2=>?_
    ·simp at hlen ⊢; omega
    ·simp at hlen ⊢; omega
    simp(disch:=first|exact Xe|fail)only[hp,hc,↓Xa,Xb,Xc,↓reduceIte,Nat.reduceLT,Nat.reduceEqDiff,Nat.reduceBEq,Nat.reduceLeDiff,Nat.reduceAdd,Nat.reduceMul]
    refine k2 .normal _ (Settle.now (zLo ?_))
    have e:pre++(ds++[d]).map chD=(pre++ds.map chD)++[chD d]:=by simp
    dsimp only
    rw[e,List.length_append,zOz,show Bt [chD d]=[AV.int .u8 ((48+d:Nat):Int)]from(zVc (by omega)).symm]
    exact hg2
   ·intro d A' hdj hA hB hj
    rw[zSy hgd.2.1,hpre]at hj
    have hj2:=zNA hj hdj
    obtain⟨y,hy,hyc,hb2⟩:=zdc hj2
    obtain⟨_,_,_,hle2⟩:=zGL hj2
    have hdn:=zBv.2 ⟨hA,hB⟩
    have hy2:((Un A' (H.upd p1 (some (.row 48 0 [.bool neg,LS (digs 4294967296 x.natAbs) true])))).upd d (some (.raw (.deferred (some []))))) p2=some (.row 203 0 [y]):=by
     rw[zAA _ _ (by rintro rfl;rw[hdn]at hy;cases hy)];exact hy
    simp(disch:=first|exact Xe|fail)only[hy2,↓Xa,Xb,Xc,↓reduceIte,Nat.reduceLT,Nat.reduceEqDiff,Nat.reduceBEq,Nat.reduceLeDiff,Nat.reduceAdd,Nat.reduceMul]
    refine hb2 _ _ ((Le.refl _).upd hdn) ?_
    simp(disch:=first|exact Xe|fail)only[ze1,↓Xa,Xb,Xc,↓reduceIte,Nat.reduceLT,Nat.reduceEqDiff,Nat.reduceBEq,Nat.reduceLeDiff,Nat.reduceAdd,Nat.reduceMul]
    rw[zAZ _ hdn]
    exact SetR.dropTo (fun b x hb=>hle2 _ _ (hle _ _ hb)) (SetR.now hq)
 have g0:=zJh (H0:=H.upd p1 (some (.row 48 0 [.bool neg,LS (digs 4294967296 x.natAbs) true]))) (tb:=203) (ty:=5) (es:=1) hp2
 cases neg with
 |true=>
  simp(disch:=first|exact Xe|fail)only[↓Xa,Xb,Xc,↓reduceIte,Nat.reduceLT,Nat.reduceEqDiff,Nat.reduceBEq,Nat.reduceLeDiff,Nat.reduceAdd,Nat.reduceMul]
  obtain⟨y,hy,happ⟩:=zKD (m:=1) (bytes:=1) g0
  obtain rfl:y=.seq 0 [] true:=by rw[zAC]at hy;injection hy with hy;injection hy with _ _ hy;injection hy with hy;exact hy.symm
  refine happ (by rfl) (by rfl) (by omega) (by omega) (by omega) fun x' H' hp hc hg2=>?_
  simp(disch:=first|exact Xe|fail)only[hp,hc,↓Xa,Xb,Xc,↓reduceIte,Nat.reduceLT,Nat.reduceEqDiff,Nat.reduceBEq,Nat.reduceLeDiff,Nat.reduceAdd,Nat.reduceMul]
  have tl:=tail [45] _ [] (.inl rfl) (by simp) (by simp[zFP,of_decide_eq_true hneg.symm]) hg2
  simp(disch:=first|exact Xe|fail)only[zBV,zY6,↓Xa,Xb,Xc,↓reduceIte,Nat.reduceLT,Nat.reduceEqDiff,Nat.reduceBEq,Nat.reduceLeDiff,Nat.reduceAdd,Nat.reduceMul]at tl
  exact tl
 |false=>
  have tl:=tail [] _ _ (.inr rfl) (by simp) (by simp[zFP,of_decide_eq_false hneg.symm]) g0
  simp(disch:=first|exact Xe|fail)only[zBV,zY6,↓Xa,Xb,Xc,↓reduceIte,Nat.reduceLT,Nat.reduceEqDiff,Nat.reduceBEq,Nat.reduceLeDiff,Nat.reduceAdd,Nat.reduceMul]at tl
  simp(disch:=first|exact Xe|fail)only[↓Xa,Xb,Xc,↓reduceIte,Nat.reduceLT,Nat.reduceEqDiff,Nat.reduceBEq,Nat.reduceLeDiff,Nat.reduceAdd,Nat.reduceMul]
  exact tl
theorem zMw{P:Nat→Prop}(lo:Nat): ∀n,(∃p,lo≤p∧p<lo+n∧P p∧∀j,lo≤j→j<p→¬P j)∨∀j,lo≤j→j<lo+n→¬P j
 |0=>.inr fun j h1 h2=>by omega
 |n+1=>by
  rcases zMw (P:=P) lo n with⟨p,a,b,c,d⟩|h
  ·exact .inl ⟨p,a,by omega,c,d⟩
  ·by_cases hp:P (lo+n)
   ·exact .inl ⟨lo+n,by omega,by omega,hp,h⟩
   ·refine .inr fun j h1 h2=>?_
    by_cases e:j=lo+n
    ·rw[e];exact hp
    ·exact h j h1 (by omega)
end Go.Proofs.YtmndejlpfmmaiaaGreatDoor.Fw
