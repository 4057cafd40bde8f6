/- The texts Io Rp Rq Rr Rs Rt Ru Rv Rw Ka Kn Kb Nb Sa Sb Sc Sd Se Sf Sh Nd Tb Ya Yb Yc Yd Ye Kf Kg Qn Qa Qb Ea Eb Ec Ed Nc Ta Ua Ub Ym Al9 Al8, joined. -/
import Derived.Test.YtmndejlpfmmaiaaDoorZ5
set_option linter.unusedSimpArgs false
set_option linter.unusedVariables false
namespace Go.Proofs.YtmndejlpfmmaiaaDoor.Fw
open Go Go.Proofs.YtmndejlpfmmaiaaDoor.Ma
set_option maxRecDepth 20000
theorem ediv_pos{x y:Int}(hy:y≠0)(hx:0≤x):x / y=sg (decide (y<0)) (x.natAbs / y.natAbs)∧x%y=((x.natAbs%y.natAbs:Nat):Int):=by
 have e:((x.natAbs:Nat):Int)=x:=by omega
 by_cases h:y<0
 ·have e2:y= -((y.natAbs:Nat):Int):=by omega
  constructor
  ·rw[sg,decide_eq_true h,if_pos rfl]
   conv=>lhs;rw[e2,Int.ediv_neg,← e]
   rw[← Int.natCast_ediv]
  ·conv=>lhs;rw[e2,Int.emod_neg,← e]
   rw[← Int.natCast_emod]
 ·have e2:y=((y.natAbs:Nat):Int):=by omega
  constructor
  ·rw[sg,decide_eq_false h]
   conv=>lhs;rw[e2,← e]
   rw[← Int.natCast_ediv];rfl
  ·conv=>lhs;rw[e2,← e]
   rw[← Int.natCast_emod]
theorem ediv_neg'{x y:Int}(hy:y≠0)(hx:x<0):
 (x.natAbs%y.natAbs=0→x / y=sg (!decide (y<0)) (x.natAbs / y.natAbs)∧x%y=0)∧
 (0<x.natAbs%y.natAbs→x / y=sg (!decide (y<0)) (x.natAbs / y.natAbs)-sgnI y∧x%y=sg true (x.natAbs%y.natAbs)+(y.natAbs:Int)):=by
 have hm:=Nat.div_add_mod x.natAbs y.natAbs
 have hl:=Nat.mod_lt x.natAbs (show 0<y.natAbs by omega)
 generalize x.natAbs / y.natAbs=q at*
 generalize x.natAbs%y.natAbs=r at*
 have hb:0<(y.natAbs:Int):=by omega
 have hxe:x= -((y.natAbs:Int)*q+r):=by
  have:((y.natAbs*q+r:Nat):Int)=(x.natAbs:Int):=by rw[hm]
  rw[Int.natCast_add,Int.natCast_mul]at this
  omega
 have key: ∀(q' r':Int),r'+(y.natAbs:Int)*q'=x→0≤r'→r'<(y.natAbs:Int)→x / (y.natAbs:Int)=q'∧x%(y.natAbs:Int)=r':=fun q' r' a b c=>(Int.ediv_emod_unique hb).2 ⟨a,b,c⟩
 have neg: ∀q':Int,x / (y.natAbs:Int)=q'→x / y=if y<0 then -q' else q':=fun q' h=>by
  split
  ·conv=>lhs;rw[show y= -((y.natAbs:Nat):Int) by omega,Int.ediv_neg,h]
  ·conv=>lhs;rw[show y=((y.natAbs:Nat):Int) by omega,h]
 have mod:x%y=x%(y.natAbs:Int):=by
  by_cases h:y<0
  ·conv=>lhs;rw[show y= -((y.natAbs:Nat):Int) by omega,Int.emod_neg]
  ·conv=>lhs;rw[show y=((y.natAbs:Nat):Int) by omega]
 constructor
 ·intro hr
  obtain⟨k1,k2⟩:=key (-(q:Int)) 0 (by rw[hxe,hr,Int.mul_neg];omega) (by omega) hb
  refine⟨?_,by rw[mod,k2]⟩
  rw[neg _ k1,sg]
  by_cases h:y<0<;>simp[h]
 ·intro hr
  obtain⟨k1,k2⟩:=key (-(q:Int)-1) ((y.natAbs:Int)-r) (by rw[hxe,Int.mul_sub,Int.mul_neg,Int.mul_one];omega) (by omega) (by omega)
  refine⟨?_,by rw[mod,k2,sg,if_pos rfl];omega⟩
  rw[neg _ k1,sg,sgnI,if_neg hy]
  by_cases h:y<0<;>simp[h]<;>omega
theorem foldL{z:Int}:AV.agg [.bool (decide (z<0)),LS (digs 4294967296 z.natAbs) true]=IntA z:=id rfl
theorem foldM{z:Int}:AV.agg [.bool (decide (z<0)),IntD z]=IntA z:=id rfl
theorem sgnI_le(y:Int): -9223372036854775808≤sgnI y∧sgnI y<9223372036854775808:=by unfold sgnI;(repeat' split)<;>omega
theorem idivmod_fn{x y:Int}{k k':Nat}(hx:Bd k x)(hk:k≤274877906944)(hy:Bd k' y)(hk':k'≤274877906944)(hy0:y≠0):PFn Tryd.prog 112 [IntA x,IntA y] (.tup [IntA (x / y),IntA (x%y),.int .i64 ((0:Nat):Int)]):=by
 intro H Q hq
 have hl:=hx.len
 have hl':=hy.len
 have vx:=val_digs (B:=4294967296) (by omega) x.natAbs
 have vy:=val_digs (B:=4294967296) (by omega) y.natAbs
 have lx:=lim_digs (B:=4294967296) (by omega) x.natAbs
 have ly:=lim_digs (B:=4294967296) (by omega) y.natAbs
 have hyp:0<y.natAbs:=by omega
 have hbq: ∀b,Bd k (sg b (x.natAbs / y.natAbs)):=fun b=>Bd.sgn (Nat.lt_of_le_of_lt (Nat.div_le_self _ _) hx)
 have hbr: ∀b,Bd k (sg b (x.natAbs%y.natAbs)):=fun b=>Bd.sgn (Nat.lt_of_le_of_lt (Nat.mod_le _ _) hx)
 have hlq:=(hbq false).len
 have hlr:=(hbr false).len
 rw[sg_abs]at hlq hlr
 refine enter112 (by simp) ?_
 simp(disch:=first|exact Xe|fail)only[ac112,cells_IntA,↓Xa,Xb,Xc,↓reduceIte,Nat.reduceLT,Nat.reduceEqDiff,Nat.reduceBEq,Nat.reduceLeDiff,Nat.reduceAdd,Nat.reduceMul]
 refine alloc_i fun p hp=>?_
 simp(disch:=first|exact Xe|fail)only[↓Xa,Xb,Xc,↓reduceIte,Nat.reduceLT,Nat.reduceEqDiff,Nat.reduceBEq,Nat.reduceLeDiff,Nat.reduceAdd,Nat.reduceMul]
 refine alloc_i fun p2 hp2=>?_
 have n2:=hp2
 simp only[upd_none]at n2
 obtain⟨_,n2⟩:=n2
 simp(disch:=first|exact Xe|fail)only[↓Xa,Xb,Xc,↓reduceIte,Nat.reduceLT,Nat.reduceEqDiff,Nat.reduceBEq,Nat.reduceLeDiff,Nat.reduceAdd,Nat.reduceMul]
 refine alloc_i fun p3 hp3=>?_
 have n3:=hp3
 simp only[upd_none]at n3
 obtain⟨_,_,n3⟩:=n3
 simp(disch:=first|exact Xe|fail)only[↓Xa,Xb,Xc,↓reduceIte,Nat.reduceLT,Nat.reduceEqDiff,Nat.reduceBEq,Nat.reduceLeDiff,Nat.reduceAdd,Nat.reduceMul]
 refine alloc_i fun p4 hp4=>?_
 have n4:=hp4
 simp only[upd_none]at n4
 obtain⟨_,_,_,n4⟩:=n4
 simp(disch:=first|exact Xe|fail)only[↓Xa,Xb,Xc,↓reduceIte,Nat.reduceLT,Nat.reduceEqDiff,Nat.reduceBEq,Nat.reduceLeDiff,Nat.reduceAdd,Nat.reduceMul]
 refine(divmod_fn (a:=digs 4294967296 x.natAbs) (b:=digs 4294967296 y.natAbs) true true lx ly (by omega) (by omega) (by omega)).call ?_
 rw[vx,vy]
 have ifold: ∀z:Int,AV.bool (decide (z<0))=IntB z:=fun z=>rfl
 simp(disch:=first|exact Xe|fail)only[IntB,binB_neq,↓Xa,Xb,Xc,↓reduceIte,Nat.reduceLT,Nat.reduceEqDiff,Nat.reduceBEq,Nat.reduceLeDiff,Nat.reduceAdd,Nat.reduceMul]
 refine PFn.dcall (made_fn _ _ (by omega)) ?_
 simp(disch:=first|exact Xe|fail)only[↓Xa,Xb,Xc,↓reduceIte,Nat.reduceLT,Nat.reduceEqDiff,Nat.reduceBEq,Nat.reduceLeDiff,Nat.reduceAdd,Nat.reduceMul]
 refine PFn.dcall (made_fn _ _ (by omega)) ?_
 simp(disch:=first|exact Xe|fail)only[↓Xa,Xb,Xc,↓reduceIte,Nat.reduceLT,Nat.reduceEqDiff,Nat.reduceBEq,Nat.reduceLeDiff,Nat.reduceAdd,Nat.reduceMul]
 refine dalloc_i fun p5 hp5=>?_
 have n5:=hp5
 simp only[upd_none]at n5
 obtain⟨_,_,_,_,n5⟩:=n5
 simp(disch:=first|exact Xe|fail)only[↓Xa,Xb,Xc,↓reduceIte,Nat.reduceLT,Nat.reduceEqDiff,Nat.reduceBEq,Nat.reduceLeDiff,Nat.reduceAdd,Nat.reduceMul]
 refine dalloc_i fun p6 hp6=>?_
 have n6:=hp6
 simp only[upd_none]at n6
 obtain⟨_,_,_,_,_,n6⟩:=n6
 simp(disch:=first|exact Xe|fail)only[cells_IntA,↓Xa,Xb,Xc,↓reduceIte,Nat.reduceLT,Nat.reduceEqDiff,Nat.reduceBEq,Nat.reduceLeDiff,Nat.reduceAdd,Nat.reduceMul]
 have bq:=hbq (!(decide (x<0)==decide (y<0)))
 have br:=hbr (decide (x<0))
 have cs:(sg (!(decide (x<0)==decide (y<0))) (x.natAbs / y.natAbs)=x / y∧sg (decide (x<0)) (x.natAbs%y.natAbs)=x%y∧IntB (sg (decide (x<0)) (x.natAbs%y.natAbs))=.bool false)∨
  (sg (!(decide (x<0)==decide (y<0))) (x.natAbs / y.natAbs)-sgnI y=x / y∧sg (decide (x<0)) (x.natAbs%y.natAbs)+(y.natAbs:Int)=x%y∧IntB (sg (decide (x<0)) (x.natAbs%y.natAbs))=.bool true):=by
  by_cases h:x<0
  ·obtain⟨e1,e2⟩:=ediv_neg' hy0 h
   rw[decide_eq_true h]
   have eb:(!(true==decide (y<0)))=!decide (y<0):=by simp
   rw[eb]
   rcases Nat.eq_zero_or_pos (x.natAbs%y.natAbs)with hz|hz
   ·left
    obtain⟨f1,f2⟩:=e1 hz
    rw[hz,f1,f2]
    exact⟨rfl,rfl,rfl⟩
   ·right
    obtain⟨f1,f2⟩:=e2 hz
    exact⟨f1.symm,f2.symm,congrArg AV.bool (decide_eq_true (by simp[sg];omega))⟩
  ·left
   obtain⟨f1,f2⟩:=ediv_pos hy0 (show 0≤x by omega)
   rw[decide_eq_false h]
   have eb:(!(false==decide (y<0)))=decide (y<0):=by simp
   rw[eb,f1,f2]
   exact⟨rfl,rfl,congrArg AV.bool (decide_eq_false (by simp[sg];omega))⟩
 generalize sg (!(decide (x<0)==decide (y<0))) (x.natAbs / y.natAbs)=q0 at*
 generalize sg (decide (x<0)) (x.natAbs%y.natAbs)=r0 at*
 have fin: ∀{v a b c d e f},Q v H→SetR Q v ((((((H.upd p a).upd p2 b).upd p3 c).upd p4 d).upd p5 e).upd p6 f):=fun{v a b c d e f} hv=>SetR.dropTo (((((((Le.refl H).updB hp).updB n2).updB n3).updB n4).updB n5).updB n6) (SetR.now hv)
 rcases cs with⟨c1,c2,c3⟩|⟨c1,c2,c3⟩
 ·rw[← c1,← c2]at hq
  have f0:AV.agg [.bool false,IntD r0]=IntA r0:=by rw[IntA_eq,c3]
  simp(disch:=first|exact Xe|fail)only[c3,fold_IntA,f0,cells_IntA,rs112,↓Xa,Xb,Xc,↓reduceIte,Nat.reduceLT,Nat.reduceEqDiff,Nat.reduceBEq,Nat.reduceLeDiff,Nat.reduceAdd,Nat.reduceMul]
  exact fin hq
 ·rw[← c1,← c2]at hq
  have f0:AV.agg [.bool true,IntD r0]=IntA r0:=by rw[IntA_eq,c3]
  simp(disch:=first|exact Xe|fail)only[c3,fold_IntA,f0,foldL,foldM,↓Xa,Xb,Xc,↓reduceIte,Nat.reduceLT,Nat.reduceEqDiff,Nat.reduceBEq,Nat.reduceLeDiff,Nat.reduceAdd,Nat.reduceMul]
  refine PFn.dcall (abs_fn hy (by omega)) ?_
  simp(disch:=first|exact Xe|fail)only[fold_IntA,foldL,foldM,f0,↓Xa,Xb,Xc,↓reduceIte,Nat.reduceLT,Nat.reduceEqDiff,Nat.reduceBEq,Nat.reduceLeDiff,Nat.reduceAdd,Nat.reduceMul]
  refine(addi_fn br (by omega) hy.abs (by omega)).call ?_
  simp(disch:=first|exact Xe|fail)only[fold_IntA,foldL,foldM,f0,cells_IntA,↓Xa,Xb,Xc,↓reduceIte,Nat.reduceLT,Nat.reduceEqDiff,Nat.reduceBEq,Nat.reduceLeDiff,Nat.reduceAdd,Nat.reduceMul]
  refine PFn.dcall (sign_fn hy (by omega)) ?_
  simp(disch:=first|exact Xe|fail)only[fold_IntA,foldL,foldM,f0,↓Xa,Xb,Xc,↓reduceIte,Nat.reduceLT,Nat.reduceEqDiff,Nat.reduceBEq,Nat.reduceLeDiff,Nat.reduceAdd,Nat.reduceMul]
  refine PFn.dcall (of_fn (sgnI_le y)) ?_
  simp(disch:=first|exact Xe|fail)only[fold_IntA,foldL,foldM,f0,↓Xa,Xb,Xc,↓reduceIte,Nat.reduceLT,Nat.reduceEqDiff,Nat.reduceBEq,Nat.reduceLeDiff,Nat.reduceAdd,Nat.reduceMul]
  refine(subi_fn bq (by omega) (Bd.i64 (sgnI_le y)) (by omega)).call ?_
  simp(disch:=first|exact Xe|fail)only[fold_IntA,foldL,foldM,f0,cells_IntA,rs112,↓Xa,Xb,Xc,↓reduceIte,Nat.reduceLT,Nat.reduceEqDiff,Nat.reduceBEq,Nat.reduceLeDiff,Nat.reduceAdd,Nat.reduceMul]
  exact fin hq
theorem iover_fn{x c:Int}{k:Nat}(hx:Bd k x)(hk:k≤274877906944)(hc: -9223372036854775808≤c∧c<9223372036854775808)(hc0:c≠0):
 PFn Tryd.prog 101 [IntA x,.int .i64 c] (if x%c=0 then .tup [IntA (x / c),.int .i64 ((0:Nat):Int)]else .tup [IntA 0,.int .i64 ((20:Nat):Int)]):=by
 intro H Q hq
 have hy:Bd 2 c:=Bd.i64 hc
 have hl:=hx.len
 have hl':=hy.len
 have vx:=val_digs (B:=4294967296) (by omega) x.natAbs
 have vy:=val_digs (B:=4294967296) (by omega) c.natAbs
 have lx:=lim_digs (B:=4294967296) (by omega) x.natAbs
 have ly:=lim_digs (B:=4294967296) (by omega) c.natAbs
 have hbq: ∀b,Bd k (sg b (x.natAbs / c.natAbs)):=fun b=>Bd.sgn (Nat.lt_of_le_of_lt (Nat.div_le_self _ _) hx)
 have hlq:=(hbq false).len
 rw[sg_abs]at hlq
 refine enter101 (by simp) ?_
 simp(disch:=first|exact Xe|fail)only[ac101,cells_IntA,↓Xa,Xb,Xc,↓reduceIte,Nat.reduceLT,Nat.reduceEqDiff,Nat.reduceBEq,Nat.reduceLeDiff,Nat.reduceAdd,Nat.reduceMul]
 refine alloc_i fun p hp=>?_
 simp(disch:=first|exact Xe|fail)only[↓Xa,Xb,Xc,↓reduceIte,Nat.reduceLT,Nat.reduceEqDiff,Nat.reduceBEq,Nat.reduceLeDiff,Nat.reduceAdd,Nat.reduceMul]
 refine alloc_i fun p2 hp2=>?_
 have n2:=hp2
 simp only[upd_none]at n2
 obtain⟨_,n2⟩:=n2
 simp(disch:=first|exact Xe|fail)only[↓Xa,Xb,Xc,↓reduceIte,Nat.reduceLT,Nat.reduceEqDiff,Nat.reduceBEq,Nat.reduceLeDiff,Nat.reduceAdd,Nat.reduceMul]
 refine(of_fn hc).call ?_
 simp(disch:=first|exact Xe|fail)only[↓Xa,Xb,Xc,↓reduceIte,Nat.reduceLT,Nat.reduceEqDiff,Nat.reduceBEq,Nat.reduceLeDiff,Nat.reduceAdd,Nat.reduceMul]
 refine alloc_i fun p3 hp3=>?_
 have n3:=hp3
 simp only[upd_none]at n3
 obtain⟨_,_,n3⟩:=n3
 simp(disch:=first|exact Xe|fail)only[cells_IntA,↓Xa,Xb,Xc,↓reduceIte,Nat.reduceLT,Nat.reduceEqDiff,Nat.reduceBEq,Nat.reduceLeDiff,Nat.reduceAdd,Nat.reduceMul]
 refine(divmod_fn (a:=digs 4294967296 x.natAbs) (b:=digs 4294967296 c.natAbs) true true lx ly (by omega) (by omega) (by omega)).call ?_
 rw[vx,vy]
 have fin: ∀{v a b c},Q v H→SetR Q v (((H.upd p a).upd p2 b).upd p3 c):=fun{v a b c} hv=>SetR.dropTo ((((Le.refl H).updB hp).updB n2).updB n3) (SetR.now hv)
 have hr0:=digs_len0 (B:=4294967296) (n:=x.natAbs%c.natAbs) (by omega)
 have hrl:(digs 4294967296 (x.natAbs%c.natAbs)).length≤k:=digs_len (by omega) _ _ (Nat.lt_of_le_of_lt (Nat.mod_le _ _) hx)
 have hxm:x%c=0↔x.natAbs%c.natAbs=0:=by
  rw[← Int.dvd_iff_emod_eq_zero,← Nat.dvd_iff_mod_eq_zero,Int.natAbs_dvd_natAbs]
 by_cases hz:x.natAbs%c.natAbs=0
 ·rw[if_pos (hxm.2 hz)]at hq
  have e:x / c=sg (!(decide (x<0)==decide (c<0))) (x.natAbs / c.natAbs):=by
   by_cases h:x<0
   ·rw[((ediv_neg' hc0 h).1 hz).1,decide_eq_true h];simp
   ·rw[(ediv_pos hc0 (show 0≤x by omega)).1,decide_eq_false h];simp
  rw[e]at hq
  rw[hz,digs_zero]
  simp(disch:=first|exact Xe|fail)only[IntB,binB_neq,↓Xa,Xb,Xc,↓reduceIte,Nat.reduceLT,Nat.reduceEqDiff,Nat.reduceBEq,Nat.reduceLeDiff,Nat.reduceAdd,Nat.reduceMul]
  refine(made_fn _ _ (by omega)).call ?_
  simp(disch:=first|exact Xe|fail)only[cells_IntA,rs101,↓Xa,Xb,Xc,↓reduceIte,Nat.reduceLT,Nat.reduceEqDiff,Nat.reduceBEq,Nat.reduceLeDiff,Nat.reduceAdd,Nat.reduceMul]
  exact fin hq
 ·rw[if_neg (fun h=>hz (hxm.1 h))]at hq
  have hp0:0<(digs 4294967296 (x.natAbs%c.natAbs)).length:=by
   have: ¬(digs 4294967296 (x.natAbs%c.natAbs)).length=0:=by rw[hr0];exact hz
   omega
  simp(disch:=first|exact Xe|fail)only[hp0,rs101,↓Xa,Xb,Xc,↓reduceIte,Nat.reduceLT,Nat.reduceEqDiff,Nat.reduceBEq,Nat.reduceLeDiff,Nat.reduceAdd,Nat.reduceMul]
  rw[IntA_0]
  exact fin hq
structure LongK(A V M:Nat)(ql:List Nat):Prop where
 hM:M≤blen A
 qlen:ql.length=(digs 65536 A).length
 qlim:Lim 65536 ql
 qval:val 65536 ql=A / 2^M / V*2^M
theorem Bd.le{x y:Int}{k:Nat}(h:Bd k y)(hl:x.natAbs≤y.natAbs):Bd k x:=Nat.lt_of_le_of_lt hl h
theorem Bd.ediv{x y:Int}{k:Nat}(h:Bd k x):Bd k (x / y):=h.le (Int.natAbs_ediv_le_natAbs x y)
def IC(zs:List Int):List AV:=zs.flatMap fun z=>[IntB z,IntD z]
theorem IC_len(zs:List Int):(IC zs).length=zs.length*2:=by
 induction zs with
 |nil=>rfl
 |cons a l ih=>simp only[IC,List.flatMap_cons,List.length_append,List.length_cons,List.length_nil]at *; omega
theorem IC_snoc(zs:List Int)(z:Int):IC (zs++[z])=IC zs++[IntB z,IntD z]:=by simp[IC,List.flatMap_append]
theorem IC_drop: ∀(l:List Int)(i:Nat)(h:i<l.length),(IC l).drop (i*2)=IntB (l[i])::IntD (l[i])::(IC l).drop (i*2+2)
 |a::l,0,_=>rfl
 |a::l,i+1,h=>by
  have:=IC_drop l i (by simpa using h)
  rw[show(i+1)*2=i*2+2 by omega]
  show((IntB a::IntD a::IC l).drop (i*2+2))=_
  simp only[List.drop_succ_cons,List.getElem_cons_succ]
  rw[this]
  show _=_::_::((IntB a::IntD a::IC l).drop (i*2+2+2))
  simp only[List.drop_succ_cons]
def RowI(H:AHeap)(x:AV)(zs:List Int):Prop:=
 (∃t,x=.seq zs.length (IC zs) t)∨∃b ty t,x=.own b (zs.length*2) 0 zs.length t∧H b=some (.row ty 2 (IC zs))
theorem RowI.le{H H':AHeap}{x:AV}{zs:List Int}(h:RowI H x zs)(hl:Le H H'):RowI H' x zs:=by
 rcases h with h|⟨b,ty,t,e,hb⟩
 ·exact .inl h
 ·exact .inr ⟨b,ty,t,e,hl b _ hb⟩
theorem RowI.nil{H:AHeap}:RowI H (.seq 0 [] true) []:=.inl ⟨true,rfl⟩
theorem RowI.grown{H0 H:AHeap}{ty:TypeId}{x:AV}{zs:List Int}(h:growC H0 ty 2 zs.length (IC zs) x H):RowI H x zs:=by
 rcases h with⟨h1,h2,rfl,rfl⟩|⟨h1,h2,b,hb,rfl,rfl⟩
 ·have:zs=[]:=List.length_eq_zero_iff.1 h1
  subst this;exact RowI.nil
 ·exact .inr ⟨b,ty,false,rfl,upd_same _ _ _⟩
theorem RowI.len{H:AHeap}{x:AV}{zs:List Int}(h:RowI H x zs)(hn:zs.length<9223372036854775808){K:AV→Prop}:lenW false x K=K (.int .i64 ((zs.length:Nat):Int)):=by
 rcases h with⟨t,rfl⟩|⟨b,ty,t,rfl,hb⟩<;>simp[lenW,hn]
theorem RowI.get{H:AHeap}{x:AV}{zs:List Int}(h:RowI H x zs){i:Nat}(hi:i<zs.length): ∃p,(∀{k:IntKind}{K:AV→Prop},(liveS H x∧idxAW 2 x (.int k (i:Int)) K)↔K p)∧∀{K:AV→Prop},loadW H (some 2) p K↔K (IntA (zs[i])):=by
 rcases h with⟨t,rfl⟩|⟨b,ty,t,rfl,hb⟩
 ·refine⟨.cptr ((IC zs).drop (i*2)),fun{k K}=>?_,fun{K}=>?_⟩
  ·simp[liveS,idxAW,IC_len,hi]
  ·simp only[loadW,cellsAt,IC_drop zs i hi];simp[IntA_eq]
 ·have hl:=IC_len zs
  refine⟨.ptr b (zs.length*2) (i*2),fun{k K}=>?_,fun{K}=>?_⟩
  ·simp[liveS,idxAW,hb,hl,hi]
  ·simp only[loadW,cellsAt,hb,IC_drop zs i hi]
   simp[IntA_eq,hl]
   omega
end Go.Proofs.YtmndejlpfmmaiaaDoor.Fw
namespace Go.Proofs.YtmndejlpfmmaiaaDoor.Fw
open Go Go.Proofs.YtmndejlpfmmaiaaDoor.Ma
def zipI(f:Int→Int→Int)(zs ws:List Int):List Int:=List.zipWith f zs ws
end Go.Proofs.YtmndejlpfmmaiaaDoor.Fw
namespace Go.Proofs.YtmndejlpfmmaiaaDoor.Fw
open Go Go.Proofs.YtmndejlpfmmaiaaDoor.Ma
set_option maxRecDepth 20000
end Go.Proofs.YtmndejlpfmmaiaaDoor.Fw
namespace Go.Proofs.YtmndejlpfmmaiaaDoor.Ma
def chr(d:Nat):UInt8:=UInt8.ofNat (48+d)
theorem chr_nat{d:Nat}(h:d<10):(chr d).toNat=48+d:=by unfold chr;rw[UInt8.toNat_ofNat'];omega
def dec(n:Nat):List UInt8:=(digs 10 n).reverse.map chr
def wide(k n:Nat):List UInt8:=(pad 10 n k).reverse.map chr
theorem dec_zero:dec 0=[]:=by simp[dec,digs_zero]
theorem wide_len{k n:Nat}(h:n<10^k):(wide k n).length=k:=by
 simp only[wide,List.length_map,List.length_reverse]
 exact pad_len (digs_len (by omega) k n h)
theorem dec_len{k n:Nat}(h:n<10^k):(dec n).length≤k:=by
 simp only[dec,List.length_map,List.length_reverse]
 exact digs_len (by omega) k n h
theorem last_append{l m:List Nat}(h:m≠[]):(l++m).getD ((l++m).length-1) 0=m.getD (m.length-1) 0:=by
 have:0<m.length:=List.length_pos_iff.2 h
 rw[List.getD_eq_getElem?_getD,List.getD_eq_getElem?_getD,List.length_append,List.getElem?_append_right (by omega)]
 congr 2;omega
theorem dec_app{k p m:Nat}(hp:p<10^k)(hm:0<m):dec (p+10^k*m)=dec m++wide k p:=by
 have hne:digs 10 m≠[]:=fun e=>by have:=(digs_nil (B:=10) (by omega)).1 e;omega
 have hlen:=pad_len (digs_len (B:=10) (by omega) k p hp)
 have e:digs 10 (p+10^k*m)=pad 10 p k++digs 10 m:=by
  have h1:Lim 10 (pad 10 p k++digs 10 m):=(pad_lim (by omega)).append (lim_digs (by omega) m)
  have h2:=digs_of (B:=10) (by omega) h1 (.inr (by rw[last_append hne];exact digs_last (by omega) hm))
  rw[h2,val_append,pad_val (by omega),val_digs (by omega),hlen]
 simp only[dec,e,wide,List.reverse_append,List.map_append]
theorem wide_succ{j q:Nat}(h:q<10^(j+1)):wide (j+1) q=chr (q / 10^j)::wide j (q%10^j):=by
 have hp:0<10^j:=Nat.pow_pos (by omega)
 have hlt:q%10^j<10^j:=Nat.mod_lt _ hp
 have hd:q / 10^j<10:=Nat.div_lt_of_lt_mul (by rw[Nat.pow_succ]at h;omega)
 have hlen:=pad_len (digs_len (B:=10) (by omega) j _ hlt)
 have e:pad 10 q (j+1)=pad 10 (q%10^j) j++[q / 10^j]:=by
  have h1:Lim 10 (pad 10 (q%10^j) j++[q / 10^j]):=(pad_lim (by omega)).append (Lim.one hd)
  have h2:=pad_of (B:=10) (by omega) h1
  rw[val_append,pad_val (by omega),hlen,val_one,List.length_append,hlen,Nat.mod_add_div]at h2
  exact h2.symm
 simp only[wide,e,List.reverse_append,List.map_append,List.reverse_singleton,List.map_cons,List.map_nil,List.singleton_append]
theorem wide_step{j p:Nat}:wide (j+1) (p%10^(j+1))=chr (p / 10^j%10)::wide j (p%10^j):=by
 have hp:0<10^(j+1):=Nat.pow_pos (by omega)
 rw[wide_succ (Nat.mod_lt _ hp)]
 have e1:p%10^(j+1) / 10^j=p / 10^j%10:=by rw[Nat.pow_succ,Nat.mod_mul_right_div_self]
 have e2:p%10^(j+1)%10^j=p%10^j:=by rw[Nat.pow_succ];exact Nat.mod_mod_of_dvd _ (Nat.dvd_mul_right _ _)
 rw[e1,e2]
theorem chr_48{d:Nat}(h:d<10):(chr d=48)↔d=0:=by
 constructor
 ·intro e
  have:=congrArg UInt8.toNat e
  rw[chr_nat h]at this
  simp at this;omega
 ·rintro rfl;rfl
theorem wide_trim{k p:Nat}:(wide k p).dropWhile (· ==48)=dec p:=by
 have e:wide k p=List.replicate (k-(digs 10 p).length) 48++dec p:=by
  simp only[wide,pad,dec,List.reverse_append,List.map_append,List.reverse_replicate,List.map_replicate]
  rfl
 rw[e]
 have h: ∀n(l:List UInt8),(List.replicate n 48++l).dropWhile (· ==48)=l.dropWhile (· ==48):=by
  intro n
  induction n with
  |zero=>intro l;simp
  |succ n ih=>intro l;rw[List.replicate_succ,List.cons_append,List.dropWhile_cons];simp[ih]
 rw[h]
 rcases Nat.eq_zero_or_pos p with hp|hp
 ·subst hp;rw[dec_zero];rfl
 ·have hl:=digs_last (B:=10) (by omega) hp
  have hne:digs 10 p≠[]:=fun e=>by have:=(digs_nil (B:=10) (by omega)).1 e;omega
  obtain⟨l,x,hx⟩: ∃l x,digs 10 p=l++[x]:=⟨_,_,(List.dropLast_concat_getLast hne).symm⟩
  have hx0:x≠0:=by
   rw[hx,last_append (by simp)]at hl
   simpa using hl
  have hx10:x<10:=lim_digs (B:=10) (by omega) p x (by rw[hx];simp)
  have hd:dec p=chr x::l.reverse.map chr:=by simp[dec,hx]
  rw[hd,List.dropWhile_cons]
  have:(chr x==48)=false:=by
   rw[beq_eq_false_iff_ne];exact fun h=>hx0 ((chr_48 hx10).1 h)
  rw[this];rfl
theorem digs_drop_pos{B n k:Nat}(hB:2≤B)(hk:k<(digs B n).length):0<val B ((digs B n).drop k):=by
 have hn:0<n:=by
  rcases Nat.eq_zero_or_pos n with h|h
  ·subst h;rw[digs_zero]at hk;simp at hk
  ·exact h
 have hl:=digs_last hB hn
 have h1:Lim B ((digs B n).drop k):=(lim_digs hB n).drop k
 have h2:((digs B n).drop k).getD (((digs B n).drop k).length-1) 0≠0:=by
  rw[List.length_drop,List.getD_eq_getElem?_getD,List.getElem?_drop,← List.getD_eq_getElem?_getD]
  have:k+((digs B n).length-k-1)=(digs B n).length-1:=by omega
  rw[this];exact hl
 have h3:=digs_of hB h1 (.inr h2)
 rcases Nat.eq_zero_or_pos (val B ((digs B n).drop k))with h|h
 ·rw[h,digs_zero]at h3
  have:=congrArg List.length h3
  simp at this;omega
 ·exact h
def decT(n:Nat):List UInt8:=if n=0 then[48]else dec n
theorem dec_pos{n:Nat}(h:0<n):dec n≠[]:=by
 intro e
 have:(digs 10 n)=[]:=by simpa[dec]using e
 have:=(digs_nil (B:=10) (by omega)).1 this
 omega
theorem piece_step{n k p:Nat}(hk:k<(digs 1000000000 n).length)(hp:p=(digs 1000000000 n).getD k 0):
 p<1000000000∧dec (val 1000000000 ((digs 1000000000 n).drop k))=dec (val 1000000000 ((digs 1000000000 n).drop (k+1)))++(if k+1=(digs 1000000000 n).length then dec p else wide 9 p):=by
 have hlt:p<1000000000:=hp▸(lim_digs (B:=1000000000) (by omega) n).getD (by omega) k
 refine⟨hlt,?_⟩
 rw[val_drop 1000000000 hk,← hp]
 by_cases h:k+1=(digs 1000000000 n).length
 ·rw[if_pos h,List.drop_of_length_le (by omega)]
  simp[val,dec_zero]
 ·rw[if_neg h]
  have:=digs_drop_pos (B:=1000000000) (n:=n) (k:=k+1) (by omega) (by omega)
  exact dec_app (k:=9) hlt this
end Go.Proofs.YtmndejlpfmmaiaaDoor.Ma
namespace Go.Proofs.YtmndejlpfmmaiaaDoor.Fw
open Go Go.Proofs.YtmndejlpfmmaiaaDoor.Ma
set_option maxRecDepth 20000
def Sx(l:List UInt8):AV:=.str ⟨l.toArray⟩
theorem str_Sx{l:List UInt8}:AV.str ⟨l.toArray⟩=Sx l:=id rfl
theorem size_Sx{l:List UInt8}:(⟨l.toArray⟩:ByteArray).size=l.length:=by simp[ByteArray.size]
section
variable {K:AV→Prop} {K2:AV→AHeap→Prop} {KD:AV→List Nat→Option (Nat×ABlk)→Prop} {l m:List UInt8} {k k':IntKind} {H:AHeap}
theorem len_Sx:lenW true (Sx l) K=K (.int .i64 ((l.length:Nat):Int)):=by simp only[Sx,lenW,size_Sx]
theorem idx_Sx{i:Nat}(h:i<l.length):idxSW (Sx l) (.int k (i:Int)) K=K (.int .u8 (((l.getD i 0).toNat:Nat):Int)):=by
 simp[Sx,idxSW,byteAt,size_Sx,h]
theorem extract_Sx{a b:Nat}:(⟨l.toArray⟩:ByteArray).extract a b=⟨((l.drop a).take (b-a)).toArray⟩:=by
 apply ByteArray.ext
 rw[ByteArray.data_extract]
 simp[List.extract_toArray]
theorem slc_SxL{a:Nat}(hb:a≤l.length):slcSW (Sx l) (some (.int k (a:Int))) none K=K (Sx (l.drop a)):=by
 have h1:(0:Int)≤(a:Int)∧(a:Int)≤((l.length:Nat):Int):=by omega
 have e:(l.drop a).take (l.length-a)=l.drop a:=List.take_of_length_le (by simp)
 simp[Sx,slcSW,optI,size_Sx,h1,extract_Sx,e]
theorem beq_dec{a b:List UInt8}:(a==b)=decide (a=b):=by by_cases h:a=b<;>simp[h]
theorem eql_Sx:binW .eql (Sx l) (Sx m) K=K (.bool (decide (l=m))):=by
 simp only[Sx,binW,binStr,ByteArray.toList_eq,List.toList_toArray,beq_dec]
theorem neq_Sx:binW .neq (Sx l) (Sx m) K=K (.bool (!decide (l=m))):=by
 simp only[Sx,binW,binStr,ByteArray.toList_eq,List.toList_toArray,beq_dec]
theorem cells_Sx:(Sx l).cells=some [Sx l]:=id rfl
theorem app_S0{ty:Nat}(h0:0<l.length)(hb:l.length≤70368744177664)(kk: ∀b,H b=none→K2 (.own b l.length 0 l.length false) (H.upd b (some (.row ty 1 (Bt l))))):appV H ty 1 1 (.seq 0 [] true) (Sx l) K2:=.inl <| by
 have hal:(Bt l).all AV.cell=true:=by
  rw[List.all_eq_true];intro x hx
  obtain⟨b,_,rfl⟩:=List.mem_map.1 hx;rfl
 refine⟨rfl,?_⟩
 show(bytesA ⟨l.toArray⟩).all AV.cell=true∧_
 rw[bytesA_eq,size_Sx]
 refine⟨hal,rfl,rfl,by omega,by omega,fun e=>by omega,fun _ b hb'=>?_⟩
 simpa using kk b hb'
theorem app_S1{ty b:Nat}{t:Bool}{o:List UInt8}(hH:H b=some (.row ty 1 (Bt o)))(hb:o.length+l.length≤70368744177664)(kk:K2 (.own b (o++l).length 0 (o++l).length false) (H.upd b (some (.row ty 1 (Bt (o++l)))))):appV H ty 1 1 (.own b o.length 0 o.length t) (Sx l) K2:=.inl <| by
 have hal:(Bt l).all AV.cell=true:=by
  rw[List.all_eq_true];intro x hx
  obtain⟨b,_,rfl⟩:=List.mem_map.1 hx;rfl
 refine⟨rfl,?_⟩
 show(bytesA ⟨l.toArray⟩).all AV.cell=true∧_
 rw[bytesA_eq,size_Sx]
 refine⟨hal,?_⟩
 dsimp only
 rw[hH]
 refine⟨Bt_len,rfl,by omega,rfl,rfl,by omega,by omega,?_⟩
 have e:Bt o++Bt l=Bt (o++l):=by simp[Bt]
 rw[List.length_append]at kk
 rw[Nat.mul_one,e]
 exact kk
end
theorem trimB_fn{l:List UInt8}{c:UInt8}(hl:l.length<9223372036854775808):PFn Tryd.prog 157 [Sx l,.int .u8 ((c.toNat:Nat):Int)] (Sx (l.dropWhile (· ==c))):=by
 intro H Q hq
 refine enter157 (by simp) ?_
 simp(disch:=first|exact Xe|fail)only[ac157,↓Xa,Xb,Xc,↓reduceIte,Nat.reduceLT,Nat.reduceEqDiff,Nat.reduceBEq,Nat.reduceLeDiff,Nat.reduceAdd,Nat.reduceMul]
 refine W_loop (fun m:List UInt8=>⟨[],[(0,Sx m),(1,.int .u8 ((c.toNat:Nat):Int))],_⟩) (fun m=>m.length≤l.length∧m.dropWhile (· ==c)=l.dropWhile (· ==c)) (fun m=>m.length) l (Settle.now rfl) ⟨Nat.le_refl _,rfl⟩ ?_
 rintro m ⟨hm,h1⟩
 cases m with
 |nil=>
  simp(disch:=first|exact Xe|fail)only[len_Sx,List.length_nil,↓Xa,Xb,Xc,↓reduceIte,Nat.reduceLT,Nat.reduceEqDiff,Nat.reduceBEq,Nat.reduceLeDiff,Nat.reduceAdd,Nat.reduceMul]
  refine Settle.now ?_
  simp(disch:=first|exact Xe|fail)only[rs157,↓Xa,Xb,Xc,↓reduceIte,Nat.reduceLT,Nat.reduceEqDiff,Nat.reduceBEq,Nat.reduceLeDiff,Nat.reduceAdd,Nat.reduceMul]
  rw[← h1]at hq
  exact SetR.now hq
 |cons x m=>
  have hpos:0<m.length+1:=Nat.succ_pos _
  have e:(x::m).getD 0 0=x:=rfl
  have hm':m.length+1≤l.length:=hm
  rw[List.dropWhile_cons]at h1
  by_cases hx:x=c
  ·have hb:(x==c)=true:=by simp[hx]
   have hx':x.toNat=c.toNat:=by rw[hx]
   rw[if_pos hb]at h1
   simp(disch:=first|exact Xe|fail)only[len_Sx,hpos,idx_Sx,e,hx',slc_SxL,List.drop_succ_cons,List.drop_zero,↓Xa,Xb,Xc,↓reduceIte,Nat.reduceLT,Nat.reduceEqDiff,Nat.reduceBEq,Nat.reduceLeDiff,Nat.reduceAdd,Nat.reduceMul]
   exact Settle.now ⟨m,by simp,⟨by omega,h1⟩,rfl⟩
  ·have hb: ¬(x==c)=true:=by simp[hx]
   have hx': ¬x.toNat=c.toNat:=fun h=>hx (UInt8.toNat_inj.1 h)
   rw[if_neg hb]at h1
   simp(disch:=first|exact Xe|fail)only[len_Sx,hpos,idx_Sx,e,hx',↓Xa,Xb,Xc,↓reduceIte,Nat.reduceLT,Nat.reduceEqDiff,Nat.reduceBEq,Nat.reduceLeDiff,Nat.reduceAdd,Nat.reduceMul]
   refine Settle.now ?_
   simp(disch:=first|exact Xe|fail)only[rs157,↓Xa,Xb,Xc,↓reduceIte,Nat.reduceLT,Nat.reduceEqDiff,Nat.reduceBEq,Nat.reduceLeDiff,Nat.reduceAdd,Nat.reduceMul]
   rw[← h1]at hq
   exact SetR.now hq
theorem trimL_fn{l:List UInt8}{c:UInt8}(hl:l.length<9223372036854775808)(hc:c.toNat<128):PFn Tryd.prog 148 [Sx l,Sx [c]] (Sx (l.dropWhile (· ==c))):=by
 intro H Q hq
 refine enter148 (by simp) ?_
 have e:([c]:List UInt8).getD 0 0=c:=rfl
 have h1:([c]=([]:List UInt8))=False:=by simp
 have h2:0<([c]:List UInt8).length:=by simp
 cases l with
 |nil=>
  simp(disch:=first|exact Xe|fail)only[ac148,str_Sx,eql_Sx,rs148,↓Xa,Xb,Xc,↓reduceIte,Nat.reduceLT,Nat.reduceEqDiff,Nat.reduceBEq,Nat.reduceLeDiff,Nat.reduceAdd,Nat.reduceMul]
  exact SetR.now hq
 |cons x l=>
  have h3:(x::l=([]:List UInt8))=False:=by simp
  simp(disch:=first|exact Xe|fail)only[ac148,str_Sx,eql_Sx,h1,h3,len_Sx,idx_Sx,h2,e,hc,↓Xa,Xb,Xc,↓reduceIte,Nat.reduceLT,Nat.reduceEqDiff,Nat.reduceBEq,Nat.reduceLeDiff,Nat.reduceAdd,Nat.reduceMul]
  refine(trimB_fn hl).call ?_
  simp(disch:=first|exact Xe|fail)only[rs148,↓Xa,Xb,Xc,↓reduceIte,Nat.reduceLT,Nat.reduceEqDiff,Nat.reduceBEq,Nat.reduceLeDiff,Nat.reduceAdd,Nat.reduceMul]
  exact SetR.now hq
theorem check_new{H:AHeap}{p:Nat}{v:AV}{K:AV→AHeap→Prop}(hH:H p=some (.row 183 0 [.nilP,v]))(k:K (.tup []) (H.upd p (some (.row 183 0 [.ptr p 2 0,v])))):Run Tryd.prog 155 [.ptr p 2 0] H K:=by
 refine enter155 (by simp) ?_
 simp(disch:=first|exact Xe|fail)only[ac155,hH,rs155,↓Xa,Xb,Xc,↓reduceIte,Nat.reduceLT,Nat.reduceEqDiff,Nat.reduceBEq,Nat.reduceLeDiff,Nat.reduceAdd,Nat.reduceMul]
 exact SetR.now k
theorem check_used{H:AHeap}{p:Nat}{v:AV}{K:AV→AHeap→Prop}(hH:H p=some (.row 183 0 [.ptr p 2 0,v]))(k:K (.tup []) H):Run Tryd.prog 155 [.ptr p 2 0] H K:=by
 refine enter155 (by simp) ?_
 simp(disch:=first|exact Xe|fail)only[ac155,hH,rs155,↓Xa,Xb,Xc,↓reduceIte,Nat.reduceLT,Nat.reduceEqDiff,Nat.reduceBEq,Nat.reduceLeDiff,Nat.reduceAdd,Nat.reduceMul]
 exact SetR.now k
def bld(p:Nat)(l:List UInt8)(H0 H:AHeap):Prop:=
 (l=[]∧(H=H0.upd p (some (.row 183 0 [.nilP,.seq 0 [] true]))∨H=H0.upd p (some (.row 183 0 [.ptr p 2 0,.seq 0 [] true]))))∨
 (l≠[]∧∃bb,H0 bb=none∧Ap bb p∧H=(H0.upd p (some (.row 183 0 [.ptr p 2 0,.own bb l.length 0 l.length false]))).upd bb (some (.row 5 1 (Bt l))))
theorem bld_new{p:Nat}{H:AHeap}:bld p [] H (H.upd p (some (.row 183 0 [.nilP,.seq 0 [] true]))):=.inl ⟨rfl,.inl rfl⟩
theorem bld_upd{p q:Nat}{l:List UInt8}{H0 H:AHeap}{x:ABlk}(h:bld p l H0 H)(hq:H q=none):Ap q p∧H0 q=none∧bld p l (H0.upd q (some x)) (H.upd q (some x)):=by
 rcases h with⟨rfl,rfl|rfl⟩|⟨h0,bb,hbb,hap,rfl⟩
 ·obtain⟨a,b⟩:=upd_none.1 hq
  exact⟨a,b,.inl ⟨rfl,.inl (upd_comm _ _ _ (Ap.symm a))⟩⟩
 ·obtain⟨a,b⟩:=upd_none.1 hq
  exact⟨a,b,.inl ⟨rfl,.inr (upd_comm _ _ _ (Ap.symm a))⟩⟩
 ·obtain⟨a1,a2,b⟩:Ap q bb∧Ap q p∧H0 q=none:=by simpa only[upd_none]using hq
  refine⟨a2,b,.inr ⟨h0,bb,?_,hap,?_⟩⟩
  ·rw[upd_otherA (Ap.symm a1)];exact hbb
  ·rw[upd_comm _ _ _ (Ap.symm a1),upd_comm (b:=p) (b':=q) _ _ _ (Ap.symm a2)]
theorem wstr_run{p:Nat}{l m:List UInt8}{H0 H:AHeap}{K:AV→AHeap→Prop}(hb:bld p l H0 H)(hl:l.length+m.length≤70368744177664)(hm:0<m.length)
 (k: ∀H',bld p (l++m) H0 H'→K (.tup [.int .i64 ((m.length:Nat):Int),.nilI]) H'):Run Tryd.prog 141 [.ptr p 2 0,Sx m] H K:=by
 refine enter141 (by simp) ?_
 simp(disch:=first|exact Xe|fail)only[ac141,↓Xa,Xb,Xc,↓reduceIte,Nat.reduceLT,Nat.reduceEqDiff,Nat.reduceBEq,Nat.reduceLeDiff,Nat.reduceAdd,Nat.reduceMul]
 have hne: ∀{x:List UInt8},x++m≠[]:=fun{x} e=>by have:=congrArg List.length e;rw[List.length_append,List.length_nil]at this;omega
 have first: ∀{M:AHeap},M=H0.upd p (some (.row 183 0 [.ptr p 2 0,.seq 0 [] true]))→l=[]→
  W Tryd.prog (sndC (sndC ac141)) (retN rs141 K) ⟨[],[(0,.ptr p 2 0),(1,Sx m)],M⟩:=by
  rintro M rfl rfl
  simp(disch:=first|exact Xe|fail)only[sndC,ac141,↓Xa,Xb,Xc,↓reduceIte,Nat.reduceLT,Nat.reduceEqDiff,Nat.reduceBEq,Nat.reduceLeDiff,Nat.reduceAdd,Nat.reduceMul]
  refine app_S0 hm (by simp at hl;omega) fun b hb=>?_
  obtain⟨a1,a2⟩:=upd_none.1 hb
  simp(disch:=first|exact Xe|fail)only[len_Sx,rs141,↓Xa,Xb,Xc,↓reduceIte,Nat.reduceLT,Nat.reduceEqDiff,Nat.reduceBEq,Nat.reduceLeDiff,Nat.reduceAdd,Nat.reduceMul]
  refine SetR.now (k _ (.inr ⟨by simpa using hne (x:=[]),b,a2,a1,?_⟩))
  simp only[List.nil_append]
 rcases hb with⟨rfl,rfl|rfl⟩|⟨h0,bb,hbb,hap,rfl⟩
 ·refine run_call (check_new (upd_same _ _ _) ?_)
  have f:=first rfl rfl
  simp(disch:=first|exact Xe|fail)only[sndC,ac141,↓Xa,Xb,Xc,↓reduceIte,Nat.reduceLT,Nat.reduceEqDiff,Nat.reduceBEq,Nat.reduceLeDiff,Nat.reduceAdd,Nat.reduceMul]at f
  simp(disch:=first|exact Xe|fail)only[↓Xa,Xb,Xc,↓reduceIte,Nat.reduceLT,Nat.reduceEqDiff,Nat.reduceBEq,Nat.reduceLeDiff,Nat.reduceAdd,Nat.reduceMul]
  exact f
 ·refine run_call (check_used (upd_same _ _ _) ?_)
  have f:=first rfl rfl
  simp(disch:=first|exact Xe|fail)only[sndC,ac141,↓Xa,Xb,Xc,↓reduceIte,Nat.reduceLT,Nat.reduceEqDiff,Nat.reduceBEq,Nat.reduceLeDiff,Nat.reduceAdd,Nat.reduceMul]at f
  simp(disch:=first|exact Xe|fail)only[↓Xa,Xb,Xc,↓reduceIte,Nat.reduceLT,Nat.reduceEqDiff,Nat.reduceBEq,Nat.reduceLeDiff,Nat.reduceAdd,Nat.reduceMul]
  exact f
 ·refine run_call (check_used (v:=.own bb l.length 0 l.length false) (by rw[upd_otherA (Ap.symm hap),upd_same]) ?_)
  simp(disch:=first|exact Xe|fail)only[↓Xa,Xb,Xc,↓reduceIte,Nat.reduceLT,Nat.reduceEqDiff,Nat.reduceBEq,Nat.reduceLeDiff,Nat.reduceAdd,Nat.reduceMul]
  refine app_S1 (upd_same _ _ _) hl ?_
  simp(disch:=first|exact Xe|fail)only[len_Sx,rs141,↓Xa,Xb,Xc,↓reduceIte,Nat.reduceLT,Nat.reduceEqDiff,Nat.reduceBEq,Nat.reduceLeDiff,Nat.reduceAdd,Nat.reduceMul]
  refine SetR.now (k _ (.inr ⟨hne,bb,hbb,hap,?_⟩))
  simp only[List.length_append]
theorem bstr_run{p:Nat}{l:List UInt8}{H0 H:AHeap}{K:AV→AHeap→Prop}(hb:bld p l H0 H)(hp:H0 p=none)(hl:l.length≤70368744177664)(h0:0<l.length)(k: ∀H',Le H0 H'→K (Sx l) H'):Run Tryd.prog 142 [.ptr p 2 0] H K:=by
 refine enter142 (by simp) ?_
 rcases hb with⟨rfl,_⟩|⟨h1,bb,hbb,hap,rfl⟩
 ·simp at h0
 ·have hbl:(Bt l).length=l.length:=Bt_len
  simp(disch:=first|exact Xe|fail)only[ac142,h0,rs142,↓Xa,Xb,Xc,↓reduceIte,Nat.reduceLT,Nat.reduceEqDiff,Nat.reduceBEq,Nat.reduceLeDiff,Nat.reduceAdd,Nat.reduceMul]
  exact SetR.now (k _ (((Le.refl H0).updB hp).updB hbb))
theorem bld_drop{p q:Nat}{l:List UInt8}{H0 H:AHeap}{x:ABlk}(h:bld p l (H0.upd q (some x)) H)(hqp:Ap q p)(hq:H0 q=none): ∃H',bld p l H0 H'∧Le H' H:=by
 have up: ∀{M:AHeap}{r:Option ABlk},M=(H0.upd q (some x)).upd p r→Le (H0.upd p r) M:=fun{M r} e=>by
  rw[e,upd_comm _ _ _ hqp]
  exact(Le.refl _).updB (by rw[upd_otherA hqp];exact hq)
 rcases h with⟨rfl,rfl|rfl⟩|⟨h0,bb,hbb,hap,rfl⟩
 ·exact⟨_,.inl ⟨rfl,.inl rfl⟩,up rfl⟩
 ·exact⟨_,.inl ⟨rfl,.inr rfl⟩,up rfl⟩
 ·obtain⟨a1,a2⟩:=upd_none.1 hbb
  refine⟨_,.inr ⟨h0,bb,a2,hap,rfl⟩,?_⟩
  rw[upd_comm _ _ _ hqp,upd_comm (b:=q) (b':=bb) _ _ _ (Ap.symm a1)]
  exact(Le.refl _).updB (by rw[upd_otherA (Ap.symm a1),upd_otherA hqp];exact hq)
theorem stP_Bt{H:AHeap}{K2:AV→AHeap→Prop}{b L off ty es c:Nat}{l:List UInt8}(hL:l.length=L)(h:off<L)(hc:c<256):stP H 1 b L off K2 (some [.int .u8 (c:Int)]) (some (.row ty es (Bt l)))=K2 .bot (H.upd b (some (.row ty es (Bt (l.set off (UInt8.ofNat c)))))):=by
 subst hL
 have h1:off+1≤l.length:=h
 have e:splice (Bt l) off [.int .u8 (c:Int)]=Bt (l.set off (UInt8.ofNat c)):=by
  have e2:(AV.int .u8 (c:Int))=.int .u8 (((UInt8.ofNat c).toNat:Nat):Int):=by
   rw[UInt8.toNat_ofNat',Nat.mod_eq_of_lt hc]
  rw[e2]
  unfold splice Bt
  rw[List.map_set,List.set_eq_take_append_cons_drop]
  simp[h]
 simp[stP,Bt_len,h1,e]
def TxI(p j:Nat)(cells:List UInt8)(x:Nat):Prop:=j≤9∧cells=List.replicate j 0++wide (9-j) (p%10^(9-j))∧x=p / 10^(9-j)
theorem TxI.len{p j x:Nat}{cells:List UInt8}(h:TxI p j cells x):cells.length=9:=by
 obtain⟨h1,rfl,_⟩:=h
 rw[List.length_append,List.length_replicate,wide_len (Nat.mod_lt _ (Nat.pow_pos (by omega)))];omega
theorem TxI.step{p j x:Nat}{cells:List UInt8}(h:TxI p (j+1) cells x):TxI p j (cells.set j (UInt8.ofNat (48+x%10))) (x / 10):=by
 obtain⟨h1,rfl,rfl⟩:=h
 have e9:9-j=(9-(j+1))+1:=by omega
 refine⟨by omega,?_,?_⟩
 ·rw[e9,wide_step]
  rw[List.replicate_succ',List.append_assoc,List.set_append_right _ _ (by simp)]
  simp[chr]
 ·rw[e9,Nat.pow_succ,Nat.div_div_eq_div_mul]
theorem text_fn{l:List Nat}(t:Bool)(hl:Lim 4294967296 l)(hn:l.length≤1099511627776):PFn Tryd.prog 124 [LS l t] (Sx (decT (val 4294967296 l))):=by
 intro H Q hq
 have hP:(2:Nat)≤1000000000:=by omega
 refine enter124 (by simp) ?_
 simp(disch:=first|exact Xe|fail)only[ac124,str_Sx,↓Xa,Xb,Xc,↓reduceIte,Nat.reduceLT,Nat.reduceEqDiff,Nat.reduceBEq,Nat.reduceLeDiff,Nat.reduceAdd,Nat.reduceMul]
 refine(norm_fn t (by omega)).call ?_
 rw[tr_digs (by omega) hl]
 have hN:val 4294967296 l<4294967296^l.length:=val_lt hl
 have hp2:(digs 1000000000 (val 4294967296 l)).length≤2*l.length:=digs_len hP _ _ (Nat.lt_of_lt_of_le hN (by rw[Nat.pow_mul];exact Nat.pow_le_pow_left (by omega) _))
 have hdl:(dec (val 4294967296 l)).length≤10*l.length:=dec_len (Nat.lt_of_lt_of_le hN (by rw[Nat.pow_mul];exact Nat.pow_le_pow_left (by omega) _))
 generalize hNe:val 4294967296 l=N at*
 simp(disch:=first|exact Xe|fail)only[↓Xa,Xb,Xc,↓reduceIte,Nat.reduceLT,Nat.reduceEqDiff,Nat.reduceBEq,Nat.reduceLeDiff,Nat.reduceAdd,Nat.reduceMul]
 refine W_loop (fun s:List Nat×AV×AHeap×Nat=>⟨[],[(3,s.2.1),(4,LS (digs 4294967296 s.2.2.2) true)],s.2.2.1⟩) (fun s=>grow H 149 s.1 s.2.1 s.2.2.1∧digs 1000000000 N=s.1++digs 1000000000 s.2.2.2∧s.2.2.2≤N) (fun s=>s.2.2.2)
  ([],.seq 0 [] true,H,N) (Settle.now rfl) ⟨grow_nil,rfl,Nat.le_refl _⟩ ?_
 rintro⟨done,x,G,n⟩ ⟨hg,he,hle⟩
 dsimp only at hg he hle ⊢
 have hdn:(digs 4294967296 n).length≤l.length:=digs_len (by omega) _ _ (Nat.lt_of_le_of_lt hle (hNe▸hN))
 have hz:=digs_len0 (B:=4294967296) (n:=n) (by omega)
 by_cases hn0:n=0
 ·have h1:(digs 4294967296 n).length=0:=by rw[hz];exact hn0
  simp(disch:=first|exact Xe|fail)only[h1,↓Xa,Xb,Xc,↓reduceIte,Nat.reduceLT,Nat.reduceEqDiff,Nat.reduceBEq,Nat.reduceLeDiff,Nat.reduceAdd,Nat.reduceMul]
  refine Settle.grown 3 rfl hg (Settle.now ?_)
  rw[hn0,digs_zero,List.append_nil]at he
  subst he
  have hlim:=lim_digs hP N
  have hdig:=fun k p=>piece_step (n:=N) (k:=k) (p:=p)
  have hv:val 1000000000 (digs 1000000000 N)=N:=val_digs hP N
  have hlast:=digs_last (B:=1000000000) (n:=N) hP
  have hnil:=digs_len0 (B:=1000000000) (n:=N) hP
  generalize digs 1000000000 N=ps at*
  by_cases hp0:ps.length=0
  ·rw[hnil]at hp0
   have hL:ps.length=0:=by rw[hnil];exact hp0
   simp(disch:=first|exact Xe|fail)only[hL,str_Sx,rs124,↓Xa,Xb,Xc,↓reduceIte,Nat.reduceLT,Nat.reduceEqDiff,Nat.reduceBEq,Nat.reduceLeDiff,Nat.reduceAdd,Nat.reduceMul]
   have e:decT N=[48]:=by rw[hp0];rfl
   rw[e]at hq
   exact SetR.now hq
  ·have hN0:0<N:=by rcases Nat.eq_zero_or_pos N with h|h
                    ·exact absurd (hnil▸h) hp0
                    ·exact h
   have eT:decT N=dec N:=by unfold decT;rw[if_neg (by omega)]
   rw[eT]at hq
   obtain⟨L,hL⟩: ∃L,ps.length=L+1:=⟨ps.length-1,by omega⟩
   have hLp:(0<L+1)=True:=by simp
   have hL0:(L+1=0)=False:=by simp
   simp(disch:=first|exact Xe|fail)only[hL,hL0,↓Xa,Xb,Xc,↓reduceIte,Nat.reduceLT,Nat.reduceEqDiff,Nat.reduceBEq,Nat.reduceLeDiff,Nat.reduceAdd,Nat.reduceMul]
   refine alloc_i fun p hp=>?_
   simp(disch:=first|exact Xe|fail)only[hL,dn_succ,↓Xa,Xb,Xc,↓reduceIte,Nat.reduceLT,Nat.reduceEqDiff,Nat.reduceBEq,Nat.reduceLeDiff,Nat.reduceAdd,Nat.reduceMul]
   refine W_atH fun M0 hM0=>?_
   refine W_loop (fun s:Nat×AHeap=>⟨[],[(3,LS ps false),(8,.ptr p 2 0),(9,.int .i64 (dn s.1))],s.2⟩) (fun s=>s.1≤ps.length∧bld p (dec (val 1000000000 (ps.drop s.1))) H s.2) (fun s=>s.1) (L+1,M0) (Settle.now rfl) ⟨by dsimp only;omega,?_⟩ ?_
   ·dsimp only
    rw[List.drop_of_length_le (by omega),show val 1000000000 []=0 from rfl,dec_zero,hM0]
    exact bld_new
   rintro⟨k,M⟩ ⟨hk,hb⟩
   dsimp only at hk hb ⊢
   cases k with
   |zero=>
    simp(disch:=first|exact Xe|fail)only[dn_zero,↓Xa,Xb,Xc,↓reduceIte,Nat.reduceLT,Nat.reduceEqDiff,Nat.reduceBEq,Nat.reduceLeDiff,Nat.reduceAdd,Nat.reduceMul]
    refine Settle.now ?_
    rw[List.drop_zero,hv]at hb
    simp(disch:=first|exact Xe|fail)only[↓Xa,Xb,Xc,↓reduceIte,Nat.reduceLT,Nat.reduceEqDiff,Nat.reduceBEq,Nat.reduceLeDiff,Nat.reduceAdd,Nat.reduceMul]
    have hd0:0<(dec N).length:=List.length_pos_iff.2 (dec_pos hN0)
    refine run_call (bstr_run hb hp (by omega) hd0 fun H' hH'=>?_)
    simp(disch:=first|exact Xe|fail)only[rs124,↓Xa,Xb,Xc,↓reduceIte,Nat.reduceLT,Nat.reduceEqDiff,Nat.reduceBEq,Nat.reduceLeDiff,Nat.reduceAdd,Nat.reduceMul]
    exact SetR.dropTo hH' (SetR.now hq)
   |succ k=>
    obtain⟨hlt,hstep⟩:=hdig k _ (by omega) rfl
    have hlt2:ps.getD k 0<1000000000:=hlt
    simp(disch:=first|exact Xe|fail)only[dn_succ,hL,↓Xa,Xb,Xc,↓reduceIte,Nat.reduceLT,Nat.reduceEqDiff,Nat.reduceBEq,Nat.reduceLeDiff,Nat.reduceAdd,Nat.reduceMul]
    refine alloc_i fun q hq'=>?_
    generalize hpk:ps.getD k 0=pk at*
    simp(disch:=first|exact Xe|fail)only[hpk,dn_succ,hL,↓Xa,Xb,Xc,↓reduceIte,Nat.reduceLT,Nat.reduceEqDiff,Nat.reduceBEq,Nat.reduceLeDiff,Nat.reduceAdd,Nat.reduceMul]
    refine W_loop (fun s:Nat×List UInt8×Nat=>⟨[],[(3,LS ps false),(8,.ptr p 2 0),(9,.int .i64 (k:Nat)),(10,.ptr q 9 0),(11,.int .u32 (s.2.2:Nat)),(12,.int .i64 (dn s.1))],M.upd q (some (.row 192 1 (Bt s.2.1)))⟩)
     (fun s=>TxI pk s.1 s.2.1 s.2.2) (fun s=>s.1) (9,List.replicate 9 0,pk) (Settle.now rfl) ⟨Nat.le_refl _,by simp[wide,pad,digs_zero,Nat.mod_one],by simp⟩ ?_
    rintro⟨j,cells,x⟩ hx
    dsimp only at hx ⊢
    have hcl:=hx.len
    have hx32:x<4294967296:=by
     have:=hx.2.2
     have:=Nat.div_le_self pk (10^(9-j))
     omega
    cases j with
    |zero=>
     have ecells:cells=wide 9 pk:=by
      rw[hx.2.1];simp[Nat.mod_eq_of_lt hlt2]
     have htk:(Bt cells).take 9=Bt cells:=List.take_of_length_le (by rw[Bt_len];omega)
     have hbl:(Bt cells).length=9:=by rw[Bt_len];exact hcl
     simp(disch:=first|exact Xe|fail)only[dn_zero,↓Xa,Xb,Xc,↓reduceIte,Nat.reduceLT,Nat.reduceEqDiff,Nat.reduceBEq,Nat.reduceLeDiff,Nat.reduceAdd,Nat.reduceMul]
     refine Settle.now ?_
     simp(disch:=first|exact Xe|fail)only[htk,str_Sx,hL,dn_succ,↓Xa,Xb,Xc,↓reduceIte,Nat.reduceLT,Nat.reduceEqDiff,Nat.reduceBEq,Nat.reduceLeDiff,Nat.reduceAdd,Nat.reduceMul]
     refine⟨by decide,?_⟩
     obtain⟨a1,a2,w0⟩:=bld_upd (x:=.row 192 1 (Bt cells)) hb hq'
     have fin: ∀(m:List UInt8)(M':AHeap),bld p (dec (val 1000000000 (ps.drop (k+1)))++m) (H.upd q (some (.row 192 1 (Bt cells)))) M'→dec (val 1000000000 (ps.drop k))=dec (val 1000000000 (ps.drop (k+1)))++m→
      Settle (fun s'=> ∃x':Nat×AHeap,x'.1<k+1∧(x'.1≤L+1∧bld p (dec (val 1000000000 (ps.drop x'.1))) H x'.2)∧s'=⟨[],[(3,LS ps false),(8,.ptr p 2 0),(9,.int .i64 (dn x'.1))],x'.2⟩) ⟨[],[(3,LS ps false),(8,.ptr p 2 0),(9,.int .i64 (dn k))],M'⟩:=fun m M' hb' e=>by
      obtain⟨M'',h1,h2⟩:=bld_drop hb' a1 a2
      exact Settle.dropTo h2 (Settle.now ⟨(k,M''),Nat.lt_succ_self k,⟨by dsimp only;omega,by dsimp only;rw[e];exact h1⟩,rfl⟩)
     have hbd:(dec (val 1000000000 (ps.drop (k+1)))).length≤9*ps.length:=by
      refine dec_len (Nat.lt_of_lt_of_le (val_lt (hlim.drop (k+1))) ?_)
      rw[show(1000000000:Nat)=10^9 from rfl,← Nat.pow_mul]
      exact Nat.pow_le_pow_right (by omega) (Nat.mul_le_mul_left _ (by simp))
     by_cases hkL:k=L
     ·rw[if_pos (by omega)]at hstep
      have hpk0:pk≠0:=by
       have:=hlast hN0
       rwa[hL,Nat.add_sub_cancel,← hkL,hpk]at this
      have hm0:0<(dec pk).length:=List.length_pos_iff.2 (dec_pos (by omega))
      have hm9:(dec pk).length≤9:=dec_len (k:=9) hlt2
      have hd1:decide (k=L+1-1)=true:=by simp[hkL]
      simp(disch:=first|exact Xe|fail)only[hd1,↓Xa,Xb,Xc,↓reduceIte,Nat.reduceLT,Nat.reduceEqDiff,Nat.reduceBEq,Nat.reduceLeDiff,Nat.reduceAdd,Nat.reduceMul]
      refine(trimL_fn (c:=48) (l:=cells) (by omega) (by decide)).call ?_
      rw[ecells,wide_trim,← ecells]
      simp(disch:=first|exact Xe|fail)only[↓Xa,Xb,Xc,↓reduceIte,Nat.reduceLT,Nat.reduceEqDiff,Nat.reduceBEq,Nat.reduceLeDiff,Nat.reduceAdd,Nat.reduceMul]
      refine run_call (wstr_run w0 (by omega) hm0 fun M' hM'=>?_)
      simp(disch:=first|exact Xe|fail)only[↓Xa,Xb,Xc,↓reduceIte,Nat.reduceLT,Nat.reduceEqDiff,Nat.reduceBEq,Nat.reduceLeDiff,Nat.reduceAdd,Nat.reduceMul]
      exact fin _ _ hM' hstep
     ·rw[if_neg (by omega)]at hstep
      rw[← ecells]at hstep
      have hd1:decide (k=L+1-1)=false:=by simp[hkL]
      simp(disch:=first|exact Xe|fail)only[hd1,↓Xa,Xb,Xc,↓reduceIte,Nat.reduceLT,Nat.reduceEqDiff,Nat.reduceBEq,Nat.reduceLeDiff,Nat.reduceAdd,Nat.reduceMul]
      refine run_call (wstr_run w0 (by omega) (by omega) fun M' hM'=>?_)
      simp(disch:=first|exact Xe|fail)only[↓Xa,Xb,Xc,↓reduceIte,Nat.reduceLT,Nat.reduceEqDiff,Nat.reduceBEq,Nat.reduceLeDiff,Nat.reduceAdd,Nat.reduceMul]
      exact fin _ _ hM' hstep
    |succ j=>
     have hj:j<9:=by have:=hx.1;omega
     have hbl:(Bt cells).length=9:=by rw[Bt_len];exact hcl
     have hd:x%10<10:=Nat.mod_lt _ (by omega)
     simp(disch:=first|exact Xe|fail)only[dn_succ,stP_Bt,↓Xa,Xb,Xc,↓reduceIte,Nat.reduceLT,Nat.reduceEqDiff,Nat.reduceBEq,Nat.reduceLeDiff,Nat.reduceAdd,Nat.reduceMul]
     exact⟨by omega,by omega,Settle.now ⟨(j,_,x / 10),Nat.lt_succ_self j,hx.step,rfl⟩⟩
 ·have h1:0<(digs 4294967296 n).length:=by
   have: ¬(digs 4294967296 n).length=0:=by rw[hz];exact hn0
   omega
  simp(disch:=first|exact Xe|fail)only[h1,↓Xa,Xb,Xc,↓reduceIte,Nat.reduceLT,Nat.reduceEqDiff,Nat.reduceBEq,Nat.reduceLeDiff,Nat.reduceAdd,Nat.reduceMul]
  refine(divsmall_fn (d:=1000000000) true (lim_digs (by omega) n) (by omega) (by omega) (by omega)).call ?_
  rw[val_digs (by omega)]
  simp(disch:=first|exact Xe|fail)only[↓Xa,Xb,Xc,↓reduceIte,Nat.reduceLT,Nat.reduceEqDiff,Nat.reduceBEq,Nat.reduceLeDiff,Nat.reduceAdd,Nat.reduceMul]
  have hlen:=congrArg List.length he
  rw[List.length_append]at hlen
  refine app_grow (m:=[n%1000000000]) hg rfl (by simp) (by simp;omega) fun x' H2 hg2=>?_
  simp(disch:=first|exact Xe|fail)only[↓Xa,Xb,Xc,↓reduceIte,Nat.reduceLT,Nat.reduceEqDiff,Nat.reduceBEq,Nat.reduceLeDiff,Nat.reduceAdd,Nat.reduceMul]
  refine Settle.now ⟨(done++[n%1000000000],x',H2,n / 1000000000),Nat.div_lt_self (by omega) (by omega),⟨hg2,?_,Nat.le_trans (Nat.div_le_self _ _) hle⟩,rfl⟩
  dsimp only
  rw[he,digs_pos hP (show 0<n by omega),List.append_assoc];rfl
structure Nm(l:List Nat)(n k:Nat):Prop where
 lim:Lim 4294967296 l
 val:val 4294967296 l=n
 len:l.length≤k
theorem Nm.lt{l:List Nat}{n k:Nat}(h:Nm l n k):n<4294967296^k:=by
 rw[← h.val];exact Nat.lt_of_lt_of_le (val_lt h.lim) (Nat.pow_le_pow_right (by omega) h.len)
theorem Nm.digs{n k:Nat}(h:n<4294967296^k):Nm (digs 4294967296 n) n k:=⟨lim_digs (by omega) n,val_digs (by omega) n,digs_len (by omega) k n h⟩
theorem Nm.raw{l:List Nat}{k:Nat}(h:Lim 4294967296 l)(hk:l.length≤k):Nm l (Ma.val 4294967296 l) k:=⟨h,rfl,hk⟩
theorem Nm.mono{l:List Nat}{n k k':Nat}(h:Nm l n k)(hk:k≤k'):Nm l n k':=⟨h.lim,h.val,Nat.le_trans h.len hk⟩
theorem Nm.one{c:Nat}(h:c<4294967296):Nm [c] c 1:=⟨Lim.one h,val_one _ _,Nat.le_refl _⟩
end Go.Proofs.YtmndejlpfmmaiaaDoor.Fw
namespace Go.Proofs.YtmndejlpfmmaiaaDoor.Ma
def isDig(b:UInt8):Prop:=48≤b.toNat∧b.toNat≤57
def Good(l:List UInt8):Prop:=l≠[]∧(∀b,b∈l→isDig b)∧(l.length=1∨(l.getD 0 0).toNat≠48)
theorem good_decT(n:Nat):Good (decT n):=by
 unfold decT
 split
 ·exact⟨by simp,by simp[isDig],.inl rfl⟩
 ·rename_i h
  have hn:0<n:=by omega
  refine⟨dec_pos hn,fun b hb=>?_,.inr ?_⟩
  ·unfold dec at hb
   obtain⟨x,hx,rfl⟩:=List.mem_map.1 hb
   have:=lim_digs (B:=10) (by omega) n x (List.mem_reverse.1 hx)
   unfold isDig;rw[chr_nat this];omega
  ·have hl:=digs_last (B:=10) (by omega) hn
   have hne:digs 10 n≠[]:=fun e=>by have:=(digs_nil (B:=10) (by omega)).1 e;omega
   obtain⟨l,x,hx⟩: ∃l x,digs 10 n=l++[x]:=⟨_,_,(List.dropLast_concat_getLast hne).symm⟩
   have hx0:x≠0:=by
    rw[hx,last_append (by simp)]at hl
    simpa using hl
   have hx10:x<10:=lim_digs (B:=10) (by omega) n x (by rw[hx];simp)
   have:dec n=chr x::l.reverse.map chr:=by simp[dec,hx]
   rw[this]
   show(chr x).toNat≠48
   rw[chr_nat hx10];omega
end Go.Proofs.YtmndejlpfmmaiaaDoor.Ma
namespace Go.Proofs.YtmndejlpfmmaiaaDoor.Fw
open Go Go.Proofs.YtmndejlpfmmaiaaDoor.Ma
set_option maxRecDepth 20000
def spot(e a:Nat):AV:=.agg [.int .i64 (e:Int),.int .i64 (a:Int)]
theorem rng_Sx{H:AHeap}{l:List UInt8}{K:AV→AHeap→Prop}:rngW H (Sx l) K=rngS H ⟨l.toArray⟩ K:=id rfl
theorem byte_Sx{l:List UInt8}{i:Nat}:byteAt ⟨l.toArray⟩ i=(l.getD i 0).toNat:=by simp[byteAt]
theorem nxt_Sl{H:AHeap}{b pos:Nat}{l:List UInt8}{K:AV→AHeap→Prop}(h:pos<l.length)(hb:(l.getD pos 0).toNat<128):nxtP H b K (some (.raw (.stringIter ⟨l.toArray⟩ pos)))=K (.tup [.bool true,.int .i64 (pos:Int),.int .i32 (((l.getD pos 0).toNat:Nat):Int)]) (H.upd b (some (.raw (.stringIter ⟨l.toArray⟩ (pos+1))))):=by
 rw[nxt_lt (by rw[size_Sx];exact h) (by rw[byte_Sx];exact hb),byte_Sx]
theorem nxt_Sg{H:AHeap}{b pos:Nat}{l:List UInt8}{K:AV→AHeap→Prop}(h:l.length≤pos):nxtP H b K (some (.raw (.stringIter ⟨l.toArray⟩ pos)))=K (.tup [.bool false]) H:=nxt_ge (by rw[size_Sx];exact h)
theorem wn_i32{n:Nat}(h:n<2147483648):IntKind.i32.wrap (n:Int)=(n:Int):=by
 unfold IntKind.wrap;simp only[IntKind.bits,IntKind.signed,Bool.true_and,decide_eq_true_eq,ge_iff_le];split<;>omega
theorem cW_y{P:Program}{b:Nat}{args:List AV}{H:AHeap}{K:AV→AHeap→Prop}:callW P (.yld b) args H K=YieldW P b args H K:=id rfl
theorem load_cS{H:AHeap}{l:List UInt8}{K:AV→Prop}:loadW H none (.cptr [Sx l]) K=K (Sx l):=by simp[loadW,cellsAt,Sx]
theorem digits1_iter{l:List UInt8}(hg: ∀b,b∈l→isDig b)(hl:l.length<4611686018427387904):IterW Tryd.prog 125 [.cptr [Sx l]] (fun d:Nat=>[.int .i64 (d:Int)]) (l.map fun b=>b.toNat-48):=by
 intro b J Jx hy A B hd h0
 refine enter125 (by simp) ?_
 simp(disch:=first|exact Xe|fail)only[ac125,rng_Sx,load_cS,↓Xa,Xb,Xc,↓reduceIte,Nat.reduceLT,Nat.reduceEqDiff,Nat.reduceBEq,Nat.reduceLeDiff,Nat.reduceAdd,Nat.reduceMul]
 refine rng_i fun q hq=>?_
 obtain⟨qa,qb⟩:=un_none.1 hq
 simp(disch:=first|exact Xe|fail)only[↓Xa,Xb,Xc,↓reduceIte,Nat.reduceLT,Nat.reduceEqDiff,Nat.reduceBEq,Nat.reduceLeDiff,Nat.reduceAdd,Nat.reduceMul]
 refine W_loop (fun s:Nat×AHeap=>⟨[],[(0,.yld b),(6,.ptr q 0 0)],(Un s.2 B).upd q (some (.raw (.stringIter ⟨l.toArray⟩ s.1)))⟩) (fun s=>s.1≤l.length∧Dj s.2 B∧s.2 q=none∧J ((l.map fun b=>b.toNat-48).take s.1) s.2) (fun s=>l.length-s.1) (0,A) (Settle.now rfl) ⟨Nat.zero_le _,hd,qa,by simpa using h0⟩ ?_
 rintro⟨i,A1⟩ ⟨hi,hd1,hq1,hj⟩
 dsimp only at hi hd1 hq1 hj ⊢
 by_cases h:i<l.length
 ·have hdg:=hg _ (List.getElem_mem h)
  have eg:l.getD i 0=l[i]:=by rw[List.getD_eq_getElem?_getD,List.getElem?_eq_getElem h,Option.getD_some]
  rw[← eg]at hdg
  unfold isDig at hdg
  have h128:(l.getD i 0).toNat<128:=by omega
  have hx:(l.map fun b=>b.toNat-48)=(l.map fun b=>b.toNat-48).take i++((l.getD i 0).toNat-48)::(l.map fun b=>b.toNat-48).drop (i+1):=by
   conv=>lhs;rw[← List.take_append_drop i (l.map fun b=>b.toNat-48)]
   rw[List.drop_eq_getElem_cons (by simpa using h),List.getElem_map,eg]
  have hx2:(l.map fun b=>b.toNat-48).take (i+1)=(l.map fun b=>b.toNat-48).take i++[(l.getD i 0).toNat-48]:=by
   rw[List.take_add_one,List.getElem?_map,List.getElem?_eq_getElem h,eg];rfl
  simp(disch:=first|exact Xe|fail)only[nxt_Sl,wn_i32,cW_y,↓Xa,Xb,Xc,↓reduceIte,Nat.reduceLT,Nat.reduceEqDiff,Nat.reduceBEq,Nat.reduceLeDiff,Nat.reduceAdd,Nat.reduceMul]
  rw[← un_updR hq1]
  refine(hy _ _ _ A1 (B.upd q (some (.raw (.stringIter ⟨l.toArray⟩ (i+1))))) hx (dj_updR hd1 hq1) hj).mono ?_
  rintro r H' ⟨A2,hd2,rfl,(⟨rfl,hj2⟩|⟨rfl,hj2⟩)⟩
  ·have hq2:A2 q=none:=dj_atR hd2 (upd_same _ _ _)
   rw[un_updR hq2]
   simp(disch:=first|exact Xe|fail)only[↓Xa,Xb,Xc,↓reduceIte,Nat.reduceLT,Nat.reduceEqDiff,Nat.reduceBEq,Nat.reduceLeDiff,Nat.reduceAdd,Nat.reduceMul]
   refine Settle.keep [0,6] ⟨(i+1,A2),by dsimp only;omega,⟨by dsimp only;omega,?_,hq2,by dsimp only;rw[hx2];exact hj2⟩,rfl⟩
   intro k
   by_cases e:k=q
   ·subst e;exact .inl hq2
   ·have:=hd2 k
    rwa[upd_other _ _ e]at this
  ·have hq2:A2 q=none:=dj_atR hd2 (upd_same _ _ _)
   have hd3:Dj A2 B:=fun k=>by
    by_cases e:k=q
    ·subst e;exact .inl hq2
    ·have:=hd2 k
     rwa[upd_other _ _ e]at this
   rw[un_updR hq2]
   simp(disch:=first|exact Xe|fail)only[rs125,↓Xa,Xb,Xc,↓reduceIte,Nat.reduceLT,Nat.reduceEqDiff,Nat.reduceBEq,Nat.reduceLeDiff,Nat.reduceAdd,Nat.reduceMul]
   refine SetR.dropTo ((Le.refl _).upd (un_none.2 ⟨hq2,qb⟩)) (SetR.now ⟨A2,hd3,rfl,.inr hj2⟩)
 ·obtain rfl:i=l.length:=by omega
  simp(disch:=first|exact Xe|fail)only[nxt_Sg,↓Xa,Xb,Xc,↓reduceIte,Nat.reduceLT,Nat.reduceEqDiff,Nat.reduceBEq,Nat.reduceLeDiff,Nat.reduceAdd,Nat.reduceMul]
  refine Settle.now ?_
  simp(disch:=first|exact Xe|fail)only[rs125,↓Xa,Xb,Xc,↓reduceIte,Nat.reduceLT,Nat.reduceEqDiff,Nat.reduceBEq,Nat.reduceLeDiff,Nat.reduceAdd,Nat.reduceMul]
  rw[List.take_of_length_le (by simp)]at hj
  refine SetR.dropTo ((Le.refl _).upd (un_none.2 ⟨hq1,qb⟩)) (SetR.now ⟨A1,hd1,rfl,.inl hj⟩)
theorem digits_fn{l:List Nat}(t:Bool)(hl:Lim 4294967296 l)(hn:l.length≤1099511627776):PFn Tryd.prog 79 [LS l t] (.fn (.func 125) [] [.cptr [Sx (decT (val 4294967296 l))]]):=by
 intro H Q hq
 refine enter79 (by simp) ?_
 simp(disch:=first|exact Xe|fail)only[ac79,↓Xa,Xb,Xc,↓reduceIte,Nat.reduceLT,Nat.reduceEqDiff,Nat.reduceBEq,Nat.reduceLeDiff,Nat.reduceAdd,Nat.reduceMul]
 refine(text_fn t hl hn).call ?_
 simp(disch:=first|exact Xe|fail)only[↓Xa,Xb,Xc,↓reduceIte,Nat.reduceLT,Nat.reduceEqDiff,Nat.reduceBEq,Nat.reduceLeDiff,Nat.reduceAdd,Nat.reduceMul]
 refine alloc_i fun p1 hp1=>?_
 have n1:=hp1
 simp(disch:=first|exact Xe|fail)only[cells_Sx,rs79,↓Xa,Xb,Xc,↓reduceIte,Nat.reduceLT,Nat.reduceEqDiff,Nat.reduceBEq,Nat.reduceLeDiff,Nat.reduceAdd,Nat.reduceMul]
 refine SetR.frzP p1 (upd_same _ _ _) ?_
 rw[upd_upd,upd_back _ n1]
 simp[frzP,frzP1]
 exact SetR.now hq
def iText(z:Int):List UInt8:=(if z<0 then[45]else[])++decT z.natAbs
theorem Bt_app(l m:List UInt8):Bt (l++m)=Bt l++Bt m:=by simp[Bt]
theorem Bt_one{n:Nat}(h:n<256):[AV.int .u8 (n:Int)]=Bt [UInt8.ofNat n]:=by
 simp only[Bt,List.map_cons,List.map_nil]
 rw[UInt8.toNat_ofNat',Nat.mod_eq_of_lt (by omega)]
theorem decT_len{n k:Nat}(h:n<10^k)(hk:0<k):(decT n).length≤k:=by
 unfold decT;split
 ·simp;omega
 ·exact dec_len h
theorem decT_bd{x:Int}{k:Nat}(hx:Bd k x):(decT x.natAbs).length≤10*k+1:=by
 refine decT_len (Nat.lt_of_lt_of_le hx ?_) (by omega)
 calc 4294967296^k≤(10^10)^k:=Nat.pow_le_pow_left (by omega) k
  _=10^(10*k):=by rw[Nat.pow_mul]
  _≤10^(10*k+1):=Nat.pow_le_pow_right (by omega) (by omega)
theorem wn_u8'{n:Nat}(h:n<256):IntKind.u8.wrap (n:Int)=(n:Int):=by
 unfold IntKind.wrap;simp only[IntKind.bits,IntKind.signed,Bool.false_and,Bool.false_eq_true,if_false];omega
theorem isDig_chr{b:UInt8}(h:isDig b):UInt8.ofNat (48+(b.toNat-48))=b:=by
 unfold isDig at h
 rw[show 48+(b.toNat-48)=b.toNat by omega];exact UInt8.ofNat_toNat
theorem b2s_B{H0 H:AHeap}{p tb ty:Nat}{l:List UInt8}(h:growB H0 p tb ty 1 l.length (Bt l) H): ∃x,H p=some (.row tb 0 [x])∧AV.cells x=some [x]∧∀H' K,Le H H'→K (Sx l)→b2sW H' x K:=by
 obtain⟨x,hx,hc,_⟩:=growB_get h
 refine⟨x,hx,?_,?_⟩
 ·rcases hc with⟨rfl,_,_⟩|⟨_,_,b,rfl,_⟩<;>rfl
 ·intro H' K hle k
  rcases hc with⟨rfl,h0,hc⟩|⟨hn,hl,b,rfl,hb⟩
  ·have:l=[]:=List.eq_nil_of_length_eq_zero h0
   subst this
   exact⟨rfl,k⟩
  ·rw[Nat.mul_one,b2s_own,hle _ _ hb]
   refine⟨by simp[Bt_len],rfl,by omega,?_⟩
   rw[List.drop_zero,List.take_of_length_le (by simp[Bt_len]),bytesOf_Bt]
   exact k
def chD(d:Nat):UInt8:=UInt8.ofNat (48+d)
theorem chD_back: ∀{l:List UInt8},(∀b,b∈l→isDig b)→(l.map fun b=>b.toNat-48).map chD=l:=by
 intro l h
 rw[List.map_map]
 conv=>rhs;rw[← List.map_id l]
 exact List.map_congr_left fun b hb=>isDig_chr (h b hb)
theorem itext_fn{x:Int}{k:Nat}(hx:Bd k x)(hk:k≤1000000):PFn Tryd.prog 41 [IntA x] (Sx (iText x)):=by
 intro H Q hq
 have hdl:=hx.len
 have hdt:=decT_bd hx
 have hgd:=good_decT x.natAbs
 refine enter41 (by simp) ?_
 simp(disch:=first|exact Xe|fail)only[ac41,IntA,↓Xa,Xb,Xc,↓reduceIte,Nat.reduceLT,Nat.reduceEqDiff,Nat.reduceBEq,Nat.reduceLeDiff,Nat.reduceAdd,Nat.reduceMul]
 refine alloc_i fun p1 hp1=>?_
 have n1:=hp1
 simp(disch:=first|exact Xe|fail)only[↓Xa,Xb,Xc,↓reduceIte,Nat.reduceLT,Nat.reduceEqDiff,Nat.reduceBEq,Nat.reduceLeDiff,Nat.reduceAdd,Nat.reduceMul]
 refine alloc_i fun p2 hp2=>?_
 have n2:=hp2
 simp only[upd_none]at n2
 obtain⟨_,n2⟩:=n2
 obtain⟨neg,hneg⟩: ∃b,b=decide (x<0):=⟨_,rfl⟩
 rw[← hneg]at hp2 ⊢
 have tail: ∀(pre:List UInt8)(H2:AHeap)(v:Env),(v=[]∨v=[(6,.bool false)])→pre.length≤1→pre++decT x.natAbs=iText x→growB (H.upd p1 (some (.row 34 0 [.bool neg,LS (digs 4294967296 x.natAbs) true]))) p2 139 5 1 pre.length (Bt pre) H2→
  W Tryd.prog (sndC (sndC (sndC ac41))) (retN rs41 Q) ⟨[],[(1,.ptr p1 2 0),(2,Sx []),(3,.ptr p2 1 0)]++v,H2⟩:=by
  intro pre H2 v hv hp1 hpre hg
  have h1:H2 p1=some (.row 34 0 [.bool neg,LS (digs 4294967296 x.natAbs) true]):=by
   obtain⟨_,_,_,hle⟩:=growB_get hg
   exact hle _ _ (upd_same _ _ _)
  rcases hv with rfl|rfl
  all_goals
   simp(disch:=first|exact Xe|fail)only[sndC,ac41,h1,↓Xa,Xb,Xc,↓reduceIte,Nat.reduceLT,Nat.reduceEqDiff,Nat.reduceBEq,Nat.reduceLeDiff,Nat.reduceAdd,Nat.reduceMul]
   refine(digits_fn true (lim_digs (by omega) _) (by omega)).call ?_
   rw[val_digs (by omega)]
   simp(disch:=first|exact Xe|fail)only[↓Xa,Xb,Xc,↓reduceIte,Nat.reduceLT,Nat.reduceEqDiff,Nat.reduceBEq,Nat.reduceLeDiff,Nat.reduceAdd,Nat.reduceMul]
   obtain⟨A,hd,rfl,hgA⟩:=growB_nu hg
   have hle:Le H (H.upd p1 (some (.row 34 0 [.bool neg,LS (digs 4294967296 x.natAbs) true]))):=(Le.refl H).upd n1
   refine rfn_iter (digits1_iter (fun b hb=>hgd.2.1 b hb) (by omega)) (fun _=>rfl) (fun ds A=>growB nilH p2 139 5 1 (pre++ds.map chD).length (Bt (pre++ds.map chD)) A) (fun _ _=>False) A _ hd rfl (by simpa using hgA) ?_ ?_ (fun _ _ _ _ _ _ h=>h.elim)
   ·intro ds d rest A B hds hdj hj R1 k1
    have hlen:=congrArg List.length hds
    have hd10:d<10:=by
     have:d∈((decT x.natAbs).map fun b=>b.toNat-48):=by rw[hds];simp
     obtain⟨b,hb,rfl⟩:=List.mem_map.1 this
     have:=hgd.2.1 b hb
     unfold isDig at this;omega
    simp(disch:=first|exact Xe|fail)only[setps,↓Xa,Xb,Xc,↓reduceIte,Nat.reduceLT,Nat.reduceEqDiff,Nat.reduceBEq,Nat.reduceLeDiff,Nat.reduceAdd,Nat.reduceMul]
    refine k1 _ A hdj fun R2 B1 k2 hd1=>?_
    obtain⟨y,hy,happ⟩:=growB_app (m:=1) (bytes:=1) (growB_un hj hd1)
    have e1:IntKind.i64.wrap ((48:Nat)+(d:Int))=((48+d:Nat):Int):=by rw[← Int.natCast_add];exact wn_i64 (by omega)
    simp(disch:=first|exact Xe|fail)only[hy,wn_u8',↓Xa,Xb,Xc,↓reduceIte,Nat.reduceLT,Nat.reduceEqDiff,Nat.reduceBEq,Nat.reduceLeDiff,Nat.reduceAdd,Nat.reduceMul]
    refine happ rfl rfl (by omega) ?_ ?_ fun x' H' hp hc hg2=>?_
    ·simp at hlen ⊢; omega
    ·simp at hlen ⊢; omega
    simp(disch:=first|exact Xe|fail)only[hp,hc,↓Xa,Xb,Xc,↓reduceIte,Nat.reduceLT,Nat.reduceEqDiff,Nat.reduceBEq,Nat.reduceLeDiff,Nat.reduceAdd,Nat.reduceMul]
    refine k2 .normal _ (Settle.now (growB_nu ?_))
    have e:pre++(ds++[d]).map chD=(pre++ds.map chD)++[chD d]:=by simp
    dsimp only
    rw[e,List.length_append,Bt_app,show Bt [chD d]=[AV.int .u8 ((48+d:Nat):Int)]from(Bt_one (by omega)).symm]
    exact hg2
   ·intro d A' hdj hA hB hj
    rw[chD_back hgd.2.1,hpre]at hj
    have hj2:=growB_un hj hdj
    obtain⟨y,hy,hyc,hb2⟩:=b2s_B hj2
    obtain⟨_,_,_,hle2⟩:=growB_get hj2
    have hdn:=un_none.2 ⟨hA,hB⟩
    have hy2:((Un A' (H.upd p1 (some (.row 34 0 [.bool neg,LS (digs 4294967296 x.natAbs) true])))).upd d (some (.raw (.deferred (some []))))) p2=some (.row 139 0 [y]):=by
     rw[upd_other _ _ (by rintro rfl;rw[hdn]at hy;cases hy)];exact hy
    simp(disch:=first|exact Xe|fail)only[hy2,↓Xa,Xb,Xc,↓reduceIte,Nat.reduceLT,Nat.reduceEqDiff,Nat.reduceBEq,Nat.reduceLeDiff,Nat.reduceAdd,Nat.reduceMul]
    refine hb2 _ _ ((Le.refl _).upd hdn) ?_
    simp(disch:=first|exact Xe|fail)only[rs41,↓Xa,Xb,Xc,↓reduceIte,Nat.reduceLT,Nat.reduceEqDiff,Nat.reduceBEq,Nat.reduceLeDiff,Nat.reduceAdd,Nat.reduceMul]
    rw[upd_back _ hdn]
    exact SetR.dropTo (fun b x hb=>hle2 _ _ (hle _ _ hb)) (SetR.now hq)
 have g0:=growB_nil (H0:=H.upd p1 (some (.row 34 0 [.bool neg,LS (digs 4294967296 x.natAbs) true]))) (tb:=139) (ty:=5) (es:=1) hp2
 cases neg with
 |true=>
  simp(disch:=first|exact Xe|fail)only[↓Xa,Xb,Xc,↓reduceIte,Nat.reduceLT,Nat.reduceEqDiff,Nat.reduceBEq,Nat.reduceLeDiff,Nat.reduceAdd,Nat.reduceMul]
  obtain⟨y,hy,happ⟩:=growB_app (m:=1) (bytes:=1) g0
  obtain rfl:y=.seq 0 [] true:=by rw[upd_same]at hy;injection hy with hy;injection hy with _ _ hy;injection hy with hy;exact hy.symm
  refine happ (by rfl) (by rfl) (by omega) (by omega) (by omega) fun x' H' hp hc hg2=>?_
  simp(disch:=first|exact Xe|fail)only[hp,hc,↓Xa,Xb,Xc,↓reduceIte,Nat.reduceLT,Nat.reduceEqDiff,Nat.reduceBEq,Nat.reduceLeDiff,Nat.reduceAdd,Nat.reduceMul]
  have tl:=tail [45] _ [] (.inl rfl) (by simp) (by simp[iText,of_decide_eq_true hneg.symm]) hg2
  simp(disch:=first|exact Xe|fail)only[sndC,ac41,↓Xa,Xb,Xc,↓reduceIte,Nat.reduceLT,Nat.reduceEqDiff,Nat.reduceBEq,Nat.reduceLeDiff,Nat.reduceAdd,Nat.reduceMul]at tl
  exact tl
 |false=>
  have tl:=tail [] _ _ (.inr rfl) (by simp) (by simp[iText,of_decide_eq_false hneg.symm]) g0
  simp(disch:=first|exact Xe|fail)only[sndC,ac41,↓Xa,Xb,Xc,↓reduceIte,Nat.reduceLT,Nat.reduceEqDiff,Nat.reduceBEq,Nat.reduceLeDiff,Nat.reduceAdd,Nat.reduceMul]at tl
  simp(disch:=first|exact Xe|fail)only[↓Xa,Xb,Xc,↓reduceIte,Nat.reduceLT,Nat.reduceEqDiff,Nat.reduceBEq,Nat.reduceLeDiff,Nat.reduceAdd,Nat.reduceMul]
  exact tl
theorem first_of{P:Nat→Prop}(lo:Nat): ∀n,(∃p,lo≤p∧p<lo+n∧P p∧∀j,lo≤j→j<p→¬P j)∨∀j,lo≤j→j<lo+n→¬P j
 |0=>.inr fun j h1 h2=>by omega
 |n+1=>by
  rcases first_of (P:=P) lo n with⟨p,a,b,c,d⟩|h
  ·exact .inl ⟨p,a,by omega,c,d⟩
  ·by_cases hp:P (lo+n)
   ·exact .inl ⟨lo+n,by omega,by omega,hp,h⟩
   ·refine .inr fun j h1 h2=>?_
    by_cases e:j=lo+n
    ·rw[e];exact hp
    ·exact h j h1 (by omega)
abbrev RowA(zs:List Int)(t:Bool):AV:=.seq zs.length (IC zs) t
section
variable {K:AV→Prop} {H:AHeap} {k:IntKind} {t:Bool} {zs:List Int} {i:Nat}
theorem idx_IC(h:i<zs.length):idxAW 2 (.seq zs.length (IC zs) t) (.int k (i:Int)) K=K (.cptr ((IC zs).drop (i*2))):=idx_rw (IC_len zs) h
theorem load_IC(h:i<zs.length):loadW H (some 2) (.cptr ((IC zs).drop (i*2))) K=K (IntA (zs[i])):=by
 simp only[loadW,cellsAt,IC_drop zs i h];simp[IntA_eq]
end
def RB4(k:Nat)(zs:List Int):Prop:=(∀z,z∈zs→Bd k z)∧zs.length<4611686018427387904
theorem RB4.at{k:Nat}{zs:List Int}(h:RB4 k zs){i:Nat}(hi:i<zs.length):Bd k (zs[i]):=h.1 _ (List.getElem_mem hi)
theorem repI1{a b:AV}:repA [a,b] 2=[a,b]:=by simp[repA,List.range,List.range.loop]
theorem cellI{z:Int}:[IntB z,IntD z].all AV.cell=true:=rfl
theorem IC_take{zs:List Int}{i:Nat}(h:i<zs.length):IC (zs.take (i+1))=IC (zs.take i)++[IntB (zs[i]),IntD (zs[i])]:=by
 rw[List.take_add_one,List.getElem?_eq_getElem h,Option.toList_some,IC_snoc]
theorem fn_cells{f:Go.Fn}{a b:List AV}:(AV.fn f a b).cells=some [.fn f a b]:=id rfl
theorem callW_fn{P:Program}{f:FuncId}{first caps args:List AV}{H:AHeap}{K:AV→AHeap→Prop}(h:Run P f (first++args++caps) H K):callW P (.fn (.func f) first caps) args H K:=h
theorem each_run{H:AHeap}{Q:AV→AHeap→Prop}{f:AV}{zs ws:List Int}{t:Bool}{k:Nat}(hz:RB4 k zs)(hlen:ws.length=zs.length)(hbig:zs.length≤1000000)(G:Nat→AHeap)(h0:G 0=H)(hd: ∀i b,G i b=none↔H b=none)
 (hs: ∀i(h:i<zs.length)(M:AHeap)(K:AV→AHeap→Prop),Le (G i) M→(∀M',Le (G (i+1)) M'→(∀b,H b=none→M b≠none→M' b=M b)→K (IntA (ws[i]'(by omega))) M')→callW Tryd.prog f [IntA (zs[i])] M K)
 (hq: ∀y M,growC (G zs.length) 34 2 zs.length (IC ws) y M→Q y M):Run Tryd.prog 145 [RowA zs t,f] H Q:=by
 have nz:zs.length<9223372036854775808:=by have:=hz.2;omega
 refine enter145 (by simp) ?_
 simp(disch:=first|exact Xe|fail)only[ac145,len_rw,↓Xa,Xb,Xc,↓reduceIte,Nat.reduceLT,Nat.reduceEqDiff,Nat.reduceBEq,Nat.reduceLeDiff,Nat.reduceAdd,Nat.reduceMul]
 refine W_loop (fun s:Nat×AV×AHeap=>⟨[],[(1,f),(5,s.2.1),(8,RowA zs t),(9,.int .i64 (zs.length:Int)),(10,.int .i64 s.1)],s.2.2⟩) (fun s=>s.1≤zs.length∧growC (G s.1) 34 2 s.1 (IC (ws.take s.1)) s.2.1 s.2.2) (fun s=>zs.length-s.1) (0,.seq 0 [] true,H) (Settle.now rfl) ⟨Nat.zero_le _,by rw[← h0];exact growC_nil⟩ ?_
 rintro⟨i,y,M⟩ ⟨h3,hg⟩
 dsimp only at h3 hg ⊢
 by_cases hi:i<zs.length
 ·simp(disch:=first|exact Xe|fail)only[hi,idx_IC,load_IC,↓Xa,Xb,Xc,↓reduceIte,Nat.reduceLT,Nat.reduceEqDiff,Nat.reduceBEq,Nat.reduceLeDiff,Nat.reduceAdd,Nat.reduceMul]
  refine alloc_i fun q hq1=>?_
  simp(disch:=first|exact Xe|fail)only[cells_IntA,fold_IntA,↓Xa,Xb,Xc,↓reduceIte,Nat.reduceLT,Nat.reduceEqDiff,Nat.reduceBEq,Nat.reduceLeDiff,Nat.reduceAdd,Nat.reduceMul]
  have hg1:=growC_upd (r:=.row 34 0 [IntB (zs[i]),IntD (zs[i])]) hg hq1
  refine hs i hi _ _ ((growC_le hg).upd hq1) fun M' hM' hsame=>?_
  obtain⟨H1,hg2,hl2⟩:=growC_move hg1 fun b hb hb2=>hsame b ((hd i b).1 (upd_none.1 hb).2) hb2
  simp(disch:=first|exact Xe|fail)only[repI1,cells_IntA,↓Xa,Xb,Xc,↓reduceIte,Nat.reduceLT,Nat.reduceEqDiff,Nat.reduceBEq,Nat.reduceLeDiff,Nat.reduceAdd,Nat.reduceMul]
  refine app_C (m:=1) hg2 rfl cellI (by omega) (by omega) (by omega) fun y' M2 hg3=>?_
  rw[← IC_take]at hg3
  obtain⟨M3,hg4,hl4⟩:=growC_le2 hg3 (hl2 _ hM' fun b hb=>(hd (i+1) b).2 ((hd i b).1 (upd_none.1 hb).2))
  simp(disch:=first|exact Xe|fail)only[↓Xa,Xb,Xc,↓reduceIte,Nat.reduceLT,Nat.reduceEqDiff,Nat.reduceBEq,Nat.reduceLeDiff,Nat.reduceAdd,Nat.reduceMul]
  exact Settle.dropTo hl4 (Settle.now ⟨(i+1,y',M3),by dsimp only;omega,⟨by dsimp only;omega,hg4⟩,rfl⟩)
 ·obtain rfl:i=zs.length:=by omega
  rw[List.take_of_length_le (by omega)]at hg
  simp(disch:=first|exact Xe|fail)only[hi,↓Xa,Xb,Xc,↓reduceIte,Nat.reduceLT,Nat.reduceEqDiff,Nat.reduceBEq,Nat.reduceLeDiff,Nat.reduceAdd,Nat.reduceMul]
  refine Settle.now ?_
  simp(disch:=first|exact Xe|fail)only[rs145,↓Xa,Xb,Xc,↓reduceIte,Nat.reduceLT,Nat.reduceEqDiff,Nat.reduceBEq,Nat.reduceLeDiff,Nat.reduceAdd,Nat.reduceMul]
  exact SetR.now (hq y M hg)
theorem each_pure{H:AHeap}{Q:AV→AHeap→Prop}{f:AV}{zs ws:List Int}{t:Bool}{k:Nat}(hz:RB4 k zs)(hlen:ws.length=zs.length)(hbig:zs.length≤1000000)
 (hs: ∀i(h:i<zs.length)(M:AHeap)(K:AV→AHeap→Prop),Le H M→K (IntA (ws[i]'(by omega))) M→callW Tryd.prog f [IntA (zs[i])] M K)
 (hq: ∀y M,growC H 34 2 zs.length (IC ws) y M→Q y M):Run Tryd.prog 145 [RowA zs t,f] H Q:=
 each_run hz hlen hbig (fun _=>H) rfl (fun _ _=>Iff.rfl) (fun i h M K hl hk=>hs i h M K hl (hk M hl fun _ _ _=>rfl)) hq
theorem rown_run{H:AHeap}{Q:AV→AHeap→Prop}{zs:List Int}{t:Bool}{k:Nat}(hz:RB4 k zs)(hk:k≤1000000)(hbig:zs.length≤1000000)(hq: ∀y M,growC H 34 2 zs.length (IC (zs.map (- ·))) y M→Q y M):Run Tryd.prog 114 [RowA zs t] H Q:=by
 refine enter114 (by simp) ?_
 simp(disch:=first|exact Xe|fail)only[ac114,↓Xa,Xb,Xc,↓reduceIte,Nat.reduceLT,Nat.reduceEqDiff,Nat.reduceBEq,Nat.reduceLeDiff,Nat.reduceAdd,Nat.reduceMul]
 refine run_call (each_pure hz (ws:=zs.map (- ·)) (by simp) hbig (fun i h M K _ hK=>?_) fun y M hg=>?_)
 ·exact(neg_fn (hz.at h) (by omega)).call (by simpa using hK)
 ·simp(disch:=first|exact Xe|fail)only[rs114,↓Xa,Xb,Xc,↓reduceIte,Nat.reduceLT,Nat.reduceEqDiff,Nat.reduceBEq,Nat.reduceLeDiff,Nat.reduceAdd,Nat.reduceMul]
  exact SetR.now (hq y M hg)
theorem rowsc_run{H:AHeap}{Q:AV→AHeap→Prop}{zs:List Int}{t:Bool}{c:Int}{k k':Nat}(hz:RB4 k zs)(hc:Bd k' c)(hk:k+k'≤1000000)(hbig:zs.length≤1000000)(hq: ∀y M,growC H 34 2 zs.length (IC (zs.map (c* ·))) y M→Q y M):Run Tryd.prog 119 [RowA zs t,IntA c] H Q:=by
 refine enter119 (by simp) ?_
 simp(disch:=first|exact Xe|fail)only[ac119,cells_IntA,↓Xa,Xb,Xc,↓reduceIte,Nat.reduceLT,Nat.reduceEqDiff,Nat.reduceBEq,Nat.reduceLeDiff,Nat.reduceAdd,Nat.reduceMul]
 refine alloc_i fun p1 hp1=>?_
 have n1:=hp1
 simp(disch:=first|exact Xe|fail)only[fold_IntA,↓Xa,Xb,Xc,↓reduceIte,Nat.reduceLT,Nat.reduceEqDiff,Nat.reduceBEq,Nat.reduceLeDiff,Nat.reduceAdd,Nat.reduceMul]
 refine run_call (each_pure hz (ws:=zs.map (c* ·)) (by simp) hbig (fun i h M K _ hK=>?_) fun y M hg=>?_)
 ·refine callW_fn ?_
  exact muli_fn hc (by omega) (hz.at h) (by omega) _ _ (by simpa using hK)
 ·simp(disch:=first|exact Xe|fail)only[rs119,↓Xa,Xb,Xc,↓reduceIte,Nat.reduceLT,Nat.reduceEqDiff,Nat.reduceBEq,Nat.reduceLeDiff,Nat.reduceAdd,Nat.reduceMul]
  obtain⟨M2,hg2,hl⟩:=growC_le2 hg ((Le.refl H).updB n1)
  exact SetR.dropTo hl (SetR.now (hq y M2 hg2))
theorem Le.both{A B:AHeap}{p:Nat}{x:Option ABlk}(h:Le A B):Le (A.upd p x) (B.upd p x):=fun o y ho=>by
 by_cases e:o=p
 ·subst e;rw[upd_same]at ho ⊢; exact ho
 ·rw[upd_other _ _ e]at ho ⊢; exact h o y ho
theorem add_m1{i:Nat}{K:AV→Prop}(h:i<4611686018427387904):binW .add (.int .i64 ((i:Int)-1)) (.int .i64 ((1:Nat):Int)) K↔K (.int .i64 (i:Int)):=by
 have e:IntKind.i64.wrap ((i:Int)-1+((1:Nat):Int))=(i:Int):=by rw[show((i:Int)-1+((1:Nat):Int))=(i:Int) by omega];exact wrap_i64 (by omega) (by omega)
 have: ∀a b:Int,binW .add (.int .i64 a) (.int .i64 b) K↔K (.int .i64 (IntKind.i64.wrap (a+b))):=fun a b=>by simp[binW,binInt]
 rw[this,e]
theorem both1_run{M:AHeap}{K:AV→AHeap→Prop}{f:AV}{x y z:Int}{ws:List Int}{t':Bool}{i p1 p2 p3 T1 T2 T3:Nat}(m1:M p1=some (.row T1 0 [RowA ws t']))(m2:M p2=some (.row T2 0 [f]))(m3:M p3=some (.row T3 0 [.int .i64 ((i:Int)-1)]))(h1:Ap p1 p3)(h2:Ap p2 p3)
 (hi:i<ws.length) (hb:ws.length≤1000000) (hy:ws[i]=y)
 (hs: ∀(M2:AHeap)(K:AV→AHeap→Prop),Le (M.upd p3 (some (.row T3 0 [.int .i64 (i:Int)]))) M2→K (IntA z) M2→callW Tryd.prog f [IntA x,IntA y] M2 K)
 (hK:K (IntA z) (M.upd p3 (some (.row T3 0 [.int .i64 (i:Int)])))):Run Tryd.prog 146 [IntA x,.ptr p3 1 0,.ptr p2 1 0,.ptr p1 1 0] M K:=by
 subst hy
 refine enter146 (by simp) ?_
 simp(disch:=first|exact Xe|fail)only[ac146,cells_IntA,↓Xa,Xb,Xc,↓reduceIte,Nat.reduceLT,Nat.reduceEqDiff,Nat.reduceBEq,Nat.reduceLeDiff,Nat.reduceAdd,Nat.reduceMul]
 refine alloc_i fun a ha=>?_
 have a1:=ne_of_some m1 ha
 have a2:=ne_of_some m2 ha
 have a3:=ne_of_some m3 ha
 simp(disch:=first|exact Xe|fail)only[↓Xa,Xb,Xc,↓reduceIte,Nat.reduceLT,Nat.reduceEqDiff,Nat.reduceBEq,Nat.reduceLeDiff,Nat.reduceAdd,Nat.reduceMul]
 refine alloc_i fun b hb=>?_
 obtain⟨b4,hb'⟩:=upd_none.1 hb
 have b1:=ne_of_some m1 hb'
 have b2:=ne_of_some m2 hb'
 have b3:=ne_of_some m3 hb'
 simp(disch:=first|exact Xe|fail)only[m1,m2,m3,add_m1,idx_IC,load_IC,fold_IntA,↓Xa,Xb,Xc,↓reduceIte,Nat.reduceLT,Nat.reduceEqDiff,Nat.reduceBEq,Nat.reduceLeDiff,Nat.reduceAdd,Nat.reduceMul]
 have hle:Le (M.upd p3 (some (.row T3 0 [.int .i64 (i:Int)]))) (((M.upd a (some (.row 34 0 [IntB x,IntD x]))).upd b (some (.row 34 0 [.bool false,.seq 0 [] true]))).upd p3 (some (.row T3 0 [.int .i64 (i:Int)]))):=(((Le.refl M).updB ha).updB hb').both
 refine hs _ _ hle ?_
 simp(disch:=first|exact Xe|fail)only[cells_IntA,fold_IntA,rs146,↓Xa,Xb,Xc,↓reduceIte,Nat.reduceLT,Nat.reduceEqDiff,Nat.reduceBEq,Nat.reduceLeDiff,Nat.reduceAdd,Nat.reduceMul]
 exact SetR.dropTo (((Le.refl M).updB ha).updB hb').both (SetR.now hK)
theorem both_run{H:AHeap}{Q:AV→AHeap→Prop}{f:AV}{zs ws us:List Int}{t t':Bool}{k:Nat}(hz:RB4 k zs)(hw:RB4 k ws)(hl1:zs.length=ws.length)(hl2:us.length=zs.length)(hbig:zs.length≤1000000)(hfc:f.cells=some [f])
 (hs: ∀i(h:i<zs.length)(M:AHeap)(K:AV→AHeap→Prop),Le H M→K (IntA (us[i]'(by omega))) M→callW Tryd.prog f [IntA (zs[i]),IntA (ws[i]'(by omega))] M K)
 (hq: ∀y M,growC H 34 2 zs.length (IC us) y M→Q (.tup [y,.int .i64 ((0:Nat):Int)]) M):Run Tryd.prog 122 [RowA zs t,RowA ws t',f] H Q:=by
 have nz:zs.length<9223372036854775808:=by have:=hz.2;omega
 have nw:ws.length<9223372036854775808:=by omega
 have hne:decide (((zs.length:Nat):Int)=((ws.length:Nat):Int))=true:=decide_eq_true (by omega)
 refine enter122 (by simp) ?_
 simp(disch:=first|exact Xe|fail)only[ac122,↓Xa,Xb,Xc,↓reduceIte,Nat.reduceLT,Nat.reduceEqDiff,Nat.reduceBEq,Nat.reduceLeDiff,Nat.reduceAdd,Nat.reduceMul]
 refine alloc_i fun p1 hp1=>?_
 have n1:=hp1
 simp(disch:=first|exact Xe|fail)only[hfc,↓Xa,Xb,Xc,↓reduceIte,Nat.reduceLT,Nat.reduceEqDiff,Nat.reduceBEq,Nat.reduceLeDiff,Nat.reduceAdd,Nat.reduceMul]
 refine alloc_i fun p2 hp2=>?_
 have n2:=hp2
 simp only[upd_none]at n2
 obtain⟨_,n2⟩:=n2
 simp(disch:=first|exact Xe|fail)only[len_rw,neq_int,hne,↓Xa,Xb,Xc,↓reduceIte,Nat.reduceLT,Nat.reduceEqDiff,Nat.reduceBEq,Nat.reduceLeDiff,Nat.reduceAdd,Nat.reduceMul]
 refine alloc_i fun p3 hp3=>?_
 have n3:=hp3
 simp only[upd_none]at n3
 obtain⟨_,_,n3⟩:=n3
 simp(disch:=first|exact Xe|fail)only[↓Xa,Xb,Xc,↓reduceIte,Nat.reduceLT,Nat.reduceEqDiff,Nat.reduceBEq,Nat.reduceLeDiff,Nat.reduceAdd,Nat.reduceMul]
 let G:Nat→AHeap:=fun i=>((H.upd p1 (some (.row 31 0 [RowA ws t']))).upd p2 (some (.row 122 0 [f]))).upd p3 (some (.row 3 0 [.int .i64 ((i:Int)-1)]))
 have hG: ∀i,G i=((H.upd p1 (some (.row 31 0 [RowA ws t']))).upd p2 (some (.row 122 0 [f]))).upd p3 (some (.row 3 0 [.int .i64 ((i:Int)-1)])):=fun _=>rfl
 refine run_call (each_run hz hl2 hbig G (by rw[hG];rfl) (fun i b=>by rw[hG];simp only[upd_none]) (fun i h M K hM hK=>?_) fun y M hg=>?_)
 ·have m1:M p1=some (.row 31 0 [RowA ws t']):=hM _ _ (by rw[hG,upd_other _ _ (by apply Ne.symm;assumption),upd_other _ _ (by apply Ne.symm;assumption),upd_same])
  have m2:M p2=some (.row 122 0 [f]):=hM _ _ (by rw[hG,upd_other _ _ (by apply Ne.symm;assumption),upd_same])
  have m3:M p3=some (.row 3 0 [.int .i64 ((i:Int)-1)]):=hM _ _ (by rw[hG,upd_same])
  have hMH:Le H (M.upd p3 (some (.row 3 0 [.int .i64 (i:Int)]))):=fun o x ho=>by
   have e:o≠p3:=by rintro rfl;rw[n3]at ho;cases ho
   rw[upd_other _ _ e]
   refine hM o x ?_
   have e1:o≠p1:=by rintro rfl;rw[n1]at ho;cases ho
   have e2:o≠p2:=by rintro rfl;rw[n2]at ho;cases ho
   rw[hG,upd_other _ _ e,upd_other _ _ e2,upd_other _ _ e1];exact ho
  refine callW_fn (both1_run m1 m2 m3 (by apply Ne.symm;assumption) (by apply Ne.symm;assumption) (by omega) (by omega) rfl (fun M2 K2 hM2 hK2=>hs i h M2 K2 (fun o x ho=>hM2 o x (hMH o x ho)) hK2) (hK _ ?_ fun b hb _=>?_))
  ·intro o x ho
   rw[hG]at ho
   by_cases e:o=p3
   ·subst e
    rw[upd_same]at ho ⊢
    rw[← ho,show(((i+1:Nat):Int)-1)=(i:Int) by omega]
   ·rw[upd_other _ _ e]at ho ⊢
    refine hM o x ?_
    rw[hG,upd_other _ _ e];exact ho
  ·exact upd_other _ _ (upd_none.1 hb).1
 ·have hle:Le H (G zs.length):=by rw[hG];exact(((Le.refl H).updB n1).updB n2).updB n3
  obtain⟨M2,hg2,hl⟩:=growC_le2 hg hle
  simp(disch:=first|exact Xe|fail)only[rs122,↓Xa,Xb,Xc,↓reduceIte,Nat.reduceLT,Nat.reduceEqDiff,Nat.reduceBEq,Nat.reduceLeDiff,Nat.reduceAdd,Nat.reduceMul]
  exact SetR.dropTo hl (SetR.now (hq y M2 hg2))
section
variable {H:AHeap} {Q:AV→AHeap→Prop} {zs ws:List Int} {t t':Bool} {k:Nat}
theorem zip_len{f:Int→Int→Int}(h:zs.length=ws.length):(zipI f zs ws).length=zs.length:=by simp[zipI,h]
theorem zip_at{f:Int→Int→Int}(h:zs.length=ws.length){i:Nat}(hi:i<zs.length)(hi2:i<(zipI f zs ws).length):(zipI f zs ws)[i]=f (zs[i]) (ws[i]'(by omega)):=by simp[zipI]
theorem rowadd_run(hz:RB4 k zs)(hw:RB4 k ws)(hk:k≤1000000)(hl:zs.length=ws.length)(hbig:zs.length≤1000000)(hq: ∀y M,growC H 34 2 zs.length (IC (zipI (· + ·) zs ws)) y M→Q (.tup [y,.int .i64 ((0:Nat):Int)]) M):Run Tryd.prog 116 [RowA zs t,RowA ws t'] H Q:=by
 refine enter116 (by simp) ?_
 simp(disch:=first|exact Xe|fail)only[ac116,↓Xa,Xb,Xc,↓reduceIte,Nat.reduceLT,Nat.reduceEqDiff,Nat.reduceBEq,Nat.reduceLeDiff,Nat.reduceAdd,Nat.reduceMul]
 refine run_call (both_run hz hw hl (zip_len hl) hbig fn_cells (fun i h M K _ hK=>(addi_fn (hz.at h) (by omega) (hw.at (by omega)) (by omega)).call (by rw[zip_at hl h]at hK;exact hK)) fun y M hg=>?_)
 simp(disch:=first|exact Xe|fail)only[rs116,↓Xa,Xb,Xc,↓reduceIte,Nat.reduceLT,Nat.reduceEqDiff,Nat.reduceBEq,Nat.reduceLeDiff,Nat.reduceAdd,Nat.reduceMul]
 exact SetR.now (hq y M hg)
theorem rowsub_run(hz:RB4 k zs)(hw:RB4 k ws)(hk:k≤1000000)(hl:zs.length=ws.length)(hbig:zs.length≤1000000)(hq: ∀y M,growC H 34 2 zs.length (IC (zipI (· - ·) zs ws)) y M→Q (.tup [y,.int .i64 ((0:Nat):Int)]) M):Run Tryd.prog 118 [RowA zs t,RowA ws t'] H Q:=by
 refine enter118 (by simp) ?_
 simp(disch:=first|exact Xe|fail)only[ac118,↓Xa,Xb,Xc,↓reduceIte,Nat.reduceLT,Nat.reduceEqDiff,Nat.reduceBEq,Nat.reduceLeDiff,Nat.reduceAdd,Nat.reduceMul]
 refine run_call (both_run hz hw hl (zip_len hl) hbig fn_cells (fun i h M K _ hK=>(subi_fn (hz.at h) (by omega) (hw.at (by omega)) (by omega)).call (by rw[zip_at hl h]at hK;exact hK)) fun y M hg=>?_)
 simp(disch:=first|exact Xe|fail)only[rs118,↓Xa,Xb,Xc,↓reduceIte,Nat.reduceLT,Nat.reduceEqDiff,Nat.reduceBEq,Nat.reduceLeDiff,Nat.reduceAdd,Nat.reduceMul]
 exact SetR.now (hq y M hg)
end
end Go.Proofs.YtmndejlpfmmaiaaDoor.Fw
namespace Go.Proofs.YtmndejlpfmmaiaaDoor.Fw
open Go Go.Proofs.YtmndejlpfmmaiaaDoor.Ma
abbrev QQ:=_root_.Rat
theorem q_pos(q:QQ):0<(q.den:Int):=by have:=q.den_pos;omega
theorem mk_num{n:Int}{d:Nat}(hd:0<d):(mkRat n d).num=n / ((Int.gcd n (d:Int):Nat):Int):=by
 rw[_root_.Rat.num_mkRat,if_neg (by omega),Nat.gcd_comm];rfl
theorem mk_den{n:Int}{d:Nat}(hd:0<d):(((mkRat n d).den:Nat):Int)=(d:Int) / ((Int.gcd n (d:Int):Nat):Int):=by
 rw[_root_.Rat.den_mkRat,if_neg (by omega),Nat.gcd_comm];rfl
theorem q_lt{p q:QQ}:p<q↔p.num*(q.den:Int)<q.num*(p.den:Int):=_root_.Rat.lt_iff p q
theorem Bd.oneQ(k:Nat):Bd (k+1) 1:=by
 unfold Bd
 have:4294967296^1≤4294967296^(k+1):=Nat.pow_le_pow_right (by omega) (by omega)
 have e:(1:Int).natAbs=1:=rfl
 omega
def RB(k:Nat)(q:QQ):Prop:=Bd k q.num∧Bd k (q.den:Int)
theorem RB.mk{n:Int}{d k:Nat}(hn:Bd k n)(hd:Bd k (d:Int))(h0:0<d):RB k (mkRat n d):=by
 refine⟨?_,?_⟩
 ·rw[mk_num h0];exact hn.ediv
 ·rw[mk_den h0];exact hd.ediv
theorem RB.mono{q:QQ}{k k':Nat}(h:RB k q)(hk:k≤k'):RB k' q:=⟨h.1.mono hk,h.2.mono hk⟩
theorem RB.neg{q:QQ}{k:Nat}(h:RB k q):RB k (-q):=⟨h.1.neg,h.2⟩
theorem RB.add{p q:QQ}{k k':Nat}(h:RB k p)(h':RB k' q):RB (k+k'+1) (p+q):=by
 rw[_root_.Rat.add_def']
 refine RB.mk (Bd.add (h.1.mul h'.2) ?_) ?_ (Nat.mul_pos p.den_pos q.den_pos)
 ·have:=h'.1.mul h.2;rw[Nat.add_comm];exact this
 ·rw[Int.natCast_mul];exact(h.2.mul h'.2).mono (by omega)
theorem RB.sub{p q:QQ}{k k':Nat}(h:RB k p)(h':RB k' q):RB (k+k'+1) (p-q):=by
 rw[_root_.Rat.sub_eq_add_neg];exact h.add h'.neg
theorem RB.mul{p q:QQ}{k k':Nat}(h:RB k p)(h':RB k' q):RB (k+k') (p*q):=by
 rw[_root_.Rat.mul_def']
 refine RB.mk (h.1.mul h'.1) ?_ (Nat.mul_pos p.den_pos q.den_pos)
 rw[Int.natCast_mul];exact h.2.mul h'.2
theorem RB.int{z:Int}{k:Nat}(h:Bd (k+1) z):RB (k+1) (z:QQ):=⟨h,Bd.oneQ k⟩
theorem RB.less{q:QQ}{k:Nat}(h:RB k q):Bd k ((q.den:Int)-1):=h.2.le (by have:=q_pos q;omega)
end Go.Proofs.YtmndejlpfmmaiaaDoor.Fw
namespace Go.Proofs.YtmndejlpfmmaiaaDoor.Fw
open Go Go.Proofs.YtmndejlpfmmaiaaDoor.Ma
set_option maxRecDepth 20000
theorem flat_len{α:Type}{f:α→List AV}{es:Nat}(hf: ∀q,(f q).length=es): ∀l:List α,(l.flatMap f).length=l.length*es
 |[]=>by simp
 |a::l=>by rw[List.flatMap_cons,List.length_append,hf,flat_len hf l,List.length_cons,Nat.add_mul];omega
theorem drop_past{l m:List AV}{n k:Nat}(h:l.length=n):(l++m).drop (n+k)=m.drop k:=by subst h;simp
theorem flat_drop{α:Type}{f:α→List AV}{es:Nat}(hf: ∀q,(f q).length=es): ∀(l:List α)(i:Nat)(h:i<l.length),(l.flatMap f).drop (i*es)=f (l[i])++(l.flatMap f).drop ((i+1)*es)
 |a::l,0,_=>by
  have e:=drop_past (m:=l.flatMap f) (k:=0) (hf a)
  rw[List.flatMap_cons,Nat.zero_mul,List.drop_zero,Nat.zero_add,Nat.one_mul,show es=es+0 from rfl,e];rfl
 |a::l,i+1,h=>by
  have ih:=flat_drop hf l i (by simpa using h)
  rw[List.flatMap_cons,show(i+1)*es=es+i*es by rw[Nat.add_mul];omega,show(i+1+1)*es=es+(i+1)*es by simp only[Nat.add_mul];omega,drop_past (hf a),drop_past (hf a),ih];rfl
structure Ins where
 op:Int
 to:Int
 a:Int
 b:Int
 c:Int
def I64(n:Int):Prop:= -9223372036854775808≤n∧n<9223372036854775808
def Ins.ok(i:Ins):Prop:=I64 i.op∧I64 i.to∧I64 i.a∧I64 i.b∧I64 i.c
def insC(i:Ins):List AV:=[.int .i64 i.op,.int .i64 i.to,.int .i64 i.a,.int .i64 i.b,.int .i64 i.c]
theorem insC_len(i:Ins):(insC i).length=5:=rfl
structure PR where
 ins:Int
 regs:Int
 code:List Ins
 outs:List Int
abbrev CodeA(l:List Ins)(t:Bool):AV:=.seq l.length (l.flatMap insC) t
abbrev OutsA(l:List Int)(t:Bool):AV:=.seq l.length (l.map fun n=>.int .i64 n) t
def ProgA(p:PR):AV:=.agg [.int .i64 p.ins,.int .i64 p.regs,CodeA p.code false,OutsA p.outs false]
def PR.ok(p:PR):Prop:=I64 p.ins∧I64 p.regs∧(∀i,i∈p.code→i.ok)∧p.code.length≤140737488355328∧(∀n,n∈p.outs→I64 n)∧p.outs.length≤140737488355328
structure Pt where
 a:Int
 b:Int
def ptC(p:Pt):List AV:=[.int .i64 p.a,.int .i64 p.b]
def Pt.ok(p:Pt):Prop:=I64 p.a∧I64 p.b
abbrev PtsA(l:List Pt)(t:Bool):AV:=.seq l.length (l.flatMap ptC) t
structure Cl where
 kind:Int
 who:Int
 k:Int
def Cl.ok(p:Cl):Prop:=I64 p.kind∧I64 p.who∧I64 p.k
end Go.Proofs.YtmndejlpfmmaiaaDoor.Fw
namespace Go.Proofs.YtmndejlpfmmaiaaDoor.Fw
open Go Go.Proofs.YtmndejlpfmmaiaaDoor.Ma
def cst(i:Ins):Int:=if i.op=5∨i.op=6 then i.c else 2^i.c.toNat
def doZ(i:Ins)(a b:Int):Option Int:=
 if i.op=2 then some (-a)else if i.op=3 then some (a+b)else if i.op=4 then some (a-b)
 else if i.op=5∨i.op=7 then some (cst i*a)else if i.op=6∨i.op=8 then(if a%cst i=0 then some (a / cst i)else none)else some a
def doR(i:Ins)(a b:List Int):Option (List Int):=
 if i.op=2 then some (a.map (- ·))else if i.op=3 then some (zipI (· + ·) a b)else if i.op=4 then some (zipI (· - ·) a b)
 else if i.op=5∨i.op=7 then some (a.map (cst i* ·))else if i.op=6∨i.op=8 then(if(∀z,z∈a→z%cst i=0)then some (a.map (· / cst i))else none)else some a
def runX{α:Type}(d:Ins→α→α→Option α)(z:α):List Ins→List α→List α×List α
 |[],r=>([],r)
 |i::l,r=>match d i (r.getD i.a.toNat z) (r.getD i.b.toNat z)with
  |none=>([],r)
  |some x=>let q:=runX d z l (r.set i.to.toNat x);(x::q.1,q.2)
theorem runX_regs{α:Type}{d:Ins→α→α→Option α}{z:α}: ∀(l:List Ins)(r:List α),(runX d z l r).2.length=r.length
 |[],r=>rfl
 |i::l,r=>by
  unfold runX
  split
  ·rfl
  ·dsimp only;rw[runX_regs l,List.length_set]
theorem runX_at{α:Type}{d:Ins→α→α→Option α}{z:α}{l:List Ins}{k:Nat}(hk:k<l.length)(r:List α){x:α}(hx:d l[k] (r.getD l[k].a.toNat z) (r.getD l[k].b.toNat z)=some x):runX d z (l.drop k) r=(x::(runX d z (l.drop (k+1)) (r.set l[k].to.toNat x)).1,(runX d z (l.drop (k+1)) (r.set l[k].to.toNat x)).2):=by
 rw[List.drop_eq_getElem_cons hk,runX,hx]
theorem runX_no{α:Type}{d:Ins→α→α→Option α}{z:α}{l:List Ins}{k:Nat}(hk:k<l.length)(r:List α)(hx:d l[k] (r.getD l[k].a.toNat z) (r.getD l[k].b.toNat z)=none):runX d z (l.drop k) r=([],r):=by
 rw[List.drop_eq_getElem_cons hk,runX,hx]
def mayI(n:Int)(i:Ins):Prop:=1≤i.op∧i.op≤8∧0≤i.to∧i.to<n∧0≤i.a∧i.a<n∧
 (if i.op=3∨i.op=4 then 0≤i.b∧i.b<n∧i.c=0 else i.b=0∧(if i.op=5∨i.op=6 then i.c≠0∧ -512≤i.c∧i.c≤512 else if i.op=7∨i.op=8 then 1≤i.c∧i.c≤64 else i.c=0))
instance (n:Int)(i:Ins):Decidable (mayI n i):=by unfold mayI;infer_instance
def headP(p:PR):Prop:=1≤p.ins∧p.ins≤p.regs∧p.regs≤128∧p.code.length≤16384∧1≤p.outs.length∧p.outs.length≤128
instance (p:PR):Decidable (headP p):=by unfold headP;infer_instance
def rightP(p:PR):Prop:=headP p∧(∀n,n∈p.outs→0≤n∧n<p.regs)∧∀i,i∈p.code→mayI p.regs i
instance (p:PR):Decidable (rightP p):=by unfold rightP;infer_instance
theorem mayI_b{n:Int}{i:Ins}(h:mayI n i):0≤i.b∧i.b<n:=by
 obtain⟨_,_,_,_,h1,h2,h3⟩:=h
 split at h3
 ·exact⟨h3.1,h3.2.1⟩
 ·omega
theorem cst_ne{n:Int}{i:Ins}(h:mayI n i):cst i≠0:=by
 unfold cst
 split
 ·rename_i h5
  obtain⟨_,_,_,_,_,_,h3⟩:=h
  rw[if_neg (by omega),if_pos h5]at h3
  exact h3.2.1
 ·exact Int.ne_of_gt (Int.pow_pos (by omega))
theorem pow2_64:(2:Nat)^64=4294967296^2:=by decide
theorem cst_bd{n:Int}{i:Ins}(h:mayI n i)(h5:5≤i.op):Bd 3 (cst i):=by
 obtain⟨_,_,_,_,_,_,h3⟩:=h
 rw[if_neg (by omega)]at h3
 unfold cst Bd
 by_cases e:i.op=5∨i.op=6
 ·rw[if_pos e]
  rw[if_pos e]at h3
  have:(4294967296:Nat)^1≤4294967296^3:=Nat.pow_le_pow_right (by omega) (by omega)
  omega
 ·rw[if_neg e]
  rw[if_neg e,if_pos (by omega)]at h3
  rw[Int.natAbs_pow]
  have h1:(2:Nat)^i.c.toNat≤2^64:=Nat.pow_le_pow_right (by omega) (by omega)
  rw[pow2_64]at h1
  have h2:(4294967296:Nat)^2<4294967296^3:=Nat.pow_lt_pow_right (by omega) (by omega)
  exact Nat.lt_of_le_of_lt h1 h2
theorem doZ_bd{n:Int}{i:Ins}(h:mayI n i){a b x:Int}{k:Nat}(ha:Bd k a)(hb:Bd k b)(hx:doZ i a b=some x):Bd (k+3) x:=by
 unfold doZ at hx
 split at hx
 ·injection hx with hx;subst hx;exact ha.neg.mono (by omega)
 ·split at hx
  ·injection hx with hx;subst hx;exact(ha.add hb).mono (by omega)
  ·split at hx
   ·injection hx with hx;subst hx;exact(ha.sub hb).mono (by omega)
   ·split at hx
    ·injection hx with hx;subst hx;exact((cst_bd h (by omega)).mul ha).mono (by omega)
    ·split at hx
     ·split at hx
      ·injection hx with hx;subst hx;exact(ha.ediv).mono (by omega)
      ·cases hx
     ·injection hx with hx;subst hx;exact ha.mono (by omega)
theorem getD_map{f:Int→Int}{l:List Int}{k:Nat}(h:k<l.length):(l.map f).getD k 0=f (l.getD k 0):=by
 simp[List.getD_eq_getElem?_getD,h]
theorem getD_zip{f:Int→Int→Int}{l m:List Int}{k:Nat}(h:k<l.length)(h':l.length=m.length):(zipI f l m).getD k 0=f (l.getD k 0) (m.getD k 0):=by
 have h2:k<m.length:=by omega
 simp[zipI,List.getD_eq_getElem?_getD,List.getElem?_zipWith,h,h2]
theorem doR_len{i:Ins}{a b r:List Int}(h:a.length=b.length)(hr:doR i a b=some r):r.length=a.length:=by
 unfold doR at hr
 repeat' split at hr
 all_goals first|(injection hr with hr;subst hr;simp[zipI,h])|cases hr
theorem doR_at{i:Ins}{a b r:List Int}(h:a.length=b.length)(hr:doR i a b=some r){k:Nat}(hk:k<a.length):doZ i (a.getD k 0) (b.getD k 0)=some (r.getD k 0):=by
 unfold doR at hr
 unfold doZ
 split at hr
 ·rename_i e;rw[if_pos e];injection hr with hr;subst hr;rw[getD_map hk]
 rename_i e2;rw[if_neg e2]
 split at hr
 ·rename_i e;rw[if_pos e];injection hr with hr;subst hr;rw[getD_zip hk h]
 rename_i e3;rw[if_neg e3]
 split at hr
 ·rename_i e;rw[if_pos e];injection hr with hr;subst hr;rw[getD_zip hk h]
 rename_i e4;rw[if_neg e4]
 split at hr
 ·rename_i e;rw[if_pos e];injection hr with hr;subst hr;rw[getD_map hk]
 rename_i e5;rw[if_neg e5]
 split at hr
 ·rename_i e;rw[if_pos e]
  split at hr
  ·rename_i ha
   injection hr with hr;subst hr
   have hm:a.getD k 0∈a:=by rw[List.getD_eq_getElem?_getD,List.getElem?_eq_getElem hk];exact List.getElem_mem hk
   rw[if_pos (ha _ hm),getD_map hk]
  ·cases hr
 ·rename_i e;rw[if_neg e];injection hr with hr;subst hr;rfl
theorem doR_no{i:Ins}{a b:List Int}(hr:doR i a b=none): ∃k,k<a.length∧∀y,doZ i (a.getD k 0) y=none:=by
 unfold doR at hr
 split at hr
 ·cases hr
 split at hr
 ·cases hr
 split at hr
 ·cases hr
 split at hr
 ·cases hr
 rename_i e2 e3 e4 e5
 split at hr
 ·rename_i e
  split at hr
  ·cases hr
  ·rename_i ha
   obtain⟨z,hz⟩:=Classical.not_forall.1 ha
   obtain⟨hm,hz⟩:=Classical.not_imp.1 hz
   obtain⟨k,hk,rfl⟩:=List.getElem_of_mem hm
   refine⟨k,hk,fun y=>?_⟩
   rw[List.getD_eq_getElem?_getD,List.getElem?_eq_getElem hk,Option.getD_some]
   unfold doZ
   rw[if_neg e2,if_neg e3,if_neg e4,if_neg e5,if_pos e,if_neg hz]
 ·cases hr
def RR{α β:Type}(R:α→β→Prop)(N:Nat)(z:α)(z':β)(r:List α)(r':List β):Prop:=r.length=N∧r'.length=N∧∀j,j<N→R (r.getD j z) (r'.getD j z')
theorem getD_setL{α:Type}{r:List α}{j k:Nat}{x z:α}(hk:k<r.length):(r.set k x).getD j z=if j=k then x else r.getD j z:=by
 simp only[List.getD_eq_getElem?_getD,List.getElem?_set]
 by_cases h:j=k
 ·subst h;simp[hk]
 ·rw[if_neg (Ne.symm h),if_neg h]
theorem RR.set{α β:Type}{R:α→β→Prop}{N:Nat}{z:α}{z':β}{r:List α}{r':List β}(h:RR R N z z' r r'){k:Nat}(hk:k<N){x:α}{x':β}(hx:R x x'):RR R N z z' (r.set k x) (r'.set k x'):=by
 obtain⟨h1,h2,h3⟩:=h
 refine⟨by rw[List.length_set,h1],by rw[List.length_set,h2],fun j hj=>?_⟩
 rw[getD_setL (by omega),getD_setL (by omega)]
 split
 ·exact hx
 ·exact h3 j hj
end Go.Proofs.YtmndejlpfmmaiaaDoor.Fw
namespace Go.Proofs.YtmndejlpfmmaiaaDoor.Fw
open Go Go.Proofs.YtmndejlpfmmaiaaDoor.Ma
set_option maxRecDepth 20000
def InsA(i:Ins):AV:=.agg [.int .i64 i.op,.int .i64 i.to,.int .i64 i.a,.int .i64 i.b,.int .i64 i.c]
theorem cells_InsA{i:Ins}:(InsA i).cells=some [.int .i64 i.op,.int .i64 i.to,.int .i64 i.a,.int .i64 i.b,.int .i64 i.c]:=id rfl
theorem fold_InsA{i:Ins}:AV.agg [.int .i64 i.op,.int .i64 i.to,.int .i64 i.a,.int .i64 i.b,.int .i64 i.c]=InsA i:=id rfl
theorem cells_ProgA{p:PR}:(ProgA p).cells=some [.int .i64 p.ins,.int .i64 p.regs,CodeA p.code false,OutsA p.outs false]:=id rfl
theorem fold_ProgA{p:PR}:AV.agg [.int .i64 p.ins,.int .i64 p.regs,CodeA p.code false,OutsA p.outs false]=ProgA p:=id rfl
section
variable {H:AHeap} {K:AV→Prop} {k:IntKind} {t:Bool} {l:List Ins} {i:Nat}
theorem len_CodeA(h:l.length<9223372036854775808):lenW false (CodeA l t) K=K (.int .i64 ((l.length:Nat):Int)):=len_rw h
theorem idx_CodeA(h:i<l.length):idxAW 5 (CodeA l t) (.int k (i:Int)) K=K (.cptr ((l.flatMap insC).drop (i*5))):=idx_rw (flat_len insC_len l) h
theorem load_CodeA(h:i<l.length):loadW H (some 5) (.cptr ((l.flatMap insC).drop (i*5))) K=K (InsA (l[i])):=by
 rw[flat_drop insC_len l i h];simp[loadW,cellsAt,insC,InsA]
theorem len_OutsA{l:List Int}(h:l.length<9223372036854775808):lenW false (OutsA l t) K=K (.int .i64 ((l.length:Nat):Int)):=len_rw h
theorem idx_OutsA{l:List Int}(h:i<l.length):idxAW 1 (OutsA l t) (.int k (i:Int)) K=K (.cptr ((l.map fun n=>AV.int .i64 n).drop i)):=by rw[idx_rw (by simp) h,Nat.mul_one]
theorem load_OutsA{l:List Int}(h:i<l.length):loadW H none (.cptr ((l.map fun n=>AV.int .i64 n).drop i)) K=K (.int .i64 (l[i])):=by
 rw[List.drop_eq_getElem_cons (by simpa using h)];simp[loadW,cellsAt]
end
theorem geqI{k:IntKind}{n m:Int}{K:AV→Prop}:binW .geq (.int k n) (.int k m) K↔K (.bool (decide (m≤n))):=by simp[binW,binInt]
theorem leqI{k:IntKind}{n m:Int}{K:AV→Prop}:binW .leq (.int k n) (.int k m) K↔K (.bool (decide (n≤m))):=by simp[binW,binInt]
theorem two_fn{n:Int}:PFn Tryd.prog 129 [.int .i64 n] (.bool (decide (n=3∨n=4))):=by
 intro H Q hq
 refine enter129 (by simp) ?_
 by_cases h:n=3
 ·rw[decide_eq_true (show n=3∨n=4 from .inl h)]at hq
  have c1:decide (n=((3:Nat):Int))=true:=decide_eq_true h
  simp(disch:=first|exact Xe|fail)only[ac129,rs129,eql_int,c1,↓Xa,Xb,Xc,↓reduceIte,Nat.reduceLT,Nat.reduceEqDiff,Nat.reduceBEq,Nat.reduceLeDiff,Nat.reduceAdd,Nat.reduceMul]
  exact SetR.now hq
 ·have c1:decide (n=((3:Nat):Int))=false:=decide_eq_false h
  have c2:decide (n=((4:Nat):Int))=decide (n=3∨n=4):=decide_eq_decide.2 (by omega)
  simp(disch:=first|exact Xe|fail)only[ac129,rs129,eql_int,c1,c2,↓Xa,Xb,Xc,↓reduceIte,Nat.reduceLT,Nat.reduceEqDiff,Nat.reduceBEq,Nat.reduceLeDiff,Nat.reduceAdd,Nat.reduceMul]
  exact SetR.now hq
def conI(i:Ins):Prop:=if i.op=5∨i.op=6 then i.c≠0∧ -512≤i.c∧i.c≤512 else if i.op=7∨i.op=8 then 1≤i.c∧i.c≤64 else i.c=0
instance (i:Ins):Decidable (conI i):=by unfold conI;infer_instance
theorem constant_fn(i:Ins):PFn Tryd.prog 130 [InsA i] (.bool (decide (conI i))):=by
 intro H Q hq
 refine enter130 (by simp) ?_
 have big:(i.op=5∨i.op=6)→∀(p:Nat)(x:Option ABlk),H p=none→SetR Q (.bool (!decide (i.c=((0:Nat):Int))&&(decide (-512≤i.c)&&decide (i.c≤((512:Nat):Int))))) (H.upd p x):=fun h p x hp=>by
  have hc:conI i↔i.c≠0∧ -512≤i.c∧i.c≤512:=by unfold conI;rw[if_pos h]
  have e:decide (conI i)=(!decide (i.c=((0:Nat):Int))&&(decide (-512≤i.c)&&decide (i.c≤((512:Nat):Int)))):=by
   rw[Bool.eq_iff_iff]
   simp only[decide_eq_true_eq,Bool.and_eq_true,Bool.not_eq_true',decide_eq_false_iff_not]
   exact hc
  rw[e]at hq
  exact SetR.dropTo ((Le.refl H).updB hp) (SetR.now hq)
 have sml: ¬(i.op=5∨i.op=6)→(i.op=7∨i.op=8)→∀(p:Nat)(x:Option ABlk),H p=none→SetR Q (.bool (decide (((1:Nat):Int)≤i.c)&&decide (i.c≤((64:Nat):Int)))) (H.upd p x):=fun h h' p x hp=>by
  have hc:conI i↔1≤i.c∧i.c≤64:=by unfold conI;rw[if_neg h,if_pos h']
  have e:decide (conI i)=(decide (((1:Nat):Int)≤i.c)&&decide (i.c≤((64:Nat):Int))):=by
   rw[Bool.eq_iff_iff]
   simp only[decide_eq_true_eq,Bool.and_eq_true]
   exact hc
  rw[e]at hq
  exact SetR.dropTo ((Le.refl H).updB hp) (SetR.now hq)
 simp(disch:=first|exact Xe|fail)only[ac130,cells_InsA,↓Xa,Xb,Xc,↓reduceIte,Nat.reduceLT,Nat.reduceEqDiff,Nat.reduceBEq,Nat.reduceLeDiff,Nat.reduceAdd,Nat.reduceMul]
 refine alloc_i fun p1 hp1=>?_
 have n1:=hp1
 simp(disch:=first|exact Xe|fail)only[eql_int,↓Xa,Xb,Xc,↓reduceIte,Nat.reduceLT,Nat.reduceEqDiff,Nat.reduceBEq,Nat.reduceLeDiff,Nat.reduceAdd,Nat.reduceMul]
 have c512: ∀b,b=decide (i.c=((0:Nat):Int))→True:=fun _ _=>trivial
 by_cases h5:i.op=5
 ·have f:=big (.inl h5)
  have e5:decide (i.op=((5:Nat):Int))=true:=decide_eq_true h5
  by_cases z1:i.c=((0:Nat):Int)
  ·rw[decide_eq_true z1]at f
   simp(disch:=first|exact Xe|fail)only[eql_int,e5,neq_int,geqI,leqI,decide_eq_true z1,rs130,↓Xa,Xb,Xc,↓reduceIte,Nat.reduceLT,Nat.reduceEqDiff,Nat.reduceBEq,Nat.reduceLeDiff,Nat.reduceAdd,Nat.reduceMul]
   exact f _ _ n1
  ·rw[decide_eq_false z1]at f
   by_cases z2: -512≤i.c
   ·rw[decide_eq_true z2]at f
    simp(disch:=first|exact Xe|fail)only[eql_int,e5,neq_int,geqI,leqI,decide_eq_false z1,decide_eq_true z2,rs130,↓Xa,Xb,Xc,↓reduceIte,Nat.reduceLT,Nat.reduceEqDiff,Nat.reduceBEq,Nat.reduceLeDiff,Nat.reduceAdd,Nat.reduceMul]
    exact f _ _ n1
   ·rw[decide_eq_false z2]at f
    simp(disch:=first|exact Xe|fail)only[eql_int,e5,neq_int,geqI,leqI,decide_eq_false z1,decide_eq_false z2,rs130,↓Xa,Xb,Xc,↓reduceIte,Nat.reduceLT,Nat.reduceEqDiff,Nat.reduceBEq,Nat.reduceLeDiff,Nat.reduceAdd,Nat.reduceMul]
    exact f _ _ n1
 have e5:decide (i.op=((5:Nat):Int))=false:=decide_eq_false h5
 by_cases h6:i.op=6
 ·have f:=big (.inr h6)
  have e6:decide (i.op=((6:Nat):Int))=true:=decide_eq_true h6
  by_cases z1:i.c=((0:Nat):Int)
  ·rw[decide_eq_true z1]at f
   simp(disch:=first|exact Xe|fail)only[eql_int,e5,e6,neq_int,geqI,leqI,decide_eq_true z1,rs130,↓Xa,Xb,Xc,↓reduceIte,Nat.reduceLT,Nat.reduceEqDiff,Nat.reduceBEq,Nat.reduceLeDiff,Nat.reduceAdd,Nat.reduceMul]
   exact f _ _ n1
  ·rw[decide_eq_false z1]at f
   by_cases z2: -512≤i.c
   ·rw[decide_eq_true z2]at f
    simp(disch:=first|exact Xe|fail)only[eql_int,e5,e6,neq_int,geqI,leqI,decide_eq_false z1,decide_eq_true z2,rs130,↓Xa,Xb,Xc,↓reduceIte,Nat.reduceLT,Nat.reduceEqDiff,Nat.reduceBEq,Nat.reduceLeDiff,Nat.reduceAdd,Nat.reduceMul]
    exact f _ _ n1
   ·rw[decide_eq_false z2]at f
    simp(disch:=first|exact Xe|fail)only[eql_int,e5,e6,neq_int,geqI,leqI,decide_eq_false z1,decide_eq_false z2,rs130,↓Xa,Xb,Xc,↓reduceIte,Nat.reduceLT,Nat.reduceEqDiff,Nat.reduceBEq,Nat.reduceLeDiff,Nat.reduceAdd,Nat.reduceMul]
    exact f _ _ n1
 have e6:decide (i.op=((6:Nat):Int))=false:=decide_eq_false h6
 have n56: ¬(i.op=5∨i.op=6):=by omega
 by_cases h7:i.op=7
 ·have f:=sml n56 (.inl h7)
  have e7:decide (i.op=((7:Nat):Int))=true:=decide_eq_true h7
  by_cases z1:((1:Nat):Int)≤i.c
  ·rw[decide_eq_true z1]at f
   simp(disch:=first|exact Xe|fail)only[eql_int,e5,e6,e7,geqI,leqI,decide_eq_true z1,rs130,↓Xa,Xb,Xc,↓reduceIte,Nat.reduceLT,Nat.reduceEqDiff,Nat.reduceBEq,Nat.reduceLeDiff,Nat.reduceAdd,Nat.reduceMul]
   exact f _ _ n1
  ·rw[decide_eq_false z1]at f
   simp(disch:=first|exact Xe|fail)only[eql_int,e5,e6,e7,geqI,leqI,decide_eq_false z1,rs130,↓Xa,Xb,Xc,↓reduceIte,Nat.reduceLT,Nat.reduceEqDiff,Nat.reduceBEq,Nat.reduceLeDiff,Nat.reduceAdd,Nat.reduceMul]
   exact f _ _ n1
 have e7:decide (i.op=((7:Nat):Int))=false:=decide_eq_false h7
 by_cases h8:i.op=8
 ·have f:=sml n56 (.inr h8)
  have e8:decide (i.op=((8:Nat):Int))=true:=decide_eq_true h8
  by_cases z1:((1:Nat):Int)≤i.c
  ·rw[decide_eq_true z1]at f
   simp(disch:=first|exact Xe|fail)only[eql_int,e5,e6,e7,e8,geqI,leqI,decide_eq_true z1,rs130,↓Xa,Xb,Xc,↓reduceIte,Nat.reduceLT,Nat.reduceEqDiff,Nat.reduceBEq,Nat.reduceLeDiff,Nat.reduceAdd,Nat.reduceMul]
   exact f _ _ n1
  ·rw[decide_eq_false z1]at f
   simp(disch:=first|exact Xe|fail)only[eql_int,e5,e6,e7,e8,geqI,leqI,decide_eq_false z1,rs130,↓Xa,Xb,Xc,↓reduceIte,Nat.reduceLT,Nat.reduceEqDiff,Nat.reduceBEq,Nat.reduceLeDiff,Nat.reduceAdd,Nat.reduceMul]
   exact f _ _ n1
 have e8:decide (i.op=((8:Nat):Int))=false:=decide_eq_false h8
 have e:decide (conI i)=decide (i.c=((0:Nat):Int)):=decide_eq_decide.2 (by unfold conI;rw[if_neg n56,if_neg (by omega)];rfl)
 rw[e]at hq
 simp(disch:=first|exact Xe|fail)only[eql_int,e5,e6,e7,e8,eql_int,rs130,↓Xa,Xb,Xc,↓reduceIte,Nat.reduceLT,Nat.reduceEqDiff,Nat.reduceBEq,Nat.reduceLeDiff,Nat.reduceAdd,Nat.reduceMul]
 exact SetR.dropTo ((Le.refl H).updB n1) (SetR.now hq)
def asksI(i:Ins):List Int:=if i.op=3∨i.op=4 then[i.a,i.b]else if 1≤i.op∧i.op≤8 then[i.a]else[]
theorem asks_fn(i:Ins)(h1:1≤i.op)(h2:i.op≤8):PFn Tryd.prog 131 [InsA i] (OutsA (asksI i) true):=by
 intro H Q hq
 refine enter131 (by simp) ?_
 simp(disch:=first|exact Xe|fail)only[ac131,cells_InsA,↓Xa,Xb,Xc,↓reduceIte,Nat.reduceLT,Nat.reduceEqDiff,Nat.reduceBEq,Nat.reduceLeDiff,Nat.reduceAdd,Nat.reduceMul]
 refine alloc_i fun p1 hp1=>?_
 have n1:=hp1
 simp(disch:=first|exact Xe|fail)only[eql_int,↓Xa,Xb,Xc,↓reduceIte,Nat.reduceLT,Nat.reduceEqDiff,Nat.reduceBEq,Nat.reduceLeDiff,Nat.reduceAdd,Nat.reduceMul]
 have r1: ∀{x:AV},repA [x] 1=[x]:=by simp[repA,List.range,List.range.loop]
 have r2: ∀{x y:AV},repA [x] 2=[x,x]:=by simp[repA,List.range,List.range.loop]
 have fin: ∀{p:Nat}{x:Option ABlk},H p=none→SetR Q (OutsA (asksI i) true) (H.upd p x):=fun hp=>SetR.dropTo ((Le.refl H).updB hp) (SetR.now hq)
 have e0: ∀m:Int,i.op=m→decide (i.op=m)=true:=fun m h=>decide_eq_true h
 by_cases h3:i.op=3
 ·unfold asksI at fin
  rw[if_pos (.inl h3)]at fin
  have e3:decide (i.op=((3:Nat):Int))=true:=decide_eq_true h3
  simp(disch:=first|exact Xe|fail)only[eql_int,e3,repA,List.range,List.range.loop,rs131,↓Xa,Xb,Xc,↓reduceIte,Nat.reduceLT,Nat.reduceEqDiff,Nat.reduceBEq,Nat.reduceLeDiff,Nat.reduceAdd,Nat.reduceMul]
  exact fin n1
 have e3:decide (i.op=((3:Nat):Int))=false:=decide_eq_false h3
 by_cases h4:i.op=4
 ·unfold asksI at fin
  rw[if_pos (.inr h4)]at fin
  have e4:decide (i.op=((4:Nat):Int))=true:=decide_eq_true h4
  simp(disch:=first|exact Xe|fail)only[eql_int,e3,e4,repA,List.range,List.range.loop,rs131,↓Xa,Xb,Xc,↓reduceIte,Nat.reduceLT,Nat.reduceEqDiff,Nat.reduceBEq,Nat.reduceLeDiff,Nat.reduceAdd,Nat.reduceMul]
  exact fin n1
 have e4:decide (i.op=((4:Nat):Int))=false:=decide_eq_false h4
 unfold asksI at fin
 rw[if_neg (by omega),if_pos ⟨h1,h2⟩]at fin
 by_cases g1:i.op=1
 ·have e5:decide (i.op=((1:Nat):Int))=true:=decide_eq_true g1
  simp(disch:=first|exact Xe|fail)only[eql_int,e3,e4,e5,r1,rs131,↓Xa,Xb,Xc,↓reduceIte,Nat.reduceLT,Nat.reduceEqDiff,Nat.reduceBEq,Nat.reduceLeDiff,Nat.reduceAdd,Nat.reduceMul]
  exact fin n1
 have f1:decide (i.op=((1:Nat):Int))=false:=decide_eq_false g1
 by_cases g2:i.op=2
 ·have e5:decide (i.op=((2:Nat):Int))=true:=decide_eq_true g2
  simp(disch:=first|exact Xe|fail)only[eql_int,e3,e4,f1,e5,r1,rs131,↓Xa,Xb,Xc,↓reduceIte,Nat.reduceLT,Nat.reduceEqDiff,Nat.reduceBEq,Nat.reduceLeDiff,Nat.reduceAdd,Nat.reduceMul]
  exact fin n1
 have f2:decide (i.op=((2:Nat):Int))=false:=decide_eq_false g2
 by_cases g5:i.op=5
 ·have e5:decide (i.op=((5:Nat):Int))=true:=decide_eq_true g5
  simp(disch:=first|exact Xe|fail)only[eql_int,e3,e4,f1,f2,e5,r1,rs131,↓Xa,Xb,Xc,↓reduceIte,Nat.reduceLT,Nat.reduceEqDiff,Nat.reduceBEq,Nat.reduceLeDiff,Nat.reduceAdd,Nat.reduceMul]
  exact fin n1
 have f5:decide (i.op=((5:Nat):Int))=false:=decide_eq_false g5
 by_cases g6:i.op=6
 ·have e5:decide (i.op=((6:Nat):Int))=true:=decide_eq_true g6
  simp(disch:=first|exact Xe|fail)only[eql_int,e3,e4,f1,f2,f5,e5,r1,rs131,↓Xa,Xb,Xc,↓reduceIte,Nat.reduceLT,Nat.reduceEqDiff,Nat.reduceBEq,Nat.reduceLeDiff,Nat.reduceAdd,Nat.reduceMul]
  exact fin n1
 have f6:decide (i.op=((6:Nat):Int))=false:=decide_eq_false g6
 by_cases g7:i.op=7
 ·have e5:decide (i.op=((7:Nat):Int))=true:=decide_eq_true g7
  simp(disch:=first|exact Xe|fail)only[eql_int,e3,e4,f1,f2,f5,f6,e5,r1,rs131,↓Xa,Xb,Xc,↓reduceIte,Nat.reduceLT,Nat.reduceEqDiff,Nat.reduceBEq,Nat.reduceLeDiff,Nat.reduceAdd,Nat.reduceMul]
  exact fin n1
 have f7:decide (i.op=((7:Nat):Int))=false:=decide_eq_false g7
 have e5:decide (i.op=((8:Nat):Int))=true:=decide_eq_true (by omega)
 simp(disch:=first|exact Xe|fail)only[eql_int,e3,e4,f1,f2,f5,f6,f7,e5,r1,rs131,↓Xa,Xb,Xc,↓reduceIte,Nat.reduceLT,Nat.reduceEqDiff,Nat.reduceBEq,Nat.reduceLeDiff,Nat.reduceAdd,Nat.reduceMul]
 exact fin n1
theorem mayI_iff(n:Int)(i:Ins):mayI n i↔1≤i.op∧i.op≤8∧0≤i.to∧i.to<n∧(¬(i.op=3∨i.op=4)→i.b=0)∧conI i∧∀r,r∈asksI i→0≤r∧r<n:=by
 unfold mayI conI asksI
 by_cases h:i.op=3∨i.op=4
 ·rw[if_pos h,if_neg (by omega),if_neg (by omega),if_pos h]
  simp;omega
 ·rw[if_neg h,if_neg h]
  constructor
  ·rintro⟨a,b,c,d,e,f,g,k⟩
   refine⟨a,b,c,d,fun _=>g,k,fun r hr=>?_⟩
   rw[if_pos ⟨a,b⟩]at hr
   rw[List.mem_singleton.1 hr];exact⟨e,f⟩
  ·rintro⟨a,b,c,d,g,k,m⟩
   rw[if_pos ⟨a,b⟩]at m
   have:=m i.a (by simp)
   exact⟨a,b,c,d,this.1,this.2,g h,k⟩
theorem may_fn(i:Ins)(n:Int):PFn Tryd.prog 90 [InsA i,.int .i64 n] (.bool (decide (mayI n i))):=by
 intro H Q hq
 have bad: ¬mayI n i→∀{p:Nat}{x:Option ABlk},H p=none→SetR Q (.bool false) (H.upd p x):=fun h p x hp=>by
  rw[decide_eq_false h]at hq
  exact SetR.dropTo ((Le.refl H).updB hp) (SetR.now hq)
 have hm:=mayI_iff n i
 have tw:=two_fn (n:=i.op)
 refine enter90 (by simp) ?_
 simp(disch:=first|exact Xe|fail)only[ac90,cells_InsA,↓Xa,Xb,Xc,↓reduceIte,Nat.reduceLT,Nat.reduceEqDiff,Nat.reduceBEq,Nat.reduceLeDiff,Nat.reduceAdd,Nat.reduceMul]
 refine alloc_i fun p1 hp1=>?_
 have n1:=hp1
 by_cases h1:i.op<((1:Nat):Int)
 ·simp(disch:=first|exact Xe|fail)only[lss_int,decide_eq_true h1,rs90,↓Xa,Xb,Xc,↓reduceIte,Nat.reduceLT,Nat.reduceEqDiff,Nat.reduceBEq,Nat.reduceLeDiff,Nat.reduceAdd,Nat.reduceMul]
  exact bad (fun h=>by have:=hm.1 h;omega) n1
 by_cases h2:((8:Nat):Int)<i.op
 ·simp(disch:=first|exact Xe|fail)only[lss_int,gtr_int,decide_eq_false h1,decide_eq_true h2,rs90,↓Xa,Xb,Xc,↓reduceIte,Nat.reduceLT,Nat.reduceEqDiff,Nat.reduceBEq,Nat.reduceLeDiff,Nat.reduceAdd,Nat.reduceMul]
  exact bad (fun h=>by have:=hm.1 h;omega) n1
 by_cases h3:i.to<((0:Nat):Int)
 ·simp(disch:=first|exact Xe|fail)only[lss_int,gtr_int,decide_eq_false h1,decide_eq_false h2,decide_eq_true h3,rs90,↓Xa,Xb,Xc,↓reduceIte,Nat.reduceLT,Nat.reduceEqDiff,Nat.reduceBEq,Nat.reduceLeDiff,Nat.reduceAdd,Nat.reduceMul]
  exact bad (fun h=>by have:=hm.1 h;omega) n1
 by_cases h4:n≤i.to
 ·simp(disch:=first|exact Xe|fail)only[lss_int,gtr_int,geqI,decide_eq_false h1,decide_eq_false h2,decide_eq_false h3,decide_eq_true h4,rs90,↓Xa,Xb,Xc,↓reduceIte,Nat.reduceLT,Nat.reduceEqDiff,Nat.reduceBEq,Nat.reduceLeDiff,Nat.reduceAdd,Nat.reduceMul]
  exact bad (fun h=>by have:=hm.1 h;omega) n1
 simp(disch:=first|exact Xe|fail)only[lss_int,gtr_int,geqI,decide_eq_false h1,decide_eq_false h2,decide_eq_false h3,decide_eq_false h4,↓Xa,Xb,Xc,↓reduceIte,Nat.reduceLT,Nat.reduceEqDiff,Nat.reduceBEq,Nat.reduceLeDiff,Nat.reduceAdd,Nat.reduceMul]
 refine tw.call ?_
 have rest:(¬(i.op=3∨i.op=4)→i.b=0)→conI i→∀M,M=H.upd p1 (some (.row 88 0 [.int .i64 i.op,.int .i64 i.to,.int .i64 i.a,.int .i64 i.b,.int .i64 i.c]))→
  W Tryd.prog (sndC (sndC ac90)) (retN rs90 Q) ⟨[],[(1,.int .i64 n),(2,.ptr p1 5 0)],M⟩:=by
  rintro hb hc M rfl
  have la:(asksI i).length<9223372036854775808:=by unfold asksI;split;simp;split<;>simp
  simp(disch:=first|exact Xe|fail)only[sndC,ac90,fold_InsA,↓Xa,Xb,Xc,↓reduceIte,Nat.reduceLT,Nat.reduceEqDiff,Nat.reduceBEq,Nat.reduceLeDiff,Nat.reduceAdd,Nat.reduceMul]
  refine(asks_fn i (by omega) (by omega)).call ?_
  simp(disch:=first|exact Xe|fail)only[len_OutsA,la,↓Xa,Xb,Xc,↓reduceIte,Nat.reduceLT,Nat.reduceEqDiff,Nat.reduceBEq,Nat.reduceLeDiff,Nat.reduceAdd,Nat.reduceMul]
  refine W_loop (fun s:Nat=>⟨[],[(1,.int .i64 n),(43,OutsA (asksI i) true),(44,.int .i64 (asksI i).length),(45,.int .i64 s)],H.upd p1 (some (.row 88 0 [.int .i64 i.op,.int .i64 i.to,.int .i64 i.a,.int .i64 i.b,.int .i64 i.c]))⟩)
   (fun s=>s≤(asksI i).length∧∀j(h:j<(asksI i).length),j<s→0≤(asksI i)[j]∧(asksI i)[j]<n) (fun s=>(asksI i).length-s) 0 (Settle.now rfl) ⟨Nat.zero_le _,fun j _ h=>absurd h (by omega)⟩ ?_
  rintro s ⟨h5,h6⟩
  by_cases hi:s<(asksI i).length
  ·simp(disch:=first|exact Xe|fail)only[hi,idx_OutsA,load_OutsA,↓Xa,Xb,Xc,↓reduceIte,Nat.reduceLT,Nat.reduceEqDiff,Nat.reduceBEq,Nat.reduceLeDiff,Nat.reduceAdd,Nat.reduceMul]
   have hmem:=List.getElem_mem hi
   have nb: ¬(0≤(asksI i)[s]∧(asksI i)[s]<n)→¬mayI n i:=fun h hm2=>h ((hm.1 hm2).2.2.2.2.2.2 _ hmem)
   by_cases c1:(asksI i)[s]<((0:Nat):Int)
   ·simp(disch:=first|exact Xe|fail)only[lss_int,decide_eq_true c1,rs90,↓Xa,Xb,Xc,↓reduceIte,Nat.reduceLT,Nat.reduceEqDiff,Nat.reduceBEq,Nat.reduceLeDiff,Nat.reduceAdd,Nat.reduceMul]
    exact bad (nb (by omega)) n1
   by_cases c2:n≤(asksI i)[s]
   ·simp(disch:=first|exact Xe|fail)only[lss_int,geqI,decide_eq_false c1,decide_eq_true c2,rs90,↓Xa,Xb,Xc,↓reduceIte,Nat.reduceLT,Nat.reduceEqDiff,Nat.reduceBEq,Nat.reduceLeDiff,Nat.reduceAdd,Nat.reduceMul]
    exact bad (nb (by omega)) n1
   simp(disch:=first|exact Xe|fail)only[lss_int,geqI,decide_eq_false c1,decide_eq_false c2,↓Xa,Xb,Xc,↓reduceIte,Nat.reduceLT,Nat.reduceEqDiff,Nat.reduceBEq,Nat.reduceLeDiff,Nat.reduceAdd,Nat.reduceMul]
   refine Settle.now ⟨s+1,by omega,⟨by omega,fun j hj hjs=>?_⟩,rfl⟩
   by_cases e:j=s
   ·subst e;omega
   ·exact h6 j hj (by omega)
  ·simp(disch:=first|exact Xe|fail)only[hi,↓Xa,Xb,Xc,↓reduceIte,Nat.reduceLT,Nat.reduceEqDiff,Nat.reduceBEq,Nat.reduceLeDiff,Nat.reduceAdd,Nat.reduceMul]
   refine Settle.now ?_
   have hyes:mayI n i:=hm.2 ⟨by omega,by omega,by omega,by omega,hb,hc,fun r hr=>by
    obtain⟨j,hj,rfl⟩:=List.getElem_of_mem hr
    exact h6 j hj (by omega)⟩
   rw[decide_eq_true hyes]at hq
   simp(disch:=first|exact Xe|fail)only[rs90,↓Xa,Xb,Xc,↓reduceIte,Nat.reduceLT,Nat.reduceEqDiff,Nat.reduceBEq,Nat.reduceLeDiff,Nat.reduceAdd,Nat.reduceMul]
   exact SetR.dropTo ((Le.refl H).updB n1) (SetR.now hq)
 have cf:=constant_fn i
 by_cases ht:i.op=3∨i.op=4
 ·rw[decide_eq_true ht]
  by_cases hc:conI i
  ·rw[decide_eq_true hc]at cf
   simp(disch:=first|exact Xe|fail)only[fold_InsA,↓Xa,Xb,Xc,↓reduceIte,Nat.reduceLT,Nat.reduceEqDiff,Nat.reduceBEq,Nat.reduceLeDiff,Nat.reduceAdd,Nat.reduceMul]
   refine cf.call ?_
   have r:=rest (fun h=>absurd ht h) hc _ rfl
   simp(disch:=first|exact Xe|fail)only[sndC,ac90,fold_InsA,↓Xa,Xb,Xc,↓reduceIte,Nat.reduceLT,Nat.reduceEqDiff,Nat.reduceBEq,Nat.reduceLeDiff,Nat.reduceAdd,Nat.reduceMul]at r
   simp(disch:=first|exact Xe|fail)only[fold_InsA,↓Xa,Xb,Xc,↓reduceIte,Nat.reduceLT,Nat.reduceEqDiff,Nat.reduceBEq,Nat.reduceLeDiff,Nat.reduceAdd,Nat.reduceMul]
   exact r
  ·rw[decide_eq_false hc]at cf
   simp(disch:=first|exact Xe|fail)only[fold_InsA,↓Xa,Xb,Xc,↓reduceIte,Nat.reduceLT,Nat.reduceEqDiff,Nat.reduceBEq,Nat.reduceLeDiff,Nat.reduceAdd,Nat.reduceMul]
   refine cf.call ?_
   simp(disch:=first|exact Xe|fail)only[fold_InsA,rs90,↓Xa,Xb,Xc,↓reduceIte,Nat.reduceLT,Nat.reduceEqDiff,Nat.reduceBEq,Nat.reduceLeDiff,Nat.reduceAdd,Nat.reduceMul]
   exact bad (fun h=>hc (hm.1 h).2.2.2.2.2.1) n1
 ·rw[decide_eq_false ht]
  by_cases hb:i.b=((0:Nat):Int)
  ·by_cases hc:conI i
   ·rw[decide_eq_true hc]at cf
    simp(disch:=first|exact Xe|fail)only[neq_int,decide_eq_true hb,fold_InsA,↓Xa,Xb,Xc,↓reduceIte,Nat.reduceLT,Nat.reduceEqDiff,Nat.reduceBEq,Nat.reduceLeDiff,Nat.reduceAdd,Nat.reduceMul]
    refine cf.call ?_
    have r:=rest (fun _=>hb) hc _ rfl
    simp(disch:=first|exact Xe|fail)only[sndC,ac90,fold_InsA,↓Xa,Xb,Xc,↓reduceIte,Nat.reduceLT,Nat.reduceEqDiff,Nat.reduceBEq,Nat.reduceLeDiff,Nat.reduceAdd,Nat.reduceMul]at r
    simp(disch:=first|exact Xe|fail)only[fold_InsA,↓Xa,Xb,Xc,↓reduceIte,Nat.reduceLT,Nat.reduceEqDiff,Nat.reduceBEq,Nat.reduceLeDiff,Nat.reduceAdd,Nat.reduceMul]
    exact r
   ·rw[decide_eq_false hc]at cf
    simp(disch:=first|exact Xe|fail)only[neq_int,decide_eq_true hb,fold_InsA,↓Xa,Xb,Xc,↓reduceIte,Nat.reduceLT,Nat.reduceEqDiff,Nat.reduceBEq,Nat.reduceLeDiff,Nat.reduceAdd,Nat.reduceMul]
    refine cf.call ?_
    simp(disch:=first|exact Xe|fail)only[fold_InsA,rs90,↓Xa,Xb,Xc,↓reduceIte,Nat.reduceLT,Nat.reduceEqDiff,Nat.reduceBEq,Nat.reduceLeDiff,Nat.reduceAdd,Nat.reduceMul]
    exact bad (fun h=>hc (hm.1 h).2.2.2.2.2.1) n1
  ·simp(disch:=first|exact Xe|fail)only[neq_int,decide_eq_false hb,rs90,↓Xa,Xb,Xc,↓reduceIte,Nat.reduceLT,Nat.reduceEqDiff,Nat.reduceBEq,Nat.reduceLeDiff,Nat.reduceAdd,Nat.reduceMul]
   exact bad (fun h=>hb ((hm.1 h).2.2.2.2.1 ht)) n1
theorem check_fn(p:PR)(hp:p.ok): ∃k:Int,PFn Tryd.prog 57 [ProgA p] (.tup [.int .i64 k,.int .i64 (((if rightP p then 0 else 80:Nat)):Int)]):=by
 obtain⟨hp1,hp2,hp3,hp4,hp5,hp6⟩:=hp
 have lc:p.code.length<9223372036854775808:=by omega
 have lo:p.outs.length<9223372036854775808:=by omega
 by_cases hh:headP p
 rotate_left
 ·refine⟨-1,fun H Q hq=>?_⟩
  rw[if_neg (fun h=>hh h.1)]at hq
  have out: ∀(q:Nat)(x:Option ABlk),H q=none→SetR Q (.tup [.int .i64 (-1),.int .i64 ((80:Nat):Int)]) (H.upd q x):=fun q x h=>SetR.dropTo ((Le.refl H).updB h) (SetR.now hq)
  refine enter57 (by simp) ?_
  simp(disch:=first|exact Xe|fail)only[ac57,cells_ProgA,↓Xa,Xb,Xc,↓reduceIte,Nat.reduceLT,Nat.reduceEqDiff,Nat.reduceBEq,Nat.reduceLeDiff,Nat.reduceAdd,Nat.reduceMul]
  refine alloc_i fun p1 hp1=>?_
  have n1:=hp1
  unfold headP at hh
  by_cases h1:p.ins<((1:Nat):Int)
  ·simp(disch:=first|exact Xe|fail)only[lss_int,decide_eq_true h1,rs57,↓Xa,Xb,Xc,↓reduceIte,Nat.reduceLT,Nat.reduceEqDiff,Nat.reduceBEq,Nat.reduceLeDiff,Nat.reduceAdd,Nat.reduceMul]
   exact out _ _ n1
  by_cases h2:p.regs<p.ins
  ·simp(disch:=first|exact Xe|fail)only[lss_int,gtr_int,decide_eq_false h1,decide_eq_true h2,rs57,↓Xa,Xb,Xc,↓reduceIte,Nat.reduceLT,Nat.reduceEqDiff,Nat.reduceBEq,Nat.reduceLeDiff,Nat.reduceAdd,Nat.reduceMul]
   exact out _ _ n1
  by_cases h3:((128:Nat):Int)<p.regs
  ·simp(disch:=first|exact Xe|fail)only[lss_int,gtr_int,decide_eq_false h1,decide_eq_false h2,decide_eq_true h3,rs57,↓Xa,Xb,Xc,↓reduceIte,Nat.reduceLT,Nat.reduceEqDiff,Nat.reduceBEq,Nat.reduceLeDiff,Nat.reduceAdd,Nat.reduceMul]
   exact out _ _ n1
  by_cases h4:((16384:Nat):Int)<((p.code.length:Nat):Int)
  ·simp(disch:=first|exact Xe|fail)only[lss_int,gtr_int,decide_eq_false h1,decide_eq_false h2,decide_eq_false h3,len_CodeA,lc,decide_eq_true h4,rs57,↓Xa,Xb,Xc,↓reduceIte,Nat.reduceLT,Nat.reduceEqDiff,Nat.reduceBEq,Nat.reduceLeDiff,Nat.reduceAdd,Nat.reduceMul]
   exact out _ _ n1
  by_cases h5:((p.outs.length:Nat):Int)<((1:Nat):Int)
  ·simp(disch:=first|exact Xe|fail)only[lss_int,gtr_int,decide_eq_false h1,decide_eq_false h2,decide_eq_false h3,len_CodeA,lc,decide_eq_false h4,len_OutsA,lo,decide_eq_true h5,rs57,↓Xa,Xb,Xc,↓reduceIte,Nat.reduceLT,Nat.reduceEqDiff,Nat.reduceBEq,Nat.reduceLeDiff,Nat.reduceAdd,Nat.reduceMul]
   exact out _ _ n1
  have h6:((128:Nat):Int)<((p.outs.length:Nat):Int):=by
   have:=fun h=>hh h
   omega
  simp(disch:=first|exact Xe|fail)only[lss_int,gtr_int,decide_eq_false h1,decide_eq_false h2,decide_eq_false h3,len_CodeA,lc,decide_eq_false h4,len_OutsA,lo,decide_eq_false h5,decide_eq_true h6,rs57,↓Xa,Xb,Xc,↓reduceIte,Nat.reduceLT,Nat.reduceEqDiff,Nat.reduceBEq,Nat.reduceLeDiff,Nat.reduceAdd,Nat.reduceMul]
  exact out _ _ n1
 ·have hh':=hh
  unfold headP at hh'
  have h1: ¬p.ins<((1:Nat):Int):=by omega
  have h2: ¬p.regs<p.ins:=by omega
  have h3: ¬((128:Nat):Int)<p.regs:=by omega
  have h4: ¬((16384:Nat):Int)<((p.code.length:Nat):Int):=by omega
  have h5: ¬((p.outs.length:Nat):Int)<((1:Nat):Int):=by omega
  have h6: ¬((128:Nat):Int)<((p.outs.length:Nat):Int):=by omega
  have start: ∀{H:AHeap}{Q:AV→AHeap→Prop},(∀p1,H p1=none→W Tryd.prog (sndC (sndC ac57)) (retN rs57 Q) ⟨[],[(1,.ptr p1 4 0)],H.upd p1 (some (.row 25 0 [.int .i64 p.ins,.int .i64 p.regs,CodeA p.code false,OutsA p.outs false]))⟩)→Run Tryd.prog 57 [ProgA p] H Q:=by
   intro H Q hw
   refine enter57 (by simp) ?_
   simp(disch:=first|exact Xe|fail)only[ac57,cells_ProgA,↓Xa,Xb,Xc,↓reduceIte,Nat.reduceLT,Nat.reduceEqDiff,Nat.reduceBEq,Nat.reduceLeDiff,Nat.reduceAdd,Nat.reduceMul]
   refine alloc_i fun p1 hp1=>?_
   have n1:=hp1
   have r:=hw p1 n1
   simp(disch:=first|exact Xe|fail)only[sndC,ac57,len_OutsA,lo,↓Xa,Xb,Xc,↓reduceIte,Nat.reduceLT,Nat.reduceEqDiff,Nat.reduceBEq,Nat.reduceLeDiff,Nat.reduceAdd,Nat.reduceMul]at r
   simp(disch:=first|exact Xe|fail)only[lss_int,gtr_int,decide_eq_false h1,decide_eq_false h2,decide_eq_false h3,len_CodeA,lc,decide_eq_false h4,len_OutsA,lo,decide_eq_false h5,decide_eq_false h6,↓Xa,Xb,Xc,↓reduceIte,Nat.reduceLT,Nat.reduceEqDiff,Nat.reduceBEq,Nat.reduceLeDiff,Nat.reduceAdd,Nat.reduceMul]
   exact r
  by_cases ho: ∀n,n∈p.outs→0≤n∧n<p.regs
  rotate_left
  ·refine⟨-1,fun H Q hq=>start fun p1 n1=>?_⟩
   rw[if_neg (fun h=>ho h.2.1)]at hq
   simp(disch:=first|exact Xe|fail)only[sndC,ac57,len_OutsA,lo,↓Xa,Xb,Xc,↓reduceIte,Nat.reduceLT,Nat.reduceEqDiff,Nat.reduceBEq,Nat.reduceLeDiff,Nat.reduceAdd,Nat.reduceMul]
   refine W_loop (fun s:Nat=>⟨[],[(1,.ptr p1 4 0),(42,OutsA p.outs false),(43,.int .i64 p.outs.length),(44,.int .i64 s)],H.upd p1 (some (.row 25 0 [.int .i64 p.ins,.int .i64 p.regs,CodeA p.code false,OutsA p.outs false]))⟩)
    (fun s=>s≤p.outs.length∧∀j(h:j<p.outs.length),j<s→0≤p.outs[j]∧p.outs[j]<p.regs) (fun s=>p.outs.length-s) 0 (Settle.now rfl) ⟨Nat.zero_le _,fun j _ h=>absurd h (by omega)⟩ ?_
   rintro s ⟨g1,g2⟩
   by_cases hi:s<p.outs.length
   ·simp(disch:=first|exact Xe|fail)only[hi,idx_OutsA,load_OutsA,↓Xa,Xb,Xc,↓reduceIte,Nat.reduceLT,Nat.reduceEqDiff,Nat.reduceBEq,Nat.reduceLeDiff,Nat.reduceAdd,Nat.reduceMul]
    by_cases c1:p.outs[s]<((0:Nat):Int)
    ·simp(disch:=first|exact Xe|fail)only[lss_int,decide_eq_true c1,rs57,↓Xa,Xb,Xc,↓reduceIte,Nat.reduceLT,Nat.reduceEqDiff,Nat.reduceBEq,Nat.reduceLeDiff,Nat.reduceAdd,Nat.reduceMul]
     exact SetR.dropTo ((Le.refl H).updB n1) (SetR.now hq)
    by_cases c2:p.regs≤p.outs[s]
    ·simp(disch:=first|exact Xe|fail)only[lss_int,geqI,decide_eq_false c1,decide_eq_true c2,rs57,↓Xa,Xb,Xc,↓reduceIte,Nat.reduceLT,Nat.reduceEqDiff,Nat.reduceBEq,Nat.reduceLeDiff,Nat.reduceAdd,Nat.reduceMul]
     exact SetR.dropTo ((Le.refl H).updB n1) (SetR.now hq)
    simp(disch:=first|exact Xe|fail)only[lss_int,geqI,decide_eq_false c1,decide_eq_false c2,↓Xa,Xb,Xc,↓reduceIte,Nat.reduceLT,Nat.reduceEqDiff,Nat.reduceBEq,Nat.reduceLeDiff,Nat.reduceAdd,Nat.reduceMul]
    refine Settle.now ⟨s+1,by omega,⟨by omega,fun j hj hjs=>?_⟩,rfl⟩
    by_cases e:j=s
    ·subst e;omega
    ·exact g2 j hj (by omega)
   ·exact absurd (fun n hn=>by
     obtain⟨j,hj,rfl⟩:=List.getElem_of_mem hn
     exact g2 j hj (by omega)) ho
  have start2: ∀{H:AHeap}{Q:AV→AHeap→Prop},(∀p1,H p1=none→W Tryd.prog (sndC (sndC (sndC ac57))) (retN rs57 Q) ⟨[],[(1,.ptr p1 4 0),(42,OutsA p.outs false),(43,.int .i64 p.outs.length),(44,.int .i64 p.outs.length),(45,.bool false)],H.upd p1 (some (.row 25 0 [.int .i64 p.ins,.int .i64 p.regs,CodeA p.code false,OutsA p.outs false]))⟩)→Run Tryd.prog 57 [ProgA p] H Q:=by
   intro H Q hw
   refine start fun p1 n1=>?_
   have r:=hw p1 n1
   simp(disch:=first|exact Xe|fail)only[sndC,ac57,len_CodeA,lc,↓Xa,Xb,Xc,↓reduceIte,Nat.reduceLT,Nat.reduceEqDiff,Nat.reduceBEq,Nat.reduceLeDiff,Nat.reduceAdd,Nat.reduceMul]at r
   simp(disch:=first|exact Xe|fail)only[sndC,ac57,len_OutsA,lo,↓Xa,Xb,Xc,↓reduceIte,Nat.reduceLT,Nat.reduceEqDiff,Nat.reduceBEq,Nat.reduceLeDiff,Nat.reduceAdd,Nat.reduceMul]
   refine W_loop (fun s:Nat=>⟨[],[(1,.ptr p1 4 0),(42,OutsA p.outs false),(43,.int .i64 p.outs.length),(44,.int .i64 s)],H.upd p1 (some (.row 25 0 [.int .i64 p.ins,.int .i64 p.regs,CodeA p.code false,OutsA p.outs false]))⟩)
    (fun s=>s≤p.outs.length) (fun s=>p.outs.length-s) 0 (Settle.now rfl) (Nat.zero_le _) ?_
   rintro s g1
   by_cases hi:s<p.outs.length
   ·have hm:=ho _ (List.getElem_mem hi)
    have c1: ¬p.outs[s]<((0:Nat):Int):=by omega
    have c2: ¬p.regs≤p.outs[s]:=by omega
    simp(disch:=first|exact Xe|fail)only[hi,idx_OutsA,load_OutsA,↓Xa,Xb,Xc,↓reduceIte,Nat.reduceLT,Nat.reduceEqDiff,Nat.reduceBEq,Nat.reduceLeDiff,Nat.reduceAdd,Nat.reduceMul]
    simp(disch:=first|exact Xe|fail)only[lss_int,geqI,decide_eq_false c1,decide_eq_false c2,↓Xa,Xb,Xc,↓reduceIte,Nat.reduceLT,Nat.reduceEqDiff,Nat.reduceBEq,Nat.reduceLeDiff,Nat.reduceAdd,Nat.reduceMul]
    exact Settle.now ⟨s+1,by omega,by omega,rfl⟩
   ·obtain rfl:s=p.outs.length:=by omega
    simp(disch:=first|exact Xe|fail)only[hi,↓Xa,Xb,Xc,↓reduceIte,Nat.reduceLT,Nat.reduceEqDiff,Nat.reduceBEq,Nat.reduceLeDiff,Nat.reduceAdd,Nat.reduceMul]
    refine Settle.now ?_
    simp(disch:=first|exact Xe|fail)only[len_CodeA,lc,↓Xa,Xb,Xc,↓reduceIte,Nat.reduceLT,Nat.reduceEqDiff,Nat.reduceBEq,Nat.reduceLeDiff,Nat.reduceAdd,Nat.reduceMul]
    exact r
  have step: ∀{H:AHeap}{p1 s:Nat},H p1=none→True:=fun _=>trivial
  rcases first_of (P:=fun j=> ∃h:j<p.code.length,¬mayI p.regs (p.code[j])) 0 p.code.length with⟨c,_,hc,⟨hc',hbad⟩,hmin⟩|hall
  ·refine⟨(c:Int),fun H Q hq=>start2 fun p1 n1=>?_⟩
   rw[if_neg (fun h=>hbad (h.2.2 _ (List.getElem_mem hc')))]at hq
   simp(disch:=first|exact Xe|fail)only[sndC,ac57,len_CodeA,lc,↓Xa,Xb,Xc,↓reduceIte,Nat.reduceLT,Nat.reduceEqDiff,Nat.reduceBEq,Nat.reduceLeDiff,Nat.reduceAdd,Nat.reduceMul]
   refine W_loop (fun s:Nat=>⟨[],[(1,.ptr p1 4 0),(58,CodeA p.code false),(59,.int .i64 p.code.length),(60,.int .i64 s)],H.upd p1 (some (.row 25 0 [.int .i64 p.ins,.int .i64 p.regs,CodeA p.code false,OutsA p.outs false]))⟩)
    (fun s=>s≤c) (fun s=>p.code.length-s) 0 (Settle.now rfl) (Nat.zero_le _) ?_
   rintro s g1
   have hs:s<p.code.length:=by omega
   have mf:=may_fn (p.code[s]) p.regs
   simp(disch:=first|exact Xe|fail)only[hs,idx_CodeA,load_CodeA,↓Xa,Xb,Xc,↓reduceIte,Nat.reduceLT,Nat.reduceEqDiff,Nat.reduceBEq,Nat.reduceLeDiff,Nat.reduceAdd,Nat.reduceMul]
   refine alloc_i fun p2 hp2=>?_
   have n2:=hp2
   simp only[upd_none]at n2
   obtain⟨_,n2⟩:=n2
   simp(disch:=first|exact Xe|fail)only[cells_InsA,fold_InsA,↓Xa,Xb,Xc,↓reduceIte,Nat.reduceLT,Nat.reduceEqDiff,Nat.reduceBEq,Nat.reduceLeDiff,Nat.reduceAdd,Nat.reduceMul]
   by_cases e:s=c
   ·subst e
    rw[decide_eq_false hbad]at mf
    refine mf.call ?_
    simp(disch:=first|exact Xe|fail)only[rs57,↓Xa,Xb,Xc,↓reduceIte,Nat.reduceLT,Nat.reduceEqDiff,Nat.reduceBEq,Nat.reduceLeDiff,Nat.reduceAdd,Nat.reduceMul]
    exact SetR.dropTo (((Le.refl H).updB n1).updB n2) (SetR.now hq)
   ·have hok:mayI p.regs (p.code[s]):=Classical.not_not.1 fun h=>hmin s (by omega) (by omega) ⟨hs,h⟩
    rw[decide_eq_true hok]at mf
    refine mf.call ?_
    simp(disch:=first|exact Xe|fail)only[↓Xa,Xb,Xc,↓reduceIte,Nat.reduceLT,Nat.reduceEqDiff,Nat.reduceBEq,Nat.reduceLeDiff,Nat.reduceAdd,Nat.reduceMul]
    refine Settle.dropTo ((Le.refl _).updB (upd_none.2 ⟨by assumption,n2⟩)) ?_
    exact Settle.now ⟨s+1,by omega,by omega,rfl⟩
  ·refine⟨0,fun H Q hq=>start2 fun p1 n1=>?_⟩
   have hok: ∀i,i∈p.code→mayI p.regs i:=fun i hi=>by
    obtain⟨j,hj,rfl⟩:=List.getElem_of_mem hi
    exact Classical.not_not.1 fun h=>hall j (by omega) (by omega) ⟨hj,h⟩
   rw[if_pos ⟨hh,ho,hok⟩]at hq
   simp(disch:=first|exact Xe|fail)only[sndC,ac57,len_CodeA,lc,↓Xa,Xb,Xc,↓reduceIte,Nat.reduceLT,Nat.reduceEqDiff,Nat.reduceBEq,Nat.reduceLeDiff,Nat.reduceAdd,Nat.reduceMul]
   refine W_loop (fun s:Nat=>⟨[],[(1,.ptr p1 4 0),(58,CodeA p.code false),(59,.int .i64 p.code.length),(60,.int .i64 s)],H.upd p1 (some (.row 25 0 [.int .i64 p.ins,.int .i64 p.regs,CodeA p.code false,OutsA p.outs false]))⟩)
    (fun s=>s≤p.code.length) (fun s=>p.code.length-s) 0 (Settle.now rfl) (Nat.zero_le _) ?_
   rintro s g1
   by_cases hs:s<p.code.length
   ·have mf:=may_fn (p.code[s]) p.regs
    rw[decide_eq_true (hok _ (List.getElem_mem hs))]at mf
    simp(disch:=first|exact Xe|fail)only[hs,idx_CodeA,load_CodeA,↓Xa,Xb,Xc,↓reduceIte,Nat.reduceLT,Nat.reduceEqDiff,Nat.reduceBEq,Nat.reduceLeDiff,Nat.reduceAdd,Nat.reduceMul]
    refine alloc_i fun p2 hp2=>?_
    have n2:=hp2
    simp only[upd_none]at n2
    obtain⟨_,n2⟩:=n2
    simp(disch:=first|exact Xe|fail)only[cells_InsA,fold_InsA,↓Xa,Xb,Xc,↓reduceIte,Nat.reduceLT,Nat.reduceEqDiff,Nat.reduceBEq,Nat.reduceLeDiff,Nat.reduceAdd,Nat.reduceMul]
    refine mf.call ?_
    simp(disch:=first|exact Xe|fail)only[↓Xa,Xb,Xc,↓reduceIte,Nat.reduceLT,Nat.reduceEqDiff,Nat.reduceBEq,Nat.reduceLeDiff,Nat.reduceAdd,Nat.reduceMul]
    refine Settle.dropTo ((Le.refl _).updB (upd_none.2 ⟨by assumption,n2⟩)) ?_
    exact Settle.now ⟨s+1,by omega,by omega,rfl⟩
   ·simp(disch:=first|exact Xe|fail)only[hs,↓Xa,Xb,Xc,↓reduceIte,Nat.reduceLT,Nat.reduceEqDiff,Nat.reduceBEq,Nat.reduceLeDiff,Nat.reduceAdd,Nat.reduceMul]
    refine Settle.now ?_
    simp(disch:=first|exact Xe|fail)only[rs57,↓Xa,Xb,Xc,↓reduceIte,Nat.reduceLT,Nat.reduceEqDiff,Nat.reduceBEq,Nat.reduceLeDiff,Nat.reduceAdd,Nat.reduceMul]
    exact SetR.dropTo ((Le.refl H).updB n1) (SetR.now hq)
end Go.Proofs.YtmndejlpfmmaiaaDoor.Fw
namespace Go.Proofs.YtmndejlpfmmaiaaDoor.Ma
def tz(n:Nat):Nat:=if h:n=0∨n%2=1 then 0 else tz (n / 2)+1
termination_by n
decreasing_by omega
theorem tz_odd{n:Nat}(h:n%2=1):tz n=0:=by rw[tz];simp[h]
theorem tz_zero:tz 0=0:=by rw[tz];simp
theorem tz_two{n:Nat}(h:0<n):tz (2*n)=tz n+1:=by
 rw[tz,dif_neg (by omega),Nat.mul_div_cancel_left _ (by omega)]
theorem tz_eq(k m:Nat):tz (2^k*(2*m+1))=k:=by
 induction k with
 |zero=>rw[Nat.pow_zero,Nat.one_mul];exact tz_odd (by omega)
 |succ k ih=>
  have e:2^(k+1)*(2*m+1)=2*(2^k*(2*m+1)):=by rw[Nat.pow_succ,Nat.mul_comm (2^k) 2,Nat.mul_assoc]
  rw[e,tz_two (Nat.mul_pos (Nat.pow_pos (by omega)) (by omega)),ih]
theorem tz_spec(n:Nat):0<n→∃m,n=2^tz n*(2*m+1):=by
 induction n using Nat.strongRecOn with
 |_ n ih=>
  intro h
  by_cases ho:n%2=1
  ·exact⟨n / 2,by rw[tz_odd ho,Nat.pow_zero,Nat.one_mul];omega⟩
  ·obtain⟨m,hm⟩:=ih (n / 2) (by omega) (by omega)
   have e:n=2*(n / 2):=by omega
   refine⟨m,?_⟩
   have e2:tz n=tz (n / 2)+1:=by
    conv=>lhs;rw[e]
    exact tz_two (by omega)
   rw[e2,Nat.pow_succ,Nat.mul_comm (2^_) 2,Nat.mul_assoc,← hm]
   exact e
theorem tz_lt{n k:Nat}(h:0<n)(hn:n<2^k):tz n<k:=by
 obtain⟨m,hm⟩:=tz_spec n h
 have h1:2^tz n≤n:=by
  conv=>rhs;rw[hm]
  exact Nat.le_mul_of_pos_right _ (by omega)
 exact(Nat.pow_lt_pow_iff_right (by omega)).1 (Nat.lt_of_le_of_lt h1 hn)
theorem and_neg{x:Nat}(h:0<x)(hx:x<4294967296):x &&& (4294967296-x)=2^tz x:=by
 obtain⟨m,hm⟩:=tz_spec x h
 have hk:=tz_lt (k:=32) h hx
 generalize tz x=k at*
 have hp:(4294967296:Nat)=2^k*2^(32-k):=by rw[← Nat.pow_add,show k+(32-k)=32 by omega]
 have hlt:2*m+1<2^(32-k):=by
  rw[hm,hp]at hx
  exact Nat.lt_of_mul_lt_mul_left hx
 obtain⟨j,hj⟩: ∃j,32-k=j+1:=⟨31-k,by omega⟩
 rw[hj]at hlt hp
 have hm2:m<2^j:=by rw[Nat.pow_succ]at hlt;omega
 have e1:x=(2*m+1) <<< k:=by rw[Nat.shiftLeft_eq,hm,Nat.mul_comm]
 have e2:4294967296-x=(2*(2^j-(m+1))+1) <<< k:=by
  rw[Nat.shiftLeft_eq,hm,hp,← Nat.mul_sub,Nat.mul_comm]
  congr 1
  rw[Nat.pow_succ];omega
 rw[e2]
 conv=>lhs;lhs;rw[e1]
 rw[← Nat.shiftLeft_and_distrib,Nat.shiftLeft_eq]
 have e3:(2*m+1) &&& (2*(2^j-(m+1))+1)=1:=by
  apply Nat.eq_of_testBit_eq
  intro i
  rw[Nat.testBit_and]
  cases i with
  |zero=>simp
  |succ i=>
   have a1:(2*m+1).testBit (i+1)=m.testBit i:=by rw[Nat.testBit_succ];congr 1;omega
   have a2:(2*(2^j-(m+1))+1).testBit (i+1)=(2^j-(m+1)).testBit i:=by rw[Nat.testBit_succ];congr 1;omega
   rw[a1,a2,Nat.testBit_two_pow_sub_succ hm2]
   cases m.testBit i<;>simp[Nat.testBit_succ]
 rw[e3,Nat.one_mul]
def deB:List Nat:=[0,1,28,2,29,14,24,3,30,22,20,15,25,17,4,8,31,27,13,23,21,19,16,7,26,12,18,6,11,5,10,9]
theorem deB_at{k:Nat}(h:k<32):deB.getD (2^k*125613361%4294967296 / 134217728) 0=k:=by
 have: ∀k,k<32→deB.getD (2^k*125613361%4294967296 / 134217728) 0=k:=by decide
 exact this k h
theorem deB_lt{k:Nat}(h:k<32):2^k*125613361%4294967296 / 134217728<32:=by omega
theorem tz_limbs{a:List Nat}{i:Nat}(ha:Lim 4294967296 a)(hi:i<a.length)(h0:val 4294967296 (a.take i)=0)(hx:0<a.getD i 0):tz (val 4294967296 a)=32*i+tz (a.getD i 0)∧0<val 4294967296 a:=by
 have hxl:=ha.getD (by omega) i
 have hk:=tz_lt (k:=32) hx hxl
 obtain⟨m,hm⟩:=tz_spec _ hx
 have e:=val_split 4294967296 a i (by omega)
 rw[h0,Nat.zero_add,val_drop 4294967296 hi]at e
 generalize a.getD i 0=x at*
 generalize val 4294967296 (a.drop (i+1))=r at*
 generalize tz x=k at*
 obtain⟨j,hj⟩: ∃j,32=k+(j+1):=⟨31-k,by omega⟩
 have e2:val 4294967296 a=2^(32*i+k)*(2*(m+2^j*r)+1):=by
  rw[e,hm,show(4294967296:Nat)=2^32 from rfl,← Nat.pow_mul,Nat.pow_add,Nat.mul_assoc]
  congr 1
  conv=>lhs;rw[hj]
  rw[Nat.pow_add,Nat.pow_succ,Nat.mul_assoc,← Nat.mul_add]
  congr 1
  rw[Nat.mul_add 2,← Nat.mul_assoc 2,Nat.mul_comm 2 (2^j)]
  omega
 exact⟨by rw[e2,tz_eq],by rw[e2];exact Nat.mul_pos (Nat.pow_pos (by omega)) (by omega)⟩
end Go.Proofs.YtmndejlpfmmaiaaDoor.Ma
namespace Go.Proofs.YtmndejlpfmmaiaaDoor.Fw
open Go Go.Proofs.YtmndejlpfmmaiaaDoor.Ma
set_option maxRecDepth 20000
def tabC:List AV:=deB.map fun(n:Nat)=>AV.int .u8 (n:Int)
def TzH(H:AHeap):Prop:=H 0=some (.glob 0 tabC)
theorem TzH.le{H H':AHeap}(h:TzH H)(hl:Le H H'):TzH H':=hl _ _ h
theorem tab_get{i:Nat}(h:i<32):(tabC.drop i).take 1=[.int .u8 ((deB.getD i 0:Nat):Int)]:=by
 have hl:tabC.length=32:=rfl
 rw[List.drop_eq_getElem_cons (by omega),List.take_succ_cons,List.take_zero]
 simp only[tabC,List.getElem_map]
 rw[List.getD_eq_getElem?_getD,List.getElem?_eq_getElem (show i<deB.length from h),Option.getD_some]
theorem gixP_k{g n es i:Nat}{K:AV→Prop}{cells:List AV}(h:i<n):gixP g n es K (i:Int) (some (.glob g cells))=K (.ptr g cells.length (i*es)):=by
 simp[gixP,h]
theorem tz32_run{H:AHeap}{x:Nat}{K:AV→AHeap→Prop}(hH:TzH H)(h0:0<x)(hx:x<4294967296)(k:K (.int .i64 ((tz x:Nat):Int)) H):Run Tryd.prog 149 [.int .u32 (x:Int)] H K:=by
 refine enter149 (by simp) ?_
 have hH':H 0=some (.glob 0 tabC):=hH
 have hk:=tz_lt (k:=32) h0 hx
 have hlt:=deB_lt hk
 have hat:=deB_at hk
 have han:=and_neg h0 hx
 generalize tz x=t at*
 have hne: ¬x=0:=by omega
 have c1: ∀K,unW .neg (.int .u32 (x:Int)) K↔K (.int .u32 ((4294967296-x:Nat):Int)):=fun K=>by
  simp only[unW,wmod_u32];rw[show(0-(x:Int))%4294967296=((4294967296-x:Nat):Int) by omega]
 have c2: ∀K,binW .and (.int .u32 (x:Int)) (.int .u32 ((4294967296-x:Nat):Int)) K↔K (.int .u32 ((2^t:Nat):Int)):=fun K=>by
  rw[bin_and .u32 (by simp[IntKind.bits];omega) (by simp[IntKind.bits];omega),han,wn_u32 (by
   have:2^t<2^32:=Nat.pow_lt_pow_right (by omega) hk
   omega)]
 simp(disch:=first|exact Xe|fail)only[ac149,hne,c1,c2,hH',gixP_k,ldP_glob,↓Xa,Xb,Xc,↓reduceIte,Nat.reduceLT,Nat.reduceEqDiff,Nat.reduceBEq,Nat.reduceLeDiff,Nat.reduceAdd,Nat.reduceMul]
 have e27:(2:Nat)^27=134217728:=by decide
 rw[e27]
 have hl:tabC.length=32:=rfl
 refine⟨by omega,?_⟩
 rw[tab_get hlt,hat]
 simp(disch:=first|exact Xe|fail)only[rs149,↓Xa,Xb,Xc,↓reduceIte,Nat.reduceLT,Nat.reduceEqDiff,Nat.reduceBEq,Nat.reduceLeDiff,Nat.reduceAdd,Nat.reduceMul]
 exact SetR.now k
theorem val_take_zeros{a:List Nat}{i:Nat}(h:val 4294967296 (a.take i)=0)(h0:a.getD i 0=0):val 4294967296 (a.take (i+1))=0:=by
 rw[val_take,h,h0];omega
theorem twos_run{H:AHeap}{a:List Nat}{t:Bool}{K:AV→AHeap→Prop}(hH:TzH H)(ha:Lim 4294967296 a)(hl:a.length≤1099511627776)(k:K (.int .i64 ((tz (val 4294967296 a):Nat):Int)) H):Run Tryd.prog 154 [LS a t] H K:=by
 refine enter154 (by simp) ?_
 simp(disch:=first|exact Xe|fail)only[ac154,↓Xa,Xb,Xc,↓reduceIte,Nat.reduceLT,Nat.reduceEqDiff,Nat.reduceBEq,Nat.reduceLeDiff,Nat.reduceAdd,Nat.reduceMul]
 refine W_loop (fun i:Nat=>⟨[],[(5,LS a t),(6,.int .i64 (a.length:Nat)),(7,.int .i64 (i:Nat))],H⟩) (fun i=>i≤a.length∧val 4294967296 (a.take i)=0) (fun i=>a.length-i) 0 (Settle.now rfl) ⟨by simp,by simp[val]⟩ ?_
 rintro i ⟨h1,h2⟩
 by_cases hi:i<a.length
 ·have hxl:=ha.getD (by omega) i
  by_cases hx:0<a.getD i 0
  ·obtain⟨e1,e2⟩:=tz_limbs ha hi h2 hx
   have hk:=tz_lt (k:=32) hx hxl
   simp(disch:=first|exact Xe|fail)only[hi,hx,↓Xa,Xb,Xc,↓reduceIte,Nat.reduceLT,Nat.reduceEqDiff,Nat.reduceBEq,Nat.reduceLeDiff,Nat.reduceAdd,Nat.reduceMul]
   refine run_call (tz32_run hH hx hxl ?_)
   rw[e1]at k
   simp(disch:=first|exact Xe|fail)only[rs154,↓Xa,Xb,Xc,↓reduceIte,Nat.reduceLT,Nat.reduceEqDiff,Nat.reduceBEq,Nat.reduceLeDiff,Nat.reduceAdd,Nat.reduceMul]
   exact SetR.now k
  ·have hx0:a.getD i 0=0:=by omega
   simp(disch:=first|exact Xe|fail)only[hi,hx,↓Xa,Xb,Xc,↓reduceIte,Nat.reduceLT,Nat.reduceEqDiff,Nat.reduceBEq,Nat.reduceLeDiff,Nat.reduceAdd,Nat.reduceMul]
   exact Settle.now ⟨i+1,by omega,⟨by omega,val_take_zeros h2 hx0⟩,rfl⟩
 ·rw[List.take_of_length_le (by omega)]at h2
  rw[h2,tz_zero]at k
  simp(disch:=first|exact Xe|fail)only[hi,↓Xa,Xb,Xc,↓reduceIte,Nat.reduceLT,Nat.reduceEqDiff,Nat.reduceBEq,Nat.reduceLeDiff,Nat.reduceAdd,Nat.reduceMul]
  refine Settle.now ?_
  simp(disch:=first|exact Xe|fail)only[rs154,↓Xa,Xb,Xc,↓reduceIte,Nat.reduceLT,Nat.reduceEqDiff,Nat.reduceBEq,Nat.reduceLeDiff,Nat.reduceAdd,Nat.reduceMul]
  exact SetR.now k
def twV(x:Int):Int:=if x=0 then -1 else((tz x.natAbs:Nat):Int)
theorem itwos_run{H:AHeap}{Q:AV→AHeap→Prop}{x:Int}{k:Nat}(hH:TzH H)(hx:Bd k x)(hk:k≤1000000)(hq:Q (.int .i64 (twV x)) H):Run Tryd.prog 134 [IntA x] H Q:=by
 have hl:=hx.len
 refine enter134 (by simp) ?_
 simp(disch:=first|exact Xe|fail)only[ac134,cells_IntA,↓Xa,Xb,Xc,↓reduceIte,Nat.reduceLT,Nat.reduceEqDiff,Nat.reduceBEq,Nat.reduceLeDiff,Nat.reduceAdd,Nat.reduceMul]
 refine alloc_i fun p1 hp1=>?_
 have n1:=hp1
 have fin: ∀{v:AV}{a:Option ABlk},Q v H→SetR Q v (H.upd p1 a):=fun h=>SetR.dropTo ((Le.refl H).updB n1) (SetR.now h)
 simp(disch:=first|exact Xe|fail)only[fold_IntA,↓Xa,Xb,Xc,↓reduceIte,Nat.reduceLT,Nat.reduceEqDiff,Nat.reduceBEq,Nat.reduceLeDiff,Nat.reduceAdd,Nat.reduceMul]
 refine(sign_fn hx (by omega)).call ?_
 unfold twV at hq
 by_cases h0:x=0
 ·rw[if_pos h0]at hq
  have e:decide (x=0)=true:=decide_eq_true h0
  simp(disch:=first|exact Xe|fail)only[sgn_eql0,e,rs134,↓Xa,Xb,Xc,↓reduceIte,Nat.reduceLT,Nat.reduceEqDiff,Nat.reduceBEq,Nat.reduceLeDiff,Nat.reduceAdd,Nat.reduceMul]
  exact fin hq
 ·rw[if_neg h0]at hq
  have e:decide (x=0)=false:=decide_eq_false h0
  simp(disch:=first|exact Xe|fail)only[sgn_eql0,e,cell_IntB,cell_IntD,cell_Bool,cell_Dool,↓Xa,Xb,Xc,↓reduceIte,Nat.reduceLT,Nat.reduceEqDiff,Nat.reduceBEq,Nat.reduceLeDiff,Nat.reduceAdd,Nat.reduceMul]
  refine run_call (twos_run (hH.le ((Le.refl H).updB n1)) (lim_digs (by omega) _) (by omega) ?_)
  rw[val_digs (by omega)]
  simp(disch:=first|exact Xe|fail)only[rs134,↓Xa,Xb,Xc,↓reduceIte,Nat.reduceLT,Nat.reduceEqDiff,Nat.reduceBEq,Nat.reduceLeDiff,Nat.reduceAdd,Nat.reduceMul]
  exact fin hq
theorem shl_bd{x:Int}{n k:Nat}(hx:Bd k x)(hn:n≤32*(k+2048))(j:Nat)(hj:n≤32*j):Bd (k+(j+1)) (x*2^n):=by
 refine Bd.mul hx ?_
 unfold Bd
 rw[Int.natAbs_pow,show(4294967296:Nat)=2^32 from rfl,← Nat.pow_mul]
 exact Nat.pow_lt_pow_right (by omega) (by omega)
theorem sg_shl{x:Int}{n:Nat}:sg (decide (x<0)) (x.natAbs*2^n)=x*2^n:=by
 have h:((x.natAbs*2^n:Nat):Int)=(x.natAbs:Int)*2^n:=by push_cast;rfl
 unfold sg
 by_cases hx:x<0
 ·rw[decide_eq_true hx,if_pos rfl,h,← Int.neg_mul];congr 1;omega
 ·rw[decide_eq_false hx,if_neg (by simp),h];congr 1;omega
theorem ishl_fn{x:Int}{n k:Nat}(hx:Bd k x)(hk:k≤1000000)(hn:n≤65536):PFn Tryd.prog 103 [IntA x,.int .i64 (n:Int)] (.tup [IntA (x*2^n),.int .i64 ((0:Nat):Int)]):=by
 intro H Q hq
 have hl:=hx.len
 have hbs:=(shl_bd hx (n:=n) (by omega) 2048 (by omega)).len
 have hbe:(x*2^n).natAbs=x.natAbs*2^n:=by rw[← sg_shl,sg_abs]
 rw[hbe]at hbs
 refine enter103 (by simp) ?_
 simp(disch:=first|exact Xe|fail)only[ac103,cells_IntA,↓Xa,Xb,Xc,↓reduceIte,Nat.reduceLT,Nat.reduceEqDiff,Nat.reduceBEq,Nat.reduceLeDiff,Nat.reduceAdd,Nat.reduceMul]
 refine alloc_i fun p1 hp1=>?_
 have n1:=hp1
 simp(disch:=first|exact Xe|fail)only[↓Xa,Xb,Xc,↓reduceIte,Nat.reduceLT,Nat.reduceEqDiff,Nat.reduceBEq,Nat.reduceLeDiff,Nat.reduceAdd,Nat.reduceMul]
 refine alloc_i fun p2 hp2=>?_
 have n2:=hp2
 simp only[upd_none]at n2
 obtain⟨_,n2⟩:=n2
 have fin: ∀{v:AV}{a b:Option ABlk},Q v H→SetR Q v ((H.upd p1 a).upd p2 b):=fun h=>SetR.dropTo (((Le.refl H).updB n1).updB n2) (SetR.now h)
 simp(disch:=first|exact Xe|fail)only[IntD,IntB,↓Xa,Xb,Xc,↓reduceIte,Nat.reduceLT,Nat.reduceEqDiff,Nat.reduceBEq,Nat.reduceLeDiff,Nat.reduceAdd,Nat.reduceMul]
 refine(shl_fn true (lim_digs (by omega) _) hn (by omega)).call ?_
 rw[val_digs (by omega)]
 simp(disch:=first|exact Xe|fail)only[IntD,IntB,↓Xa,Xb,Xc,↓reduceIte,Nat.reduceLT,Nat.reduceEqDiff,Nat.reduceBEq,Nat.reduceLeDiff,Nat.reduceAdd,Nat.reduceMul]
 refine(made_fn _ _ (by omega)).call ?_
 rw[sg_shl]
 simp(disch:=first|exact Xe|fail)only[cells_IntA,fold_IntA,rs103,↓Xa,Xb,Xc,↓reduceIte,Nat.reduceLT,Nat.reduceEqDiff,Nat.reduceBEq,Nat.reduceLeDiff,Nat.reduceAdd,Nat.reduceMul]
 exact fin hq
theorem sg_shr{x:Int}{n:Nat}(h:(2:Int)^n ∣ x):sg (decide (x<0)) (x.natAbs / 2^n)=x / 2^n:=by
 obtain⟨y,rfl⟩:=h
 have hp:(0:Int)<2^n:=Int.pow_pos (by omega)
 rw[Int.mul_ediv_cancel_left _ (by omega),Int.natAbs_mul,Int.natAbs_pow,show(2:Int).natAbs=2 from rfl,Nat.mul_div_cancel_left _ (Nat.pow_pos (by omega))]
 have:decide (2^n*y<0)=decide (y<0):=decide_eq_decide.2 ⟨fun h=>by
  by_cases h0:y<0
  ·exact h0
  ·exact absurd (Int.mul_nonneg (Int.le_of_lt hp) (by omega:0≤y)) (by omega),fun h=>Int.mul_neg_of_pos_of_neg hp h⟩
 rw[this,sg_self]
theorem dvd_tz{x:Int}{n:Nat}(h0:x≠0):(2:Int)^n ∣ x↔n≤tz x.natAbs:=by
 have hp:0<x.natAbs:=by omega
 rw[show((2:Int)^n ∣ x)↔2^n ∣ x.natAbs by rw[← Int.natAbs_dvd_natAbs,Int.natAbs_pow];rfl]
 obtain⟨m,hm⟩:=tz_spec x.natAbs hp
 constructor
 ·intro h
  apply Nat.le_of_not_lt
  intro hlt
  have h1:2^(tz x.natAbs+1) ∣ x.natAbs:=Nat.dvd_trans (Nat.pow_dvd_pow 2 hlt) h
  rw[hm,tz_eq,Nat.pow_succ]at h1
  have h2:=(Nat.mul_dvd_mul_iff_left (Nat.pow_pos (n:=tz x.natAbs) (show 0<2 by omega))).1 h1
  omega
 ·intro h
  rw[hm]
  exact Nat.dvd_trans (Nat.pow_dvd_pow 2 h) (Nat.dvd_mul_right _ _)
def shrR(x:Int)(n:Int):AV:=
 if n<0 then .tup [IntA 0,.int .i64 ((2:Nat):Int)]else if x=0 then .tup [IntA 0,.int .i64 ((0:Nat):Int)]
 else if twV x<n then .tup [IntA 0,.int .i64 ((20:Nat):Int)]else .tup [IntA (x / 2^n.toNat),.int .i64 ((0:Nat):Int)]
theorem ishr_run{H:AHeap}{Q:AV→AHeap→Prop}{x n:Int}{k:Nat}(hH:TzH H)(hx:Bd k x)(hk:k≤1000000)(hn:n<9223372036854775808)(hq:Q (shrR x n) H):Run Tryd.prog 105 [IntA x,.int .i64 n] H Q:=by
 have hl:=hx.len
 refine enter105 (by simp) ?_
 simp(disch:=first|exact Xe|fail)only[ac105,cells_IntA,↓Xa,Xb,Xc,↓reduceIte,Nat.reduceLT,Nat.reduceEqDiff,Nat.reduceBEq,Nat.reduceLeDiff,Nat.reduceAdd,Nat.reduceMul]
 refine alloc_i fun p1 hp1=>?_
 have n1:=hp1
 simp(disch:=first|exact Xe|fail)only[↓Xa,Xb,Xc,↓reduceIte,Nat.reduceLT,Nat.reduceEqDiff,Nat.reduceBEq,Nat.reduceLeDiff,Nat.reduceAdd,Nat.reduceMul]
 refine alloc_i fun p2 hp2=>?_
 have n2:=hp2
 simp only[upd_none]at n2
 obtain⟨_,n2⟩:=n2
 have fin: ∀{v:AV}{a b:Option ABlk},Q v H→SetR Q v ((H.upd p1 a).upd p2 b):=fun h=>SetR.dropTo (((Le.refl H).updB n1).updB n2) (SetR.now h)
 have hT: ∀a b,TzH ((H.upd p1 a).upd p2 b):=fun a b=>hH.le (((Le.refl H).updB n1).updB n2)
 unfold shrR at hq
 by_cases h1:n<0
 ·rw[if_pos h1]at hq
  have e:decide (n<0)=true:=decide_eq_true h1
  simp(disch:=first|exact Xe|fail)only[lss_neg,e,IntA_0,cells_IntA,fold_IntA,rs105,↓Xa,Xb,Xc,↓reduceIte,Nat.reduceLT,Nat.reduceEqDiff,Nat.reduceBEq,Nat.reduceLeDiff,Nat.reduceAdd,Nat.reduceMul]
  exact fin hq
 rw[if_neg h1]at hq
 have e1:decide (n<0)=false:=decide_eq_false h1
 simp(disch:=first|exact Xe|fail)only[lss_neg,e1,fold_IntA,↓Xa,Xb,Xc,↓reduceIte,Nat.reduceLT,Nat.reduceEqDiff,Nat.reduceBEq,Nat.reduceLeDiff,Nat.reduceAdd,Nat.reduceMul]
 refine(sign_fn hx (by omega)).call ?_
 by_cases h2:x=0
 ·rw[if_pos h2]at hq
  have e:decide (x=0)=true:=decide_eq_true h2
  simp(disch:=first|exact Xe|fail)only[sgn_eql0,e,IntA_0,cells_IntA,fold_IntA,rs105,↓Xa,Xb,Xc,↓reduceIte,Nat.reduceLT,Nat.reduceEqDiff,Nat.reduceBEq,Nat.reduceLeDiff,Nat.reduceAdd,Nat.reduceMul]
  exact fin hq
 rw[if_neg h2]at hq
 have e2:decide (x=0)=false:=decide_eq_false h2
 simp(disch:=first|exact Xe|fail)only[sgn_eql0,e2,fold_IntA,↓Xa,Xb,Xc,↓reduceIte,Nat.reduceLT,Nat.reduceEqDiff,Nat.reduceBEq,Nat.reduceLeDiff,Nat.reduceAdd,Nat.reduceMul]
 refine run_call (itwos_run (hT _ _) hx hk ?_)
 have c3: ∀K,binW .lss (.int .i64 (twV x)) (.int .i64 n) K↔K (.bool (decide (twV x<n))):=fun K=>by
  simp only[binW,binInt,true_and]
 by_cases h3:twV x<n
 ·rw[if_pos h3]at hq
  rw[decide_eq_true h3]at c3
  simp(disch:=first|exact Xe|fail)only[c3,IntA_0,cells_IntA,fold_IntA,rs105,↓Xa,Xb,Xc,↓reduceIte,Nat.reduceLT,Nat.reduceEqDiff,Nat.reduceBEq,Nat.reduceLeDiff,Nat.reduceAdd,Nat.reduceMul]
  exact fin hq
 ·rw[if_neg h3]at hq
  rw[decide_eq_false h3]at c3
  obtain⟨m,rfl⟩: ∃m:Nat,n=(m:Int):=⟨n.toNat,by omega⟩
  have hd:(2:Int)^m ∣ x:=(dvd_tz h2).2 (by unfold twV at h3;rw[if_neg h2]at h3;omega)
  have hle:(digs 4294967296 (x.natAbs / 2^m)).length≤k:=digs_len (by omega) _ _ (Nat.lt_of_le_of_lt (Nat.div_le_self _ _) hx)
  simp(disch:=first|exact Xe|fail)only[c3,IntD,IntB,↓Xa,Xb,Xc,↓reduceIte,Nat.reduceLT,Nat.reduceEqDiff,Nat.reduceBEq,Nat.reduceLeDiff,Nat.reduceAdd,Nat.reduceMul]
  refine(shr_fn true (lim_digs (by omega) _) (by omega) (by omega)).call ?_
  rw[val_digs (by omega)]
  simp(disch:=first|exact Xe|fail)only[IntD,IntB,↓Xa,Xb,Xc,↓reduceIte,Nat.reduceLT,Nat.reduceEqDiff,Nat.reduceBEq,Nat.reduceLeDiff,Nat.reduceAdd,Nat.reduceMul]
  refine(made_fn _ _ (by omega)).call ?_
  rw[sg_shr hd]
  simp(disch:=first|exact Xe|fail)only[cells_IntA,fold_IntA,rs105,↓Xa,Xb,Xc,↓reduceIte,Nat.reduceLT,Nat.reduceEqDiff,Nat.reduceBEq,Nat.reduceLeDiff,Nat.reduceAdd,Nat.reduceMul]
  exact fin hq
end Go.Proofs.YtmndejlpfmmaiaaDoor.Fw
namespace Go.Proofs.YtmndejlpfmmaiaaDoor.Fw
open Go
set_option maxRecDepth 100000
def ac8:ACode:=Js [Jo 0 (.mov (.k (.bool false)))] [] (.seq (Js [Jo 26 (Jc 36 []),Jo 27 (.un .not (.t 26))] [27] (.cond (.t 27) (Js [Jo 0 (.mov (.k (.bool false)))] [0] .ret) .skip)) (.seq (Js [Jo 28 (.bsl [Jn 0] 3 1 [(0,1,Jk 1),(1,1,Jk 2),(2,1,Jk 3)]),Jo 29 (.build [Jn 0,Jn 0] [(0,1,Jk 2),(1,1,Jk 1)]),Jo 30 (.build [.seq 0 [] true,Jn 0,Jn 0,.str ⟨#[]⟩,Jn 0] [(0,1,.t 28),(1,2,.t 29),(3,1,.k (.str ⟨#[49,55]⟩)),(4,1,Jk 0)]),Jo 31 (.bsl [Jn 0] 3 1 [(0,1,Jk 1),(1,1,Jk 2),(2,1,Jk 3)]),Jo 32 (.build [Jn 0,Jn 0] [(0,1,Jk 1)]),Jo 33 (.build [.seq 0 [] true,Jn 0,Jn 0,.str ⟨#[]⟩,Jn 0] [(0,1,.t 31),(1,2,.t 32),(3,1,.k (.str ⟨#[51]⟩)),(4,1,Jk 0)]),Jo 34 (.bsl [Jn 0] 1 1 [(0,1,Jk 5)]),Jo 35 (.build [Jn 0,Jn 0] []),Jo 36 (.build [.seq 0 [] true,Jn 0,Jn 0,.str ⟨#[]⟩,Jn 0] [(0,1,.t 34),(1,2,.t 35),(3,1,.k (.str ⟨#[53]⟩)),(4,1,Jk 0)]),Jo 37 (.bsl [Jn 0] 2 1 [(0,1,Jk 5),(1,1,Jk 6)]),Jo 38 (.build [Jn 0,Jn 0] []),Jo 39 (.build [.seq 0 [] true,Jn 0,Jn 0,.str ⟨#[]⟩,Jn 0] [(0,1,.t 37),(1,2,.t 38),(3,1,.k (.str ⟨#[48]⟩)),(4,1,Jk 0)]),Jo 40 (.build [Jn 0,Jn 0] [(0,1,Jk 1),(1,1,Jk 1)]),Jo 41 (.build [.seq 0 [] true,Jn 0,Jn 0,.str ⟨#[]⟩,Jn 0] [(0,1,.k (.seq 0 [] true)),(1,2,.t 40),(3,1,.k (.str ⟨#[48]⟩)),(4,1,Jk 2)]),Jo 42 (.bsl [Jn 0] 1 1 [(0,1,Jk 1)]),Jo 43 (.build [Jn 0,Jn 0] [(0,1,Jk 17),(1,1,Jk 1)]),Jo 44 (.build [.seq 0 [] true,Jn 0,Jn 0,.str ⟨#[]⟩,Jn 0] [(0,1,.t 42),(1,2,.t 43),(3,1,.k (.str ⟨#[48]⟩)),(4,1,Jk 2)]),Jo 45 (.bsl [.seq 0 [] true,Jn 0,Jn 0,.str ⟨#[]⟩,Jn 0] 6 5 [(0,5,.t 30),(5,5,.t 33),(10,5,.t 36),(15,5,.t 39),(20,5,.t 41),(25,5,.t 44)]),Jv 46 45,Jo 47 (.mov (Jk 0))] [45,46,47] (.block 0 (.loop (Js [Jb 48 .lss 47 46] [45,46,47,48] (.seq (.cond (.t 48) .skip (.exit 0)) (.seq (.block 1 (Js [Ji 49 5 45 47,Jo 50 (.load (some 5) (.t 49)),Jo 2 (.alloc 79 0 [.seq 0 [] true,Jn 0,Jn 0,.str ⟨#[]⟩,Jn 0]),⟨none,none,.store 5 (.t 2) (.t 50)⟩] [2,45,46,47] (.seq (.draw [Jf 52 0 2,Jl 53 52,Jo 54 (Jc 38 [.t 53]),Jf 55 1 2,Jo 56 (.load (some 2) (.t 55)),Jo 57 (Jc 40 [.t 54,.t 56]),Jm 51 57,Je 58 51 0,Je 59 51 1,Jo 3 (.alloc 34 0 [.bool false,.seq 0 [] true]),⟨none,none,.store 2 (.t 3) (.t 58)⟩] [Jm 4 59] [0,0,0,7,7,0,0,0,128,511,256] [2,3,4,45,46,47]) (.seq (.draw [Jo 60 (.load (some 2) (.t 3)),Jo 61 (Jc 41 [.t 60]),Jf 62 3 2,Jl 63 62,Jb 64 .neq 61 63,Jm 65 64,⟨some 66,some (65,false),.mov (.t 4)⟩,⟨some 67,some (65,false),.fldA 4 (.t 2)⟩,⟨some 68,some (65,false),.load none (.t 67)⟩] [⟨some 69,some (65,false),.bin .neq (.t 66) (.t 68)⟩,Jo 70 (.pick (.t 65) (.k (.bool true)) (.t 69))] [0,0,3,3,0,0,0,64,64] [45,46,47,70]) (.cond (.t 70) (Js [Jo 0 (.mov (.k (.bool false)))] [0] .ret) .skip))))) (.reg [Jo 71 (.bin .add (.t 47) (Jk 1)),Jm 47 71] [45,46,47]))))))) (Js [Jo 73 (.bsl [Jn 0] 2 1 [(0,1,Jk 1),(1,1,.k (.int .i64 (-1)))]),Jo 74 (Jc 38 [.t 73]),Jo 75 (.bsl [Jn 0] 8 1 [(0,1,Jk 0),(1,1,Jk 1),(2,1,Jk 1),(3,1,Jk 1),(4,1,.k (.int .i64 (-1))),(5,1,Jk 1),(6,1,Jk 1),(7,1,Jk 0)]),Jo 76 (Jc 43 [.t 75]),Jo 77 (Jc 42 [.t 74,.t 76]),Jm 72 77,Je 78 72 0,Je 79 72 1,Jm 5 78,Jm 6 79] [5,6] (.seq (Js [Jm 80 6,Jo 81 (.bin .neq (.t 80) (Jk 0)),Jm 82 81,⟨some 83,some (82,false),.mov (.t 5)⟩,⟨some 84,some (82,false),.len false (.t 83)⟩,⟨some 85,some (82,false),.bin .neq (.t 84) (Jk 4)⟩,Jo 86 (.pick (.t 82) (.k (.bool true)) (.t 85)),Jm 87 86,⟨some 88,some (87,false),.mov (.t 5)⟩,⟨some 89,some (87,false),.idxA 2 (.t 88) (Jk 0)⟩,⟨some 90,some (87,false),.load (some 2) (.t 89)⟩,⟨some 91,some (87,false),Jc 41 [.t 90]⟩,⟨some 92,some (87,false),.bin .neq (.t 91) (.k (.str ⟨#[49]⟩))⟩,Jo 93 (.pick (.t 87) (.k (.bool true)) (.t 92)),Jm 94 93,⟨some 95,some (94,false),.mov (.t 5)⟩,⟨some 96,some (94,false),.idxA 2 (.t 95) (Jk 1)⟩,⟨some 97,some (94,false),.load (some 2) (.t 96)⟩,⟨some 98,some (94,false),Jc 41 [.t 97]⟩,⟨some 99,some (94,false),.bin .neq (.t 98) (.k (.str ⟨#[48]⟩))⟩,Jo 100 (.pick (.t 94) (.k (.bool true)) (.t 99)),Jm 101 100,⟨some 102,some (101,false),.mov (.t 5)⟩,⟨some 103,some (101,false),.idxA 2 (.t 102) (Jk 2)⟩,⟨some 104,some (101,false),.load (some 2) (.t 103)⟩,⟨some 105,some (101,false),Jc 41 [.t 104]⟩,⟨some 106,some (101,false),.bin .neq (.t 105) (.k (.str ⟨#[50]⟩))⟩,Jo 107 (.pick (.t 101) (.k (.bool true)) (.t 106)),Jm 108 107,⟨some 109,some (108,false),.mov (.t 5)⟩,⟨some 110,some (108,false),.idxA 2 (.t 109) (Jk 3)⟩,⟨some 111,some (108,false),.load (some 2) (.t 110)⟩,⟨some 112,some (108,false),Jc 41 [.t 111]⟩,⟨some 113,some (108,false),.bin .neq (.t 112) (.k (.str ⟨#[45,49]⟩))⟩,Jo 114 (.pick (.t 108) (.k (.bool true)) (.t 113))] [114] (.cond (.t 114) (Js [Jo 0 (.mov (.k (.bool false)))] [0] .ret) .skip)) (Js [Jo 116 (Jc 45 []),Jo 117 (.bsl [Jn 0] 6 1 [(0,1,Jk 0),(1,1,Jk 1),(2,1,Jk 1),(3,1,Jk 0),(4,1,Jk 1),(5,1,Jk 1)]),Jo 118 (Jc 43 [.t 117]),Jo 119 (Jc 44 [.t 116,Jk 2,.t 118]),Jm 115 119,Je 120 115 0,Je 121 115 1,Jm 7 120,Jm 8 121] [7,8] (Js [Jo 123 (Jc 45 []),Jo 124 (.bsl [Jn 0] 6 1 [(0,1,Jk 0),(1,1,Jk 1),(2,1,Jk 1),(3,1,Jk 1),(4,1,.k (.int .i64 (-1))),(5,1,Jk 1)]),Jo 125 (Jc 43 [.t 124]),Jo 126 (Jc 44 [.t 123,Jk 2,.t 125]),Jm 122 126,Je 127 122 0,Je 128 122 1,Jm 9 127,Jm 10 128] [7,8,9,10] (Js [Jo 129 (Jc 45 []),Jo 11 (.alloc 25 0 [Jn 0,Jn 0,.seq 0 [] true,.seq 0 [] true]),⟨none,none,.store 4 (.t 11) (.t 129)⟩] [7,8,9,10,11] (Js [Jf 130 2 11,Jl 131 130,Jo 132 (.build [Jn 0,Jn 0,Jn 0,Jn 0,Jn 0] [(0,1,Jk 6),(1,1,Jk 2),(2,1,Jk 2),(4,1,Jk 1)]),Jo 133 (.bsl [Jn 0,Jn 0,Jn 0,Jn 0,Jn 0] 1 5 [(0,5,.t 132)]),Jo 134 (.app 88 5 40 (.t 131) (.t 133)),Jf 135 2 11,⟨none,none,.store 1 (.t 135) (.t 134)⟩] [7,8,9,10,11] (.seq (.draw [Jo 137 (.load (some 4) (.t 11)),Jo 138 (.bsl [Jn 0] 6 1 [(0,1,Jk 0),(1,1,Jk 1),(2,1,Jk 1),(3,1,Jk 1),(4,1,Jk 1),(5,1,Jk 0)]),Jo 139 (Jc 43 [.t 138])] [Jo 140 (Jc 44 [.t 137,Jk 2,.t 139]),Jm 136 140,Je 141 136 0,Je 142 136 1,Jm 12 141,Jm 13 142] [0,1,1] [7,8,9,10,12,13]) (Js [Jo 144 (.bsl [Jn 0] 4 1 [(0,1,Jk 0),(1,1,Jk 1),(2,1,Jk 1),(3,1,Jk 1)]),Jo 145 (Jc 43 [.t 144]),Jo 146 (Jc 46 [Jk 0,.t 145]),Jm 143 146,Je 147 143 0,Je 148 143 1,Jo 14 (.alloc 25 0 [Jn 0,Jn 0,.seq 0 [] true,.seq 0 [] true]),⟨none,none,.store 4 (.t 14) (.t 147)⟩,Jm 15 148] [7,8,9,10,12,13,15] (Js [Jo 150 (.bsl [Jn 0] 2 1 [(0,1,Jk 0),(1,1,Jk 1)]),Jo 151 (Jc 43 [.t 150]),Jo 152 (Jc 46 [Jk 9,.t 151]),Jm 149 152,Je 153 149 0,Je 154 149 1,Jo 16 (.alloc 25 0 [Jn 0,Jn 0,.seq 0 [] true,.seq 0 [] true]),⟨none,none,.store 4 (.t 16) (.t 153)⟩,Jm 17 154] [7,8,9,10,12,13,15,17] (Js [Jo 156 (Jc 46 [Jk 2,.k (.seq 0 [] true)]),Jm 155 156,Je 157 155 0,Je 158 155 1,Jo 18 (.alloc 25 0 [Jn 0,Jn 0,.seq 0 [] true,.seq 0 [] true]),⟨none,none,.store 4 (.t 18) (.t 157)⟩,Jm 19 158] [7,8,9,10,12,13,15,17,19] (Js [Jo 160 (.bsl [Jn 0] 2 1 [(0,1,Jk 0),(1,1,Jk 0)]),Jo 161 (Jc 43 [.t 160]),Jo 162 (Jc 46 [Jk 1,.t 161]),Jm 159 162,Je 163 159 0,Je 164 159 1,Jo 20 (.alloc 25 0 [Jn 0,Jn 0,.seq 0 [] true,.seq 0 [] true]),⟨none,none,.store 4 (.t 20) (.t 163)⟩,Jm 21 164] [7,8,9,10,12,13,15,17,19,20,21] (.seq (.draw [Jo 166 (.load (some 4) (.t 20)),Jo 167 (.bsl [Jn 0] 2 1 [(0,1,Jk 0),(1,1,Jk 0)]),Jo 168 (Jc 43 [.t 167])] [Jo 169 (Jc 44 [.t 166,Jk 1,.t 168]),Jm 165 169,Je 170 165 0,Je 171 165 1,Jm 22 170,Jm 23 171] [0,1,1] [7,8,9,10,12,13,15,17,19,21,22,23]) (Js [Jo 173 (.build [Jn 0,Jn 0,.seq 0 [] true,.seq 0 [] true] []),Jo 174 (.bsl [Jn 0] 2 1 [(0,1,Jk 0),(1,1,Jk 0)]),Jo 175 (Jc 43 [.t 174]),Jo 176 (Jc 44 [.t 173,Jk 1,.t 175]),Jm 172 176,Je 177 172 0,Je 178 172 1,Jm 24 177,Jm 25 178] [7,8,9,10,12,13,15,17,19,21,22,23,25] (Js [Jm 179 7,Jo 180 (.un .not (.t 179)),Jm 181 180,⟨some 182,some (181,true),.mov (.t 9)⟩,⟨some 183,some (181,true),.un .not (.t 182)⟩,Jo 184 (.pick (.t 181) (.t 183) (.k (.bool false))),Jm 185 184,⟨some 186,some (185,true),.mov (.t 12)⟩,⟨some 187,some (185,true),.un .not (.t 186)⟩,Jo 188 (.pick (.t 185) (.t 187) (.k (.bool false))),Jm 189 188,⟨some 190,some (189,true),.mov (.t 8)⟩,⟨some 191,some (189,true),.bin .eql (.t 190) (Jk 0)⟩,Jo 192 (.pick (.t 189) (.t 191) (.k (.bool false))),Jm 193 192,⟨some 194,some (193,true),.mov (.t 10)⟩,⟨some 195,some (193,true),.bin .eql (.t 194) (Jk 0)⟩,Jo 196 (.pick (.t 193) (.t 195) (.k (.bool false))),Jm 197 196,⟨some 198,some (197,true),.mov (.t 13)⟩,⟨some 199,some (197,true),.bin .eql (.t 198) (Jk 0)⟩,Jo 200 (.pick (.t 197) (.t 199) (.k (.bool false))),Jm 201 200,⟨some 202,some (201,true),.mov (.t 15)⟩,⟨some 203,some (201,true),.bin .eql (.t 202) (Jk 2)⟩,Jo 204 (.pick (.t 201) (.t 203) (.k (.bool false))),Jm 205 204,⟨some 206,some (205,true),.mov (.t 17)⟩,⟨some 207,some (205,true),.bin .eql (.t 206) (Jk 2)⟩,Jo 208 (.pick (.t 205) (.t 207) (.k (.bool false))),Jm 209 208,⟨some 210,some (209,true),.mov (.t 19)⟩,⟨some 211,some (209,true),.bin .eql (.t 210) (Jk 2)⟩,Jo 212 (.pick (.t 209) (.t 211) (.k (.bool false))),Jm 213 212,⟨some 214,some (213,true),.mov (.t 21)⟩,⟨some 215,some (213,true),.bin .eql (.t 214) (Jk 0)⟩,Jo 216 (.pick (.t 213) (.t 215) (.k (.bool false))),Jm 217 216,⟨some 218,some (217,true),.mov (.t 22)⟩,Jo 219 (.pick (.t 217) (.t 218) (.k (.bool false))),Jm 220 219,⟨some 221,some (220,true),.mov (.t 23)⟩,⟨some 222,some (220,true),.bin .eql (.t 221) (Jk 0)⟩,Jo 223 (.pick (.t 220) (.t 222) (.k (.bool false))),Jm 224 223,⟨some 225,some (224,true),.mov (.t 25)⟩,⟨some 226,some (224,true),.bin .eql (.t 225) (Jk 80)⟩,Jo 227 (.pick (.t 224) (.t 226) (.k (.bool false))),Jm 0 227] [0] .ret))))))))))))))))
def rs8:List RV:=[.t 0]
theorem enter8:EnT Tryd.prog 8 228 ac8 rs8:=Ent pl8 mixed Tryd.func8
end Go.Proofs.YtmndejlpfmmaiaaDoor.Fw
