/- The texts In Re Rf Rg Ri Rj Rk Rl Rm Rn Ro Io Rp Rq Rr Rs Rt Ru Rv Rw Ka Kn Kb Nb Sa Sb Sc Sd Se Sf Sh Nd Tb Ya Yb Yc Yd Ye Kf Kg Qn Qa Qb Eb, joined. -/
import Derived.Test.YtmndejlpfmmaiaaGreatDoorZ4
set_option linter.unusedSimpArgs false
set_option linter.unusedVariables false
namespace Go.Proofs.YtmndejlpfmmaiaaGreatDoor.Fw
open Go Go.Proofs.YtmndejlpfmmaiaaGreatDoor.Ma
set_option maxRecDepth 20000
def IntA(z:Int):AV:=.agg [.bool (decide (z<0)),LS (digs 4294967296 z.natAbs) true]
def sg(neg:Bool)(n:Nat):Int:=if neg then -(n:Int)else n
theorem sg_abs(neg:Bool)(n:Nat):(sg neg n).natAbs=n:=by cases neg<;>simp[sg]
theorem sg_neg(neg:Bool)(n:Nat):decide (sg neg n<0)=(neg&&decide (0<n)):=by cases neg<;>simp[sg]<;>omega
theorem sg_self(z:Int):sg (decide (z<0)) z.natAbs=z:=by unfold sg;by_cases h:z<0<;>simp[h];omega;omega
theorem abs_nn{z:Int}(h:0≤z):((z.natAbs:Nat):Int)=z:=by omega
theorem abs_np{z:Int}(h:z≤0): -((z.natAbs:Nat):Int)=z:=by omega
theorem IntA_sg(neg:Bool)(n:Nat):IntA (sg neg n)=.agg [.bool (neg&&decide (0<(digs 4294967296 n).length)),LS (digs 4294967296 n) true]:=by
 simp only[IntA,sg_abs,sg_neg,digs_pos_len (B:=4294967296) (n:=n) (by omega)]
def IntB(z:Int):AV:=.bool (decide (z<0))
def IntD(z:Int):AV:=LS (digs 4294967296 z.natAbs) true
theorem IntA_eq{z:Int}:IntA z=.agg [IntB z,IntD z]:=id rfl
theorem cells_IntA{z:Int}:(IntA z).cells=some [IntB z,IntD z]:=id rfl
theorem fold_IntA{z:Int}:AV.agg [IntB z,IntD z]=IntA z:=id rfl
theorem IntA_0:AV.agg [.bool false,.seq 0 [] true]=IntA 0:=by simp[IntA,digs_zero,LS,U]
theorem cell_IntB{z:Int}:(IntB z).cells=some [IntB z]:=id rfl
theorem cell_IntD{z:Int}:(IntD z).cells=some [IntD z]:=id rfl
theorem cell_Bool{z:Int}:(IntB z).cell=true:=id rfl
theorem cell_Dool{z:Int}:(IntD z).cell=true:=id rfl
theorem made_fn(neg:Bool)(n:Nat)(hl:(digs 4294967296 n).length≤1099511627776):PFn Tryz.prog 161 [.bool neg,LS (digs 4294967296 n) true] (IntA (sg neg n)):=by
 intro H Q hq
 refine enter161 (by simp) ?_
 rw[IntA_sg]at hq
 simp(disch:=first|exact Xe|fail)only[ac161,↓Xa,Xb,Xc,↓reduceIte,Nat.reduceLT,Nat.reduceEqDiff,Nat.reduceBEq,Nat.reduceLeDiff,Nat.reduceAdd,Nat.reduceMul]
 refine alloc_i fun p hp=>?_
 cases neg
 ·simp(disch:=first|exact Xe|fail)only[rs161,↓Xa,Xb,Xc,↓reduceIte,Nat.reduceLT,Nat.reduceEqDiff,Nat.reduceBEq,Nat.reduceLeDiff,Nat.reduceAdd,Nat.reduceMul]
  exact SetR.dropTo ((Le.refl H).upd hp) (SetR.now hq)
 ·simp(disch:=first|exact Xe|fail)only[rs161,↓Xa,Xb,Xc,↓reduceIte,Nat.reduceLT,Nat.reduceEqDiff,Nat.reduceBEq,Nat.reduceLeDiff,Nat.reduceAdd,Nat.reduceMul]
  exact SetR.dropTo ((Le.refl H).upd hp) (SetR.now hq)
def Bd(k:Nat)(z:Int):Prop:=z.natAbs<4294967296^k
theorem Bd.len{k:Nat}{z:Int}(h:Bd k z):(digs 4294967296 z.natAbs).length≤k:=digs_len (by omega) k _ h
theorem Bd.mono{k k':Nat}{z:Int}(h:Bd k z)(hk:k≤k'):Bd k' z:=Nat.lt_of_lt_of_le h (Nat.pow_le_pow_right (by omega) hk)
theorem Bd.neg{k:Nat}{z:Int}(h:Bd k z):Bd k (-z):=by unfold Bd at *; omega
theorem Bd.sgn{k n:Nat}{b:Bool}(h:n<4294967296^k):Bd k (sg b n):=by unfold Bd;rw[sg_abs];exact h
theorem Bd.abs{k:Nat}{z:Int}(h:Bd k z):Bd k (z.natAbs:Int):=by unfold Bd at *; omega
theorem Bd.add{k:Nat}{x y:Int}(h:Bd k x)(h':Bd k y):Bd (k+1) (x+y):=by
 unfold Bd at *; rw[Nat.pow_succ];omega
theorem Bd.sub{k:Nat}{x y:Int}(h:Bd k x)(h':Bd k y):Bd (k+1) (x-y):=by
 unfold Bd at *; rw[Nat.pow_succ];omega
theorem Bd.mul{k k':Nat}{x y:Int}(h:Bd k x)(h':Bd k' y):Bd (k+k') (x*y):=by
 unfold Bd at *; rw[Int.natAbs_mul,Nat.pow_add]
 exact Nat.mul_lt_mul_of_lt_of_lt h h'
theorem Bd.zero(k:Nat):Bd k 0:=by unfold Bd;exact Nat.pow_pos (by omega)
theorem Bd.i64{n:Int}(h: -9223372036854775808≤n∧n<9223372036854775808):Bd 2 n:=by unfold Bd;omega
theorem make_fn{l:List Nat}(neg t:Bool)(hl:Lim 4294967296 l)(hn:l.length≤1099511627776):PFn Tryz.prog 98 [.bool neg,LS l t] (IntA (sg neg (val 4294967296 l))):=by
 intro H Q hq
 refine enter98 (by simp) ?_
 simp(disch:=first|exact Xe|fail)only[ac98,↓Xa,Xb,Xc,↓reduceIte,Nat.reduceLT,Nat.reduceEqDiff,Nat.reduceBEq,Nat.reduceLeDiff,Nat.reduceAdd,Nat.reduceMul]
 refine alloc_i fun p hp=>?_
 simp(disch:=first|exact Xe|fail)only[↓Xa,Xb,Xc,↓reduceIte,Nat.reduceLT,Nat.reduceEqDiff,Nat.reduceBEq,Nat.reduceLeDiff,Nat.reduceAdd,Nat.reduceMul]
 refine(norm_fn t (by omega)).call ?_
 rw[tr_digs (by omega) hl]
 simp(disch:=first|exact Xe|fail)only[↓Xa,Xb,Xc,↓reduceIte,Nat.reduceLT,Nat.reduceEqDiff,Nat.reduceBEq,Nat.reduceLeDiff,Nat.reduceAdd,Nat.reduceMul]
 refine(made_fn neg _ (by have:=tr_len l;rw[tr_digs (by omega) hl]at this;omega)).call ?_
 simp(disch:=first|exact Xe|fail)only[rs98,IntA,↓Xa,Xb,Xc,↓reduceIte,Nat.reduceLT,Nat.reduceEqDiff,Nat.reduceBEq,Nat.reduceLeDiff,Nat.reduceAdd,Nat.reduceMul]
 exact SetR.dropTo ((Le.refl H).upd hp) (SetR.now hq)
theorem of_fn{n:Int}(hn: -9223372036854775808≤n∧n<9223372036854775808):PFn Tryz.prog 31 [.int .i64 n] (IntA n):=by
 intro H Q hq
 refine enter31 (by simp) ?_
 have v2: ∀u:Nat,u<18446744073709551616→val 4294967296 [u%4294967296,u / 2^32]=u:=by
  intro u hu;simp only[val];omega
 have l2: ∀u:Nat,u<18446744073709551616→Lim 4294967296 [u%4294967296,u / 2^32]:=fun u hu=>Lim.cons (Nat.mod_lt _ (by omega)) (Lim.one (by omega))
 simp(disch:=first|exact Xe|fail)only[ac31,↓Xa,Xb,Xc,↓reduceIte,Nat.reduceLT,Nat.reduceEqDiff,Nat.reduceBEq,Nat.reduceLeDiff,Nat.reduceAdd,Nat.reduceMul]
 refine alloc_i fun p hp=>?_
 have key': ∀(u:Nat)(neg:Bool),u<18446744073709551616→sg neg u=n→∀{H K},K (IntA n) H→callW Tryz.prog (.fn (.func 98) [] []) [.bool neg,.seq 2 [.int .u32 ((u%4294967296:Nat):Int),.int .u32 ((u / 2^32:Nat):Int)] true] H K:=by
  intro u neg hu hs H K hk
  have:=make_fn neg true (l2 u hu) (by simp)
  rw[v2 u hu,hs]at this
  exact this.call hk
 by_cases h0:n<0
 ·obtain⟨m,rfl⟩: ∃m:Nat,n= -(m:Int):=⟨n.natAbs,by omega⟩
  have c1: ∀K,convW .u64 (.int .i64 (-(m:Int))) K↔K (.int .u64 ((18446744073709551616-m:Nat):Int)):=fun K=>by
   simp only[convW,wmod_u64];rw[show(-(m:Int))%18446744073709551616=((18446744073709551616-m:Nat):Int) by omega]
  have c2: ∀K,unW .neg (.int .u64 ((18446744073709551616-m:Nat):Int)) K↔K (.int .u64 (m:Int)):=fun K=>by
   simp only[unW,wmod_u64];rw[show(0-((18446744073709551616-m:Nat):Int))%18446744073709551616=(m:Int) by omega]
  have c3: ∀K,binW .lss (.int .i64 (-(m:Int))) (.int .i64 ((0:Nat):Int)) K↔K (.bool true):=fun K=>by
   simp only[binW,binInt,true_and];rw[decide_eq_true (by omega)]
  simp(disch:=first|exact Xe|fail)only[c1,c2,c3,↓Xa,Xb,Xc,↓reduceIte,Nat.reduceLT,Nat.reduceEqDiff,Nat.reduceBEq,Nat.reduceLeDiff,Nat.reduceAdd,Nat.reduceMul]
  refine key' m true (by omega) (by simp[sg]) ?_
  simp(disch:=first|exact Xe|fail)only[rs31,IntA,↓Xa,Xb,Xc,↓reduceIte,Nat.reduceLT,Nat.reduceEqDiff,Nat.reduceBEq,Nat.reduceLeDiff,Nat.reduceAdd,Nat.reduceMul]
  exact SetR.dropTo ((Le.refl H).upd hp) (SetR.now hq)
 ·obtain⟨m,rfl⟩: ∃m:Nat,n=(m:Int):=⟨n.natAbs,by omega⟩
  simp(disch:=first|exact Xe|fail)only[↓Xa,Xb,Xc,↓reduceIte,Nat.reduceLT,Nat.reduceEqDiff,Nat.reduceBEq,Nat.reduceLeDiff,Nat.reduceAdd,Nat.reduceMul]
  refine key' m false (by omega) (by simp[sg]) ?_
  simp(disch:=first|exact Xe|fail)only[rs31,IntA,↓Xa,Xb,Xc,↓reduceIte,Nat.reduceLT,Nat.reduceEqDiff,Nat.reduceBEq,Nat.reduceLeDiff,Nat.reduceAdd,Nat.reduceMul]
  exact SetR.dropTo ((Le.refl H).upd hp) (SetR.now hq)
theorem neg_fn{x:Int}{k:Nat}(hx:Bd k x)(hk:k≤549755813888):PFn Tryz.prog 149 [IntA x] (IntA (-x)):=by
 intro H Q hq
 have hl:=hx.len
 have e: -x=sg (!decide (x<0)) x.natAbs:=by unfold sg;by_cases h:x<0<;>simp[h]<;>omega
 rw[e]at hq
 refine enter149 (by simp) ?_
 simp(disch:=first|exact Xe|fail)only[ac149,IntA,↓Xa,Xb,Xc,↓reduceIte,Nat.reduceLT,Nat.reduceEqDiff,Nat.reduceBEq,Nat.reduceLeDiff,Nat.reduceAdd,Nat.reduceMul]
 refine alloc_i fun p hp=>?_
 simp(disch:=first|exact Xe|fail)only[↓Xa,Xb,Xc,↓reduceIte,Nat.reduceLT,Nat.reduceEqDiff,Nat.reduceBEq,Nat.reduceLeDiff,Nat.reduceAdd,Nat.reduceMul]
 refine alloc_i fun p2 hp2=>?_
 have hne:=(upd_none.1 hp2).1
 simp(disch:=first|exact Xe|fail)only[↓Xa,Xb,Xc,↓reduceIte,Nat.reduceLT,Nat.reduceEqDiff,Nat.reduceBEq,Nat.reduceLeDiff,Nat.reduceAdd,Nat.reduceMul]
 refine(made_fn _ _ (by omega)).call ?_
 simp(disch:=first|exact Xe|fail)only[rs149,IntA,↓Xa,Xb,Xc,↓reduceIte,Nat.reduceLT,Nat.reduceEqDiff,Nat.reduceBEq,Nat.reduceLeDiff,Nat.reduceAdd,Nat.reduceMul]
 exact SetR.dropTo (((Le.refl H).upd hp).upd hp2) (SetR.now hq)
theorem abs_fn{x:Int}{k:Nat}(hx:Bd k x)(hk:k≤549755813888):PFn Tryz.prog 188 [IntA x] (IntA (x.natAbs:Int)):=by
 intro H Q hq
 have hl:=hx.len
 refine enter188 (by simp) ?_
 simp(disch:=first|exact Xe|fail)only[ac188,IntA,↓Xa,Xb,Xc,↓reduceIte,Nat.reduceLT,Nat.reduceEqDiff,Nat.reduceBEq,Nat.reduceLeDiff,Nat.reduceAdd,Nat.reduceMul]
 refine alloc_i fun p hp=>?_
 simp(disch:=first|exact Xe|fail)only[↓Xa,Xb,Xc,↓reduceIte,Nat.reduceLT,Nat.reduceEqDiff,Nat.reduceBEq,Nat.reduceLeDiff,Nat.reduceAdd,Nat.reduceMul]
 refine alloc_i fun p2 hp2=>?_
 have hne:=(upd_none.1 hp2).1
 simp(disch:=first|exact Xe|fail)only[↓Xa,Xb,Xc,↓reduceIte,Nat.reduceLT,Nat.reduceEqDiff,Nat.reduceBEq,Nat.reduceLeDiff,Nat.reduceAdd,Nat.reduceMul]
 refine(made_fn false _ (by omega)).call ?_
 simp(disch:=first|exact Xe|fail)only[rs188,IntA,↓Xa,Xb,Xc,↓reduceIte,Nat.reduceLT,Nat.reduceEqDiff,Nat.reduceBEq,Nat.reduceLeDiff,Nat.reduceAdd,Nat.reduceMul]
 exact SetR.dropTo (((Le.refl H).upd hp).upd hp2) (SetR.now (by simpa[IntA,sg]using hq))
def sgnI(x:Int):Int:=if x=0 then((0:Nat):Int)else if x<0 then -1 else((1:Nat):Int)
theorem sign_fn{x:Int}{k:Nat}(hx:Bd k x)(hk:k≤549755813888):PFn Tryz.prog 52 [IntA x] (.int .i64 (sgnI x)):=by
 intro H Q hq
 have hl:=hx.len
 have h0:=digs_len0 (B:=4294967296) (n:=x.natAbs) (by omega)
 refine enter52 (by simp) ?_
 simp(disch:=first|exact Xe|fail)only[ac52,IntA,↓Xa,Xb,Xc,↓reduceIte,Nat.reduceLT,Nat.reduceEqDiff,Nat.reduceBEq,Nat.reduceLeDiff,Nat.reduceAdd,Nat.reduceMul]
 refine alloc_i fun p hp=>?_
 by_cases hz:x=0
 ·have h1:(digs 4294967296 x.natAbs).length=0:=by rw[h0];omega
  simp(disch:=first|exact Xe|fail)only[rs52,h1,↓Xa,Xb,Xc,↓reduceIte,Nat.reduceLT,Nat.reduceEqDiff,Nat.reduceBEq,Nat.reduceLeDiff,Nat.reduceAdd,Nat.reduceMul]
  refine SetR.dropTo ((Le.refl H).upd hp) (SetR.now ?_)
  simpa[sgnI,hz]using hq
 ·have h1:((digs 4294967296 x.natAbs).length=0)=False:=by rw[h0];simp;omega
  by_cases hn:x<0
  ·simp(disch:=first|exact Xe|fail)only[rs52,h1,hn,↓Xa,Xb,Xc,↓reduceIte,Nat.reduceLT,Nat.reduceEqDiff,Nat.reduceBEq,Nat.reduceLeDiff,Nat.reduceAdd,Nat.reduceMul]
   refine SetR.dropTo ((Le.refl H).upd hp) (SetR.now ?_)
   simpa[sgnI,hz,hn]using hq
  ·simp(disch:=first|exact Xe|fail)only[rs52,h1,hn,↓Xa,Xb,Xc,↓reduceIte,Nat.reduceLT,Nat.reduceEqDiff,Nat.reduceBEq,Nat.reduceLeDiff,Nat.reduceAdd,Nat.reduceMul]
   refine SetR.dropTo ((Le.refl H).upd hp) (SetR.now ?_)
   simpa[sgnI,hz,hn]using hq
def cmpI(x y:Int):Int:=if x<y then -1 else if y<x then((1:Nat):Int)else((0:Nat):Int)
theorem cmpi_fn{x y:Int}{k k':Nat}(hx:Bd k x)(hk:k≤549755813888)(hy:Bd k' y)(hk':k'≤549755813888):PFn Tryz.prog 46 [IntA x,IntA y] (.int .i64 (cmpI x y)):=by
 intro H Q hq
 have hl:=hx.len
 have hl':=hy.len
 have vx:=val_digs (B:=4294967296) (by omega) x.natAbs
 have vy:=val_digs (B:=4294967296) (by omega) y.natAbs
 have lx:=lim_digs (B:=4294967296) (by omega) x.natAbs
 have ly:=lim_digs (B:=4294967296) (by omega) y.natAbs
 refine enter46 (by simp) ?_
 simp(disch:=first|exact Xe|fail)only[ac46,IntA,↓Xa,Xb,Xc,↓reduceIte,Nat.reduceLT,Nat.reduceEqDiff,Nat.reduceBEq,Nat.reduceLeDiff,Nat.reduceAdd,Nat.reduceMul]
 refine alloc_i fun p hp=>?_
 simp(disch:=first|exact Xe|fail)only[↓Xa,Xb,Xc,↓reduceIte,Nat.reduceLT,Nat.reduceEqDiff,Nat.reduceBEq,Nat.reduceLeDiff,Nat.reduceAdd,Nat.reduceMul]
 refine alloc_i fun p2 hp2=>?_
 have hne:=(upd_none.1 hp2).1
 have fin: ∀v,cmpI x y=v→SetR Q (.int .i64 v) ((H.upd p (some (.row 48 0 [.bool (decide (x<0)),LS (digs 4294967296 x.natAbs) true]))).upd p2 (some (.row 48 0 [.bool (decide (y<0)),LS (digs 4294967296 y.natAbs) true]))):=fun v hv=>SetR.dropTo (((Le.refl H).upd hp).upd hp2) (SetR.now (hv▸hq))
 by_cases hn:x<0
 ·by_cases hn':y<0
  ·simp(disch:=first|exact Xe|fail)only[hn,hn',↓Xa,Xb,Xc,↓reduceIte,Nat.reduceLT,Nat.reduceEqDiff,Nat.reduceBEq,Nat.reduceLeDiff,Nat.reduceAdd,Nat.reduceMul]
   refine(cmp_fn true true ly lx).call ?_
   rw[vx,vy]
   have:cmpI x y=cmpZ y.natAbs x.natAbs:=by unfold cmpI cmpZ;split<;>split<;>first|rfl|omega|(split<;>first|rfl|omega|(split<;>first|rfl|omega))
   simp only[hn,hn',decide_true]at fin
   simp(disch:=first|exact Xe|fail)only[rs46,↓Xa,Xb,Xc,↓reduceIte,Nat.reduceLT,Nat.reduceEqDiff,Nat.reduceBEq,Nat.reduceLeDiff,Nat.reduceAdd,Nat.reduceMul]
   exact fin _ this
  ·simp(disch:=first|exact Xe|fail)only[hn,hn',rs46,↓Xa,Xb,Xc,↓reduceIte,Nat.reduceLT,Nat.reduceEqDiff,Nat.reduceBEq,Nat.reduceLeDiff,Nat.reduceAdd,Nat.reduceMul]
   simp only[hn,hn',decide_true,decide_false]at fin
   exact fin _ (by unfold cmpI;rw[if_pos (by omega)])
 ·by_cases hn':y<0
  ·simp(disch:=first|exact Xe|fail)only[hn,hn',rs46,↓Xa,Xb,Xc,↓reduceIte,Nat.reduceLT,Nat.reduceEqDiff,Nat.reduceBEq,Nat.reduceLeDiff,Nat.reduceAdd,Nat.reduceMul]
   simp only[hn,hn',decide_true,decide_false]at fin
   exact fin _ (by unfold cmpI;rw[if_neg (by omega),if_pos (by omega)])
  ·simp(disch:=first|exact Xe|fail)only[hn,hn',↓Xa,Xb,Xc,↓reduceIte,Nat.reduceLT,Nat.reduceEqDiff,Nat.reduceBEq,Nat.reduceLeDiff,Nat.reduceAdd,Nat.reduceMul]
   refine(cmp_fn true true lx ly).call ?_
   rw[vx,vy]
   have:cmpI x y=cmpZ x.natAbs y.natAbs:=by unfold cmpI cmpZ;split<;>split<;>first|rfl|omega|(split<;>first|rfl|omega|(split<;>first|rfl|omega))
   simp only[hn,hn',decide_false]at fin
   simp(disch:=first|exact Xe|fail)only[rs46,↓Xa,Xb,Xc,↓reduceIte,Nat.reduceLT,Nat.reduceEqDiff,Nat.reduceBEq,Nat.reduceLeDiff,Nat.reduceAdd,Nat.reduceMul]
   exact fin _ this
theorem addi_fn{x y:Int}{k k':Nat}(hx:Bd k x)(hk:k≤549755813888)(hy:Bd k' y)(hk':k'≤549755813888):PFn Tryz.prog 138 [IntA x,IntA y] (IntA (x+y)):=by
 intro H Q hq
 have hl:=hx.len
 have hl':=hy.len
 have vx:=val_digs (B:=4294967296) (by omega) x.natAbs
 have vy:=val_digs (B:=4294967296) (by omega) y.natAbs
 have lx:=lim_digs (B:=4294967296) (by omega) x.natAbs
 have ly:=lim_digs (B:=4294967296) (by omega) y.natAbs
 have hxm:=hx.mono (Nat.le_max_left k k')
 have hym:=hy.mono (Nat.le_max_right k k')
 refine enter138 (by simp) ?_
 simp(disch:=first|exact Xe|fail)only[ac138,IntA,↓Xa,Xb,Xc,↓reduceIte,Nat.reduceLT,Nat.reduceEqDiff,Nat.reduceBEq,Nat.reduceLeDiff,Nat.reduceAdd,Nat.reduceMul]
 refine alloc_i fun p hp=>?_
 simp(disch:=first|exact Xe|fail)only[↓Xa,Xb,Xc,↓reduceIte,Nat.reduceLT,Nat.reduceEqDiff,Nat.reduceBEq,Nat.reduceLeDiff,Nat.reduceAdd,Nat.reduceMul]
 refine alloc_i fun p2 hp2=>?_
 simp(disch:=first|exact Xe|fail)only[↓Xa,Xb,Xc,↓reduceIte,Nat.reduceLT,Nat.reduceEqDiff,Nat.reduceBEq,Nat.reduceLeDiff,Nat.reduceAdd,Nat.reduceMul]
 refine alloc_i fun p3 hp3=>?_
 have hne:=(upd_none.1 hp2).1
 have hne3:=(upd_none.1 hp3).1
 have hne4:=(upd_none.1 (upd_none.1 hp3).2).1
 by_cases hs:decide (x<0)=decide (y<0)
 ·have hsb:(decide (x<0)==decide (y<0))=true:=by rw[hs];simp
  simp(disch:=first|exact Xe|fail)only[hsb,↓Xa,Xb,Xc,↓reduceIte,Nat.reduceLT,Nat.reduceEqDiff,Nat.reduceBEq,Nat.reduceLeDiff,Nat.reduceAdd,Nat.reduceMul]
  refine PFn.dcall (add_fn true true lx ly (by omega) (by omega)) ?_
  rw[vx,vy]
  simp(disch:=first|exact Xe|fail)only[↓Xa,Xb,Xc,↓reduceIte,Nat.reduceLT,Nat.reduceEqDiff,Nat.reduceBEq,Nat.reduceLeDiff,Nat.reduceAdd,Nat.reduceMul]
  have hb:Bd (max k k'+1) (sg (decide (x<0)) (x.natAbs+y.natAbs)):=Bd.sgn (by unfold Bd at hxm hym;rw[Nat.pow_succ];omega)
  have hb':=hb.len
  rw[sg_abs]at hb'
  refine(made_fn _ _ (by omega)).call ?_
  simp(disch:=first|exact Xe|fail)only[rs138,IntA,↓Xa,Xb,Xc,↓reduceIte,Nat.reduceLT,Nat.reduceEqDiff,Nat.reduceBEq,Nat.reduceLeDiff,Nat.reduceAdd,Nat.reduceMul]
  have e:x+y=sg (decide (x<0)) (x.natAbs+y.natAbs):=by
   have:=decide_eq_decide.1 hs
   unfold sg;by_cases h:x<0<;>simp[h]<;>omega
  rw[e]at hq
  exact SetR.dropTo ((((Le.refl H).upd hp).upd hp2).upd hp3) (SetR.now hq)
 ·have hsb:(decide (x<0)==decide (y<0))=false:=by simpa using hs
  have hs': ¬((x<0)↔(y<0)):=fun h=>hs (decide_eq_decide.2 h)
  simp(disch:=first|exact Xe|fail)only[hsb,↓Xa,Xb,Xc,↓reduceIte,Nat.reduceLT,Nat.reduceEqDiff,Nat.reduceBEq,Nat.reduceLeDiff,Nat.reduceAdd,Nat.reduceMul]
  refine(cmp_fn true true lx ly).call ?_
  rw[vx,vy]
  by_cases hc:x.natAbs<y.natAbs
  ·have c3: ∀K,binW .lss (.int .i64 (cmpZ x.natAbs y.natAbs)) (.int .i64 ((0:Nat):Int)) K↔K (.bool true):=fun K=>by
    simp[binW,binInt,cmpZ,hc]
   simp(disch:=first|exact Xe|fail)only[c3,↓Xa,Xb,Xc,↓reduceIte,Nat.reduceLT,Nat.reduceEqDiff,Nat.reduceBEq,Nat.reduceLeDiff,Nat.reduceAdd,Nat.reduceMul]
   refine(sub_fn true true ly lx (by rw[vx,vy];omega) (by omega) (by omega)).call ?_
   rw[vx,vy]
   simp(disch:=first|exact Xe|fail)only[↓Xa,Xb,Xc,↓reduceIte,Nat.reduceLT,Nat.reduceEqDiff,Nat.reduceBEq,Nat.reduceLeDiff,Nat.reduceAdd,Nat.reduceMul]
   have hb:Bd k' (sg (decide (y<0)) (y.natAbs-x.natAbs)):=Bd.sgn (by unfold Bd at hy;omega)
   have hb':=hb.len
   rw[sg_abs]at hb'
   refine(made_fn _ _ (by omega)).call ?_
   simp(disch:=first|exact Xe|fail)only[rs138,IntA,↓Xa,Xb,Xc,↓reduceIte,Nat.reduceLT,Nat.reduceEqDiff,Nat.reduceBEq,Nat.reduceLeDiff,Nat.reduceAdd,Nat.reduceMul]
   have e:x+y=sg (decide (y<0)) (y.natAbs-x.natAbs):=by
    unfold sg;by_cases h:y<0<;>simp[h]<;>omega
   rw[e]at hq
   exact SetR.dropTo ((((Le.refl H).updB hp).updB (upd_none.1 hp2).2).updB (upd_none.1 (upd_none.1 hp3).2).2) (SetR.now hq)
  ·have c3: ∀K,binW .lss (.int .i64 (cmpZ x.natAbs y.natAbs)) (.int .i64 ((0:Nat):Int)) K↔K (.bool false):=fun K=>by
    have: ¬(cmpZ x.natAbs y.natAbs<0):=by unfold cmpZ;rw[if_neg hc];split<;>omega
    simp[binW,binInt];rw[decide_eq_false this]
   simp(disch:=first|exact Xe|fail)only[c3,↓Xa,Xb,Xc,↓reduceIte,Nat.reduceLT,Nat.reduceEqDiff,Nat.reduceBEq,Nat.reduceLeDiff,Nat.reduceAdd,Nat.reduceMul]
   refine(sub_fn true true lx ly (by rw[vx,vy];omega) (by omega) (by omega)).call ?_
   rw[vx,vy]
   simp(disch:=first|exact Xe|fail)only[↓Xa,Xb,Xc,↓reduceIte,Nat.reduceLT,Nat.reduceEqDiff,Nat.reduceBEq,Nat.reduceLeDiff,Nat.reduceAdd,Nat.reduceMul]
   have hb:Bd k (sg (decide (x<0)) (x.natAbs-y.natAbs)):=Bd.sgn (by unfold Bd at hx;omega)
   have hb':=hb.len
   rw[sg_abs]at hb'
   refine(made_fn _ _ (by omega)).call ?_
   simp(disch:=first|exact Xe|fail)only[rs138,IntA,↓Xa,Xb,Xc,↓reduceIte,Nat.reduceLT,Nat.reduceEqDiff,Nat.reduceBEq,Nat.reduceLeDiff,Nat.reduceAdd,Nat.reduceMul]
   have e:x+y=sg (decide (x<0)) (x.natAbs-y.natAbs):=by
    unfold sg;by_cases h:x<0<;>simp[h]<;>omega
   rw[e]at hq
   exact SetR.dropTo ((((Le.refl H).upd hp).upd hp2).upd hp3) (SetR.now hq)
theorem subi_fn{x y:Int}{k k':Nat}(hx:Bd k x)(hk:k≤549755813888)(hy:Bd k' y)(hk':k'≤549755813888):PFn Tryz.prog 150 [IntA x,IntA y] (IntA (x-y)):=by
 intro H Q hq
 refine enter150 (by simp) ?_
 simp(disch:=first|exact Xe|fail)only[ac150,IntA,↓Xa,Xb,Xc,↓reduceIte,Nat.reduceLT,Nat.reduceEqDiff,Nat.reduceBEq,Nat.reduceLeDiff,Nat.reduceAdd,Nat.reduceMul]
 refine alloc_i fun p hp=>?_
 simp(disch:=first|exact Xe|fail)only[↓Xa,Xb,Xc,↓reduceIte,Nat.reduceLT,Nat.reduceEqDiff,Nat.reduceBEq,Nat.reduceLeDiff,Nat.reduceAdd,Nat.reduceMul]
 refine alloc_i fun p2 hp2=>?_
 simp(disch:=first|exact Xe|fail)only[↓Xa,Xb,Xc,↓reduceIte,Nat.reduceLT,Nat.reduceEqDiff,Nat.reduceBEq,Nat.reduceLeDiff,Nat.reduceAdd,Nat.reduceMul]
 refine alloc_i fun p3 hp3=>?_
 have hne:=(upd_none.1 hp2).1
 have hne3:=(upd_none.1 hp3).1
 have hne4:=(upd_none.1 (upd_none.1 hp3).2).1
 simp(disch:=first|exact Xe|fail)only[↓Xa,Xb,Xc,↓reduceIte,Nat.reduceLT,Nat.reduceEqDiff,Nat.reduceBEq,Nat.reduceLeDiff,Nat.reduceAdd,Nat.reduceMul]
 refine PFn.dcall (neg_fn hy hk') ?_
 simp(disch:=first|exact Xe|fail)only[↓Xa,Xb,Xc,↓reduceIte,Nat.reduceLT,Nat.reduceEqDiff,Nat.reduceBEq,Nat.reduceLeDiff,Nat.reduceAdd,Nat.reduceMul]
 refine(addi_fn hx hk hy.neg hk').call ?_
 simp(disch:=first|exact Xe|fail)only[rs150,IntA,↓Xa,Xb,Xc,↓reduceIte,Nat.reduceLT,Nat.reduceEqDiff,Nat.reduceBEq,Nat.reduceLeDiff,Nat.reduceAdd,Nat.reduceMul]
 exact SetR.dropTo ((((Le.refl H).upd hp).upd hp2).upd hp3) (SetR.now hq)
theorem muli_fn{x y:Int}{k k':Nat}(hx:Bd k x)(hk:k≤549755813888)(hy:Bd k' y)(hk':k'≤549755813888):PFn Tryz.prog 121 [IntA x,IntA y] (IntA (x*y)):=by
 intro H Q hq
 have hl:=hx.len
 have hl':=hy.len
 have vx:=val_digs (B:=4294967296) (by omega) x.natAbs
 have vy:=val_digs (B:=4294967296) (by omega) y.natAbs
 have lx:=lim_digs (B:=4294967296) (by omega) x.natAbs
 have ly:=lim_digs (B:=4294967296) (by omega) y.natAbs
 have hb:=(hx.mul hy).len
 refine enter121 (by simp) ?_
 simp(disch:=first|exact Xe|fail)only[ac121,IntA,↓Xa,Xb,Xc,↓reduceIte,Nat.reduceLT,Nat.reduceEqDiff,Nat.reduceBEq,Nat.reduceLeDiff,Nat.reduceAdd,Nat.reduceMul]
 refine alloc_i fun p hp=>?_
 simp(disch:=first|exact Xe|fail)only[↓Xa,Xb,Xc,↓reduceIte,Nat.reduceLT,Nat.reduceEqDiff,Nat.reduceBEq,Nat.reduceLeDiff,Nat.reduceAdd,Nat.reduceMul]
 refine alloc_i fun p2 hp2=>?_
 simp(disch:=first|exact Xe|fail)only[↓Xa,Xb,Xc,↓reduceIte,Nat.reduceLT,Nat.reduceEqDiff,Nat.reduceBEq,Nat.reduceLeDiff,Nat.reduceAdd,Nat.reduceMul]
 refine alloc_i fun p3 hp3=>?_
 have hne:=(upd_none.1 hp2).1
 have hne3:=(upd_none.1 hp3).1
 have hne4:=(upd_none.1 (upd_none.1 hp3).2).1
 simp(disch:=first|exact Xe|fail)only[↓Xa,Xb,Xc,↓reduceIte,Nat.reduceLT,Nat.reduceEqDiff,Nat.reduceBEq,Nat.reduceLeDiff,Nat.reduceAdd,Nat.reduceMul]
 refine PFn.dcall (mul_fn true true lx ly (by omega) (by omega)) ?_
 rw[vx,vy]
 simp(disch:=first|exact Xe|fail)only[↓Xa,Xb,Xc,↓reduceIte,Nat.reduceLT,Nat.reduceEqDiff,Nat.reduceBEq,Nat.reduceLeDiff,Nat.reduceAdd,Nat.reduceMul]
 rw[Int.natAbs_mul]at hb
 refine(made_fn _ _ (by omega)).call ?_
 have e:sg (!(decide (x<0)==decide (y<0))) (x.natAbs*y.natAbs)=x*y:=by
  rw[← Int.natAbs_mul]
  unfold sg
  by_cases h:x<0<;>by_cases h':y<0<;>simp[h,h']
  ·rw[abs_nn (Int.mul_nonneg_of_nonpos_of_nonpos (by omega) (by omega))]
  ·rw[abs_np (Int.mul_nonpos_of_nonpos_of_nonneg (by omega) (by omega))]
  ·rw[abs_np (Int.mul_nonpos_of_nonneg_of_nonpos (by omega) (by omega))]
  ·rw[abs_nn (Int.mul_nonneg (by omega) (by omega))]
 rw[e]
 simp(disch:=first|exact Xe|fail)only[rs121,IntA,↓Xa,Xb,Xc,↓reduceIte,Nat.reduceLT,Nat.reduceEqDiff,Nat.reduceBEq,Nat.reduceLeDiff,Nat.reduceAdd,Nat.reduceMul]
 exact SetR.dropTo ((((Le.refl H).upd hp).upd hp2).upd hp3) (SetR.now hq)
theorem timesi_fn{x n:Int}{k:Nat}(hx:Bd k x)(hk:k≤549755813888)(hn: -9223372036854775808≤n∧n<9223372036854775808):PFn Tryz.prog 170 [IntA x,.int .i64 n] (IntA (x*n)):=by
 intro H Q hq
 refine enter170 (by simp) ?_
 simp(disch:=first|exact Xe|fail)only[ac170,IntA,↓Xa,Xb,Xc,↓reduceIte,Nat.reduceLT,Nat.reduceEqDiff,Nat.reduceBEq,Nat.reduceLeDiff,Nat.reduceAdd,Nat.reduceMul]
 refine alloc_i fun p hp=>?_
 simp(disch:=first|exact Xe|fail)only[↓Xa,Xb,Xc,↓reduceIte,Nat.reduceLT,Nat.reduceEqDiff,Nat.reduceBEq,Nat.reduceLeDiff,Nat.reduceAdd,Nat.reduceMul]
 refine alloc_i fun p2 hp2=>?_
 have hne:=(upd_none.1 hp2).1
 simp(disch:=first|exact Xe|fail)only[↓Xa,Xb,Xc,↓reduceIte,Nat.reduceLT,Nat.reduceEqDiff,Nat.reduceBEq,Nat.reduceLeDiff,Nat.reduceAdd,Nat.reduceMul]
 refine PFn.dcall (of_fn hn) ?_
 simp(disch:=first|exact Xe|fail)only[↓Xa,Xb,Xc,↓reduceIte,Nat.reduceLT,Nat.reduceEqDiff,Nat.reduceBEq,Nat.reduceLeDiff,Nat.reduceAdd,Nat.reduceMul]
 refine(muli_fn hx hk (Bd.i64 hn) (by omega)).call ?_
 simp(disch:=first|exact Xe|fail)only[rs170,IntA,↓Xa,Xb,Xc,↓reduceIte,Nat.reduceLT,Nat.reduceEqDiff,Nat.reduceBEq,Nat.reduceLeDiff,Nat.reduceAdd,Nat.reduceMul]
 exact SetR.dropTo (((Le.refl H).upd hp).upd hp2) (SetR.now hq)
def RefA(z:Int)(t:Bool):AV:=.agg [.bool (decide (z<0)),LS (digs 65536 z.natAbs) t]
theorem RefA_sg(neg:Bool)(n:Nat)(t:Bool):RefA (sg neg n) t=.agg [.bool (neg&&decide (0<(digs 65536 n).length)),LS (digs 65536 n) t]:=by
 simp only[RefA,sg_abs,sg_neg,digs_pos_len (B:=65536) (n:=n) (by omega)]
theorem rnorm_fn{l:List Nat}(neg t:Bool)(hl:Lim 65536 l)(hn:l.length≤8796093022208):PFn Tryz.prog 147 [.bool neg,LS l t] (RefA (sg neg (val 65536 l)) false):=by
 intro H Q hq
 rw[RefA_sg]at hq
 refine enter147 (by simp) ?_
 simp(disch:=first|exact Xe|fail)only[ac147,↓Xa,Xb,Xc,↓reduceIte,Nat.reduceLT,Nat.reduceEqDiff,Nat.reduceBEq,Nat.reduceLeDiff,Nat.reduceAdd,Nat.reduceMul]
 refine alloc_i fun p hp=>?_
 simp(disch:=first|exact Xe|fail)only[↓Xa,Xb,Xc,↓reduceIte,Nat.reduceLT,Nat.reduceEqDiff,Nat.reduceBEq,Nat.reduceLeDiff,Nat.reduceAdd,Nat.reduceMul]
 refine W_loop (fun n:Nat=>⟨[],[(0,.bool neg),(1,LS l t),(4,.ptr p 2 0),(5,.int .i64 n)],H.upd p (some (.row 44 0 [.bool false,.seq 0 [] true]))⟩) (fun n=>n≤l.length∧∀i,n≤i→i<l.length→l.getD i 0=0) id l.length (Settle.now rfl) ⟨Nat.le_refl _,fun i h1 h2=>absurd h1 (by omega)⟩ ?_
 rintro n ⟨h1,hz⟩
 have fin: ∀ti,(n=0∨l.getD (n-1) 0≠0)→SetR Q (.agg [.bool (neg&&decide (0<n)),LS (l.take n) ti]) (H.upd p (some (.row 44 0 [.bool (neg&&decide (0<n)),LS (l.take n) ti]))):=fun ti h=>by
  have e:=tr_take h1 hz h
  have e2:n=(digs 65536 (val 65536 l)).length:=by
   have:=congrArg List.length e
   rw[List.length_take,Nat.min_eq_left h1,tr_digs (by omega) hl]at this;exact this
  rw[e,tr_digs (by omega) hl,e2]
  exact SetR.dropTo ((Le.refl H).upd hp) (SetR.loose (SetR.now hq))
 have last:(n=0∨l.getD (n-1) 0≠0)→W Tryz.prog (sndC (sndC (sndC ac147))) (retN rs147 Q) ⟨[],[(0,.bool neg),(1,LS l t),(4,.ptr p 2 0),(5,.int .i64 n),(17,.bool false)],H.upd p (some (.row 44 0 [.bool false,.seq 0 [] true]))⟩:=fun h=>by
  have f:=fun ti=>fin ti h
  cases neg
  ·simp(disch:=first|exact Xe|fail)only[ac147,rs147,sndC,↓Xa,Xb,Xc,↓reduceIte,Nat.reduceLT,Nat.reduceEqDiff,Nat.reduceBEq,Nat.reduceLeDiff,Nat.reduceAdd,Nat.reduceMul]
   exact f _
  ·simp(disch:=first|exact Xe|fail)only[ac147,rs147,sndC,↓Xa,Xb,Xc,↓reduceIte,Nat.reduceLT,Nat.reduceEqDiff,Nat.reduceBEq,Nat.reduceLeDiff,Nat.reduceAdd,Nat.reduceMul]
   exact f _
 by_cases h0:0<n
 ·by_cases h2:l.getD (n-1) 0=0
  ·simp(disch:=first|exact Xe|fail)only[h0,h2,↓Xa,Xb,Xc,↓reduceIte,Nat.reduceLT,Nat.reduceEqDiff,Nat.reduceBEq,Nat.reduceLeDiff,Nat.reduceAdd,Nat.reduceMul]
   refine Settle.now ⟨n-1,?_,⟨by omega,fun i hi hl'=>?_⟩,rfl⟩
   ·show n-1<n;omega
   ·rcases Nat.lt_or_ge i n with h|h
    ·rw[show i=n-1 by omega];exact h2
    ·exact hz i h hl'
  ·simp(disch:=first|exact Xe|fail)only[h0,h2,↓Xa,Xb,Xc,↓reduceIte,Nat.reduceLT,Nat.reduceEqDiff,Nat.reduceBEq,Nat.reduceLeDiff,Nat.reduceAdd,Nat.reduceMul]
   exact Settle.now (last (.inr h2))
 ·simp(disch:=first|exact Xe|fail)only[h0,↓Xa,Xb,Xc,↓reduceIte,Nat.reduceLT,Nat.reduceEqDiff,Nat.reduceBEq,Nat.reduceLeDiff,Nat.reduceAdd,Nat.reduceMul]
  exact Settle.now (last (.inl (by omega)))
theorem lss_neg{n:Int}{K:AV→Prop}:binW .lss (.int .i64 n) (.int .i64 ((0:Nat):Int)) K↔K (.bool (decide (n<0))):=by
 simp only[binW,binInt,true_and];exact Iff.rfl
theorem rof_fn{n:Int}(hn: -9223372036854775808≤n∧n<9223372036854775808):PFn Tryz.prog 82 [.int .i64 n] (RefA n false):=by
 intro H Q hq
 refine enter82 (by simp) ?_
 rw[show ac82=.seq (fstC ac82) (.seq (fstC (sndC ac82)) (.seq (fstC (sndC (sndC ac82))) (hold (sndC (sndC (sndC ac82))))))from rfl]
 simp(disch:=first|exact Xe|fail)only[fstC,sndC,ac82,↓Xa,Xb,Xc,↓reduceIte,Nat.reduceLT,Nat.reduceEqDiff,Nat.reduceBEq,Nat.reduceLeDiff,Nat.reduceAdd,Nat.reduceMul]
 refine alloc_i fun p hp=>?_
 have tail: ∀(u0:Nat),u0<18446744073709551616→sg (decide (n<0)) u0=n→W Tryz.prog (hold (sndC (sndC (sndC ac82)))) (retN rs82 Q) ⟨[],[(0,.int .i64 n),(2,.ptr p 2 0),(3,.int .u64 u0)],H.upd p (some (.row 44 0 [.bool false,.seq 0 [] true]))⟩:=by
  intro u0 hu0 hs
  simp(disch:=first|exact Xe|fail)only[ac82,sndC,hold,↓Xa,Xb,Xc,↓reduceIte,Nat.reduceLT,Nat.reduceEqDiff,Nat.reduceBEq,Nat.reduceLeDiff,Nat.reduceAdd,Nat.reduceMul]
  refine W_loop (fun s:Nat×List Nat×AV×AHeap=>⟨[],[(0,.int .i64 n),(2,.ptr p 2 0),(3,.int .u64 s.1),(4,s.2.2.1)],s.2.2.2⟩)
   (fun s=>grow (H.upd p (some (.row 44 0 [.bool false,.seq 0 [] true]))) 168 s.2.1 s.2.2.1 s.2.2.2∧Lim 65536 s.2.1∧val 65536 s.2.1+65536^s.2.1.length*s.1=u0∧s.2.1.length≤4∧s.1<65536^(4-s.2.1.length)) (fun s=>s.1)
   (u0,[],_,_) (Settle.now rfl) ⟨grow_nil,Lim.nil _,by simp[val],by simp,by simpa using hu0⟩ ?_
  rintro⟨u,done,x,H'⟩ ⟨hg,h1,h2,h3,h4⟩
  dsimp only at hg h1 h2 h3 h4 ⊢
  have hu:u<18446744073709551616:=by
   have:(65536:Nat)^(4-done.length)≤65536^4:=Nat.pow_le_pow_right (by omega) (by omega)
   omega
  by_cases h0:0<u
  ·have hm:u / 65536<18446744073709551616:=by omega
   have hr:u%65536<4294967296:=by omega
   simp(disch:=first|exact Xe|fail)only[h0,ne_eq,Nat.reduceEqDiff,↓Xa,Xb,Xc,↓reduceIte,Nat.reduceLT,Nat.reduceEqDiff,Nat.reduceBEq,Nat.reduceLeDiff,Nat.reduceAdd,Nat.reduceMul]
   refine app_grow (m:=[u%65536]) hg rfl (by simp) (by simp;omega) fun x' H2 hg2=>?_
   simp(disch:=first|exact Xe|fail)only[ne_eq,Nat.reduceEqDiff,↓Xa,Xb,Xc,↓reduceIte,Nat.reduceLT,Nat.reduceEqDiff,Nat.reduceBEq,Nat.reduceLeDiff,Nat.reduceAdd,Nat.reduceMul]
   refine Settle.now ⟨(u / 65536,_,_,_),Nat.div_lt_self h0 (by omega),⟨hg2,lim_snoc h1 (Nat.mod_lt _ (by omega)),?_,?_,?_⟩,rfl⟩
   ·rw[val_snoc,List.length_append,List.length_singleton,Nat.pow_succ,Nat.add_assoc,Nat.mul_assoc,← Nat.mul_add,Nat.mod_add_div];exact h2
   ·simp only[List.length_append,List.length_singleton]
    rcases Nat.lt_or_ge done.length 4 with e|e
    ·omega
    ·rw[show 4-done.length=0 by omega]at h4;simp at h4;omega
   ·simp only[List.length_append,List.length_singleton]
    rcases Nat.lt_or_ge done.length 4 with e|e
    ·rw[show 4-done.length=4-(done.length+1)+1 by omega,Nat.pow_succ]at h4
     exact Nat.div_lt_of_lt_mul (by rw[Nat.mul_comm];exact h4)
    ·rw[show 4-done.length=0 by omega]at h4;simp at h4;omega
  ·obtain rfl:u=0:=by omega
   rw[Nat.mul_zero,Nat.add_zero]at h2
   simp(disch:=first|exact Xe|fail)only[h0,↓Xa,Xb,Xc,↓reduceIte,Nat.reduceLT,Nat.reduceEqDiff,Nat.reduceBEq,Nat.reduceLeDiff,Nat.reduceAdd,Nat.reduceMul]
   refine Settle.grown 4 rfl hg (Settle.now ?_)
   simp(disch:=first|exact Xe|fail)only[lss_neg,↓Xa,Xb,Xc,↓reduceIte,Nat.reduceLT,Nat.reduceEqDiff,Nat.reduceBEq,Nat.reduceLeDiff,Nat.reduceAdd,Nat.reduceMul]
   refine(rnorm_fn _ false h1 (by omega)).call ?_
   rw[h2,hs]
   simp(disch:=first|exact Xe|fail)only[rs82,RefA,↓Xa,Xb,Xc,↓reduceIte,Nat.reduceLT,Nat.reduceEqDiff,Nat.reduceBEq,Nat.reduceLeDiff,Nat.reduceAdd,Nat.reduceMul]
   exact SetR.dropTo ((Le.refl H).upd hp) (SetR.now hq)
 by_cases h0:n<0
 ·obtain⟨m,rfl⟩: ∃m:Nat,n= -(m:Int):=⟨n.natAbs,by omega⟩
  have c1: ∀K,convW .u64 (.int .i64 (-(m:Int))) K↔K (.int .u64 ((18446744073709551616-m:Nat):Int)):=fun K=>by
   simp only[convW,wmod_u64];rw[show(-(m:Int))%18446744073709551616=((18446744073709551616-m:Nat):Int) by omega]
  have c2: ∀K,unW .neg (.int .u64 ((18446744073709551616-m:Nat):Int)) K↔K (.int .u64 (m:Int)):=fun K=>by
   simp only[unW,wmod_u64];rw[show(0-((18446744073709551616-m:Nat):Int))%18446744073709551616=(m:Int) by omega]
  simp(disch:=first|exact Xe|fail)only[c1,c2,lss_neg,h0,↓Xa,Xb,Xc,↓reduceIte,Nat.reduceLT,Nat.reduceEqDiff,Nat.reduceBEq,Nat.reduceLeDiff,Nat.reduceAdd,Nat.reduceMul]
  exact tail m (by omega) (by simp only[sg,h0,decide_true,if_true])
 ·obtain⟨m,rfl⟩: ∃m:Nat,n=(m:Int):=⟨n.natAbs,by omega⟩
  simp(disch:=first|exact Xe|fail)only[h0,↓Xa,Xb,Xc,↓reduceIte,Nat.reduceLT,Nat.reduceEqDiff,Nat.reduceBEq,Nat.reduceLeDiff,Nat.reduceAdd,Nat.reduceMul]
  exact tail m (by omega) (by simp only[sg,h0,decide_false,Bool.false_eq_true,if_false])
theorem Bd.rlen{k:Nat}{z:Int}(h:Bd k z):(digs 65536 z.natAbs).length≤2*k:=digs_len (by omega) _ _ (by
 unfold Bd at h;rw[Nat.pow_mul];exact h)
theorem size_fn(m n:Nat)(ta tb:Bool)(hm:(digs 65536 m).length≤1099511627776)(hn:(digs 65536 n).length≤1099511627776):PFn Tryz.prog 191 [LS (digs 65536 m) ta,LS (digs 65536 n) tb] (.int .i64 (cmpZ m n)):=by
 intro H Q hq
 have hx:=lim_digs (B:=65536) (by omega) m
 have hy:=lim_digs (B:=65536) (by omega) n
 have vx:=val_digs (B:=65536) (by omega) m
 have vy:=val_digs (B:=65536) (by omega) n
 have lt1:=digs_lt_len (B:=65536) (a:=m) (b:=n) (by omega)
 have lt2:=digs_lt_len (B:=65536) (a:=n) (b:=m) (by omega)
 generalize digs 65536 m=x at*
 generalize digs 65536 n=y at*
 have less:m<n→SetR Q (.int .i64 (-1)) H:=fun h=>by
  have:cmpZ m n= -1:=by simp[cmpZ,h]
  rw[← this];exact SetR.now hq
 have more:n<m→SetR Q (.int .i64 ((1:Nat):Int)) H:=fun h=>by
  have:cmpZ m n=((1:Nat):Int):=by simp[cmpZ,h,Nat.not_lt_of_lt h]
  rw[← this];exact SetR.now hq
 refine enter191 (by simp) ?_
 by_cases c0:x.length=y.length
 ·simp(disch:=first|exact Xe|fail)only[ac191,c0,↓Xa,Xb,Xc,↓reduceIte,Nat.reduceLT,Nat.reduceEqDiff,Nat.reduceBEq,Nat.reduceLeDiff,Nat.reduceAdd,Nat.reduceMul]
  refine W_loop (fun k:Nat=>⟨[],[(0,LS x ta),(1,LS y tb),(5,.int .i64 (dn k))],H⟩) (fun k=>k≤x.length∧x.drop k=y.drop k) id y.length (Settle.now rfl) ⟨by omega,by rw[List.drop_of_length_le (by omega),List.drop_of_length_le (by omega)]⟩ ?_
  rintro k ⟨hk,hd⟩
  cases k with
  |zero=>
   simp(disch:=first|exact Xe|fail)only[↓Xa,Xb,Xc,↓reduceIte,Nat.reduceLT,Nat.reduceEqDiff,Nat.reduceBEq,Nat.reduceLeDiff,Nat.reduceAdd,Nat.reduceMul]
   refine Settle.now ?_
   simp(disch:=first|exact Xe|fail)only[rs191,↓Xa,Xb,Xc,↓reduceIte,Nat.reduceLT,Nat.reduceEqDiff,Nat.reduceBEq,Nat.reduceLeDiff,Nat.reduceAdd,Nat.reduceMul]
   have e:m=n:=by rw[← vx,← vy];rw[List.drop_zero,List.drop_zero]at hd;rw[hd]
   have:cmpZ m n=((0:Nat):Int):=by simp[cmpZ,e]
   rw[← this];exact SetR.now hq
  |succ k=>
   by_cases d1:x.getD k 0<y.getD k 0
   ·simp(disch:=first|exact Xe|fail)only[d1,rs191,↓Xa,Xb,Xc,↓reduceIte,Nat.reduceLT,Nat.reduceEqDiff,Nat.reduceBEq,Nat.reduceLeDiff,Nat.reduceAdd,Nat.reduceMul]
    exact less (by rw[← vx,← vy];exact val_lt_high hx (by omega) k (by omega) c0 hd d1)
   by_cases d2:y.getD k 0<x.getD k 0
   ·simp(disch:=first|exact Xe|fail)only[d1,d2,rs191,↓Xa,Xb,Xc,↓reduceIte,Nat.reduceLT,Nat.reduceEqDiff,Nat.reduceBEq,Nat.reduceLeDiff,Nat.reduceAdd,Nat.reduceMul]
    exact more (by rw[← vx,← vy];exact val_lt_high hy (by omega) k (by omega) c0.symm hd.symm d2)
   simp(disch:=first|exact Xe|fail)only[d1,d2,↓Xa,Xb,Xc,↓reduceIte,Nat.reduceLT,Nat.reduceEqDiff,Nat.reduceBEq,Nat.reduceLeDiff,Nat.reduceAdd,Nat.reduceMul]
   refine Settle.now ⟨k,Nat.lt_succ_self k,⟨by omega,?_⟩,rfl⟩
   rw[List.drop_eq_getElem_cons (by omega),List.drop_eq_getElem_cons (i:=k) (l:=y) (by omega),hd]
   congr 1
   have e1:x.getD k 0=x[k]:=by simp[List.getD_eq_getElem?_getD,List.getElem?_eq_getElem (show k<x.length by omega)]
   have e2:y.getD k 0=y[k]:=by simp[List.getD_eq_getElem?_getD,List.getElem?_eq_getElem (show k<y.length by omega)]
   omega
 ·by_cases c1:x.length<y.length
  ·simp(disch:=first|exact Xe|fail)only[ac191,c0,c1,rs191,↓Xa,Xb,Xc,↓reduceIte,Nat.reduceLT,Nat.reduceEqDiff,Nat.reduceBEq,Nat.reduceLeDiff,Nat.reduceAdd,Nat.reduceMul]
   exact less (lt1 c1)
  ·simp(disch:=first|exact Xe|fail)only[ac191,c0,c1,rs191,↓Xa,Xb,Xc,↓reduceIte,Nat.reduceLT,Nat.reduceEqDiff,Nat.reduceBEq,Nat.reduceLeDiff,Nat.reduceAdd,Nat.reduceMul]
   exact more (lt2 (by omega))
section
variable {l:List Int} {t:Bool} {H:AHeap} {K:AV→Prop}
end
theorem rbits0_fn(n:Nat)(t:Bool)(hn:(digs 65536 n).length≤1099511627776):PFn Tryz.prog 199 [LS (digs 65536 n) t] (.int .i64 ((blen n:Nat):Int)):=by
 intro H Q hq
 refine enter199 (by simp) ?_
 rcases Nat.eq_zero_or_pos n with e|e
 ·subst e
  rw[digs_zero]at*
  simp(disch:=first|exact Xe|fail)only[ac199,rs199,↓Xa,Xb,Xc,↓reduceIte,Nat.reduceLT,Nat.reduceEqDiff,Nat.reduceBEq,Nat.reduceLeDiff,Nat.reduceAdd,Nat.reduceMul]
  exact SetR.now hq
 ·have hp:0<(digs 65536 n).length:=by rw[digs_pos (by omega) e];simp
  have hne:((digs 65536 n).length=0)=False:=eq_false (by omega)
  have hb:=blen_digs (w:=16) (by omega) e
  have hlim:=(lim_digs (B:=65536) (by omega) n).getD (by omega) ((digs 65536 n).length-1)
  have hb16:blen ((digs 65536 n).getD ((digs 65536 n).length-1) 0)≤16:=blen_le.2 (by omega)
  change blen n=16*((digs 65536 n).length-1)+blen ((digs 65536 n).getD ((digs 65536 n).length-1) 0)at hb
  simp(disch:=first|exact Xe|fail)only[ac199,hne,↓Xa,Xb,Xc,↓reduceIte,Nat.reduceLT,Nat.reduceEqDiff,Nat.reduceBEq,Nat.reduceLeDiff,Nat.reduceAdd,Nat.reduceMul]
  refine W_loop (fun s:Nat×Nat=>⟨[],[(3,.int .i64 s.1),(4,.int .u32 s.2)],H⟩) (fun s=>s.1+blen s.2=blen n∧s.2<65536) (fun s=>s.2)
   (16*((digs 65536 n).length-1),(digs 65536 n).getD ((digs 65536 n).length-1) 0) (Settle.now rfl) ⟨hb.symm,hlim⟩ ?_
  rintro⟨m,u⟩ ⟨h1,h2⟩
  dsimp only at h1 h2 ⊢
  have hbn:blen n≤16*1099511627776+16:=by omega
  by_cases h0:0<u
  ·have hh:=blen_half h0
   simp(disch:=first|exact Xe|fail)only[h0,ne_eq,Nat.reduceEqDiff,↓Xa,Xb,Xc,↓reduceIte,Nat.reduceLT,Nat.reduceEqDiff,Nat.reduceBEq,Nat.reduceLeDiff,Nat.reduceAdd,Nat.reduceMul]
   refine Settle.now ⟨(m+1,u / 2),by dsimp only;omega,⟨by dsimp only;omega,by dsimp only;omega⟩,rfl⟩
  ·obtain rfl:u=0:=by omega
   rw[blen_zero,Nat.add_zero]at h1
   simp(disch:=first|exact Xe|fail)only[h0,↓Xa,Xb,Xc,↓reduceIte,Nat.reduceLT,Nat.reduceEqDiff,Nat.reduceBEq,Nat.reduceLeDiff,Nat.reduceAdd,Nat.reduceMul]
   refine Settle.now ?_
   simp(disch:=first|exact Xe|fail)only[rs199,↓Xa,Xb,Xc,↓reduceIte,Nat.reduceLT,Nat.reduceEqDiff,Nat.reduceBEq,Nat.reduceLeDiff,Nat.reduceAdd,Nat.reduceMul]
   rw[h1]
   exact SetR.now hq
theorem sgn_eql0{x:Int}{K:AV→Prop}:binW .eql (.int .i64 (sgnI x)) (.int .i64 ((0:Nat):Int)) K↔K (.bool (decide (x=0))):=by
 have:(sgnI x=((0:Nat):Int))↔x=0:=by unfold sgnI;split<;>simp_all;split<;>omega
 simp only[binW,binInt,true_and,this]
def RefB(z:Int):AV:=.bool (decide (z<0))
def RefD(z:Int):AV:=LS (digs 65536 z.natAbs) false
theorem cells_RefA{z:Int}:(RefA z false).cells=some [RefB z,RefD z]:=id rfl
theorem fold_RefA{z:Int}:AV.agg [RefB z,RefD z]=RefA z false:=id rfl
theorem Bd.blen{z:Int}{k:Nat}(h:Bd k z):Ma.blen z.natAbs≤32*k:=by rw[blen_le,Nat.pow_mul];exact h
theorem ediv_pos{x y:Int}(hy:y≠0)(hx:0≤x):x / y=sg (decide (y<0)) (x.natAbs / y.natAbs)∧x%y=((x.natAbs%y.natAbs:Nat):Int):=by
 have e:((x.natAbs:Nat):Int)=x:=by omega
 by_cases h:y<0
 ·have e2:y= -((y.natAbs:Nat):Int):=by omega
  constructor
  ·rw[sg,decide_eq_true h,if_pos rfl]
   conv=>lhs;rw[e2,Int.ediv_neg,← e]
   rw[← Int.natCast_ediv]
  ·conv=>lhs;rw[e2,Int.emod_neg,← e]
   rw[← Int.natCast_emod]
 ·have e2:y=((y.natAbs:Nat):Int):=by omega
  constructor
  ·rw[sg,decide_eq_false h]
   conv=>lhs;rw[e2,← e]
   rw[← Int.natCast_ediv];rfl
  ·conv=>lhs;rw[e2,← e]
   rw[← Int.natCast_emod]
theorem ediv_neg'{x y:Int}(hy:y≠0)(hx:x<0):
 (x.natAbs%y.natAbs=0→x / y=sg (!decide (y<0)) (x.natAbs / y.natAbs)∧x%y=0)∧
 (0<x.natAbs%y.natAbs→x / y=sg (!decide (y<0)) (x.natAbs / y.natAbs)-sgnI y∧x%y=sg true (x.natAbs%y.natAbs)+(y.natAbs:Int)):=by
 have hm:=Nat.div_add_mod x.natAbs y.natAbs
 have hl:=Nat.mod_lt x.natAbs (show 0<y.natAbs by omega)
 generalize x.natAbs / y.natAbs=q at*
 generalize x.natAbs%y.natAbs=r at*
 have hb:0<(y.natAbs:Int):=by omega
 have hxe:x= -((y.natAbs:Int)*q+r):=by
  have:((y.natAbs*q+r:Nat):Int)=(x.natAbs:Int):=by rw[hm]
  rw[Int.natCast_add,Int.natCast_mul]at this
  omega
 have key: ∀(q' r':Int),r'+(y.natAbs:Int)*q'=x→0≤r'→r'<(y.natAbs:Int)→x / (y.natAbs:Int)=q'∧x%(y.natAbs:Int)=r':=fun q' r' a b c=>(Int.ediv_emod_unique hb).2 ⟨a,b,c⟩
 have neg: ∀q':Int,x / (y.natAbs:Int)=q'→x / y=if y<0 then -q' else q':=fun q' h=>by
  split
  ·conv=>lhs;rw[show y= -((y.natAbs:Nat):Int) by omega,Int.ediv_neg,h]
  ·conv=>lhs;rw[show y=((y.natAbs:Nat):Int) by omega,h]
 have mod:x%y=x%(y.natAbs:Int):=by
  by_cases h:y<0
  ·conv=>lhs;rw[show y= -((y.natAbs:Nat):Int) by omega,Int.emod_neg]
  ·conv=>lhs;rw[show y=((y.natAbs:Nat):Int) by omega]
 constructor
 ·intro hr
  obtain⟨k1,k2⟩:=key (-(q:Int)) 0 (by rw[hxe,hr,Int.mul_neg];omega) (by omega) hb
  refine⟨?_,by rw[mod,k2]⟩
  rw[neg _ k1,sg]
  by_cases h:y<0<;>simp[h]
 ·intro hr
  obtain⟨k1,k2⟩:=key (-(q:Int)-1) ((y.natAbs:Int)-r) (by rw[hxe,Int.mul_sub,Int.mul_neg,Int.mul_one];omega) (by omega) (by omega)
  refine⟨?_,by rw[mod,k2,sg,if_pos rfl];omega⟩
  rw[neg _ k1,sg,sgnI,if_neg hy]
  by_cases h:y<0<;>simp[h]<;>omega
theorem foldL{z:Int}:AV.agg [.bool (decide (z<0)),LS (digs 4294967296 z.natAbs) true]=IntA z:=id rfl
theorem foldM{z:Int}:AV.agg [.bool (decide (z<0)),IntD z]=IntA z:=id rfl
theorem sgnI_le(y:Int): -9223372036854775808≤sgnI y∧sgnI y<9223372036854775808:=by unfold sgnI;(repeat' split)<;>omega
theorem idivmod_fn{x y:Int}{k k':Nat}(hx:Bd k x)(hk:k≤274877906944)(hy:Bd k' y)(hk':k'≤274877906944)(hy0:y≠0):PFn Tryz.prog 152 [IntA x,IntA y] (.tup [IntA (x / y),IntA (x%y),.int .i64 ((0:Nat):Int)]):=by
 intro H Q hq
 have hl:=hx.len
 have hl':=hy.len
 have vx:=val_digs (B:=4294967296) (by omega) x.natAbs
 have vy:=val_digs (B:=4294967296) (by omega) y.natAbs
 have lx:=lim_digs (B:=4294967296) (by omega) x.natAbs
 have ly:=lim_digs (B:=4294967296) (by omega) y.natAbs
 have hyp:0<y.natAbs:=by omega
 have hbq: ∀b,Bd k (sg b (x.natAbs / y.natAbs)):=fun b=>Bd.sgn (Nat.lt_of_le_of_lt (Nat.div_le_self _ _) hx)
 have hbr: ∀b,Bd k (sg b (x.natAbs%y.natAbs)):=fun b=>Bd.sgn (Nat.lt_of_le_of_lt (Nat.mod_le _ _) hx)
 have hlq:=(hbq false).len
 have hlr:=(hbr false).len
 rw[sg_abs]at hlq hlr
 refine enter152 (by simp) ?_
 simp(disch:=first|exact Xe|fail)only[ac152,cells_IntA,↓Xa,Xb,Xc,↓reduceIte,Nat.reduceLT,Nat.reduceEqDiff,Nat.reduceBEq,Nat.reduceLeDiff,Nat.reduceAdd,Nat.reduceMul]
 refine alloc_i fun p hp=>?_
 simp(disch:=first|exact Xe|fail)only[↓Xa,Xb,Xc,↓reduceIte,Nat.reduceLT,Nat.reduceEqDiff,Nat.reduceBEq,Nat.reduceLeDiff,Nat.reduceAdd,Nat.reduceMul]
 refine alloc_i fun p2 hp2=>?_
 have n2:=hp2
 simp only[upd_none]at n2
 obtain⟨_,n2⟩:=n2
 simp(disch:=first|exact Xe|fail)only[↓Xa,Xb,Xc,↓reduceIte,Nat.reduceLT,Nat.reduceEqDiff,Nat.reduceBEq,Nat.reduceLeDiff,Nat.reduceAdd,Nat.reduceMul]
 refine alloc_i fun p3 hp3=>?_
 have n3:=hp3
 simp only[upd_none]at n3
 obtain⟨_,_,n3⟩:=n3
 simp(disch:=first|exact Xe|fail)only[↓Xa,Xb,Xc,↓reduceIte,Nat.reduceLT,Nat.reduceEqDiff,Nat.reduceBEq,Nat.reduceLeDiff,Nat.reduceAdd,Nat.reduceMul]
 refine alloc_i fun p4 hp4=>?_
 have n4:=hp4
 simp only[upd_none]at n4
 obtain⟨_,_,_,n4⟩:=n4
 simp(disch:=first|exact Xe|fail)only[↓Xa,Xb,Xc,↓reduceIte,Nat.reduceLT,Nat.reduceEqDiff,Nat.reduceBEq,Nat.reduceLeDiff,Nat.reduceAdd,Nat.reduceMul]
 refine(divmod_fn (a:=digs 4294967296 x.natAbs) (b:=digs 4294967296 y.natAbs) true true lx ly (by omega) (by omega) (by omega)).call ?_
 rw[vx,vy]
 have ifold: ∀z:Int,AV.bool (decide (z<0))=IntB z:=fun z=>rfl
 simp(disch:=first|exact Xe|fail)only[IntB,binB_neq,↓Xa,Xb,Xc,↓reduceIte,Nat.reduceLT,Nat.reduceEqDiff,Nat.reduceBEq,Nat.reduceLeDiff,Nat.reduceAdd,Nat.reduceMul]
 refine PFn.dcall (made_fn _ _ (by omega)) ?_
 simp(disch:=first|exact Xe|fail)only[↓Xa,Xb,Xc,↓reduceIte,Nat.reduceLT,Nat.reduceEqDiff,Nat.reduceBEq,Nat.reduceLeDiff,Nat.reduceAdd,Nat.reduceMul]
 refine PFn.dcall (made_fn _ _ (by omega)) ?_
 simp(disch:=first|exact Xe|fail)only[↓Xa,Xb,Xc,↓reduceIte,Nat.reduceLT,Nat.reduceEqDiff,Nat.reduceBEq,Nat.reduceLeDiff,Nat.reduceAdd,Nat.reduceMul]
 refine dalloc_i fun p5 hp5=>?_
 have n5:=hp5
 simp only[upd_none]at n5
 obtain⟨_,_,_,_,n5⟩:=n5
 simp(disch:=first|exact Xe|fail)only[↓Xa,Xb,Xc,↓reduceIte,Nat.reduceLT,Nat.reduceEqDiff,Nat.reduceBEq,Nat.reduceLeDiff,Nat.reduceAdd,Nat.reduceMul]
 refine dalloc_i fun p6 hp6=>?_
 have n6:=hp6
 simp only[upd_none]at n6
 obtain⟨_,_,_,_,_,n6⟩:=n6
 simp(disch:=first|exact Xe|fail)only[cells_IntA,↓Xa,Xb,Xc,↓reduceIte,Nat.reduceLT,Nat.reduceEqDiff,Nat.reduceBEq,Nat.reduceLeDiff,Nat.reduceAdd,Nat.reduceMul]
 have bq:=hbq (!(decide (x<0)==decide (y<0)))
 have br:=hbr (decide (x<0))
 have cs:(sg (!(decide (x<0)==decide (y<0))) (x.natAbs / y.natAbs)=x / y∧sg (decide (x<0)) (x.natAbs%y.natAbs)=x%y∧IntB (sg (decide (x<0)) (x.natAbs%y.natAbs))=.bool false)∨
  (sg (!(decide (x<0)==decide (y<0))) (x.natAbs / y.natAbs)-sgnI y=x / y∧sg (decide (x<0)) (x.natAbs%y.natAbs)+(y.natAbs:Int)=x%y∧IntB (sg (decide (x<0)) (x.natAbs%y.natAbs))=.bool true):=by
  by_cases h:x<0
  ·obtain⟨e1,e2⟩:=ediv_neg' hy0 h
   rw[decide_eq_true h]
   have eb:(!(true==decide (y<0)))=!decide (y<0):=by simp
   rw[eb]
   rcases Nat.eq_zero_or_pos (x.natAbs%y.natAbs)with hz|hz
   ·left
    obtain⟨f1,f2⟩:=e1 hz
    rw[hz,f1,f2]
    exact⟨rfl,rfl,rfl⟩
   ·right
    obtain⟨f1,f2⟩:=e2 hz
    exact⟨f1.symm,f2.symm,congrArg AV.bool (decide_eq_true (by simp[sg];omega))⟩
  ·left
   obtain⟨f1,f2⟩:=ediv_pos hy0 (show 0≤x by omega)
   rw[decide_eq_false h]
   have eb:(!(false==decide (y<0)))=decide (y<0):=by simp
   rw[eb,f1,f2]
   exact⟨rfl,rfl,congrArg AV.bool (decide_eq_false (by simp[sg];omega))⟩
 generalize sg (!(decide (x<0)==decide (y<0))) (x.natAbs / y.natAbs)=q0 at*
 generalize sg (decide (x<0)) (x.natAbs%y.natAbs)=r0 at*
 have fin: ∀{v a b c d e f},Q v H→SetR Q v ((((((H.upd p a).upd p2 b).upd p3 c).upd p4 d).upd p5 e).upd p6 f):=fun{v a b c d e f} hv=>SetR.dropTo (((((((Le.refl H).updB hp).updB n2).updB n3).updB n4).updB n5).updB n6) (SetR.now hv)
 rcases cs with⟨c1,c2,c3⟩|⟨c1,c2,c3⟩
 ·rw[← c1,← c2]at hq
  have f0:AV.agg [.bool false,IntD r0]=IntA r0:=by rw[IntA_eq,c3]
  simp(disch:=first|exact Xe|fail)only[c3,fold_IntA,f0,cells_IntA,rs152,↓Xa,Xb,Xc,↓reduceIte,Nat.reduceLT,Nat.reduceEqDiff,Nat.reduceBEq,Nat.reduceLeDiff,Nat.reduceAdd,Nat.reduceMul]
  exact fin hq
 ·rw[← c1,← c2]at hq
  have f0:AV.agg [.bool true,IntD r0]=IntA r0:=by rw[IntA_eq,c3]
  simp(disch:=first|exact Xe|fail)only[c3,fold_IntA,f0,foldL,foldM,↓Xa,Xb,Xc,↓reduceIte,Nat.reduceLT,Nat.reduceEqDiff,Nat.reduceBEq,Nat.reduceLeDiff,Nat.reduceAdd,Nat.reduceMul]
  refine PFn.dcall (abs_fn hy (by omega)) ?_
  simp(disch:=first|exact Xe|fail)only[fold_IntA,foldL,foldM,f0,↓Xa,Xb,Xc,↓reduceIte,Nat.reduceLT,Nat.reduceEqDiff,Nat.reduceBEq,Nat.reduceLeDiff,Nat.reduceAdd,Nat.reduceMul]
  refine(addi_fn br (by omega) hy.abs (by omega)).call ?_
  simp(disch:=first|exact Xe|fail)only[fold_IntA,foldL,foldM,f0,cells_IntA,↓Xa,Xb,Xc,↓reduceIte,Nat.reduceLT,Nat.reduceEqDiff,Nat.reduceBEq,Nat.reduceLeDiff,Nat.reduceAdd,Nat.reduceMul]
  refine PFn.dcall (sign_fn hy (by omega)) ?_
  simp(disch:=first|exact Xe|fail)only[fold_IntA,foldL,foldM,f0,↓Xa,Xb,Xc,↓reduceIte,Nat.reduceLT,Nat.reduceEqDiff,Nat.reduceBEq,Nat.reduceLeDiff,Nat.reduceAdd,Nat.reduceMul]
  refine PFn.dcall (of_fn (sgnI_le y)) ?_
  simp(disch:=first|exact Xe|fail)only[fold_IntA,foldL,foldM,f0,↓Xa,Xb,Xc,↓reduceIte,Nat.reduceLT,Nat.reduceEqDiff,Nat.reduceBEq,Nat.reduceLeDiff,Nat.reduceAdd,Nat.reduceMul]
  refine(subi_fn bq (by omega) (Bd.i64 (sgnI_le y)) (by omega)).call ?_
  simp(disch:=first|exact Xe|fail)only[fold_IntA,foldL,foldM,f0,cells_IntA,rs152,↓Xa,Xb,Xc,↓reduceIte,Nat.reduceLT,Nat.reduceEqDiff,Nat.reduceBEq,Nat.reduceLeDiff,Nat.reduceAdd,Nat.reduceMul]
  exact fin hq
theorem iover_fn{x c:Int}{k:Nat}(hx:Bd k x)(hk:k≤274877906944)(hc: -9223372036854775808≤c∧c<9223372036854775808)(hc0:c≠0):
 PFn Tryz.prog 172 [IntA x,.int .i64 c] (if x%c=0 then .tup [IntA (x / c),.int .i64 ((0:Nat):Int)]else .tup [IntA 0,.int .i64 ((20:Nat):Int)]):=by
 intro H Q hq
 have hy:Bd 2 c:=Bd.i64 hc
 have hl:=hx.len
 have hl':=hy.len
 have vx:=val_digs (B:=4294967296) (by omega) x.natAbs
 have vy:=val_digs (B:=4294967296) (by omega) c.natAbs
 have lx:=lim_digs (B:=4294967296) (by omega) x.natAbs
 have ly:=lim_digs (B:=4294967296) (by omega) c.natAbs
 have hbq: ∀b,Bd k (sg b (x.natAbs / c.natAbs)):=fun b=>Bd.sgn (Nat.lt_of_le_of_lt (Nat.div_le_self _ _) hx)
 have hlq:=(hbq false).len
 rw[sg_abs]at hlq
 refine enter172 (by simp) ?_
 simp(disch:=first|exact Xe|fail)only[ac172,cells_IntA,↓Xa,Xb,Xc,↓reduceIte,Nat.reduceLT,Nat.reduceEqDiff,Nat.reduceBEq,Nat.reduceLeDiff,Nat.reduceAdd,Nat.reduceMul]
 refine alloc_i fun p hp=>?_
 simp(disch:=first|exact Xe|fail)only[↓Xa,Xb,Xc,↓reduceIte,Nat.reduceLT,Nat.reduceEqDiff,Nat.reduceBEq,Nat.reduceLeDiff,Nat.reduceAdd,Nat.reduceMul]
 refine alloc_i fun p2 hp2=>?_
 have n2:=hp2
 simp only[upd_none]at n2
 obtain⟨_,n2⟩:=n2
 simp(disch:=first|exact Xe|fail)only[↓Xa,Xb,Xc,↓reduceIte,Nat.reduceLT,Nat.reduceEqDiff,Nat.reduceBEq,Nat.reduceLeDiff,Nat.reduceAdd,Nat.reduceMul]
 refine(of_fn hc).call ?_
 simp(disch:=first|exact Xe|fail)only[↓Xa,Xb,Xc,↓reduceIte,Nat.reduceLT,Nat.reduceEqDiff,Nat.reduceBEq,Nat.reduceLeDiff,Nat.reduceAdd,Nat.reduceMul]
 refine alloc_i fun p3 hp3=>?_
 have n3:=hp3
 simp only[upd_none]at n3
 obtain⟨_,_,n3⟩:=n3
 simp(disch:=first|exact Xe|fail)only[cells_IntA,↓Xa,Xb,Xc,↓reduceIte,Nat.reduceLT,Nat.reduceEqDiff,Nat.reduceBEq,Nat.reduceLeDiff,Nat.reduceAdd,Nat.reduceMul]
 refine(divmod_fn (a:=digs 4294967296 x.natAbs) (b:=digs 4294967296 c.natAbs) true true lx ly (by omega) (by omega) (by omega)).call ?_
 rw[vx,vy]
 have fin: ∀{v a b c},Q v H→SetR Q v (((H.upd p a).upd p2 b).upd p3 c):=fun{v a b c} hv=>SetR.dropTo ((((Le.refl H).updB hp).updB n2).updB n3) (SetR.now hv)
 have hr0:=digs_len0 (B:=4294967296) (n:=x.natAbs%c.natAbs) (by omega)
 have hrl:(digs 4294967296 (x.natAbs%c.natAbs)).length≤k:=digs_len (by omega) _ _ (Nat.lt_of_le_of_lt (Nat.mod_le _ _) hx)
 have hxm:x%c=0↔x.natAbs%c.natAbs=0:=by
  rw[← Int.dvd_iff_emod_eq_zero,← Nat.dvd_iff_mod_eq_zero,Int.natAbs_dvd_natAbs]
 by_cases hz:x.natAbs%c.natAbs=0
 ·rw[if_pos (hxm.2 hz)]at hq
  have e:x / c=sg (!(decide (x<0)==decide (c<0))) (x.natAbs / c.natAbs):=by
   by_cases h:x<0
   ·rw[((ediv_neg' hc0 h).1 hz).1,decide_eq_true h];simp
   ·rw[(ediv_pos hc0 (show 0≤x by omega)).1,decide_eq_false h];simp
  rw[e]at hq
  rw[hz,digs_zero]
  simp(disch:=first|exact Xe|fail)only[IntB,binB_neq,↓Xa,Xb,Xc,↓reduceIte,Nat.reduceLT,Nat.reduceEqDiff,Nat.reduceBEq,Nat.reduceLeDiff,Nat.reduceAdd,Nat.reduceMul]
  refine(made_fn _ _ (by omega)).call ?_
  simp(disch:=first|exact Xe|fail)only[cells_IntA,rs172,↓Xa,Xb,Xc,↓reduceIte,Nat.reduceLT,Nat.reduceEqDiff,Nat.reduceBEq,Nat.reduceLeDiff,Nat.reduceAdd,Nat.reduceMul]
  exact fin hq
 ·rw[if_neg (fun h=>hz (hxm.1 h))]at hq
  have hp0:0<(digs 4294967296 (x.natAbs%c.natAbs)).length:=by
   have: ¬(digs 4294967296 (x.natAbs%c.natAbs)).length=0:=by rw[hr0];exact hz
   omega
  simp(disch:=first|exact Xe|fail)only[hp0,rs172,↓Xa,Xb,Xc,↓reduceIte,Nat.reduceLT,Nat.reduceEqDiff,Nat.reduceBEq,Nat.reduceLeDiff,Nat.reduceAdd,Nat.reduceMul]
  rw[IntA_0]
  exact fin hq
theorem cells_o2{b:Bool}{bb L off n:Nat}{t:Bool}:(AV.agg [.bool b,.own bb L off n t]).cells=some [.bool b,.own bb L off n t]:=id rfl
theorem size_own{H:AHeap}{Q:AV→AHeap→Prop}{bb ty L:Nat}(m n:Nat)(ta tb:Bool)(hH:H bb=some (.row ty 1 (U (digs 65536 m))))(hL:(digs 65536 m).length=L)(hq:Q (.int .i64 (cmpZ m n)) H)(hm:(digs 65536 m).length≤1099511627776)(hn:(digs 65536 n).length≤1099511627776):Run Tryz.prog 191 [.own bb L 0 L ta,LS (digs 65536 n) tb] H Q:=by
 subst hL
 have hx:=lim_digs (B:=65536) (by omega) m
 have hy:=lim_digs (B:=65536) (by omega) n
 have vx:=val_digs (B:=65536) (by omega) m
 have vy:=val_digs (B:=65536) (by omega) n
 have lt1:=digs_lt_len (B:=65536) (a:=m) (b:=n) (by omega)
 have lt2:=digs_lt_len (B:=65536) (a:=n) (b:=m) (by omega)
 generalize digs 65536 m=x at*
 generalize digs 65536 n=y at*
 have less:m<n→SetR Q (.int .i64 (-1)) H:=fun h=>by
  have:cmpZ m n= -1:=by simp[cmpZ,h]
  rw[← this];exact SetR.now hq
 have more:n<m→SetR Q (.int .i64 ((1:Nat):Int)) H:=fun h=>by
  have:cmpZ m n=((1:Nat):Int):=by simp[cmpZ,h,Nat.not_lt_of_lt h]
  rw[← this];exact SetR.now hq
 refine enter191 (by simp) ?_
 by_cases c0:x.length=y.length
 ·have c0':=c0
  simp(disch:=first|exact Xe|fail)only[ac191,c0,↓Xa,Xb,Xc,↓reduceIte,Nat.reduceLT,Nat.reduceEqDiff,Nat.reduceBEq,Nat.reduceLeDiff,Nat.reduceAdd,Nat.reduceMul]
  refine W_loop (fun k:Nat=>⟨[],[(0,.own bb y.length 0 y.length ta),(1,LS y tb),(5,.int .i64 (dn k))],H⟩) (fun k=>k≤x.length∧x.drop k=y.drop k) id y.length (Settle.now rfl) ⟨by omega,by rw[List.drop_of_length_le (by omega),List.drop_of_length_le (by omega)]⟩ ?_
  rintro k ⟨hk,hd⟩
  cases k with
  |zero=>
   simp(disch:=first|exact Xe|fail)only[hH,↓Xa,Xb,Xc,↓reduceIte,Nat.reduceLT,Nat.reduceEqDiff,Nat.reduceBEq,Nat.reduceLeDiff,Nat.reduceAdd,Nat.reduceMul]
   refine Settle.now ?_
   simp(disch:=first|exact Xe|fail)only[hH,rs191,↓Xa,Xb,Xc,↓reduceIte,Nat.reduceLT,Nat.reduceEqDiff,Nat.reduceBEq,Nat.reduceLeDiff,Nat.reduceAdd,Nat.reduceMul]
   have e:m=n:=by rw[← vx,← vy];rw[List.drop_zero,List.drop_zero]at hd;rw[hd]
   have:cmpZ m n=((0:Nat):Int):=by simp[cmpZ,e]
   rw[← this];exact SetR.now hq
  |succ k=>
   by_cases d1:x.getD k 0<y.getD k 0
   ·simp(disch:=first|exact Xe|fail)only[hH,d1,rs191,↓Xa,Xb,Xc,↓reduceIte,Nat.reduceLT,Nat.reduceEqDiff,Nat.reduceBEq,Nat.reduceLeDiff,Nat.reduceAdd,Nat.reduceMul]
    exact less (by rw[← vx,← vy];exact val_lt_high hx (by omega) k (by omega) c0 hd d1)
   by_cases d2:y.getD k 0<x.getD k 0
   ·simp(disch:=first|exact Xe|fail)only[hH,d1,d2,rs191,↓Xa,Xb,Xc,↓reduceIte,Nat.reduceLT,Nat.reduceEqDiff,Nat.reduceBEq,Nat.reduceLeDiff,Nat.reduceAdd,Nat.reduceMul]
    exact more (by rw[← vx,← vy];exact val_lt_high hy (by omega) k (by omega) c0.symm hd.symm d2)
   simp(disch:=first|exact Xe|fail)only[hH,d1,d2,↓Xa,Xb,Xc,↓reduceIte,Nat.reduceLT,Nat.reduceEqDiff,Nat.reduceBEq,Nat.reduceLeDiff,Nat.reduceAdd,Nat.reduceMul]
   refine Settle.now ⟨k,Nat.lt_succ_self k,⟨by omega,?_⟩,rfl⟩
   rw[List.drop_eq_getElem_cons (by omega),List.drop_eq_getElem_cons (i:=k) (l:=y) (by omega),hd]
   congr 1
   have e1:x.getD k 0=x[k]:=by simp[List.getD_eq_getElem?_getD,List.getElem?_eq_getElem (show k<x.length by omega)]
   have e2:y.getD k 0=y[k]:=by simp[List.getD_eq_getElem?_getD,List.getElem?_eq_getElem (show k<y.length by omega)]
   omega
 ·by_cases c1:x.length<y.length
  ·simp(disch:=first|exact Xe|fail)only[hH,ac191,c0,c1,rs191,↓Xa,Xb,Xc,↓reduceIte,Nat.reduceLT,Nat.reduceEqDiff,Nat.reduceBEq,Nat.reduceLeDiff,Nat.reduceAdd,Nat.reduceMul]
   exact less (lt1 c1)
  ·simp(disch:=first|exact Xe|fail)only[hH,ac191,c0,c1,rs191,↓Xa,Xb,Xc,↓reduceIte,Nat.reduceLT,Nat.reduceEqDiff,Nat.reduceBEq,Nat.reduceLeDiff,Nat.reduceAdd,Nat.reduceMul]
   exact more (lt2 (by omega))
theorem minus_own{H:AHeap}{Q:AV→AHeap→Prop}{bb ty L:Nat}(m n:Nat)(ta tb:Bool)(hH:H bb=some (.row ty 1 (U (digs 65536 m))))(hL:(digs 65536 m).length=L)(hq: ∀x H',grow H 168 (pad 65536 (m-n) (digs 65536 m).length) x H'→Q x H')(hmn:n≤m)(hm:(digs 65536 m).length≤1099511627776):Run Tryz.prog 201 [.own bb L 0 L ta,LS (digs 65536 n) tb] H Q:=by
 subst hL
 have la:=lim_digs (B:=65536) (by omega) m
 have lb:=lim_digs (B:=65536) (by omega) n
 have va:=val_digs (B:=65536) (by omega) m
 have vb:=val_digs (B:=65536) (by omega) n
 have hlb:(digs 65536 n).length≤(digs 65536 m).length:=by
  rcases Nat.lt_or_ge (digs 65536 m).length (digs 65536 n).length with h|h
  ·have:=digs_lt_len (by omega) h;omega
  ·exact h
 refine enter201 (by simp) ?_
 simp(disch:=first|exact Xe|fail)only[ac201,↓Xa,Xb,Xc,↓reduceIte,Nat.reduceLT,Nat.reduceEqDiff,Nat.reduceBEq,Nat.reduceLeDiff,Nat.reduceAdd,Nat.reduceMul]
 refine W_loop (fun s:Nat×Nat×List Nat×AV×AHeap=>⟨[],[(0,.own bb (digs 65536 m).length 0 (digs 65536 m).length ta),(1,LS (digs 65536 n) tb),(5,s.2.2.2.1),(6,.int .u32 s.2.1),(7,.int .i64 s.1)],s.2.2.2.2⟩)
  (fun s=>s.1≤(digs 65536 m).length∧grow H 168 s.2.2.1 s.2.2.2.1 s.2.2.2.2∧MinI (digs 65536 m) (digs 65536 n) s.1 s.2.1 s.2.2.1) (fun s=>(digs 65536 m).length-s.1)
  (0,0,[],_,_) (Settle.now rfl) ⟨by simp,grow_nil,MinI.zero _ _⟩ ?_
 rintro⟨i,c,done,x,H'⟩ ⟨g0,hg,h1⟩
 dsimp only at g0 hg h1 ⊢
 have hold:=grow_old hg hH
 have hd:=h1.1
 have hc:=h1.2.2.1
 have hx:=la.getD (by omega) i
 have hy:=lb.getD (by omega) i
 by_cases hi:i<(digs 65536 m).length
 ·by_cases hj:i<(digs 65536 n).length
  ·by_cases hv:(digs 65536 m).getD i 0<c+(digs 65536 n).getD i 0
   ·simp(disch:=first|exact Xe|fail)only[hold,hi,hj,hv,↓Xa,Xb,Xc,↓reduceIte,Nat.reduceLT,Nat.reduceEqDiff,Nat.reduceBEq,Nat.reduceLeDiff,Nat.reduceAdd,Nat.reduceMul]
    refine app_grow (m:=[(digs 65536 m).getD i 0+65536-(c+(digs 65536 n).getD i 0)]) hg rfl (by simp) (by simp;omega) fun x' H2 hg2=>?_
    have hold2:=grow_old hg2 hH
    simp(disch:=first|exact Xe|fail)only[↓Xa,Xb,Xc,↓reduceIte,Nat.reduceLT,Nat.reduceEqDiff,Nat.reduceBEq,Nat.reduceLeDiff,Nat.reduceAdd,Nat.reduceMul]
    refine Settle.now ⟨(i+1,1,_,_,_),by dsimp only;omega,⟨by dsimp only;omega,hg2,h1.step (c':=1) (by omega) rfl (by omega) (by omega)⟩,rfl⟩
   ·simp(disch:=first|exact Xe|fail)only[hold,hi,hj,hv,↓Xa,Xb,Xc,↓reduceIte,Nat.reduceLT,Nat.reduceEqDiff,Nat.reduceBEq,Nat.reduceLeDiff,Nat.reduceAdd,Nat.reduceMul]
    refine app_grow (m:=[(digs 65536 m).getD i 0-(c+(digs 65536 n).getD i 0)]) hg rfl (by simp) (by simp;omega) fun x' H2 hg2=>?_
    have hold2:=grow_old hg2 hH
    simp(disch:=first|exact Xe|fail)only[↓Xa,Xb,Xc,↓reduceIte,Nat.reduceLT,Nat.reduceEqDiff,Nat.reduceBEq,Nat.reduceLeDiff,Nat.reduceAdd,Nat.reduceMul]
    refine Settle.now ⟨(i+1,0,_,_,_),by dsimp only;omega,⟨by dsimp only;omega,hg2,h1.step (c':=0) (by omega) rfl (by omega) (by omega)⟩,rfl⟩
  ·have b:=getD_beyond (show(digs 65536 n).length≤i by omega)
   by_cases hv:(digs 65536 m).getD i 0<c
   ·simp(disch:=first|exact Xe|fail)only[hold,hi,hj,hv,↓Xa,Xb,Xc,↓reduceIte,Nat.reduceLT,Nat.reduceEqDiff,Nat.reduceBEq,Nat.reduceLeDiff,Nat.reduceAdd,Nat.reduceMul]
    refine app_grow (m:=[(digs 65536 m).getD i 0+65536-c]) hg rfl (by simp) (by simp;omega) fun x' H2 hg2=>?_
    have hold2:=grow_old hg2 hH
    simp(disch:=first|exact Xe|fail)only[↓Xa,Xb,Xc,↓reduceIte,Nat.reduceLT,Nat.reduceEqDiff,Nat.reduceBEq,Nat.reduceLeDiff,Nat.reduceAdd,Nat.reduceMul]
    refine Settle.now ⟨(i+1,1,_,_,_),by dsimp only;omega,⟨by dsimp only;omega,hg2,h1.step (c':=1) (by omega) rfl (by omega) (by omega)⟩,rfl⟩
   ·simp(disch:=first|exact Xe|fail)only[hold,hi,hj,hv,↓Xa,Xb,Xc,↓reduceIte,Nat.reduceLT,Nat.reduceEqDiff,Nat.reduceBEq,Nat.reduceLeDiff,Nat.reduceAdd,Nat.reduceMul]
    refine app_grow (m:=[(digs 65536 m).getD i 0-c]) hg rfl (by simp) (by simp;omega) fun x' H2 hg2=>?_
    have hold2:=grow_old hg2 hH
    simp(disch:=first|exact Xe|fail)only[↓Xa,Xb,Xc,↓reduceIte,Nat.reduceLT,Nat.reduceEqDiff,Nat.reduceBEq,Nat.reduceLeDiff,Nat.reduceAdd,Nat.reduceMul]
    refine Settle.now ⟨(i+1,0,_,_,_),by dsimp only;omega,⟨by dsimp only;omega,hg2,h1.step (c':=0) (by omega) rfl (by omega) (by omega)⟩,rfl⟩
 ·obtain rfl:i=(digs 65536 m).length:=by omega
  simp(disch:=first|exact Xe|fail)only[hold,hi,↓Xa,Xb,Xc,↓reduceIte,Nat.reduceLT,Nat.reduceEqDiff,Nat.reduceBEq,Nat.reduceLeDiff,Nat.reduceAdd,Nat.reduceMul]
  refine Settle.now ?_
  simp(disch:=first|exact Xe|fail)only[rs201,↓Xa,Xb,Xc,↓reduceIte,Nat.reduceLT,Nat.reduceEqDiff,Nat.reduceBEq,Nat.reduceLeDiff,Nat.reduceAdd,Nat.reduceMul]
  have e:=h1.end la hlb (by omega)
  rw[va,vb]at e
  rw[e]at hg
  exact SetR.now (hq _ _ hg)
theorem rnorm_own{H:AHeap}{Q:AV→AHeap→Prop}{bb ty L:Nat}{l:List Nat}(neg t:Bool)(hH:H bb=some (.row ty 1 (U l)))(hL:l.length=L)(hq: ∀ti,Q (.agg [.bool (neg&&decide (0<(tr l).length)),.own bb L 0 (tr l).length ti]) H)(hl:Lim 65536 l)(hn:l.length≤8796093022208):Run Tryz.prog 147 [.bool neg,.own bb L 0 L t] H Q:=by
 subst hL
 refine enter147 (by simp) ?_
 simp(disch:=first|exact Xe|fail)only[ac147,↓Xa,Xb,Xc,↓reduceIte,Nat.reduceLT,Nat.reduceEqDiff,Nat.reduceBEq,Nat.reduceLeDiff,Nat.reduceAdd,Nat.reduceMul]
 refine alloc_i fun p hp=>?_
 have hAp:Ap bb p:=fun e=>by rw[e,hp]at hH;cases hH
 simp(disch:=first|exact Xe|fail)only[↓Xa,Xb,Xc,↓reduceIte,Nat.reduceLT,Nat.reduceEqDiff,Nat.reduceBEq,Nat.reduceLeDiff,Nat.reduceAdd,Nat.reduceMul]
 refine W_loop (fun n:Nat=>⟨[],[(0,.bool neg),(1,.own bb l.length 0 l.length t),(4,.ptr p 2 0),(5,.int .i64 n)],H.upd p (some (.row 44 0 [.bool false,.seq 0 [] true]))⟩) (fun n=>n≤l.length∧∀i,n≤i→i<l.length→l.getD i 0=0) id l.length (Settle.now rfl) ⟨Nat.le_refl _,fun i h1 h2=>absurd h1 (by omega)⟩ ?_
 rintro n ⟨h1,hz⟩
 have fin: ∀ti,(n=0∨l.getD (n-1) 0≠0)→SetR Q (.agg [.bool (neg&&decide (0<n)),.own bb l.length 0 n ti]) (H.upd p (some (.row 44 0 [.bool (neg&&decide (0<n)),.own bb l.length 0 n ti]))):=fun ti h=>by
  have e2:n=(tr l).length:=by
   have:=congrArg List.length (tr_take h1 hz h)
   rw[List.length_take,Nat.min_eq_left h1]at this;exact this
  have:=hq ti
  rw[← e2]at this
  exact SetR.dropTo ((Le.refl H).upd hp) (SetR.now this)
 have last:(n=0∨l.getD (n-1) 0≠0)→W Tryz.prog (sndC (sndC (sndC ac147))) (retN rs147 Q) ⟨[],[(0,.bool neg),(1,.own bb l.length 0 l.length t),(4,.ptr p 2 0),(5,.int .i64 n),(17,.bool false)],H.upd p (some (.row 44 0 [.bool false,.seq 0 [] true]))⟩:=fun h=>by
  have f:=fun ti=>fin ti h
  cases neg
  ·simp(disch:=first|exact Xe|fail)only[hH,cells_o2,ac147,rs147,sndC,↓Xa,Xb,Xc,↓reduceIte,Nat.reduceLT,Nat.reduceEqDiff,Nat.reduceBEq,Nat.reduceLeDiff,Nat.reduceAdd,Nat.reduceMul]
   exact f _
  ·simp(disch:=first|exact Xe|fail)only[hH,cells_o2,ac147,rs147,sndC,↓Xa,Xb,Xc,↓reduceIte,Nat.reduceLT,Nat.reduceEqDiff,Nat.reduceBEq,Nat.reduceLeDiff,Nat.reduceAdd,Nat.reduceMul]
   exact f _
 by_cases h0:0<n
 ·by_cases h2:l.getD (n-1) 0=0
  ·simp(disch:=first|exact Xe|fail)only[hH,h0,h2,↓Xa,Xb,Xc,↓reduceIte,Nat.reduceLT,Nat.reduceEqDiff,Nat.reduceBEq,Nat.reduceLeDiff,Nat.reduceAdd,Nat.reduceMul]
   refine Settle.now ⟨n-1,?_,⟨by omega,fun i hi hl'=>?_⟩,rfl⟩
   ·show n-1<n;omega
   ·rcases Nat.lt_or_ge i n with h|h
    ·rw[show i=n-1 by omega];exact h2
    ·exact hz i h hl'
  ·simp(disch:=first|exact Xe|fail)only[hH,h0,h2,↓Xa,Xb,Xc,↓reduceIte,Nat.reduceLT,Nat.reduceEqDiff,Nat.reduceBEq,Nat.reduceLeDiff,Nat.reduceAdd,Nat.reduceMul]
   exact Settle.now (last (.inr h2))
 ·simp(disch:=first|exact Xe|fail)only[hH,h0,↓Xa,Xb,Xc,↓reduceIte,Nat.reduceLT,Nat.reduceEqDiff,Nat.reduceBEq,Nat.reduceLeDiff,Nat.reduceAdd,Nat.reduceMul]
  exact Settle.now (last (.inl (by omega)))
theorem bit_fn(n k:Nat)(t:Bool)(hn:(digs 65536 n).length≤1099511627776)(hk:k / 16<(digs 65536 n).length):PFn Tryz.prog 200 [LS (digs 65536 n) t,.int .i64 (k:Int)] (.int .u32 ((n / 2^k%2:Nat):Int)):=by
 intro H Q hq
 have hd:=(lim_digs (B:=65536) (by omega) n).getD (by omega) (k / 16)
 have hb:=bit_of (n:=n) (k:=k)
 have hk2:k<9223372036854775808:=by omega
 have and1: ∀{a:Nat}{K:AV→Prop}(_:a<4294967296),binW .and (.int .u32 (a:Int)) (.int .u32 ((1:Nat):Int)) K↔K (.int .u32 ((a%2:Nat):Int)):=fun{a K} ha=>by
  rw[bin_and .u32 (by simpa[IntKind.bits]using ha) (by simp[IntKind.bits]),Nat.and_one_is_mod,wn_u32 (by omega)]
 have hdiv:(digs 65536 n).getD (k / 16) 0 / 2^(k%16)<4294967296:=Nat.lt_of_le_of_lt (Nat.div_le_self _ _) (by omega)
 have ht:k%16≤32:=by omega
 have hq16:k / 16<9223372036854775808:=by omega
 refine enter200 (by simp) ?_
 simp(disch:=first|exact Xe|fail)only[ac200,ne_eq,Nat.reduceEqDiff,and1,hb,rs200,↓Xa,Xb,Xc,↓reduceIte,Nat.reduceLT,Nat.reduceEqDiff,Nat.reduceBEq,Nat.reduceLeDiff,Nat.reduceAdd,Nat.reduceMul]
 exact SetR.now hq
theorem rdiv_one{m n:Nat}(ta tb:Bool)(hn:0<n)(hn1:n<65536)(hm:(digs 65536 m).length≤1099511627776):
 PFn Tryz.prog 134 [LS (digs 65536 m) ta,LS (digs 65536 n) tb] (.tup [LS (digs 65536 (m / n)) false,LS (digs 65536 (m%n)) false]):=by
 intro H Q hq
 have vm:=val_digs (B:=65536) (by omega) m
 have lm:=lim_digs (B:=65536) (by omega) m
 have hne:(n=0)=False:=eq_false (by omega)
 have hY:digs 65536 n=[n]:=by rw[digs_pos (by omega) hn,Nat.mod_eq_of_lt hn1,Nat.div_eq_of_lt hn1,digs_zero]
 rw[hY]
 generalize digs 65536 m=a at*
 refine enter134 (by simp) ?_
 have l1:([n]:List Nat).length=1:=rfl
 have g1:([n]:List Nat).getD 0 0=n:=rfl
 simp(disch:=first|exact Xe|fail)only[ac134,l1,g1,load_LS0,↓Xa,Xb,Xc,↓reduceIte,Nat.reduceLT,Nat.reduceEqDiff,Nat.reduceBEq,Nat.reduceLeDiff,Nat.reduceAdd,Nat.reduceMul]
 refine newU_i fun o ho=>?_
 simp(disch:=first|exact Xe|fail)only[↓Xa,Xb,Xc,↓reduceIte,Nat.reduceLT,Nat.reduceEqDiff,Nat.reduceBEq,Nat.reduceLeDiff,Nat.reduceAdd,Nat.reduceMul]
 refine W_loop (fun p:Nat×Nat×List Nat=>⟨[],[(0,LS a ta),(1,LS [n] tb),(6,.own o a.length 0 a.length true),(7,.int .u64 p.2.1),(8,.int .i64 (dn p.1))],
  H.upd o (some (.row 168 1 (U p.2.2)))⟩)
  (fun p=>p.1≤a.length∧DivJ a n p.1 p.2.1 p.2.2) (fun p=>p.1) (a.length,0,List.replicate a.length 0) (Settle.now rfl) ⟨by simp,DivJ.zero a hn⟩ ?_
 rintro⟨k,r,out⟩ ⟨h1,h2⟩
 dsimp only at h1 h2 ⊢
 have hol:=h2.1
 have hr:=h2.2.2.1
 cases k with
 |zero=>
  simp(disch:=first|exact Xe|fail)only[↓Xa,Xb,Xc,↓reduceIte,Nat.reduceLT,Nat.reduceEqDiff,Nat.reduceBEq,Nat.reduceLeDiff,Nat.reduceAdd,Nat.reduceMul]
  refine Settle.freeze 6 rfl (upd_same _ _ _) (by simp[hol]) (.inr (by simp)) ?_
  have e1:AV.seq a.length (((U out).drop 0).take (a.length*1)) true=LS out true:=by
   rw[List.drop_zero,Nat.mul_one,← hol,List.take_of_length_le (by simp)];rfl
  rw[e1,upd_upd,upd_back _ ho]
  refine Settle.now ?_
  simp(disch:=first|exact Xe|fail)only[↓Xa,Xb,Xc,↓reduceIte,Nat.reduceLT,Nat.reduceEqDiff,Nat.reduceBEq,Nat.reduceLeDiff,Nat.reduceAdd,Nat.reduceMul]
  refine(rnorm_fn false true h2.2.1 (by omega)).call ?_
  simp(disch:=first|exact Xe|fail)only[RefA,↓Xa,Xb,Xc,↓reduceIte,Nat.reduceLT,Nat.reduceEqDiff,Nat.reduceBEq,Nat.reduceLeDiff,Nat.reduceAdd,Nat.reduceMul]
  refine(rnorm_fn (l:=[r]) false true (Lim.one (by omega)) (by simp)).call ?_
  simp(disch:=first|exact Xe|fail)only[RefA,rs134,↓Xa,Xb,Xc,↓reduceIte,Nat.reduceLT,Nat.reduceEqDiff,Nat.reduceBEq,Nat.reduceLeDiff,Nat.reduceAdd,Nat.reduceMul]
  refine SetR.now ?_
  have e2:=h2.end
  rw[tr_digs (by omega) h2.2.1,vm]at e2
  rw[sg_abs,sg_abs,val_one,e2.1,e2.2]
  exact hq
 |succ k=>
  clear l1 g1 hY vm hne ho
  have hx:=lm.getD (by omega) k
  have hs:r*65536+a.getD k 0<4294967296:=by omega
  have hne:(n=0)=False:=eq_false (by omega)
  have hw:IntKind.u32.wrap (((r*65536+a.getD k 0) / n:Nat):Int)=(((r*65536+a.getD k 0) / n:Nat):Int):=wn_u32 (Nat.lt_of_le_of_lt (Nat.div_le_self _ _) hs)
  have hw2:IntKind.u64.wrap (((r*65536+a.getD k 0) / n:Nat):Int)=(((r*65536+a.getD k 0) / n:Nat):Int):=wn_u64 (Nat.lt_trans (Nat.lt_of_le_of_lt (Nat.div_le_self _ _) hs) (by decide))
  have hwm:IntKind.u64.wrap ((r*65536:Nat):Int)=((r*65536:Nat):Int):=wn_u64 (Nat.lt_trans (Nat.lt_of_le_of_lt (Nat.le_add_right _ _) hs) (by decide))
  have hwa:IntKind.u64.wrap ((r*65536+a.getD k 0:Nat):Int)=((r*65536+a.getD k 0:Nat):Int):=wn_u64 (Nat.lt_trans hs (by decide))
  have hd66:(r*65536+a.getD k 0) / n<65536:=by
   apply Nat.div_lt_of_lt_mul
   have:(r+1)*65536≤n*65536:=Nat.mul_le_mul_right _ hr
   omega
  have hst:=h2.step (s:=r*65536+a.getD k 0) (by omega) lm hn1 rfl
  rw[Nat.mod_eq_of_lt hd66]at hst
  have hqm:(r*65536+a.getD k 0) / n%18446744073709551616%4294967296=(r*65536+a.getD k 0) / n:=by
   rw[Nat.mod_eq_of_lt (Nat.lt_trans hd66 (by decide)),Nat.mod_eq_of_lt (Nat.lt_trans hd66 (by decide))]
  clear hd66
  generalize hqd:(r*65536+a.getD k 0) / n=qd at*
  generalize hrd:(r*65536+a.getD k 0)%n=rd at*
  generalize hsd:r*65536+a.getD k 0=sd at*
  simp(disch:=first|exact Xe|fail)only[hne,ne_eq,List.getD_cons_zero,load_LS0,↓hwm,↓hwa,hsd,hqd,hrd,↓hw,↓hw2,↓Xa,Xb,Xc,↓reduceIte,Nat.reduceLT,Nat.reduceEqDiff,Nat.reduceBEq,Nat.reduceLeDiff,Nat.reduceAdd,Nat.reduceMul]
  exact Settle.now ⟨(k,_,_),by dsimp only;omega,⟨by dsimp only;omega,hst⟩,rfl⟩
theorem len_growO{H0 H:AHeap}{ty:Nat}{l:List Nat}{x:AV}{K:AV→Prop}(h:growO H0 ty l x H)(hl:l.length<2^63):lenW false x K=K (.int .i64 ((l.length:Nat):Int)):=by
 rcases h with⟨rfl,rfl,rfl⟩|⟨b,_,rfl,rfl⟩
 ·simp[lenW]
 ·simp[lenW,hl]
structure LongK(A V M:Nat)(ql:List Nat):Prop where
 hM:M≤blen A
 qlen:ql.length=(digs 65536 A).length
 qlim:Lim 65536 ql
 qval:val 65536 ql=A / 2^M / V*2^M
theorem rdiv_many{A V:Nat}(ta tb:Bool)(hV:0<V)(hV1: ¬(digs 65536 V).length=1)(hA:(digs 65536 A).length≤549755813888)(hVl:(digs 65536 V).length≤549755813888):
 PFn Tryz.prog 134 [LS (digs 65536 A) ta,LS (digs 65536 V) tb] (.tup [LS (digs 65536 (A / V)) false,LS (digs 65536 (A%V)) false]):=by
 intro H Q hq
 have hbl:blen A≤16*549755813888:=by
  rcases Nat.eq_zero_or_pos A with e|e
  ·rw[e,blen_zero];omega
  ·have hb:blen A=16*((digs 65536 A).length-1)+blen ((digs 65536 A).getD ((digs 65536 A).length-1) 0):=blen_digs (w:=16) (by omega) e
   have hd:=(lim_digs (B:=65536) (by omega) A).getD (by omega) ((digs 65536 A).length-1)
   have hp:0<(digs 65536 A).length:=by rw[digs_pos (by omega) e];simp
   have:blen ((digs 65536 A).getD ((digs 65536 A).length-1) 0)≤16:=blen_le.2 (by omega)
   omega
 refine enter134 (by simp) ?_
 simp(disch:=first|exact Xe|fail)only[ac134,hV1,↓Xa,Xb,Xc,↓reduceIte,Nat.reduceLT,Nat.reduceEqDiff,Nat.reduceBEq,Nat.reduceLeDiff,Nat.reduceAdd,Nat.reduceMul]
 refine newU_i fun bq hbq=>?_
 simp(disch:=first|exact Xe|fail)only[↓Xa,Xb,Xc,↓reduceIte,Nat.reduceLT,Nat.reduceEqDiff,Nat.reduceBEq,Nat.reduceLeDiff,Nat.reduceAdd,Nat.reduceMul]
 refine(rbits0_fn A ta (by omega)).call ?_
 simp(disch:=first|exact Xe|fail)only[↓Xa,Xb,Xc,↓reduceIte,Nat.reduceLT,Nat.reduceEqDiff,Nat.reduceBEq,Nat.reduceLeDiff,Nat.reduceAdd,Nat.reduceMul]
 refine W_loop (fun s:Nat×List Nat×AV×AHeap=>⟨[],[(0,LS (digs 65536 A) ta),(1,LS (digs 65536 V) tb),(9,.own bq (digs 65536 A).length 0 (digs 65536 A).length true),(10,s.2.2.1),(11,.int .i64 (dn s.1))],s.2.2.2⟩)
  (fun s=>LongK A V s.1 s.2.1∧growO (H.upd bq (some (.row 168 1 (U s.2.1)))) 168 (digs 65536 (A / 2^s.1%V)) s.2.2.1 s.2.2.2) (fun s=>s.1)
  (blen A,List.replicate (digs 65536 A).length 0,.seq 0 [] true,H.upd bq (some (.row 168 1 (U (List.replicate (digs 65536 A).length 0))))) (Settle.now rfl) ?_ ?_
 ·have z:A / 2^blen A=0:=Nat.div_eq_of_lt (blen_lt A)
  refine⟨⟨Nat.le_refl _,by simp,lim_zeros (by omega) _,?_⟩,.inl ⟨?_,rfl,rfl⟩⟩
  ·dsimp only;rw[val_zeros,z,Nat.zero_div,Nat.zero_mul]
  ·dsimp only;rw[z,Nat.zero_mod,digs_zero]
 rintro⟨M,ql,x,H1⟩ ⟨hk,hg⟩
 dsimp only at hk hg ⊢
 have hM:=hk.hM
 cases M with
 |zero=>
  obtain⟨q1,q2,q3⟩:ql.length=(digs 65536 A).length∧Lim 65536 ql∧val 65536 ql=A / V:=⟨hk.qlen,hk.qlim,by have:=hk.qval;simpa using this⟩
  rw[Nat.pow_zero,Nat.div_one]at hg
  have hkeep:=hg
  simp(disch:=first|exact Xe|fail)only[↓Xa,Xb,Xc,↓reduceIte,Nat.reduceLT,Nat.reduceEqDiff,Nat.reduceBEq,Nat.reduceLeDiff,Nat.reduceAdd,Nat.reduceMul]
  refine Settle.grownO 10 rfl hg ?_
  refine Settle.freeze 9 rfl (upd_same _ _ _) (by simp[q1]) (.inr (by simp)) ?_
  have e1:AV.seq (digs 65536 A).length (((U ql).drop 0).take ((digs 65536 A).length*1)) true=LS ql true:=by
   rw[List.drop_zero,Nat.mul_one,← q1,List.take_of_length_le (by simp)];rfl
  rw[e1,upd_upd,upd_back _ hbq]
  refine Settle.now ?_
  simp(disch:=first|exact Xe|fail)only[↓Xa,Xb,Xc,↓reduceIte,Nat.reduceLT,Nat.reduceEqDiff,Nat.reduceBEq,Nat.reduceLeDiff,Nat.reduceAdd,Nat.reduceMul]
  refine(rnorm_fn false true q2 (by omega)).call ?_
  simp(disch:=first|exact Xe|fail)only[RefA,rs134,↓Xa,Xb,Xc,↓reduceIte,Nat.reduceLT,Nat.reduceEqDiff,Nat.reduceBEq,Nat.reduceLeDiff,Nat.reduceAdd,Nat.reduceMul]
  refine SetR.now ?_
  rw[sg_abs,q3]
  exact hq
 |succ k=>
  have hA0:0<A:=blen_pos.1 (by omega)
  have h2k:2^k≤A:=Nat.le_trans (Nat.pow_le_pow_right (by omega) (by omega)) (blen_low hA0)
  have hkl:=bit_len h2k
  have hRl:(digs 65536 (A / 2^(k+1)%V)).length≤549755813888:=by
   refine Nat.le_trans (digs_len (by omega) _ _ ?_) hVl
   have h1:=val_lt (lim_digs (B:=65536) (by omega) V)
   rw[val_digs (by omega)]at h1
   exact Nat.lt_trans (Nat.mod_lt _ hV) h1
  have hc1:A / 2^k%2≤1:=by omega
  have hls:=long_step (A:=A) (k:=k) hV
  simp(disch:=first|exact Xe|fail)only[↓Xa,Xb,Xc,↓reduceIte,Nat.reduceLT,Nat.reduceEqDiff,Nat.reduceBEq,Nat.reduceLeDiff,Nat.reduceAdd,Nat.reduceMul]
  refine(bit_fn A k ta (by omega) hkl).call ?_
  simp(disch:=first|exact Xe|fail)only[↓Xa,Xb,Xc,↓reduceIte,Nat.reduceLT,Nat.reduceEqDiff,Nat.reduceBEq,Nat.reduceLeDiff,Nat.reduceAdd,Nat.reduceMul]
  generalize hR:A / 2^(k+1)%V=R at*
  generalize A / 2^k%2=c0 at*
  have hXl:=lim_digs (B:=65536) (by omega) R
  refine W_loop (fun s:Nat×Nat×List Nat×AV×AHeap=>⟨[],[(0,LS (digs 65536 A) ta),(1,LS (digs 65536 V) tb),(9,.own bq (digs 65536 A).length 0 (digs 65536 A).length true),(10,s.2.2.2.1),(11,.int .i64 k),(12,.int .u32 s.2.1),(13,.int .i64 s.1)],s.2.2.2.2⟩)
   (fun s=>s.1≤(digs 65536 R).length∧DblI (digs 65536 R) c0 s.1 s.2.1 s.2.2.1∧growO (H.upd bq (some (.row 168 1 (U ql)))) 168 (s.2.2.1++(digs 65536 R).drop s.1) s.2.2.2.1 s.2.2.2.2) (fun s=>(digs 65536 R).length-s.1)
   (0,c0,[],x,H1) (Settle.now rfl) ⟨Nat.zero_le _,DblI.zero _ hc1,hg⟩ ?_
  rintro⟨i,c,done,x',H2⟩ ⟨g1,g2,g3⟩
  dsimp only at g1 g2 g3 ⊢
  have hd:=g2.1
  have hc:=g2.2.2.1
  have hcl:(done++(digs 65536 R).drop i).length=(digs 65536 R).length:=by simp[hd];omega
  have hlen: ∀K,lenW false x' K=K (.int .i64 (((digs 65536 R).length:Nat):Int)):=fun K=>by
   rw[len_growO g3 (by omega),hcl]
  by_cases hi:i<(digs 65536 R).length
  ·have hx:=hXl.getD (by omega) i
   rcases g3 with⟨e1,_,_⟩|⟨br,hbr,rfl,rfl⟩
   ·rw[e1]at hcl;simp at hcl;omega
   ·have p1:(done++(digs 65536 R).drop i).getD i 0=(digs 65536 R).getD i 0:=part_get hd hi
    have p2: ∀y,(done++(digs 65536 R).drop i).set i y=(done++[y])++(digs 65536 R).drop (i+1):=fun y=>part_set hd hi
    rw[hcl]
    generalize hrow:done++(digs 65536 R).drop i=row at*
    simp(disch:=first|exact Xe|fail)only[hi,p1,ne_eq,Nat.reduceEqDiff,↓Xa,Xb,Xc,↓reduceIte,Nat.reduceLT,Nat.reduceEqDiff,Nat.reduceBEq,Nat.reduceLeDiff,Nat.reduceAdd,Nat.reduceMul]
    rw[p2]
    have e3:(done++[(c+2*(digs 65536 R).getD i 0)%65536]++(digs 65536 R).drop (i+1)).length=(digs 65536 R).length:=by
     simp[hd];omega
    exact Settle.now ⟨(i+1,_,done++[(c+2*(digs 65536 R).getD i 0)%65536],_,_),by dsimp only;omega,⟨by dsimp only;omega,g2.step hXl rfl,.inr ⟨br,hbr,by rw[e3],rfl⟩⟩,rfl⟩
  ·obtain rfl:i=(digs 65536 R).length:=by omega
   have hend:=g2.end hc1
   rw[List.drop_of_length_le (Nat.le_refl _),List.append_nil]at g3
   simp(disch:=first|exact Xe|fail)only[hlen,hi,↓Xa,Xb,Xc,↓reduceIte,Nat.reduceLT,Nat.reduceEqDiff,Nat.reduceBEq,Nat.reduceLeDiff,Nat.reduceAdd,Nat.reduceMul]
   refine Settle.now ?_
   by_cases h0:0<c
   ·rw[if_pos h0]at hend
    simp(disch:=first|exact Xe|fail)only[h0,↓Xa,Xb,Xc,↓reduceIte,Nat.reduceLT,Nat.reduceEqDiff,Nat.reduceBEq,Nat.reduceLeDiff,Nat.reduceAdd,Nat.reduceMul]
    refine appO (m:=[c]) g3 rfl (by simp) (by simp;omega) fun x2 H3 g4=>?_
    rw[hend]at g4
    simp(disch:=first|exact Xe|fail)only[↓Xa,Xb,Xc,↓reduceIte,Nat.reduceLT,Nat.reduceEqDiff,Nat.reduceBEq,Nat.reduceLeDiff,Nat.reduceAdd,Nat.reduceMul]
    rcases g4 with⟨z1,rfl,rfl⟩|⟨b2,hb2,rfl,rfl⟩
    ·have z2:2*R+c0=0:=(digs_nil (B:=65536) (by omega)).1 z1
     obtain⟨f1,f2⟩:=hls.2 (by omega)
     rw[LS_0 65536]
     refine(size_fn 0 V true tb (by rw[digs_zero];simp) (by omega)).call ?_
     rw[show cmpZ 0 V= -1 by simp[cmpZ,hV]]
     simp(disch:=first|exact Xe|fail)only[bin_geq_neg,↓Xa,Xb,Xc,↓reduceIte,Nat.reduceLT,Nat.reduceEqDiff,Nat.reduceBEq,Nat.reduceLeDiff,Nat.reduceAdd,Nat.reduceMul]
     refine Settle.keep [0,1,9,10,11] ⟨(k,ql,_,_),by dsimp only;omega,⟨⟨by dsimp only;omega,hk.qlen,hk.qlim,?_⟩,.inl ⟨?_,rfl,rfl⟩⟩,by rw[← LS_0 65536];rfl⟩
     ·dsimp only;rw[hk.qval,f2,Nat.pow_succ];grind
     ·dsimp only;rw[f1,z2,digs_zero]
    ·have ap1:=(upd_none.1 hb2).1
     have hX2l:(digs 65536 (2*R+c0)).length≤1099511627776:=by
      refine Nat.le_trans (digs_len (by omega) ((digs 65536 V).length+1) _ ?_) (by omega)
      have q1:=val_lt (lim_digs (B:=65536) (by omega) V)
      rw[val_digs (by omega)]at q1
      have q2:R<V:=hR▸Nat.mod_lt _ hV
      rw[Nat.pow_succ];omega
     refine run_call (size_own (2*R+c0) V false tb (upd_same _ _ _) rfl ?_ hX2l (by omega))
     by_cases hge:V≤2*R+c0
     ·obtain⟨f1,f2⟩:=hls.1 hge
      have c3: ∀K,binW .geq (.int .i64 (cmpZ (2*R+c0) V)) (.int .i64 ((0:Nat):Int)) K↔K (.bool true):=fun K=>by
       have:(0:Int)≤cmpZ (2*R+c0) V:=by unfold cmpZ;rw[if_neg (by omega)];split<;>omega
       simp[binW,binInt];rw[decide_eq_true this]
      simp(disch:=first|exact Xe|fail)only[c3,↓Xa,Xb,Xc,↓reduceIte,Nat.reduceLT,Nat.reduceEqDiff,Nat.reduceBEq,Nat.reduceLeDiff,Nat.reduceAdd,Nat.reduceMul]
      refine run_call (minus_own (2*R+c0) V false tb (upd_same _ _ _) rfl ?_ hge hX2l)
      intro x3 H4 g5
      have hpl:(digs 65536 (2*R+c0-V)).length≤(digs 65536 (2*R+c0)).length:=digs_len (by omega) _ _ (by
       have:=val_lt (lim_digs (B:=65536) (by omega) (2*R+c0));rw[val_digs (by omega)]at this;omega)
      have hpad:=pad_len hpl
      have hp0:0<(digs 65536 (2*R+c0)).length:=by rw[digs_pos (by omega) (show 0<2*R+c0 by omega)];simp
      rcases g5 with⟨z1,_,_⟩|⟨_,b3,hb3,rfl,rfl⟩
      ·rw[z1]at hpad;simp at hpad;omega
      ·have ap2:=(upd_none.1 hb3).1
       have ap3:=(upd_none.1 (upd_none.1 hb3).2).1
       have hn3:=(upd_none.1 (upd_none.1 hb3).2).2
       simp(disch:=first|exact Xe|fail)only[↓Xa,Xb,Xc,↓reduceIte,Nat.reduceLT,Nat.reduceEqDiff,Nat.reduceBEq,Nat.reduceLeDiff,Nat.reduceAdd,Nat.reduceMul]
       refine run_call (rnorm_own false false (upd_same _ _ _) rfl (fun ti=>?_) (pad_lim (by omega)) (by omega))
       have htr:tr (pad 65536 (2*R+c0-V) (digs 65536 (2*R+c0)).length)=digs 65536 (2*R+c0-V):=by
        rw[tr_digs (B:=65536) (by omega) (pad_lim (by omega)),pad_val (by omega)]
       have hpt:(pad 65536 (2*R+c0-V) (digs 65536 (2*R+c0)).length).take (digs 65536 (2*R+c0-V)).length=digs 65536 (2*R+c0-V):=by
        unfold pad;simp
       rw[htr,hpad]
       obtain⟨o1,o2,o3⟩:=bit_set hk.qlim (by rw[hk.qlen];exact hkl) hk.qval
       have hql:=hk.qlen
       have hqd:=hk.qlim.getD (by omega) (k / 16)
       have hk16:k / 16<9223372036854775808:=by omega
       have hpw:(2:Nat)^(k%16)≤2^15:=Nat.pow_le_pow_right (by omega) (by omega)
       have hk32:k%16≤32:=by omega
       have or1: ∀K,binW .or (.int .u32 ((ql.getD (k / 16) 0:Nat):Int)) (.int .u32 ((2^(k%16):Nat):Int)) K↔K (.int .u32 ((ql.getD (k / 16) 0+2^(k%16):Nat):Int)):=fun K=>by
        rw[bin_or .u32 (by simp only[IntKind.bits];omega) (by simp only[IntKind.bits];omega),o1,wn_u32 (by omega)]
       simp(disch:=first|exact Xe|fail)only[hkl,hql,or1,Nat.one_mul,bin_shl32,ne_eq,Nat.reduceEqDiff,↓Xa,Xb,Xc,↓reduceIte,Nat.reduceLT,Nat.reduceEqDiff,Nat.reduceBEq,Nat.reduceLeDiff,Nat.reduceAdd,Nat.reduceMul]
       refine Settle.kill b2 ?_
       rw[upd_over ap2,upd_back _ (upd_none.2 ⟨ap1,(upd_none.1 hb2).2⟩)]
       refine Settle.renew 10 rfl (upd_same _ _ _) hpad hpl fun b' hb'=>?_
       rw[upd_upd,upd_back _ (upd_none.2 ⟨ap3,hn3⟩)]at hb' ⊢
       rw[hpt]
       refine Settle.now ⟨(k,ql.set (k / 16) (ql.getD (k / 16) 0+2^(k%16)),_,_),by dsimp only;omega,⟨⟨by dsimp only;omega,by simpa using hql,lim_set hk.qlim _ _ o2,?_⟩,.inr ⟨b',hb',?_,?_⟩⟩,rfl⟩
       ·dsimp only;rw[f2];exact o3
       ·dsimp only;rw[f1]
       ·exact congrArg (fun z=>(H.upd bq (some (ABlk.row 168 1 (U (ql.set (k / 16) (ql.getD (k / 16) 0+2^(k%16))))))).upd b' (some (.row 168 1 (U (digs 65536 z))))) f1.symm
     ·obtain⟨f1,f2⟩:=hls.2 (by omega)
      have c3: ∀K,binW .geq (.int .i64 (cmpZ (2*R+c0) V)) (.int .i64 ((0:Nat):Int)) K↔K (.bool false):=fun K=>by
       simp[binW,binInt,cmpZ,show 2*R+c0<V by omega]
      simp(disch:=first|exact Xe|fail)only[c3,↓Xa,Xb,Xc,↓reduceIte,Nat.reduceLT,Nat.reduceEqDiff,Nat.reduceBEq,Nat.reduceLeDiff,Nat.reduceAdd,Nat.reduceMul]
      refine Settle.keep [0,1,9,10,11] ⟨(k,ql,_,_),by dsimp only;omega,⟨⟨by dsimp only;omega,hk.qlen,hk.qlim,?_⟩,.inr ⟨b2,hb2,?_,?_⟩⟩,rfl⟩
      ·dsimp only;rw[hk.qval,f2,Nat.pow_succ];grind
      ·dsimp only;rw[f1]
      ·exact congrArg (fun z=>(H.upd bq (some (ABlk.row 168 1 (U ql)))).upd b2 (some (.row 168 1 (U (digs 65536 z))))) f1.symm
   ·rw[if_neg h0]at hend
    rw[hend]at g3
    have g4:=g3
    simp(disch:=first|exact Xe|fail)only[h0,↓Xa,Xb,Xc,↓reduceIte,Nat.reduceLT,Nat.reduceEqDiff,Nat.reduceBEq,Nat.reduceLeDiff,Nat.reduceAdd,Nat.reduceMul]
    rcases g4 with⟨z1,rfl,rfl⟩|⟨b2,hb2,rfl,rfl⟩
    ·have z2:2*R+c0=0:=(digs_nil (B:=65536) (by omega)).1 z1
     obtain⟨f1,f2⟩:=hls.2 (by omega)
     rw[LS_0 65536]
     refine(size_fn 0 V true tb (by rw[digs_zero];simp) (by omega)).call ?_
     rw[show cmpZ 0 V= -1 by simp[cmpZ,hV]]
     simp(disch:=first|exact Xe|fail)only[bin_geq_neg,↓Xa,Xb,Xc,↓reduceIte,Nat.reduceLT,Nat.reduceEqDiff,Nat.reduceBEq,Nat.reduceLeDiff,Nat.reduceAdd,Nat.reduceMul]
     refine Settle.keep [0,1,9,10,11] ⟨(k,ql,_,_),by dsimp only;omega,⟨⟨by dsimp only;omega,hk.qlen,hk.qlim,?_⟩,.inl ⟨?_,rfl,rfl⟩⟩,by rw[← LS_0 65536];rfl⟩
     ·dsimp only;rw[hk.qval,f2,Nat.pow_succ];grind
     ·dsimp only;rw[f1,z2,digs_zero]
    ·have ap1:=(upd_none.1 hb2).1
     have hX2l:(digs 65536 (2*R+c0)).length≤1099511627776:=by
      refine Nat.le_trans (digs_len (by omega) ((digs 65536 V).length+1) _ ?_) (by omega)
      have q1:=val_lt (lim_digs (B:=65536) (by omega) V)
      rw[val_digs (by omega)]at q1
      have q2:R<V:=hR▸Nat.mod_lt _ hV
      rw[Nat.pow_succ];omega
     refine run_call (size_own (2*R+c0) V false tb (upd_same _ _ _) rfl ?_ hX2l (by omega))
     by_cases hge:V≤2*R+c0
     ·obtain⟨f1,f2⟩:=hls.1 hge
      have c3: ∀K,binW .geq (.int .i64 (cmpZ (2*R+c0) V)) (.int .i64 ((0:Nat):Int)) K↔K (.bool true):=fun K=>by
       have:(0:Int)≤cmpZ (2*R+c0) V:=by unfold cmpZ;rw[if_neg (by omega)];split<;>omega
       simp[binW,binInt];rw[decide_eq_true this]
      simp(disch:=first|exact Xe|fail)only[c3,↓Xa,Xb,Xc,↓reduceIte,Nat.reduceLT,Nat.reduceEqDiff,Nat.reduceBEq,Nat.reduceLeDiff,Nat.reduceAdd,Nat.reduceMul]
      refine run_call (minus_own (2*R+c0) V false tb (upd_same _ _ _) rfl ?_ hge hX2l)
      intro x3 H4 g5
      have hpl:(digs 65536 (2*R+c0-V)).length≤(digs 65536 (2*R+c0)).length:=digs_len (by omega) _ _ (by
       have:=val_lt (lim_digs (B:=65536) (by omega) (2*R+c0));rw[val_digs (by omega)]at this;omega)
      have hpad:=pad_len hpl
      have hp0:0<(digs 65536 (2*R+c0)).length:=by rw[digs_pos (by omega) (show 0<2*R+c0 by omega)];simp
      rcases g5 with⟨z1,_,_⟩|⟨_,b3,hb3,rfl,rfl⟩
      ·rw[z1]at hpad;simp at hpad;omega
      ·have ap2:=(upd_none.1 hb3).1
       have ap3:=(upd_none.1 (upd_none.1 hb3).2).1
       have hn3:=(upd_none.1 (upd_none.1 hb3).2).2
       simp(disch:=first|exact Xe|fail)only[↓Xa,Xb,Xc,↓reduceIte,Nat.reduceLT,Nat.reduceEqDiff,Nat.reduceBEq,Nat.reduceLeDiff,Nat.reduceAdd,Nat.reduceMul]
       refine run_call (rnorm_own false false (upd_same _ _ _) rfl (fun ti=>?_) (pad_lim (by omega)) (by omega))
       have htr:tr (pad 65536 (2*R+c0-V) (digs 65536 (2*R+c0)).length)=digs 65536 (2*R+c0-V):=by
        rw[tr_digs (B:=65536) (by omega) (pad_lim (by omega)),pad_val (by omega)]
       have hpt:(pad 65536 (2*R+c0-V) (digs 65536 (2*R+c0)).length).take (digs 65536 (2*R+c0-V)).length=digs 65536 (2*R+c0-V):=by
        unfold pad;simp
       rw[htr,hpad]
       obtain⟨o1,o2,o3⟩:=bit_set hk.qlim (by rw[hk.qlen];exact hkl) hk.qval
       have hql:=hk.qlen
       have hqd:=hk.qlim.getD (by omega) (k / 16)
       have hk16:k / 16<9223372036854775808:=by omega
       have hpw:(2:Nat)^(k%16)≤2^15:=Nat.pow_le_pow_right (by omega) (by omega)
       have hk32:k%16≤32:=by omega
       have or1: ∀K,binW .or (.int .u32 ((ql.getD (k / 16) 0:Nat):Int)) (.int .u32 ((2^(k%16):Nat):Int)) K↔K (.int .u32 ((ql.getD (k / 16) 0+2^(k%16):Nat):Int)):=fun K=>by
        rw[bin_or .u32 (by simp only[IntKind.bits];omega) (by simp only[IntKind.bits];omega),o1,wn_u32 (by omega)]
       simp(disch:=first|exact Xe|fail)only[hkl,hql,or1,Nat.one_mul,bin_shl32,ne_eq,Nat.reduceEqDiff,↓Xa,Xb,Xc,↓reduceIte,Nat.reduceLT,Nat.reduceEqDiff,Nat.reduceBEq,Nat.reduceLeDiff,Nat.reduceAdd,Nat.reduceMul]
       refine Settle.kill b2 ?_
       rw[upd_over ap2,upd_back _ (upd_none.2 ⟨ap1,(upd_none.1 hb2).2⟩)]
       refine Settle.renew 10 rfl (upd_same _ _ _) hpad hpl fun b' hb'=>?_
       rw[upd_upd,upd_back _ (upd_none.2 ⟨ap3,hn3⟩)]at hb' ⊢
       rw[hpt]
       refine Settle.now ⟨(k,ql.set (k / 16) (ql.getD (k / 16) 0+2^(k%16)),_,_),by dsimp only;omega,⟨⟨by dsimp only;omega,by simpa using hql,lim_set hk.qlim _ _ o2,?_⟩,.inr ⟨b',hb',?_,?_⟩⟩,rfl⟩
       ·dsimp only;rw[f2];exact o3
       ·dsimp only;rw[f1]
       ·exact congrArg (fun z=>(H.upd bq (some (ABlk.row 168 1 (U (ql.set (k / 16) (ql.getD (k / 16) 0+2^(k%16))))))).upd b' (some (.row 168 1 (U (digs 65536 z))))) f1.symm
     ·obtain⟨f1,f2⟩:=hls.2 (by omega)
      have c3: ∀K,binW .geq (.int .i64 (cmpZ (2*R+c0) V)) (.int .i64 ((0:Nat):Int)) K↔K (.bool false):=fun K=>by
       simp[binW,binInt,cmpZ,show 2*R+c0<V by omega]
      simp(disch:=first|exact Xe|fail)only[c3,↓Xa,Xb,Xc,↓reduceIte,Nat.reduceLT,Nat.reduceEqDiff,Nat.reduceBEq,Nat.reduceLeDiff,Nat.reduceAdd,Nat.reduceMul]
      refine Settle.keep [0,1,9,10,11] ⟨(k,ql,_,_),by dsimp only;omega,⟨⟨by dsimp only;omega,hk.qlen,hk.qlim,?_⟩,.inr ⟨b2,hb2,?_,?_⟩⟩,rfl⟩
      ·dsimp only;rw[hk.qval,f2,Nat.pow_succ];grind
      ·dsimp only;rw[f1]
      ·exact congrArg (fun z=>(H.upd bq (some (ABlk.row 168 1 (U ql)))).upd b2 (some (.row 168 1 (U (digs 65536 z))))) f1.symm
theorem rdivide_fn{A V:Nat}(ta tb:Bool)(hV:0<V)(hA:(digs 65536 A).length≤549755813888)(hVl:(digs 65536 V).length≤549755813888):
 PFn Tryz.prog 134 [LS (digs 65536 A) ta,LS (digs 65536 V) tb] (.tup [LS (digs 65536 (A / V)) false,LS (digs 65536 (A%V)) false]):=by
 by_cases h1:(digs 65536 V).length=1
 ·have h2:=val_lt (lim_digs (B:=65536) (by omega) V)
  rw[val_digs (by omega),h1]at h2
  exact rdiv_one ta tb hV (by simpa using h2) (by omega)
 ·exact rdiv_many ta tb hV h1 hA hVl
theorem Bd.le{x y:Int}{k:Nat}(h:Bd k y)(hl:x.natAbs≤y.natAbs):Bd k x:=Nat.lt_of_le_of_lt hl h
theorem Bd.ediv{x y:Int}{k:Nat}(h:Bd k x):Bd k (x / y):=h.le (Int.natAbs_ediv_le_natAbs x y)
def IC(zs:List Int):List AV:=zs.flatMap fun z=>[IntB z,IntD z]
theorem IC_len(zs:List Int):(IC zs).length=zs.length*2:=by
 induction zs with
 |nil=>rfl
 |cons a l ih=>simp only[IC,List.flatMap_cons,List.length_append,List.length_cons,List.length_nil]at *; omega
theorem IC_snoc(zs:List Int)(z:Int):IC (zs++[z])=IC zs++[IntB z,IntD z]:=by simp[IC,List.flatMap_append]
theorem IC_drop: ∀(l:List Int)(i:Nat)(h:i<l.length),(IC l).drop (i*2)=IntB (l[i])::IntD (l[i])::(IC l).drop (i*2+2)
 |a::l,0,_=>rfl
 |a::l,i+1,h=>by
  have:=IC_drop l i (by simpa using h)
  rw[show(i+1)*2=i*2+2 by omega]
  show((IntB a::IntD a::IC l).drop (i*2+2))=_
  simp only[List.drop_succ_cons,List.getElem_cons_succ]
  rw[this]
  show _=_::_::((IntB a::IntD a::IC l).drop (i*2+2+2))
  simp only[List.drop_succ_cons]
def RowI(H:AHeap)(x:AV)(zs:List Int):Prop:=
 (∃t,x=.seq zs.length (IC zs) t)∨∃b ty t,x=.own b (zs.length*2) 0 zs.length t∧H b=some (.row ty 2 (IC zs))
theorem RowI.le{H H':AHeap}{x:AV}{zs:List Int}(h:RowI H x zs)(hl:Le H H'):RowI H' x zs:=by
 rcases h with h|⟨b,ty,t,e,hb⟩
 ·exact .inl h
 ·exact .inr ⟨b,ty,t,e,hl b _ hb⟩
theorem RowI.nil{H:AHeap}:RowI H (.seq 0 [] true) []:=.inl ⟨true,rfl⟩
theorem RowI.grown{H0 H:AHeap}{ty:TypeId}{x:AV}{zs:List Int}(h:growC H0 ty 2 zs.length (IC zs) x H):RowI H x zs:=by
 rcases h with⟨h1,h2,rfl,rfl⟩|⟨h1,h2,b,hb,rfl,rfl⟩
 ·have:zs=[]:=List.length_eq_zero_iff.1 h1
  subst this;exact RowI.nil
 ·exact .inr ⟨b,ty,false,rfl,upd_same _ _ _⟩
theorem RowI.len{H:AHeap}{x:AV}{zs:List Int}(h:RowI H x zs)(hn:zs.length<9223372036854775808){K:AV→Prop}:lenW false x K=K (.int .i64 ((zs.length:Nat):Int)):=by
 rcases h with⟨t,rfl⟩|⟨b,ty,t,rfl,hb⟩<;>simp[lenW,hn]
theorem RowI.get{H:AHeap}{x:AV}{zs:List Int}(h:RowI H x zs){i:Nat}(hi:i<zs.length): ∃p,(∀{k:IntKind}{K:AV→Prop},(liveS H x∧idxAW 2 x (.int k (i:Int)) K)↔K p)∧∀{K:AV→Prop},loadW H (some 2) p K↔K (IntA (zs[i])):=by
 rcases h with⟨t,rfl⟩|⟨b,ty,t,rfl,hb⟩
 ·refine⟨.cptr ((IC zs).drop (i*2)),fun{k K}=>?_,fun{K}=>?_⟩
  ·simp[liveS,idxAW,IC_len,hi]
  ·simp only[loadW,cellsAt,IC_drop zs i hi];simp[IntA_eq]
 ·have hl:=IC_len zs
  refine⟨.ptr b (zs.length*2) (i*2),fun{k K}=>?_,fun{K}=>?_⟩
  ·simp[liveS,idxAW,hb,hl,hi]
  ·simp only[loadW,cellsAt,hb,IC_drop zs i hi]
   simp[IntA_eq,hl]
   omega
end Go.Proofs.YtmndejlpfmmaiaaGreatDoor.Fw
namespace Go.Proofs.YtmndejlpfmmaiaaGreatDoor.Fw
open Go Go.Proofs.YtmndejlpfmmaiaaGreatDoor.Ma
def zipI(f:Int→Int→Int)(zs ws:List Int):List Int:=List.zipWith f zs ws
end Go.Proofs.YtmndejlpfmmaiaaGreatDoor.Fw
namespace Go.Proofs.YtmndejlpfmmaiaaGreatDoor.Fw
open Go Go.Proofs.YtmndejlpfmmaiaaGreatDoor.Ma
set_option maxRecDepth 20000
end Go.Proofs.YtmndejlpfmmaiaaGreatDoor.Fw
namespace Go.Proofs.YtmndejlpfmmaiaaGreatDoor.Ma
def chr(d:Nat):UInt8:=UInt8.ofNat (48+d)
theorem chr_nat{d:Nat}(h:d<10):(chr d).toNat=48+d:=by unfold chr;rw[UInt8.toNat_ofNat'];omega
def dec(n:Nat):List UInt8:=(digs 10 n).reverse.map chr
def wide(k n:Nat):List UInt8:=(pad 10 n k).reverse.map chr
theorem dec_zero:dec 0=[]:=by simp[dec,digs_zero]
theorem wide_len{k n:Nat}(h:n<10^k):(wide k n).length=k:=by
 simp only[wide,List.length_map,List.length_reverse]
 exact pad_len (digs_len (by omega) k n h)
theorem dec_len{k n:Nat}(h:n<10^k):(dec n).length≤k:=by
 simp only[dec,List.length_map,List.length_reverse]
 exact digs_len (by omega) k n h
theorem last_append{l m:List Nat}(h:m≠[]):(l++m).getD ((l++m).length-1) 0=m.getD (m.length-1) 0:=by
 have:0<m.length:=List.length_pos_iff.2 h
 rw[List.getD_eq_getElem?_getD,List.getD_eq_getElem?_getD,List.length_append,List.getElem?_append_right (by omega)]
 congr 2;omega
theorem dec_app{k p m:Nat}(hp:p<10^k)(hm:0<m):dec (p+10^k*m)=dec m++wide k p:=by
 have hne:digs 10 m≠[]:=fun e=>by have:=(digs_nil (B:=10) (by omega)).1 e;omega
 have hlen:=pad_len (digs_len (B:=10) (by omega) k p hp)
 have e:digs 10 (p+10^k*m)=pad 10 p k++digs 10 m:=by
  have h1:Lim 10 (pad 10 p k++digs 10 m):=(pad_lim (by omega)).append (lim_digs (by omega) m)
  have h2:=digs_of (B:=10) (by omega) h1 (.inr (by rw[last_append hne];exact digs_last (by omega) hm))
  rw[h2,val_append,pad_val (by omega),val_digs (by omega),hlen]
 simp only[dec,e,wide,List.reverse_append,List.map_append]
theorem wide_succ{j q:Nat}(h:q<10^(j+1)):wide (j+1) q=chr (q / 10^j)::wide j (q%10^j):=by
 have hp:0<10^j:=Nat.pow_pos (by omega)
 have hlt:q%10^j<10^j:=Nat.mod_lt _ hp
 have hd:q / 10^j<10:=Nat.div_lt_of_lt_mul (by rw[Nat.pow_succ]at h;omega)
 have hlen:=pad_len (digs_len (B:=10) (by omega) j _ hlt)
 have e:pad 10 q (j+1)=pad 10 (q%10^j) j++[q / 10^j]:=by
  have h1:Lim 10 (pad 10 (q%10^j) j++[q / 10^j]):=(pad_lim (by omega)).append (Lim.one hd)
  have h2:=pad_of (B:=10) (by omega) h1
  rw[val_append,pad_val (by omega),hlen,val_one,List.length_append,hlen,Nat.mod_add_div]at h2
  exact h2.symm
 simp only[wide,e,List.reverse_append,List.map_append,List.reverse_singleton,List.map_cons,List.map_nil,List.singleton_append]
theorem wide_step{j p:Nat}:wide (j+1) (p%10^(j+1))=chr (p / 10^j%10)::wide j (p%10^j):=by
 have hp:0<10^(j+1):=Nat.pow_pos (by omega)
 rw[wide_succ (Nat.mod_lt _ hp)]
 have e1:p%10^(j+1) / 10^j=p / 10^j%10:=by rw[Nat.pow_succ,Nat.mod_mul_right_div_self]
 have e2:p%10^(j+1)%10^j=p%10^j:=by rw[Nat.pow_succ];exact Nat.mod_mod_of_dvd _ (Nat.dvd_mul_right _ _)
 rw[e1,e2]
theorem chr_48{d:Nat}(h:d<10):(chr d=48)↔d=0:=by
 constructor
 ·intro e
  have:=congrArg UInt8.toNat e
  rw[chr_nat h]at this
  simp at this;omega
 ·rintro rfl;rfl
theorem wide_trim{k p:Nat}:(wide k p).dropWhile (· ==48)=dec p:=by
 have e:wide k p=List.replicate (k-(digs 10 p).length) 48++dec p:=by
  simp only[wide,pad,dec,List.reverse_append,List.map_append,List.reverse_replicate,List.map_replicate]
  rfl
 rw[e]
 have h: ∀n(l:List UInt8),(List.replicate n 48++l).dropWhile (· ==48)=l.dropWhile (· ==48):=by
  intro n
  induction n with
  |zero=>intro l;simp
  |succ n ih=>intro l;rw[List.replicate_succ,List.cons_append,List.dropWhile_cons];simp[ih]
 rw[h]
 rcases Nat.eq_zero_or_pos p with hp|hp
 ·subst hp;rw[dec_zero];rfl
 ·have hl:=digs_last (B:=10) (by omega) hp
  have hne:digs 10 p≠[]:=fun e=>by have:=(digs_nil (B:=10) (by omega)).1 e;omega
  obtain⟨l,x,hx⟩: ∃l x,digs 10 p=l++[x]:=⟨_,_,(List.dropLast_concat_getLast hne).symm⟩
  have hx0:x≠0:=by
   rw[hx,last_append (by simp)]at hl
   simpa using hl
  have hx10:x<10:=lim_digs (B:=10) (by omega) p x (by rw[hx];simp)
  have hd:dec p=chr x::l.reverse.map chr:=by simp[dec,hx]
  rw[hd,List.dropWhile_cons]
  have:(chr x==48)=false:=by
   rw[beq_eq_false_iff_ne];exact fun h=>hx0 ((chr_48 hx10).1 h)
  rw[this];rfl
theorem digs_drop_pos{B n k:Nat}(hB:2≤B)(hk:k<(digs B n).length):0<val B ((digs B n).drop k):=by
 have hn:0<n:=by
  rcases Nat.eq_zero_or_pos n with h|h
  ·subst h;rw[digs_zero]at hk;simp at hk
  ·exact h
 have hl:=digs_last hB hn
 have h1:Lim B ((digs B n).drop k):=(lim_digs hB n).drop k
 have h2:((digs B n).drop k).getD (((digs B n).drop k).length-1) 0≠0:=by
  rw[List.length_drop,List.getD_eq_getElem?_getD,List.getElem?_drop,← List.getD_eq_getElem?_getD]
  have:k+((digs B n).length-k-1)=(digs B n).length-1:=by omega
  rw[this];exact hl
 have h3:=digs_of hB h1 (.inr h2)
 rcases Nat.eq_zero_or_pos (val B ((digs B n).drop k))with h|h
 ·rw[h,digs_zero]at h3
  have:=congrArg List.length h3
  simp at this;omega
 ·exact h
def decT(n:Nat):List UInt8:=if n=0 then[48]else dec n
theorem dec_pos{n:Nat}(h:0<n):dec n≠[]:=by
 intro e
 have:(digs 10 n)=[]:=by simpa[dec]using e
 have:=(digs_nil (B:=10) (by omega)).1 this
 omega
theorem piece_step{n k p:Nat}(hk:k<(digs 1000000000 n).length)(hp:p=(digs 1000000000 n).getD k 0):
 p<1000000000∧dec (val 1000000000 ((digs 1000000000 n).drop k))=dec (val 1000000000 ((digs 1000000000 n).drop (k+1)))++(if k+1=(digs 1000000000 n).length then dec p else wide 9 p):=by
 have hlt:p<1000000000:=hp▸(lim_digs (B:=1000000000) (by omega) n).getD (by omega) k
 refine⟨hlt,?_⟩
 rw[val_drop 1000000000 hk,← hp]
 by_cases h:k+1=(digs 1000000000 n).length
 ·rw[if_pos h,List.drop_of_length_le (by omega)]
  simp[val,dec_zero]
 ·rw[if_neg h]
  have:=digs_drop_pos (B:=1000000000) (n:=n) (k:=k+1) (by omega) (by omega)
  exact dec_app (k:=9) hlt this
end Go.Proofs.YtmndejlpfmmaiaaGreatDoor.Ma
namespace Go.Proofs.YtmndejlpfmmaiaaGreatDoor.Fw
open Go Go.Proofs.YtmndejlpfmmaiaaGreatDoor.Ma
set_option maxRecDepth 20000
def Sx(l:List UInt8):AV:=.str ⟨l.toArray⟩
theorem str_Sx{l:List UInt8}:AV.str ⟨l.toArray⟩=Sx l:=id rfl
theorem size_Sx{l:List UInt8}:(⟨l.toArray⟩:ByteArray).size=l.length:=by simp[ByteArray.size]
section
variable {K:AV→Prop} {K2:AV→AHeap→Prop} {KD:AV→List Nat→Option (Nat×ABlk)→Prop} {l m:List UInt8} {k k':IntKind} {H:AHeap}
theorem len_Sx:lenW true (Sx l) K=K (.int .i64 ((l.length:Nat):Int)):=by simp only[Sx,lenW,size_Sx]
theorem idx_Sx{i:Nat}(h:i<l.length):idxSW (Sx l) (.int k (i:Int)) K=K (.int .u8 (((l.getD i 0).toNat:Nat):Int)):=by
 simp[Sx,idxSW,byteAt,size_Sx,h]
theorem extract_Sx{a b:Nat}:(⟨l.toArray⟩:ByteArray).extract a b=⟨((l.drop a).take (b-a)).toArray⟩:=by
 apply ByteArray.ext
 rw[ByteArray.data_extract]
 simp[List.extract_toArray]
theorem slc_SxL{a:Nat}(hb:a≤l.length):slcSW (Sx l) (some (.int k (a:Int))) none K=K (Sx (l.drop a)):=by
 have h1:(0:Int)≤(a:Int)∧(a:Int)≤((l.length:Nat):Int):=by omega
 have e:(l.drop a).take (l.length-a)=l.drop a:=List.take_of_length_le (by simp)
 simp[Sx,slcSW,optI,size_Sx,h1,extract_Sx,e]
theorem beq_dec{a b:List UInt8}:(a==b)=decide (a=b):=by by_cases h:a=b<;>simp[h]
theorem eql_Sx:binW .eql (Sx l) (Sx m) K=K (.bool (decide (l=m))):=by
 simp only[Sx,binW,binStr,ByteArray.toList_eq,List.toList_toArray,beq_dec]
theorem cells_Sx:(Sx l).cells=some [Sx l]:=id rfl
theorem app_S0{ty:Nat}(h0:0<l.length)(hb:l.length≤70368744177664)(kk: ∀b,H b=none→K2 (.own b l.length 0 l.length false) (H.upd b (some (.row ty 1 (Bt l))))):appV H ty 1 1 (.seq 0 [] true) (Sx l) K2:=.inl <| by
 have hal:(Bt l).all AV.cell=true:=by
  rw[List.all_eq_true];intro x hx
  obtain⟨b,_,rfl⟩:=List.mem_map.1 hx;rfl
 refine⟨rfl,?_⟩
 show(bytesA ⟨l.toArray⟩).all AV.cell=true∧_
 rw[bytesA_eq,size_Sx]
 refine⟨hal,rfl,rfl,by omega,by omega,fun e=>by omega,fun _ b hb'=>?_⟩
 simpa using kk b hb'
theorem app_S1{ty b:Nat}{t:Bool}{o:List UInt8}(hH:H b=some (.row ty 1 (Bt o)))(hb:o.length+l.length≤70368744177664)(kk:K2 (.own b (o++l).length 0 (o++l).length false) (H.upd b (some (.row ty 1 (Bt (o++l)))))):appV H ty 1 1 (.own b o.length 0 o.length t) (Sx l) K2:=.inl <| by
 have hal:(Bt l).all AV.cell=true:=by
  rw[List.all_eq_true];intro x hx
  obtain⟨b,_,rfl⟩:=List.mem_map.1 hx;rfl
 refine⟨rfl,?_⟩
 show(bytesA ⟨l.toArray⟩).all AV.cell=true∧_
 rw[bytesA_eq,size_Sx]
 refine⟨hal,?_⟩
 dsimp only
 rw[hH]
 refine⟨Bt_len,rfl,by omega,rfl,rfl,by omega,by omega,?_⟩
 have e:Bt o++Bt l=Bt (o++l):=by simp[Bt]
 rw[List.length_append]at kk
 rw[Nat.mul_one,e]
 exact kk
end
theorem trimB_fn{l:List UInt8}{c:UInt8}(hl:l.length<9223372036854775808):PFn Tryz.prog 236 [Sx l,.int .u8 ((c.toNat:Nat):Int)] (Sx (l.dropWhile (· ==c))):=by
 intro H Q hq
 refine enter236 (by simp) ?_
 simp(disch:=first|exact Xe|fail)only[ac236,↓Xa,Xb,Xc,↓reduceIte,Nat.reduceLT,Nat.reduceEqDiff,Nat.reduceBEq,Nat.reduceLeDiff,Nat.reduceAdd,Nat.reduceMul]
 refine W_loop (fun m:List UInt8=>⟨[],[(0,Sx m),(1,.int .u8 ((c.toNat:Nat):Int))],_⟩) (fun m=>m.length≤l.length∧m.dropWhile (· ==c)=l.dropWhile (· ==c)) (fun m=>m.length) l (Settle.now rfl) ⟨Nat.le_refl _,rfl⟩ ?_
 rintro m ⟨hm,h1⟩
 cases m with
 |nil=>
  simp(disch:=first|exact Xe|fail)only[len_Sx,List.length_nil,↓Xa,Xb,Xc,↓reduceIte,Nat.reduceLT,Nat.reduceEqDiff,Nat.reduceBEq,Nat.reduceLeDiff,Nat.reduceAdd,Nat.reduceMul]
  refine Settle.now ?_
  simp(disch:=first|exact Xe|fail)only[rs236,↓Xa,Xb,Xc,↓reduceIte,Nat.reduceLT,Nat.reduceEqDiff,Nat.reduceBEq,Nat.reduceLeDiff,Nat.reduceAdd,Nat.reduceMul]
  rw[← h1]at hq
  exact SetR.now hq
 |cons x m=>
  have hpos:0<m.length+1:=Nat.succ_pos _
  have e:(x::m).getD 0 0=x:=rfl
  have hm':m.length+1≤l.length:=hm
  rw[List.dropWhile_cons]at h1
  by_cases hx:x=c
  ·have hb:(x==c)=true:=by simp[hx]
   have hx':x.toNat=c.toNat:=by rw[hx]
   rw[if_pos hb]at h1
   simp(disch:=first|exact Xe|fail)only[len_Sx,hpos,idx_Sx,e,hx',slc_SxL,List.drop_succ_cons,List.drop_zero,↓Xa,Xb,Xc,↓reduceIte,Nat.reduceLT,Nat.reduceEqDiff,Nat.reduceBEq,Nat.reduceLeDiff,Nat.reduceAdd,Nat.reduceMul]
   exact Settle.now ⟨m,by simp,⟨by omega,h1⟩,rfl⟩
  ·have hb: ¬(x==c)=true:=by simp[hx]
   have hx': ¬x.toNat=c.toNat:=fun h=>hx (UInt8.toNat_inj.1 h)
   rw[if_neg hb]at h1
   simp(disch:=first|exact Xe|fail)only[len_Sx,hpos,idx_Sx,e,hx',↓Xa,Xb,Xc,↓reduceIte,Nat.reduceLT,Nat.reduceEqDiff,Nat.reduceBEq,Nat.reduceLeDiff,Nat.reduceAdd,Nat.reduceMul]
   refine Settle.now ?_
   simp(disch:=first|exact Xe|fail)only[rs236,↓Xa,Xb,Xc,↓reduceIte,Nat.reduceLT,Nat.reduceEqDiff,Nat.reduceBEq,Nat.reduceLeDiff,Nat.reduceAdd,Nat.reduceMul]
   rw[← h1]at hq
   exact SetR.now hq
theorem trimL_fn{l:List UInt8}{c:UInt8}(hl:l.length<9223372036854775808)(hc:c.toNat<128):PFn Tryz.prog 228 [Sx l,Sx [c]] (Sx (l.dropWhile (· ==c))):=by
 intro H Q hq
 refine enter228 (by simp) ?_
 have e:([c]:List UInt8).getD 0 0=c:=rfl
 have h1:([c]=([]:List UInt8))=False:=by simp
 have h2:0<([c]:List UInt8).length:=by simp
 cases l with
 |nil=>
  simp(disch:=first|exact Xe|fail)only[ac228,str_Sx,eql_Sx,rs228,↓Xa,Xb,Xc,↓reduceIte,Nat.reduceLT,Nat.reduceEqDiff,Nat.reduceBEq,Nat.reduceLeDiff,Nat.reduceAdd,Nat.reduceMul]
  exact SetR.now hq
 |cons x l=>
  have h3:(x::l=([]:List UInt8))=False:=by simp
  simp(disch:=first|exact Xe|fail)only[ac228,str_Sx,eql_Sx,h1,h3,len_Sx,idx_Sx,h2,e,hc,↓Xa,Xb,Xc,↓reduceIte,Nat.reduceLT,Nat.reduceEqDiff,Nat.reduceBEq,Nat.reduceLeDiff,Nat.reduceAdd,Nat.reduceMul]
  refine(trimB_fn hl).call ?_
  simp(disch:=first|exact Xe|fail)only[rs228,↓Xa,Xb,Xc,↓reduceIte,Nat.reduceLT,Nat.reduceEqDiff,Nat.reduceBEq,Nat.reduceLeDiff,Nat.reduceAdd,Nat.reduceMul]
  exact SetR.now hq
theorem check_new{H:AHeap}{p:Nat}{v:AV}{K:AV→AHeap→Prop}(hH:H p=some (.row 257 0 [.nilP,v]))(k:K (.tup []) (H.upd p (some (.row 257 0 [.ptr p 2 0,v])))):Run Tryz.prog 230 [.ptr p 2 0] H K:=by
 refine enter230 (by simp) ?_
 simp(disch:=first|exact Xe|fail)only[ac230,hH,rs230,↓Xa,Xb,Xc,↓reduceIte,Nat.reduceLT,Nat.reduceEqDiff,Nat.reduceBEq,Nat.reduceLeDiff,Nat.reduceAdd,Nat.reduceMul]
 exact SetR.now k
theorem check_used{H:AHeap}{p:Nat}{v:AV}{K:AV→AHeap→Prop}(hH:H p=some (.row 257 0 [.ptr p 2 0,v]))(k:K (.tup []) H):Run Tryz.prog 230 [.ptr p 2 0] H K:=by
 refine enter230 (by simp) ?_
 simp(disch:=first|exact Xe|fail)only[ac230,hH,rs230,↓Xa,Xb,Xc,↓reduceIte,Nat.reduceLT,Nat.reduceEqDiff,Nat.reduceBEq,Nat.reduceLeDiff,Nat.reduceAdd,Nat.reduceMul]
 exact SetR.now k
def bld(p:Nat)(l:List UInt8)(H0 H:AHeap):Prop:=
 (l=[]∧(H=H0.upd p (some (.row 257 0 [.nilP,.seq 0 [] true]))∨H=H0.upd p (some (.row 257 0 [.ptr p 2 0,.seq 0 [] true]))))∨
 (l≠[]∧∃bb,H0 bb=none∧Ap bb p∧H=(H0.upd p (some (.row 257 0 [.ptr p 2 0,.own bb l.length 0 l.length false]))).upd bb (some (.row 5 1 (Bt l))))
theorem bld_new{p:Nat}{H:AHeap}:bld p [] H (H.upd p (some (.row 257 0 [.nilP,.seq 0 [] true]))):=.inl ⟨rfl,.inl rfl⟩
theorem bld_upd{p q:Nat}{l:List UInt8}{H0 H:AHeap}{x:ABlk}(h:bld p l H0 H)(hq:H q=none):Ap q p∧H0 q=none∧bld p l (H0.upd q (some x)) (H.upd q (some x)):=by
 rcases h with⟨rfl,rfl|rfl⟩|⟨h0,bb,hbb,hap,rfl⟩
 ·obtain⟨a,b⟩:=upd_none.1 hq
  exact⟨a,b,.inl ⟨rfl,.inl (upd_comm _ _ _ (Ap.symm a))⟩⟩
 ·obtain⟨a,b⟩:=upd_none.1 hq
  exact⟨a,b,.inl ⟨rfl,.inr (upd_comm _ _ _ (Ap.symm a))⟩⟩
 ·obtain⟨a1,a2,b⟩:Ap q bb∧Ap q p∧H0 q=none:=by simpa only[upd_none]using hq
  refine⟨a2,b,.inr ⟨h0,bb,?_,hap,?_⟩⟩
  ·rw[upd_otherA (Ap.symm a1)];exact hbb
  ·rw[upd_comm _ _ _ (Ap.symm a1),upd_comm (b:=p) (b':=q) _ _ _ (Ap.symm a2)]
theorem wstr_run{p:Nat}{l m:List UInt8}{H0 H:AHeap}{K:AV→AHeap→Prop}(hb:bld p l H0 H)(hl:l.length+m.length≤70368744177664)(hm:0<m.length)
 (k: ∀H',bld p (l++m) H0 H'→K (.tup [.int .i64 ((m.length:Nat):Int),.nilI]) H'):Run Tryz.prog 210 [.ptr p 2 0,Sx m] H K:=by
 refine enter210 (by simp) ?_
 simp(disch:=first|exact Xe|fail)only[ac210,↓Xa,Xb,Xc,↓reduceIte,Nat.reduceLT,Nat.reduceEqDiff,Nat.reduceBEq,Nat.reduceLeDiff,Nat.reduceAdd,Nat.reduceMul]
 have hne: ∀{x:List UInt8},x++m≠[]:=fun{x} e=>by have:=congrArg List.length e;rw[List.length_append,List.length_nil]at this;omega
 have first: ∀{M:AHeap},M=H0.upd p (some (.row 257 0 [.ptr p 2 0,.seq 0 [] true]))→l=[]→
  W Tryz.prog (sndC (sndC ac210)) (retN rs210 K) ⟨[],[(0,.ptr p 2 0),(1,Sx m)],M⟩:=by
  rintro M rfl rfl
  simp(disch:=first|exact Xe|fail)only[sndC,ac210,↓Xa,Xb,Xc,↓reduceIte,Nat.reduceLT,Nat.reduceEqDiff,Nat.reduceBEq,Nat.reduceLeDiff,Nat.reduceAdd,Nat.reduceMul]
  refine app_S0 hm (by simp at hl;omega) fun b hb=>?_
  obtain⟨a1,a2⟩:=upd_none.1 hb
  simp(disch:=first|exact Xe|fail)only[len_Sx,rs210,↓Xa,Xb,Xc,↓reduceIte,Nat.reduceLT,Nat.reduceEqDiff,Nat.reduceBEq,Nat.reduceLeDiff,Nat.reduceAdd,Nat.reduceMul]
  refine SetR.now (k _ (.inr ⟨by simpa using hne (x:=[]),b,a2,a1,?_⟩))
  simp only[List.nil_append]
 rcases hb with⟨rfl,rfl|rfl⟩|⟨h0,bb,hbb,hap,rfl⟩
 ·refine run_call (check_new (upd_same _ _ _) ?_)
  have f:=first rfl rfl
  simp(disch:=first|exact Xe|fail)only[sndC,ac210,↓Xa,Xb,Xc,↓reduceIte,Nat.reduceLT,Nat.reduceEqDiff,Nat.reduceBEq,Nat.reduceLeDiff,Nat.reduceAdd,Nat.reduceMul]at f
  simp(disch:=first|exact Xe|fail)only[↓Xa,Xb,Xc,↓reduceIte,Nat.reduceLT,Nat.reduceEqDiff,Nat.reduceBEq,Nat.reduceLeDiff,Nat.reduceAdd,Nat.reduceMul]
  exact f
 ·refine run_call (check_used (upd_same _ _ _) ?_)
  have f:=first rfl rfl
  simp(disch:=first|exact Xe|fail)only[sndC,ac210,↓Xa,Xb,Xc,↓reduceIte,Nat.reduceLT,Nat.reduceEqDiff,Nat.reduceBEq,Nat.reduceLeDiff,Nat.reduceAdd,Nat.reduceMul]at f
  simp(disch:=first|exact Xe|fail)only[↓Xa,Xb,Xc,↓reduceIte,Nat.reduceLT,Nat.reduceEqDiff,Nat.reduceBEq,Nat.reduceLeDiff,Nat.reduceAdd,Nat.reduceMul]
  exact f
 ·refine run_call (check_used (v:=.own bb l.length 0 l.length false) (by rw[upd_otherA (Ap.symm hap),upd_same]) ?_)
  simp(disch:=first|exact Xe|fail)only[↓Xa,Xb,Xc,↓reduceIte,Nat.reduceLT,Nat.reduceEqDiff,Nat.reduceBEq,Nat.reduceLeDiff,Nat.reduceAdd,Nat.reduceMul]
  refine app_S1 (upd_same _ _ _) hl ?_
  simp(disch:=first|exact Xe|fail)only[len_Sx,rs210,↓Xa,Xb,Xc,↓reduceIte,Nat.reduceLT,Nat.reduceEqDiff,Nat.reduceBEq,Nat.reduceLeDiff,Nat.reduceAdd,Nat.reduceMul]
  refine SetR.now (k _ (.inr ⟨hne,bb,hbb,hap,?_⟩))
  simp only[List.length_append]
theorem bstr_run{p:Nat}{l:List UInt8}{H0 H:AHeap}{K:AV→AHeap→Prop}(hb:bld p l H0 H)(hp:H0 p=none)(hl:l.length≤70368744177664)(h0:0<l.length)(k: ∀H',Le H0 H'→K (Sx l) H'):Run Tryz.prog 211 [.ptr p 2 0] H K:=by
 refine enter211 (by simp) ?_
 rcases hb with⟨rfl,_⟩|⟨h1,bb,hbb,hap,rfl⟩
 ·simp at h0
 ·have hbl:(Bt l).length=l.length:=Bt_len
  simp(disch:=first|exact Xe|fail)only[ac211,h0,rs211,↓Xa,Xb,Xc,↓reduceIte,Nat.reduceLT,Nat.reduceEqDiff,Nat.reduceBEq,Nat.reduceLeDiff,Nat.reduceAdd,Nat.reduceMul]
  exact SetR.now (k _ (((Le.refl H0).updB hp).updB hbb))
theorem bld_drop{p q:Nat}{l:List UInt8}{H0 H:AHeap}{x:ABlk}(h:bld p l (H0.upd q (some x)) H)(hqp:Ap q p)(hq:H0 q=none): ∃H',bld p l H0 H'∧Le H' H:=by
 have up: ∀{M:AHeap}{r:Option ABlk},M=(H0.upd q (some x)).upd p r→Le (H0.upd p r) M:=fun{M r} e=>by
  rw[e,upd_comm _ _ _ hqp]
  exact(Le.refl _).updB (by rw[upd_otherA hqp];exact hq)
 rcases h with⟨rfl,rfl|rfl⟩|⟨h0,bb,hbb,hap,rfl⟩
 ·exact⟨_,.inl ⟨rfl,.inl rfl⟩,up rfl⟩
 ·exact⟨_,.inl ⟨rfl,.inr rfl⟩,up rfl⟩
 ·obtain⟨a1,a2⟩:=upd_none.1 hbb
  refine⟨_,.inr ⟨h0,bb,a2,hap,rfl⟩,?_⟩
  rw[upd_comm _ _ _ hqp,upd_comm (b:=q) (b':=bb) _ _ _ (Ap.symm a1)]
  exact(Le.refl _).updB (by rw[upd_otherA (Ap.symm a1),upd_otherA hqp];exact hq)
theorem stP_Bt{H:AHeap}{K2:AV→AHeap→Prop}{b L off ty es c:Nat}{l:List UInt8}(hL:l.length=L)(h:off<L)(hc:c<256):stP H 1 b L off K2 (some [.int .u8 (c:Int)]) (some (.row ty es (Bt l)))=K2 .bot (H.upd b (some (.row ty es (Bt (l.set off (UInt8.ofNat c)))))):=by
 subst hL
 have h1:off+1≤l.length:=h
 have e:splice (Bt l) off [.int .u8 (c:Int)]=Bt (l.set off (UInt8.ofNat c)):=by
  have e2:(AV.int .u8 (c:Int))=.int .u8 (((UInt8.ofNat c).toNat:Nat):Int):=by
   rw[UInt8.toNat_ofNat',Nat.mod_eq_of_lt hc]
  rw[e2]
  unfold splice Bt
  rw[List.map_set,List.set_eq_take_append_cons_drop]
  simp[h]
 simp[stP,Bt_len,h1,e]
def TxI(p j:Nat)(cells:List UInt8)(x:Nat):Prop:=j≤9∧cells=List.replicate j 0++wide (9-j) (p%10^(9-j))∧x=p / 10^(9-j)
theorem TxI.len{p j x:Nat}{cells:List UInt8}(h:TxI p j cells x):cells.length=9:=by
 obtain⟨h1,rfl,_⟩:=h
 rw[List.length_append,List.length_replicate,wide_len (Nat.mod_lt _ (Nat.pow_pos (by omega)))];omega
theorem TxI.step{p j x:Nat}{cells:List UInt8}(h:TxI p (j+1) cells x):TxI p j (cells.set j (UInt8.ofNat (48+x%10))) (x / 10):=by
 obtain⟨h1,rfl,rfl⟩:=h
 have e9:9-j=(9-(j+1))+1:=by omega
 refine⟨by omega,?_,?_⟩
 ·rw[e9,wide_step]
  rw[List.replicate_succ',List.append_assoc,List.set_append_right _ _ (by simp)]
  simp[chr]
 ·rw[e9,Nat.pow_succ,Nat.div_div_eq_div_mul]
theorem text_fn{l:List Nat}(t:Bool)(hl:Lim 4294967296 l)(hn:l.length≤1099511627776):PFn Tryz.prog 197 [LS l t] (Sx (decT (val 4294967296 l))):=by
 intro H Q hq
 have hP:(2:Nat)≤1000000000:=by omega
 refine enter197 (by simp) ?_
 simp(disch:=first|exact Xe|fail)only[ac197,str_Sx,↓Xa,Xb,Xc,↓reduceIte,Nat.reduceLT,Nat.reduceEqDiff,Nat.reduceBEq,Nat.reduceLeDiff,Nat.reduceAdd,Nat.reduceMul]
 refine(norm_fn t (by omega)).call ?_
 rw[tr_digs (by omega) hl]
 have hN:val 4294967296 l<4294967296^l.length:=val_lt hl
 have hp2:(digs 1000000000 (val 4294967296 l)).length≤2*l.length:=digs_len hP _ _ (Nat.lt_of_lt_of_le hN (by rw[Nat.pow_mul];exact Nat.pow_le_pow_left (by omega) _))
 have hdl:(dec (val 4294967296 l)).length≤10*l.length:=dec_len (Nat.lt_of_lt_of_le hN (by rw[Nat.pow_mul];exact Nat.pow_le_pow_left (by omega) _))
 generalize hNe:val 4294967296 l=N at*
 simp(disch:=first|exact Xe|fail)only[↓Xa,Xb,Xc,↓reduceIte,Nat.reduceLT,Nat.reduceEqDiff,Nat.reduceBEq,Nat.reduceLeDiff,Nat.reduceAdd,Nat.reduceMul]
 refine W_loop (fun s:List Nat×AV×AHeap×Nat=>⟨[],[(3,s.2.1),(4,LS (digs 4294967296 s.2.2.2) true)],s.2.2.1⟩) (fun s=>grow H 168 s.1 s.2.1 s.2.2.1∧digs 1000000000 N=s.1++digs 1000000000 s.2.2.2∧s.2.2.2≤N) (fun s=>s.2.2.2)
  ([],.seq 0 [] true,H,N) (Settle.now rfl) ⟨grow_nil,rfl,Nat.le_refl _⟩ ?_
 rintro⟨done,x,G,n⟩ ⟨hg,he,hle⟩
 dsimp only at hg he hle ⊢
 have hdn:(digs 4294967296 n).length≤l.length:=digs_len (by omega) _ _ (Nat.lt_of_le_of_lt hle (hNe▸hN))
 have hz:=digs_len0 (B:=4294967296) (n:=n) (by omega)
 by_cases hn0:n=0
 ·have h1:(digs 4294967296 n).length=0:=by rw[hz];exact hn0
  simp(disch:=first|exact Xe|fail)only[h1,↓Xa,Xb,Xc,↓reduceIte,Nat.reduceLT,Nat.reduceEqDiff,Nat.reduceBEq,Nat.reduceLeDiff,Nat.reduceAdd,Nat.reduceMul]
  refine Settle.grown 3 rfl hg (Settle.now ?_)
  rw[hn0,digs_zero,List.append_nil]at he
  subst he
  have hlim:=lim_digs hP N
  have hdig:=fun k p=>piece_step (n:=N) (k:=k) (p:=p)
  have hv:val 1000000000 (digs 1000000000 N)=N:=val_digs hP N
  have hlast:=digs_last (B:=1000000000) (n:=N) hP
  have hnil:=digs_len0 (B:=1000000000) (n:=N) hP
  generalize digs 1000000000 N=ps at*
  by_cases hp0:ps.length=0
  ·rw[hnil]at hp0
   have hL:ps.length=0:=by rw[hnil];exact hp0
   simp(disch:=first|exact Xe|fail)only[hL,str_Sx,rs197,↓Xa,Xb,Xc,↓reduceIte,Nat.reduceLT,Nat.reduceEqDiff,Nat.reduceBEq,Nat.reduceLeDiff,Nat.reduceAdd,Nat.reduceMul]
   have e:decT N=[48]:=by rw[hp0];rfl
   rw[e]at hq
   exact SetR.now hq
  ·have hN0:0<N:=by rcases Nat.eq_zero_or_pos N with h|h
                    ·exact absurd (hnil▸h) hp0
                    ·exact h
   have eT:decT N=dec N:=by unfold decT;rw[if_neg (by omega)]
   rw[eT]at hq
   obtain⟨L,hL⟩: ∃L,ps.length=L+1:=⟨ps.length-1,by omega⟩
   have hLp:(0<L+1)=True:=by simp
   have hL0:(L+1=0)=False:=by simp
   simp(disch:=first|exact Xe|fail)only[hL,hL0,↓Xa,Xb,Xc,↓reduceIte,Nat.reduceLT,Nat.reduceEqDiff,Nat.reduceBEq,Nat.reduceLeDiff,Nat.reduceAdd,Nat.reduceMul]
   refine alloc_i fun p hp=>?_
   simp(disch:=first|exact Xe|fail)only[hL,dn_succ,↓Xa,Xb,Xc,↓reduceIte,Nat.reduceLT,Nat.reduceEqDiff,Nat.reduceBEq,Nat.reduceLeDiff,Nat.reduceAdd,Nat.reduceMul]
   refine W_atH fun M0 hM0=>?_
   refine W_loop (fun s:Nat×AHeap=>⟨[],[(3,LS ps false),(8,.ptr p 2 0),(9,.int .i64 (dn s.1))],s.2⟩) (fun s=>s.1≤ps.length∧bld p (dec (val 1000000000 (ps.drop s.1))) H s.2) (fun s=>s.1) (L+1,M0) (Settle.now rfl) ⟨by dsimp only;omega,?_⟩ ?_
   ·dsimp only
    rw[List.drop_of_length_le (by omega),show val 1000000000 []=0 from rfl,dec_zero,hM0]
    exact bld_new
   rintro⟨k,M⟩ ⟨hk,hb⟩
   dsimp only at hk hb ⊢
   cases k with
   |zero=>
    simp(disch:=first|exact Xe|fail)only[dn_zero,↓Xa,Xb,Xc,↓reduceIte,Nat.reduceLT,Nat.reduceEqDiff,Nat.reduceBEq,Nat.reduceLeDiff,Nat.reduceAdd,Nat.reduceMul]
    refine Settle.now ?_
    rw[List.drop_zero,hv]at hb
    simp(disch:=first|exact Xe|fail)only[↓Xa,Xb,Xc,↓reduceIte,Nat.reduceLT,Nat.reduceEqDiff,Nat.reduceBEq,Nat.reduceLeDiff,Nat.reduceAdd,Nat.reduceMul]
    have hd0:0<(dec N).length:=List.length_pos_iff.2 (dec_pos hN0)
    refine run_call (bstr_run hb hp (by omega) hd0 fun H' hH'=>?_)
    simp(disch:=first|exact Xe|fail)only[rs197,↓Xa,Xb,Xc,↓reduceIte,Nat.reduceLT,Nat.reduceEqDiff,Nat.reduceBEq,Nat.reduceLeDiff,Nat.reduceAdd,Nat.reduceMul]
    exact SetR.dropTo hH' (SetR.now hq)
   |succ k=>
    obtain⟨hlt,hstep⟩:=hdig k _ (by omega) rfl
    have hlt2:ps.getD k 0<1000000000:=hlt
    simp(disch:=first|exact Xe|fail)only[dn_succ,hL,↓Xa,Xb,Xc,↓reduceIte,Nat.reduceLT,Nat.reduceEqDiff,Nat.reduceBEq,Nat.reduceLeDiff,Nat.reduceAdd,Nat.reduceMul]
    refine alloc_i fun q hq'=>?_
    generalize hpk:ps.getD k 0=pk at*
    simp(disch:=first|exact Xe|fail)only[hpk,dn_succ,hL,↓Xa,Xb,Xc,↓reduceIte,Nat.reduceLT,Nat.reduceEqDiff,Nat.reduceBEq,Nat.reduceLeDiff,Nat.reduceAdd,Nat.reduceMul]
    refine W_loop (fun s:Nat×List UInt8×Nat=>⟨[],[(3,LS ps false),(8,.ptr p 2 0),(9,.int .i64 (k:Nat)),(10,.ptr q 9 0),(11,.int .u32 (s.2.2:Nat)),(12,.int .i64 (dn s.1))],M.upd q (some (.row 275 1 (Bt s.2.1)))⟩)
     (fun s=>TxI pk s.1 s.2.1 s.2.2) (fun s=>s.1) (9,List.replicate 9 0,pk) (Settle.now rfl) ⟨Nat.le_refl _,by simp[wide,pad,digs_zero,Nat.mod_one],by simp⟩ ?_
    rintro⟨j,cells,x⟩ hx
    dsimp only at hx ⊢
    have hcl:=hx.len
    have hx32:x<4294967296:=by
     have:=hx.2.2
     have:=Nat.div_le_self pk (10^(9-j))
     omega
    cases j with
    |zero=>
     have ecells:cells=wide 9 pk:=by
      rw[hx.2.1];simp[Nat.mod_eq_of_lt hlt2]
     have htk:(Bt cells).take 9=Bt cells:=List.take_of_length_le (by rw[Bt_len];omega)
     have hbl:(Bt cells).length=9:=by rw[Bt_len];exact hcl
     simp(disch:=first|exact Xe|fail)only[dn_zero,↓Xa,Xb,Xc,↓reduceIte,Nat.reduceLT,Nat.reduceEqDiff,Nat.reduceBEq,Nat.reduceLeDiff,Nat.reduceAdd,Nat.reduceMul]
     refine Settle.now ?_
     simp(disch:=first|exact Xe|fail)only[htk,str_Sx,hL,dn_succ,↓Xa,Xb,Xc,↓reduceIte,Nat.reduceLT,Nat.reduceEqDiff,Nat.reduceBEq,Nat.reduceLeDiff,Nat.reduceAdd,Nat.reduceMul]
     refine⟨by decide,?_⟩
     obtain⟨a1,a2,w0⟩:=bld_upd (x:=.row 275 1 (Bt cells)) hb hq'
     have fin: ∀(m:List UInt8)(M':AHeap),bld p (dec (val 1000000000 (ps.drop (k+1)))++m) (H.upd q (some (.row 275 1 (Bt cells)))) M'→dec (val 1000000000 (ps.drop k))=dec (val 1000000000 (ps.drop (k+1)))++m→
      Settle (fun s'=> ∃x':Nat×AHeap,x'.1<k+1∧(x'.1≤L+1∧bld p (dec (val 1000000000 (ps.drop x'.1))) H x'.2)∧s'=⟨[],[(3,LS ps false),(8,.ptr p 2 0),(9,.int .i64 (dn x'.1))],x'.2⟩) ⟨[],[(3,LS ps false),(8,.ptr p 2 0),(9,.int .i64 (dn k))],M'⟩:=fun m M' hb' e=>by
      obtain⟨M'',h1,h2⟩:=bld_drop hb' a1 a2
      exact Settle.dropTo h2 (Settle.now ⟨(k,M''),Nat.lt_succ_self k,⟨by dsimp only;omega,by dsimp only;rw[e];exact h1⟩,rfl⟩)
     have hbd:(dec (val 1000000000 (ps.drop (k+1)))).length≤9*ps.length:=by
      refine dec_len (Nat.lt_of_lt_of_le (val_lt (hlim.drop (k+1))) ?_)
      rw[show(1000000000:Nat)=10^9 from rfl,← Nat.pow_mul]
      exact Nat.pow_le_pow_right (by omega) (Nat.mul_le_mul_left _ (by simp))
     by_cases hkL:k=L
     ·rw[if_pos (by omega)]at hstep
      have hpk0:pk≠0:=by
       have:=hlast hN0
       rwa[hL,Nat.add_sub_cancel,← hkL,hpk]at this
      have hm0:0<(dec pk).length:=List.length_pos_iff.2 (dec_pos (by omega))
      have hm9:(dec pk).length≤9:=dec_len (k:=9) hlt2
      have hd1:decide (k=L+1-1)=true:=by simp[hkL]
      simp(disch:=first|exact Xe|fail)only[hd1,↓Xa,Xb,Xc,↓reduceIte,Nat.reduceLT,Nat.reduceEqDiff,Nat.reduceBEq,Nat.reduceLeDiff,Nat.reduceAdd,Nat.reduceMul]
      refine(trimL_fn (c:=48) (l:=cells) (by omega) (by decide)).call ?_
      rw[ecells,wide_trim,← ecells]
      simp(disch:=first|exact Xe|fail)only[↓Xa,Xb,Xc,↓reduceIte,Nat.reduceLT,Nat.reduceEqDiff,Nat.reduceBEq,Nat.reduceLeDiff,Nat.reduceAdd,Nat.reduceMul]
      refine run_call (wstr_run w0 (by omega) hm0 fun M' hM'=>?_)
      simp(disch:=first|exact Xe|fail)only[↓Xa,Xb,Xc,↓reduceIte,Nat.reduceLT,Nat.reduceEqDiff,Nat.reduceBEq,Nat.reduceLeDiff,Nat.reduceAdd,Nat.reduceMul]
      exact fin _ _ hM' hstep
     ·rw[if_neg (by omega)]at hstep
      rw[← ecells]at hstep
      have hd1:decide (k=L+1-1)=false:=by simp[hkL]
      simp(disch:=first|exact Xe|fail)only[hd1,↓Xa,Xb,Xc,↓reduceIte,Nat.reduceLT,Nat.reduceEqDiff,Nat.reduceBEq,Nat.reduceLeDiff,Nat.reduceAdd,Nat.reduceMul]
      refine run_call (wstr_run w0 (by omega) (by omega) fun M' hM'=>?_)
      simp(disch:=first|exact Xe|fail)only[↓Xa,Xb,Xc,↓reduceIte,Nat.reduceLT,Nat.reduceEqDiff,Nat.reduceBEq,Nat.reduceLeDiff,Nat.reduceAdd,Nat.reduceMul]
      exact fin _ _ hM' hstep
    |succ j=>
     have hj:j<9:=by have:=hx.1;omega
     have hbl:(Bt cells).length=9:=by rw[Bt_len];exact hcl
     have hd:x%10<10:=Nat.mod_lt _ (by omega)
     simp(disch:=first|exact Xe|fail)only[dn_succ,stP_Bt,↓Xa,Xb,Xc,↓reduceIte,Nat.reduceLT,Nat.reduceEqDiff,Nat.reduceBEq,Nat.reduceLeDiff,Nat.reduceAdd,Nat.reduceMul]
     exact⟨by omega,by omega,Settle.now ⟨(j,_,x / 10),Nat.lt_succ_self j,hx.step,rfl⟩⟩
 ·have h1:0<(digs 4294967296 n).length:=by
   have: ¬(digs 4294967296 n).length=0:=by rw[hz];exact hn0
   omega
  simp(disch:=first|exact Xe|fail)only[h1,↓Xa,Xb,Xc,↓reduceIte,Nat.reduceLT,Nat.reduceEqDiff,Nat.reduceBEq,Nat.reduceLeDiff,Nat.reduceAdd,Nat.reduceMul]
  refine(divsmall_fn (d:=1000000000) true (lim_digs (by omega) n) (by omega) (by omega) (by omega)).call ?_
  rw[val_digs (by omega)]
  simp(disch:=first|exact Xe|fail)only[↓Xa,Xb,Xc,↓reduceIte,Nat.reduceLT,Nat.reduceEqDiff,Nat.reduceBEq,Nat.reduceLeDiff,Nat.reduceAdd,Nat.reduceMul]
  have hlen:=congrArg List.length he
  rw[List.length_append]at hlen
  refine app_grow (m:=[n%1000000000]) hg rfl (by simp) (by simp;omega) fun x' H2 hg2=>?_
  simp(disch:=first|exact Xe|fail)only[↓Xa,Xb,Xc,↓reduceIte,Nat.reduceLT,Nat.reduceEqDiff,Nat.reduceBEq,Nat.reduceLeDiff,Nat.reduceAdd,Nat.reduceMul]
  refine Settle.now ⟨(done++[n%1000000000],x',H2,n / 1000000000),Nat.div_lt_self (by omega) (by omega),⟨hg2,?_,Nat.le_trans (Nat.div_le_self _ _) hle⟩,rfl⟩
  dsimp only
  rw[he,digs_pos hP (show 0<n by omega),List.append_assoc];rfl
structure Nm(l:List Nat)(n k:Nat):Prop where
 lim:Lim 4294967296 l
 val:val 4294967296 l=n
 len:l.length≤k
theorem Nm.lt{l:List Nat}{n k:Nat}(h:Nm l n k):n<4294967296^k:=by
 rw[← h.val];exact Nat.lt_of_lt_of_le (val_lt h.lim) (Nat.pow_le_pow_right (by omega) h.len)
theorem Nm.digs{n k:Nat}(h:n<4294967296^k):Nm (digs 4294967296 n) n k:=⟨lim_digs (by omega) n,val_digs (by omega) n,digs_len (by omega) k n h⟩
theorem Nm.raw{l:List Nat}{k:Nat}(h:Lim 4294967296 l)(hk:l.length≤k):Nm l (Ma.val 4294967296 l) k:=⟨h,rfl,hk⟩
theorem Nm.mono{l:List Nat}{n k k':Nat}(h:Nm l n k)(hk:k≤k'):Nm l n k':=⟨h.lim,h.val,Nat.le_trans h.len hk⟩
theorem Nm.one{c:Nat}(h:c<4294967296):Nm [c] c 1:=⟨Lim.one h,val_one _ _,Nat.le_refl _⟩
end Go.Proofs.YtmndejlpfmmaiaaGreatDoor.Fw
namespace Go.Proofs.YtmndejlpfmmaiaaGreatDoor.Ma
def decF(v:Nat)(l:List UInt8):Nat:=l.foldl (fun v b=>10*v+(b.toNat-48)) v
def decV(l:List UInt8):Nat:=decF 0 l
theorem decF_eq: ∀(l:List UInt8)(v:Nat),decF v l=10^l.length*v+decV l
 |[],v=>by simp[decF,decV]
 |b::l,v=>by
  have h1:=decF_eq l (10*v+(b.toNat-48))
  have h2:=decF_eq l (10*0+(b.toNat-48))
  have e1:decF v (b::l)=decF (10*v+(b.toNat-48)) l:=rfl
  have e2:decV (b::l)=decF (10*0+(b.toNat-48)) l:=rfl
  rw[e1,e2,h1,h2,List.length_cons,Nat.pow_succ]
  grind
theorem decV_app(l m:List UInt8):decV (l++m)=10^m.length*decV l+decV m:=by
 have:decV (l++m)=decF (decV l) m:=by simp only[decV,decF,List.foldl_append]
 rw[this,decF_eq]
theorem decV_one(b:UInt8):decV [b]=b.toNat-48:=by simp[decV,decF]
theorem decV_chr: ∀{l:List Nat},Lim 10 l→decV (l.reverse.map chr)=val 10 l
 |[],_=>rfl
 |x::l,h=>by
  rw[List.reverse_cons,List.map_append,decV_app,decV_chr h.tail,List.map_singleton,decV_one,chr_nat h.head]
  simp[val];omega
theorem decV_dec(n:Nat):decV (dec n)=n:=by
 unfold dec;rw[decV_chr (lim_digs (by omega) n),val_digs (by omega)]
theorem decV_decT(n:Nat):decV (decT n)=n:=by
 unfold decT
 split
 ·subst_vars;rfl
 ·exact decV_dec n
def isDig(b:UInt8):Prop:=48≤b.toNat∧b.toNat≤57
def Good(l:List UInt8):Prop:=l≠[]∧(∀b,b∈l→isDig b)∧(l.length=1∨(l.getD 0 0).toNat≠48)
theorem good_decT(n:Nat):Good (decT n):=by
 unfold decT
 split
 ·exact⟨by simp,by simp[isDig],.inl rfl⟩
 ·rename_i h
  have hn:0<n:=by omega
  refine⟨dec_pos hn,fun b hb=>?_,.inr ?_⟩
  ·unfold dec at hb
   obtain⟨x,hx,rfl⟩:=List.mem_map.1 hb
   have:=lim_digs (B:=10) (by omega) n x (List.mem_reverse.1 hx)
   unfold isDig;rw[chr_nat this];omega
  ·have hl:=digs_last (B:=10) (by omega) hn
   have hne:digs 10 n≠[]:=fun e=>by have:=(digs_nil (B:=10) (by omega)).1 e;omega
   obtain⟨l,x,hx⟩: ∃l x,digs 10 n=l++[x]:=⟨_,_,(List.dropLast_concat_getLast hne).symm⟩
   have hx0:x≠0:=by
    rw[hx,last_append (by simp)]at hl
    simpa using hl
   have hx10:x<10:=lim_digs (B:=10) (by omega) n x (by rw[hx];simp)
   have:dec n=chr x::l.reverse.map chr:=by simp[dec,hx]
   rw[this]
   show(chr x).toNat≠48
   rw[chr_nat hx10];omega
end Go.Proofs.YtmndejlpfmmaiaaGreatDoor.Ma
namespace Go.Proofs.YtmndejlpfmmaiaaGreatDoor.Fw
open Go Go.Proofs.YtmndejlpfmmaiaaGreatDoor.Ma
set_option maxRecDepth 20000
def spot(e a:Nat):AV:=.agg [.int .i64 (e:Int),.int .i64 (a:Int)]
theorem rng_Sx{H:AHeap}{l:List UInt8}{K:AV→AHeap→Prop}:rngW H (Sx l) K=rngS H ⟨l.toArray⟩ K:=id rfl
theorem byte_Sx{l:List UInt8}{i:Nat}:byteAt ⟨l.toArray⟩ i=(l.getD i 0).toNat:=by simp[byteAt]
theorem nxt_Sl{H:AHeap}{b pos:Nat}{l:List UInt8}{K:AV→AHeap→Prop}(h:pos<l.length)(hb:(l.getD pos 0).toNat<128):nxtP H b K (some (.raw (.stringIter ⟨l.toArray⟩ pos)))=K (.tup [.bool true,.int .i64 (pos:Int),.int .i32 (((l.getD pos 0).toNat:Nat):Int)]) (H.upd b (some (.raw (.stringIter ⟨l.toArray⟩ (pos+1))))):=by
 rw[nxt_lt (by rw[size_Sx];exact h) (by rw[byte_Sx];exact hb),byte_Sx]
theorem nxt_Sg{H:AHeap}{b pos:Nat}{l:List UInt8}{K:AV→AHeap→Prop}(h:l.length≤pos):nxtP H b K (some (.raw (.stringIter ⟨l.toArray⟩ pos)))=K (.tup [.bool false]) H:=nxt_ge (by rw[size_Sx];exact h)
theorem wn_i32{n:Nat}(h:n<2147483648):IntKind.i32.wrap (n:Int)=(n:Int):=by
 unfold IntKind.wrap;simp only[IntKind.bits,IntKind.signed,Bool.true_and,decide_eq_true_eq,ge_iff_le];split<;>omega
theorem cW_y{P:Program}{b:Nat}{args:List AV}{H:AHeap}{K:AV→AHeap→Prop}:callW P (.yld b) args H K=YieldW P b args H K:=id rfl
theorem load_cS{H:AHeap}{l:List UInt8}{K:AV→Prop}:loadW H none (.cptr [Sx l]) K=K (Sx l):=by simp[loadW,cellsAt,Sx]
theorem digits1_iter{l:List UInt8}(hg: ∀b,b∈l→isDig b)(hl:l.length<4611686018427387904):IterW Tryz.prog 198 [.cptr [Sx l]] (fun d:Nat=>[.int .i64 (d:Int)]) (l.map fun b=>b.toNat-48):=by
 intro b J Jx hy A B hd h0
 refine enter198 (by simp) ?_
 simp(disch:=first|exact Xe|fail)only[ac198,rng_Sx,load_cS,↓Xa,Xb,Xc,↓reduceIte,Nat.reduceLT,Nat.reduceEqDiff,Nat.reduceBEq,Nat.reduceLeDiff,Nat.reduceAdd,Nat.reduceMul]
 refine rng_i fun q hq=>?_
 obtain⟨qa,qb⟩:=un_none.1 hq
 simp(disch:=first|exact Xe|fail)only[↓Xa,Xb,Xc,↓reduceIte,Nat.reduceLT,Nat.reduceEqDiff,Nat.reduceBEq,Nat.reduceLeDiff,Nat.reduceAdd,Nat.reduceMul]
 refine W_loop (fun s:Nat×AHeap=>⟨[],[(0,.yld b),(6,.ptr q 0 0)],(Un s.2 B).upd q (some (.raw (.stringIter ⟨l.toArray⟩ s.1)))⟩) (fun s=>s.1≤l.length∧Dj s.2 B∧s.2 q=none∧J ((l.map fun b=>b.toNat-48).take s.1) s.2) (fun s=>l.length-s.1) (0,A) (Settle.now rfl) ⟨Nat.zero_le _,hd,qa,by simpa using h0⟩ ?_
 rintro⟨i,A1⟩ ⟨hi,hd1,hq1,hj⟩
 dsimp only at hi hd1 hq1 hj ⊢
 by_cases h:i<l.length
 ·have hdg:=hg _ (List.getElem_mem h)
  have eg:l.getD i 0=l[i]:=by rw[List.getD_eq_getElem?_getD,List.getElem?_eq_getElem h,Option.getD_some]
  rw[← eg]at hdg
  unfold isDig at hdg
  have h128:(l.getD i 0).toNat<128:=by omega
  have hx:(l.map fun b=>b.toNat-48)=(l.map fun b=>b.toNat-48).take i++((l.getD i 0).toNat-48)::(l.map fun b=>b.toNat-48).drop (i+1):=by
   conv=>lhs;rw[← List.take_append_drop i (l.map fun b=>b.toNat-48)]
   rw[List.drop_eq_getElem_cons (by simpa using h),List.getElem_map,eg]
  have hx2:(l.map fun b=>b.toNat-48).take (i+1)=(l.map fun b=>b.toNat-48).take i++[(l.getD i 0).toNat-48]:=by
   rw[List.take_add_one,List.getElem?_map,List.getElem?_eq_getElem h,eg];rfl
  simp(disch:=first|exact Xe|fail)only[nxt_Sl,wn_i32,cW_y,↓Xa,Xb,Xc,↓reduceIte,Nat.reduceLT,Nat.reduceEqDiff,Nat.reduceBEq,Nat.reduceLeDiff,Nat.reduceAdd,Nat.reduceMul]
  rw[← un_updR hq1]
  refine(hy _ _ _ A1 (B.upd q (some (.raw (.stringIter ⟨l.toArray⟩ (i+1))))) hx (dj_updR hd1 hq1) hj).mono ?_
  rintro r H' ⟨A2,hd2,rfl,(⟨rfl,hj2⟩|⟨rfl,hj2⟩)⟩
  ·have hq2:A2 q=none:=dj_atR hd2 (upd_same _ _ _)
   rw[un_updR hq2]
   simp(disch:=first|exact Xe|fail)only[↓Xa,Xb,Xc,↓reduceIte,Nat.reduceLT,Nat.reduceEqDiff,Nat.reduceBEq,Nat.reduceLeDiff,Nat.reduceAdd,Nat.reduceMul]
   refine Settle.keep [0,6] ⟨(i+1,A2),by dsimp only;omega,⟨by dsimp only;omega,?_,hq2,by dsimp only;rw[hx2];exact hj2⟩,rfl⟩
   intro k
   by_cases e:k=q
   ·subst e;exact .inl hq2
   ·have:=hd2 k
    rwa[upd_other _ _ e]at this
  ·have hq2:A2 q=none:=dj_atR hd2 (upd_same _ _ _)
   have hd3:Dj A2 B:=fun k=>by
    by_cases e:k=q
    ·subst e;exact .inl hq2
    ·have:=hd2 k
     rwa[upd_other _ _ e]at this
   rw[un_updR hq2]
   simp(disch:=first|exact Xe|fail)only[rs198,↓Xa,Xb,Xc,↓reduceIte,Nat.reduceLT,Nat.reduceEqDiff,Nat.reduceBEq,Nat.reduceLeDiff,Nat.reduceAdd,Nat.reduceMul]
   refine SetR.dropTo ((Le.refl _).upd (un_none.2 ⟨hq2,qb⟩)) (SetR.now ⟨A2,hd3,rfl,.inr hj2⟩)
 ·obtain rfl:i=l.length:=by omega
  simp(disch:=first|exact Xe|fail)only[nxt_Sg,↓Xa,Xb,Xc,↓reduceIte,Nat.reduceLT,Nat.reduceEqDiff,Nat.reduceBEq,Nat.reduceLeDiff,Nat.reduceAdd,Nat.reduceMul]
  refine Settle.now ?_
  simp(disch:=first|exact Xe|fail)only[rs198,↓Xa,Xb,Xc,↓reduceIte,Nat.reduceLT,Nat.reduceEqDiff,Nat.reduceBEq,Nat.reduceLeDiff,Nat.reduceAdd,Nat.reduceMul]
  rw[List.take_of_length_le (by simp)]at hj
  refine SetR.dropTo ((Le.refl _).upd (un_none.2 ⟨hq1,qb⟩)) (SetR.now ⟨A1,hd1,rfl,.inl hj⟩)
theorem digits_fn{l:List Nat}(t:Bool)(hl:Lim 4294967296 l)(hn:l.length≤1099511627776):PFn Tryz.prog 133 [LS l t] (.fn (.func 198) [] [.cptr [Sx (decT (val 4294967296 l))]]):=by
 intro H Q hq
 refine enter133 (by simp) ?_
 simp(disch:=first|exact Xe|fail)only[ac133,↓Xa,Xb,Xc,↓reduceIte,Nat.reduceLT,Nat.reduceEqDiff,Nat.reduceBEq,Nat.reduceLeDiff,Nat.reduceAdd,Nat.reduceMul]
 refine(text_fn t hl hn).call ?_
 simp(disch:=first|exact Xe|fail)only[↓Xa,Xb,Xc,↓reduceIte,Nat.reduceLT,Nat.reduceEqDiff,Nat.reduceBEq,Nat.reduceLeDiff,Nat.reduceAdd,Nat.reduceMul]
 refine alloc_i fun p1 hp1=>?_
 have n1:=hp1
 simp(disch:=first|exact Xe|fail)only[cells_Sx,rs133,↓Xa,Xb,Xc,↓reduceIte,Nat.reduceLT,Nat.reduceEqDiff,Nat.reduceBEq,Nat.reduceLeDiff,Nat.reduceAdd,Nat.reduceMul]
 refine SetR.frzP p1 (upd_same _ _ _) ?_
 rw[upd_upd,upd_back _ n1]
 simp[frzP,frzP1]
 exact SetR.now hq
def iText(z:Int):List UInt8:=(if z<0 then[45]else[])++decT z.natAbs
theorem Bt_app(l m:List UInt8):Bt (l++m)=Bt l++Bt m:=by simp[Bt]
theorem Bt_one{n:Nat}(h:n<256):[AV.int .u8 (n:Int)]=Bt [UInt8.ofNat n]:=by
 simp only[Bt,List.map_cons,List.map_nil]
 rw[UInt8.toNat_ofNat',Nat.mod_eq_of_lt (by omega)]
theorem decT_len{n k:Nat}(h:n<10^k)(hk:0<k):(decT n).length≤k:=by
 unfold decT;split
 ·simp;omega
 ·exact dec_len h
theorem decT_bd{x:Int}{k:Nat}(hx:Bd k x):(decT x.natAbs).length≤10*k+1:=by
 refine decT_len (Nat.lt_of_lt_of_le hx ?_) (by omega)
 calc 4294967296^k≤(10^10)^k:=Nat.pow_le_pow_left (by omega) k
  _=10^(10*k):=by rw[Nat.pow_mul]
  _≤10^(10*k+1):=Nat.pow_le_pow_right (by omega) (by omega)
theorem wn_u8'{n:Nat}(h:n<256):IntKind.u8.wrap (n:Int)=(n:Int):=by
 unfold IntKind.wrap;simp only[IntKind.bits,IntKind.signed,Bool.false_and,Bool.false_eq_true,if_false];omega
theorem isDig_chr{b:UInt8}(h:isDig b):UInt8.ofNat (48+(b.toNat-48))=b:=by
 unfold isDig at h
 rw[show 48+(b.toNat-48)=b.toNat by omega];exact UInt8.ofNat_toNat
theorem b2s_B{H0 H:AHeap}{p tb ty:Nat}{l:List UInt8}(h:growB H0 p tb ty 1 l.length (Bt l) H): ∃x,H p=some (.row tb 0 [x])∧AV.cells x=some [x]∧∀H' K,Le H H'→K (Sx l)→b2sW H' x K:=by
 obtain⟨x,hx,hc,_⟩:=growB_get h
 refine⟨x,hx,?_,?_⟩
 ·rcases hc with⟨rfl,_,_⟩|⟨_,_,b,rfl,_⟩<;>rfl
 ·intro H' K hle k
  rcases hc with⟨rfl,h0,hc⟩|⟨hn,hl,b,rfl,hb⟩
  ·have:l=[]:=List.eq_nil_of_length_eq_zero h0
   subst this
   exact⟨rfl,k⟩
  ·rw[Nat.mul_one,b2s_own,hle _ _ hb]
   refine⟨by simp[Bt_len],rfl,by omega,?_⟩
   rw[List.drop_zero,List.take_of_length_le (by simp[Bt_len]),bytesOf_Bt]
   exact k
def chD(d:Nat):UInt8:=UInt8.ofNat (48+d)
theorem chD_back: ∀{l:List UInt8},(∀b,b∈l→isDig b)→(l.map fun b=>b.toNat-48).map chD=l:=by
 intro l h
 rw[List.map_map]
 conv=>rhs;rw[← List.map_id l]
 exact List.map_congr_left fun b hb=>isDig_chr (h b hb)
theorem itext_fn{x:Int}{k:Nat}(hx:Bd k x)(hk:k≤1000000):PFn Tryz.prog 67 [IntA x] (Sx (iText x)):=by
 intro H Q hq
 have hdl:=hx.len
 have hdt:=decT_bd hx
 have hgd:=good_decT x.natAbs
 refine enter67 (by simp) ?_
 simp(disch:=first|exact Xe|fail)only[ac67,IntA,↓Xa,Xb,Xc,↓reduceIte,Nat.reduceLT,Nat.reduceEqDiff,Nat.reduceBEq,Nat.reduceLeDiff,Nat.reduceAdd,Nat.reduceMul]
 refine alloc_i fun p1 hp1=>?_
 have n1:=hp1
 simp(disch:=first|exact Xe|fail)only[↓Xa,Xb,Xc,↓reduceIte,Nat.reduceLT,Nat.reduceEqDiff,Nat.reduceBEq,Nat.reduceLeDiff,Nat.reduceAdd,Nat.reduceMul]
 refine alloc_i fun p2 hp2=>?_
 have n2:=hp2
 simp only[upd_none]at n2
 obtain⟨_,n2⟩:=n2
 obtain⟨neg,hneg⟩: ∃b,b=decide (x<0):=⟨_,rfl⟩
 rw[← hneg]at hp2 ⊢
 have tail: ∀(pre:List UInt8)(H2:AHeap)(v:Env),(v=[]∨v=[(6,.bool false)])→pre.length≤1→pre++decT x.natAbs=iText x→growB (H.upd p1 (some (.row 48 0 [.bool neg,LS (digs 4294967296 x.natAbs) true]))) p2 203 5 1 pre.length (Bt pre) H2→
  W Tryz.prog (sndC (sndC (sndC ac67))) (retN rs67 Q) ⟨[],[(1,.ptr p1 2 0),(2,Sx []),(3,.ptr p2 1 0)]++v,H2⟩:=by
  intro pre H2 v hv hp1 hpre hg
  have h1:H2 p1=some (.row 48 0 [.bool neg,LS (digs 4294967296 x.natAbs) true]):=by
   obtain⟨_,_,_,hle⟩:=growB_get hg
   exact hle _ _ (upd_same _ _ _)
  rcases hv with rfl|rfl
  all_goals
   simp(disch:=first|exact Xe|fail)only[sndC,ac67,h1,↓Xa,Xb,Xc,↓reduceIte,Nat.reduceLT,Nat.reduceEqDiff,Nat.reduceBEq,Nat.reduceLeDiff,Nat.reduceAdd,Nat.reduceMul]
   refine(digits_fn true (lim_digs (by omega) _) (by omega)).call ?_
   rw[val_digs (by omega)]
   simp(disch:=first|exact Xe|fail)only[↓Xa,Xb,Xc,↓reduceIte,Nat.reduceLT,Nat.reduceEqDiff,Nat.reduceBEq,Nat.reduceLeDiff,Nat.reduceAdd,Nat.reduceMul]
   obtain⟨A,hd,rfl,hgA⟩:=growB_nu hg
   have hle:Le H (H.upd p1 (some (.row 48 0 [.bool neg,LS (digs 4294967296 x.natAbs) true]))):=(Le.refl H).upd n1
   refine rfn_iter (digits1_iter (fun b hb=>hgd.2.1 b hb) (by omega)) (fun _=>rfl) (fun ds A=>growB nilH p2 203 5 1 (pre++ds.map chD).length (Bt (pre++ds.map chD)) A) (fun _ _=>False) A _ hd rfl (by simpa using hgA) ?_ ?_ (fun _ _ _ _ _ _ h=>h.elim)
   ·intro ds d rest A B hds hdj hj R1 k1
    have hlen:=congrArg List.length hds
    have hd10:d<10:=by
     have:d∈((decT x.natAbs).map fun b=>b.toNat-48):=by rw[hds];simp
     obtain⟨b,hb,rfl⟩:=List.mem_map.1 this
     have:=hgd.2.1 b hb
     unfold isDig at this;omega
    simp(disch:=first|exact Xe|fail)only[setps,↓Xa,Xb,Xc,↓reduceIte,Nat.reduceLT,Nat.reduceEqDiff,Nat.reduceBEq,Nat.reduceLeDiff,Nat.reduceAdd,Nat.reduceMul]
    refine k1 _ A hdj fun R2 B1 k2 hd1=>?_
    obtain⟨y,hy,happ⟩:=growB_app (m:=1) (bytes:=1) (growB_un hj hd1)
    have e1:IntKind.i64.wrap ((48:Nat)+(d:Int))=((48+d:Nat):Int):=by rw[← Int.natCast_add];exact wn_i64 (by omega)
    simp(disch:=first|exact Xe|fail)only[hy,wn_u8',↓Xa,Xb,Xc,↓reduceIte,Nat.reduceLT,Nat.reduceEqDiff,Nat.reduceBEq,Nat.reduceLeDiff,Nat.reduceAdd,Nat.reduceMul]
    refine happ rfl rfl (by omega) ?_ ?_ fun x' H' hp hc hg2=>?_
    ·simp at hlen ⊢; omega
    ·simp at hlen ⊢; omega
    simp(disch:=first|exact Xe|fail)only[hp,hc,↓Xa,Xb,Xc,↓reduceIte,Nat.reduceLT,Nat.reduceEqDiff,Nat.reduceBEq,Nat.reduceLeDiff,Nat.reduceAdd,Nat.reduceMul]
    refine k2 .normal _ (Settle.now (growB_nu ?_))
    have e:pre++(ds++[d]).map chD=(pre++ds.map chD)++[chD d]:=by simp
    dsimp only
    rw[e,List.length_append,Bt_app,show Bt [chD d]=[AV.int .u8 ((48+d:Nat):Int)]from(Bt_one (by omega)).symm]
    exact hg2
   ·intro d A' hdj hA hB hj
    rw[chD_back hgd.2.1,hpre]at hj
    have hj2:=growB_un hj hdj
    obtain⟨y,hy,hyc,hb2⟩:=b2s_B hj2
    obtain⟨_,_,_,hle2⟩:=growB_get hj2
    have hdn:=un_none.2 ⟨hA,hB⟩
    have hy2:((Un A' (H.upd p1 (some (.row 48 0 [.bool neg,LS (digs 4294967296 x.natAbs) true])))).upd d (some (.raw (.deferred (some []))))) p2=some (.row 203 0 [y]):=by
     rw[upd_other _ _ (by rintro rfl;rw[hdn]at hy;cases hy)];exact hy
    simp(disch:=first|exact Xe|fail)only[hy2,↓Xa,Xb,Xc,↓reduceIte,Nat.reduceLT,Nat.reduceEqDiff,Nat.reduceBEq,Nat.reduceLeDiff,Nat.reduceAdd,Nat.reduceMul]
    refine hb2 _ _ ((Le.refl _).upd hdn) ?_
    simp(disch:=first|exact Xe|fail)only[rs67,↓Xa,Xb,Xc,↓reduceIte,Nat.reduceLT,Nat.reduceEqDiff,Nat.reduceBEq,Nat.reduceLeDiff,Nat.reduceAdd,Nat.reduceMul]
    rw[upd_back _ hdn]
    exact SetR.dropTo (fun b x hb=>hle2 _ _ (hle _ _ hb)) (SetR.now hq)
 have g0:=growB_nil (H0:=H.upd p1 (some (.row 48 0 [.bool neg,LS (digs 4294967296 x.natAbs) true]))) (tb:=203) (ty:=5) (es:=1) hp2
 cases neg with
 |true=>
  simp(disch:=first|exact Xe|fail)only[↓Xa,Xb,Xc,↓reduceIte,Nat.reduceLT,Nat.reduceEqDiff,Nat.reduceBEq,Nat.reduceLeDiff,Nat.reduceAdd,Nat.reduceMul]
  obtain⟨y,hy,happ⟩:=growB_app (m:=1) (bytes:=1) g0
  obtain rfl:y=.seq 0 [] true:=by rw[upd_same]at hy;injection hy with hy;injection hy with _ _ hy;injection hy with hy;exact hy.symm
  refine happ (by rfl) (by rfl) (by omega) (by omega) (by omega) fun x' H' hp hc hg2=>?_
  simp(disch:=first|exact Xe|fail)only[hp,hc,↓Xa,Xb,Xc,↓reduceIte,Nat.reduceLT,Nat.reduceEqDiff,Nat.reduceBEq,Nat.reduceLeDiff,Nat.reduceAdd,Nat.reduceMul]
  have tl:=tail [45] _ [] (.inl rfl) (by simp) (by simp[iText,of_decide_eq_true hneg.symm]) hg2
  simp(disch:=first|exact Xe|fail)only[sndC,ac67,↓Xa,Xb,Xc,↓reduceIte,Nat.reduceLT,Nat.reduceEqDiff,Nat.reduceBEq,Nat.reduceLeDiff,Nat.reduceAdd,Nat.reduceMul]at tl
  exact tl
 |false=>
  have tl:=tail [] _ _ (.inr rfl) (by simp) (by simp[iText,of_decide_eq_false hneg.symm]) g0
  simp(disch:=first|exact Xe|fail)only[sndC,ac67,↓Xa,Xb,Xc,↓reduceIte,Nat.reduceLT,Nat.reduceEqDiff,Nat.reduceBEq,Nat.reduceLeDiff,Nat.reduceAdd,Nat.reduceMul]at tl
  simp(disch:=first|exact Xe|fail)only[↓Xa,Xb,Xc,↓reduceIte,Nat.reduceLT,Nat.reduceEqDiff,Nat.reduceBEq,Nat.reduceLeDiff,Nat.reduceAdd,Nat.reduceMul]
  exact tl
def iFrom(l:List UInt8):Nat:=if(l.getD 0 0).toNat=45 then 1 else 0
def iBad(l:List UInt8)(i:Nat):Prop:=(l.getD i 0).toNat<48∨57<(l.getD i 0).toNat∨(i=iFrom l+1∧(l.getD (iFrom l) 0).toNat=48)∨(i=iFrom l∧iFrom l=1∧(l.getD i 0).toNat=48)
def IsAt(l:List UInt8)(p:Nat):Prop:=iFrom l≤p∧p≤l.length∧iBad l p∧∀j,iFrom l≤j→j<p→¬iBad l j
theorem get_beyond{l:List UInt8}{i:Nat}(h:l.length≤i):l.getD i 0=0:=by
 rw[List.getD_eq_getElem?_getD,List.getElem?_eq_none h];rfl
theorem iBad_end(l:List UInt8):iBad l l.length:=.inl (by rw[get_beyond (Nat.le_refl _)];decide)
theorem iFrom_le(l:List UInt8):iFrom l≤l.length∧iFrom l≤1:=by
 unfold iFrom;split
 ·rename_i h
  cases l with
  |nil=>simp at h
  |cons x l=>simp
 ·simp
theorem first_of{P:Nat→Prop}(lo:Nat): ∀n,(∃p,lo≤p∧p<lo+n∧P p∧∀j,lo≤j→j<p→¬P j)∨∀j,lo≤j→j<lo+n→¬P j
 |0=>.inr fun j h1 h2=>by omega
 |n+1=>by
  rcases first_of (P:=P) lo n with⟨p,a,b,c,d⟩|h
  ·exact .inl ⟨p,a,by omega,c,d⟩
  ·by_cases hp:P (lo+n)
   ·exact .inl ⟨lo+n,by omega,by omega,hp,h⟩
   ·refine .inr fun j h1 h2=>?_
    by_cases e:j=lo+n
    ·rw[e];exact hp
    ·exact h j h1 (by omega)
def iVal(l:List UInt8):Int:=sg (decide (iFrom l=1)) (decV (l.drop (iFrom l)))
def revI(i:Nat)(l:List UInt8):List UInt8:=(List.range l.length).map fun j=>if j<i∨l.length-i≤j then l.getD (l.length-1-j) 0 else l.getD j 0
theorem revI_len(i:Nat)(l:List UInt8):(revI i l).length=l.length:=by simp[revI]
theorem revI_zero(l:List UInt8):revI 0 l=l:=by
 refine List.ext_getElem (revI_len 0 l) fun j h1 h2=>?_
 simp only[revI,List.getElem_map,List.getElem_range]
 rw[if_neg (by omega),List.getD_eq_getElem?_getD,List.getElem?_eq_getElem h2,Option.getD_some]
theorem revI_get{i j:Nat}{l:List UInt8}(h:j<l.length):(revI i l).getD j 0=if j<i∨l.length-i≤j then l.getD (l.length-1-j) 0 else l.getD j 0:=by
 rw[List.getD_eq_getElem?_getD,List.getElem?_eq_getElem (by rw[revI_len];exact h),Option.getD_some]
 simp[revI]
theorem revI_half{i:Nat}{l:List UInt8}(h:l.length≤2*i+1):revI i l=l.reverse:=by
 refine List.ext_getElem (by simp[revI_len]) fun j h1 h2=>?_
 have hj:j<l.length:=by simpa using h2
 have e:=revI_get (i:=i) hj
 rw[List.getD_eq_getElem?_getD,List.getElem?_eq_getElem h1,Option.getD_some]at e
 rw[e,List.getElem_reverse]
 have hk:l.length-1-j<l.length:=by omega
 by_cases c:j<i∨l.length-i≤j
 ·rw[if_pos c,List.getD_eq_getElem?_getD,List.getElem?_eq_getElem hk,Option.getD_some]
 ·rw[if_neg c,List.getD_eq_getElem?_getD,List.getElem?_eq_getElem hj,Option.getD_some]
  congr 1
  omega
theorem revI_step{i:Nat}{l:List UInt8}(h:i<l.length / 2):((revI i l).set i (l.getD (l.length-1-i) 0)).set (l.length-1-i) (l.getD i 0)=revI (i+1) l:=by
 refine List.ext_getElem (by simp[revI_len]) fun j h1 h2=>?_
 have hj:j<l.length:=by simpa[revI_len]using h2
 have e2:=revI_get (i:=i+1) hj
 have e1:=revI_get (i:=i) hj
 rw[List.getD_eq_getElem?_getD,List.getElem?_eq_getElem h2,Option.getD_some]at e2
 rw[e2]
 simp only[List.getElem_set]
 by_cases c1:l.length-1-i=j
 ·rw[if_pos c1,if_pos (by omega),← c1];congr 1;omega
 ·rw[if_neg c1]
  by_cases c2:i=j
  ·rw[if_pos c2,if_pos (by omega),c2]
  ·rw[if_neg c2]
   rw[List.getD_eq_getElem?_getD,List.getElem?_eq_getElem (by rw[revI_len];exact hj),Option.getD_some]at e1
   rw[e1]
   by_cases c3:j<i∨l.length-i≤j
   ·rw[if_pos c3,if_pos (by omega)]
   ·rw[if_neg c3,if_neg (by omega)]
theorem digs1{n:Nat}(h:n<65536):digs 65536 n=if n=0 then[]else[n]:=by
 split
 ·rename_i e;rw[e,digs_zero]
 ·rename_i e;rw[digs_pos (by omega) (by omega),Nat.mod_eq_of_lt h,Nat.div_eq_of_lt h,digs_zero]
theorem Bt_drop_cons(l:List UInt8)(i:Nat)(h:i<l.length):(Bt l).drop i=.int .u8 (((l.getD i 0).toNat:Nat):Int)::(Bt l).drop (i+1):=by
 rw[List.drop_eq_getElem_cons (by simpa[Bt_len]using h)]
 congr 1
 simp[Bt,List.getD_eq_getElem?_getD,List.getElem?_eq_getElem h]
theorem ldP_Bt{K:AV→Prop}{L off ty es:Nat}{l:List UInt8}(hL:l.length=L)(h:off<L):ldP none L off K (some (.row ty es (Bt l)))=K (.int .u8 (((l.getD off 0).toNat:Nat):Int)):=by
 subst hL
 have:off+1≤l.length:=h
 simp[ldP,this,Bt_drop_cons l off h,ldC,Bt_len]
theorem splice_Bt{off c:Nat}{l:List UInt8}(h:off<l.length)(hc:c<256):splice (Bt l) off [.int .u8 (c:Int)]=Bt (l.set off (UInt8.ofNat c)):=by
 have e2:(AV.int .u8 (c:Int))=.int .u8 (((UInt8.ofNat c).toNat:Nat):Int):=by
  rw[UInt8.toNat_ofNat',Nat.mod_eq_of_lt hc]
 rw[e2]
 unfold splice Bt
 rw[List.map_set,List.set_eq_take_append_cons_drop]
 simp[h]
theorem dstP_Bt{b L off ty es c:Nat}{l:List UInt8}{K:AV→List Nat→Option (Nat×ABlk)→Prop}(hL:l.length=L)(h:off<L)(hc:c<256):dstP 1 b L off K (some [.int .u8 (c:Int)]) (some (.row ty es (Bt l)))=K .bot [b] (some (b,.row ty es (Bt (l.set off (UInt8.ofNat c))))):=by
 subst hL
 have h1:off+1≤l.length:=h
 simp[dstP,Bt_len,h1,splice_Bt h hc]
theorem load_U1{H:AHeap}{x:Nat}{K:AV→Prop}:loadW H none (.cptr (U [x])) K=K (.int .u32 (x:Int)):=by simp[loadW,cellsAt,U]
theorem len_nil0{K:AV→Prop}:lenW false (.seq 0 [] true) K=K (.int .i64 ((0:Nat):Int)):=by simp[lenW]
theorem rtext_fn{x:Int}{k:Nat}(t:Bool)(hx:Bd k x)(hk:k≤1000000):PFn Tryz.prog 68 [RefA x t] (Sx (iText x)):=by
 intro H Q hq
 have hdt:=decT_bd hx
 have hl:=hx.rlen
 obtain⟨N,hN⟩: ∃N,N=x.natAbs:=⟨_,rfl⟩
 have hd10:(digs 10 N).length≤10*k+1:=by
  rw[hN];unfold decT at hdt
  split at hdt
  ·rename_i e;rw[e,digs_zero];simp
  ·simpa[dec]using hdt
 refine enter68 (by simp) ?_
 obtain⟨neg,hneg⟩: ∃b,b=decide (x<0):=⟨_,rfl⟩
 simp(disch:=first|exact Xe|fail)only[ac68,RefA,← hN,← hneg,↓Xa,Xb,Xc,↓reduceIte,Nat.reduceLT,Nat.reduceEqDiff,Nat.reduceBEq,Nat.reduceLeDiff,Nat.reduceAdd,Nat.reduceMul]
 refine alloc_i fun p1 hp1=>?_
 have n1:=hp1
 simp(disch:=first|exact Xe|fail)only[↓Xa,Xb,Xc,↓reduceIte,Nat.reduceLT,Nat.reduceEqDiff,Nat.reduceBEq,Nat.reduceLeDiff,Nat.reduceAdd,Nat.reduceMul]
 refine W_loop (fun s:Nat×Bool×List Nat×AV×AHeap=>⟨[],[(1,.ptr p1 2 0),(3,s.2.2.2.1),(4,LS (digs 65536 s.1) s.2.1)],s.2.2.2.2⟩)
  (fun s=>s.1≤N∧digs 10 N=s.2.2.1++digs 10 s.1∧growC (H.upd p1 (some (.row 44 0 [.bool (neg),LS (digs 65536 N) t]))) 5 1 s.2.2.1.length (Bt (s.2.2.1.map chD)) s.2.2.2.1 s.2.2.2.2) (fun s=>s.1) (N,t,[],.seq 0 [] true,_) (Settle.now rfl) ⟨Nat.le_refl _,rfl,growC_nil⟩ ?_
 rintro⟨n,t',ds,y,H'⟩ ⟨hn,hds,hg⟩
 dsimp only at hn hds hg ⊢
 have hnl:(digs 65536 n).length≤2*k:=digs_len (by omega) _ _ (Nat.lt_of_le_of_lt hn (by
  rw[hN]
  have h:x.natAbs<4294967296^k:=hx
  rwa[show(4294967296:Nat)=65536^2 from rfl,← Nat.pow_mul]at h))
 have hdsl:ds.length+(digs 10 n).length≤10*k+1:=by rw[hds,List.length_append]at hd10;exact hd10
 rcases Nat.eq_zero_or_pos n with rfl|hpos
 ·rw[digs_zero,List.append_nil]at hds
  subst hds
  simp(disch:=first|exact Xe|fail)only[digs_zero,List.length_nil,↓Xa,Xb,Xc,↓reduceIte,Nat.reduceLT,Nat.reduceEqDiff,Nat.reduceBEq,Nat.reduceLeDiff,Nat.reduceAdd,Nat.reduceMul]
  refine Settle.now ?_
  have hmap:((digs 10 N).map chD).reverse=dec N:=by rw[← List.map_reverse];rfl
  rcases hg with⟨h0,hc,rfl,rfl⟩|⟨hn0,hcl,b,hb,rfl,rfl⟩
  ·have hN0:N=0:=by
    rcases Nat.eq_zero_or_pos N with e|e
    ·exact e
    ·rw[digs_pos (by omega) e]at h0;simp at h0
   have hx0:x=0:=by omega
   simp(disch:=first|exact Xe|fail)only[len_nil0,str_Sx,rs68,↓Xa,Xb,Xc,↓reduceIte,Nat.reduceLT,Nat.reduceEqDiff,Nat.reduceBEq,Nat.reduceLeDiff,Nat.reduceAdd,Nat.reduceMul]
   refine SetR.dropTo ((Le.refl H).upd n1) (SetR.now ?_)
   rw[hx0]at hq
   exact hq
  ·have hn0': ¬(digs 10 N).length=0:=by omega
   have hbp:=(upd_none.1 hb).1
   have hN0:N≠0:=by rintro rfl;rw[digs_zero]at hn0;simp at hn0
   have tail: ∀(m:List UInt8)(b:Nat),(H.upd p1 (some (.row 44 0 [.bool (neg),LS (digs 65536 N) t]))) b=none→m.length≤10*k+2→m.reverse=iText x→
    W Tryz.prog (sndC (sndC (sndC (sndC (sndC (sndC ac68)))))) (retN rs68 Q) ⟨[],[(3,.own b m.length 0 m.length false)],(H.upd p1 (some (.row 44 0 [.bool (neg),LS (digs 65536 N) t]))).upd b (some (.row 5 1 (Bt m)))⟩:=by
    intro m b hb hm hrev
    simp(disch:=first|exact Xe|fail)only[sndC,ac68,↓Xa,Xb,Xc,↓reduceIte,Nat.reduceLT,Nat.reduceEqDiff,Nat.reduceBEq,Nat.reduceLeDiff,Nat.reduceAdd,Nat.reduceMul]
    refine W_loop (fun i:Nat=>⟨[],[(3,.own b m.length 0 m.length false),(8,.int .i64 (i:Int))],(H.upd p1 (some (.row 44 0 [.bool (neg),LS (digs 65536 N) t]))).upd b (some (.row 5 1 (Bt (revI i m))))⟩) (fun i=>i≤m.length / 2) (fun i=>m.length / 2-i) 0 (Settle.now (by rw[revI_zero])) (Nat.zero_le _) ?_
    intro i hi
    have hlr:=revI_len i m
    have hbl:(Bt (revI i m)).length=m.length:=by rw[Bt_len,hlr]
    by_cases hlt:i<m.length / 2
    ·have hi2:i<m.length:=by omega
     have hlr2:((revI i m).set i (UInt8.ofNat ((revI i m).getD (m.length-1-i) 0).toNat)).length=m.length:=by simp[hlr]
     have u1:((revI i m).getD (m.length-1-i) 0).toNat<256:=UInt8.toNat_lt _
     have u2:((revI i m).getD i 0).toNat<256:=UInt8.toNat_lt _
     simp(disch:=first|exact Xe|fail)only[len_ownk,hlt,ldP_Bt,dstP_Bt,stP_Bt,↓Xa,Xb,Xc,↓reduceIte,Nat.reduceLT,Nat.reduceEqDiff,Nat.reduceBEq,Nat.reduceLeDiff,Nat.reduceAdd,Nat.reduceMul]
     refine⟨by decide,by rw[Bt_len];exact hlr2,Settle.now ⟨i+1,by omega,by omega,?_⟩⟩
     rw[UInt8.ofNat_toNat,UInt8.ofNat_toNat,revI_get (by omega),if_neg (by omega),revI_get (by omega),if_neg (by omega),revI_step hlt]
    ·simp(disch:=first|exact Xe|fail)only[len_ownk,hlt,↓Xa,Xb,Xc,↓reduceIte,Nat.reduceLT,Nat.reduceEqDiff,Nat.reduceBEq,Nat.reduceLeDiff,Nat.reduceAdd,Nat.reduceMul]
     refine⟨by decide,Settle.now ?_⟩
     rw[revI_half (by omega),hrev]
     have hll:(iText x).length=m.length:=by rw[← hrev,List.length_reverse]
     have e2:(Bt (iText x)).length=m.length:=by rw[Bt_len,hll]
     simp(disch:=first|exact Xe|fail)only[↓Xa,Xb,Xc,↓reduceIte,Nat.reduceLT,Nat.reduceEqDiff,Nat.reduceBEq,Nat.reduceLeDiff,Nat.reduceAdd,Nat.reduceMul]
     rw[List.take_of_length_le (by omega),bytesOf_Bt]
     simp(disch:=first|exact Xe|fail)only[strK,str_Sx,rs68,↓Xa,Xb,Xc,↓reduceIte,Nat.reduceLT,Nat.reduceEqDiff,Nat.reduceBEq,Nat.reduceLeDiff,Nat.reduceAdd,Nat.reduceMul]
     exact SetR.dropTo ((Le.refl H).upd n1 |>.upd hb) (SetR.now hq)
   cases neg with
   |true=>
    simp(disch:=first|exact Xe|fail)only[len_ownk,hn0',↓Xa,Xb,Xc,↓reduceIte,Nat.reduceLT,Nat.reduceEqDiff,Nat.reduceBEq,Nat.reduceLeDiff,Nat.reduceAdd,Nat.reduceMul]
    refine app_C (.inr ⟨hn0,hcl,b,hb,by rw[Nat.mul_one],rfl⟩) rfl rfl (by omega) (by omega) (by omega) fun y' H2 hg2=>?_
    rcases hg2 with⟨h0,_⟩|⟨_,hcl2,b2,hb2,rfl,rfl⟩
    ·omega
    have tl:=tail ((digs 10 N).map chD++[45]) b2 hb2 (by simp;omega) (by rw[List.reverse_append,hmap];simp[iText,of_decide_eq_true hneg.symm,← hN,decT,hN0])
    rw[List.length_append,List.length_map,Bt_app]at tl
    simp(disch:=first|exact Xe|fail)only[sndC,ac68,List.length_cons,List.length_nil,↓Xa,Xb,Xc,↓reduceIte,Nat.reduceLT,Nat.reduceEqDiff,Nat.reduceBEq,Nat.reduceLeDiff,Nat.reduceAdd,Nat.reduceMul]at tl
    simp(disch:=first|exact Xe|fail)only[↓Xa,Xb,Xc,↓reduceIte,Nat.reduceLT,Nat.reduceEqDiff,Nat.reduceBEq,Nat.reduceLeDiff,Nat.reduceAdd,Nat.reduceMul]
    exact tl
   |false=>
    have tl:=tail ((digs 10 N).map chD) b hb (by simp;omega) (by rw[hmap];simp[iText,of_decide_eq_false hneg.symm,← hN,decT,hN0])
    rw[List.length_map]at tl
    simp(disch:=first|exact Xe|fail)only[sndC,ac68,↓Xa,Xb,Xc,↓reduceIte,Nat.reduceLT,Nat.reduceEqDiff,Nat.reduceBEq,Nat.reduceLeDiff,Nat.reduceAdd,Nat.reduceMul]at tl
    simp(disch:=first|exact Xe|fail)only[len_ownk,hn0',↓Xa,Xb,Xc,↓reduceIte,Nat.reduceLT,Nat.reduceEqDiff,Nat.reduceBEq,Nat.reduceLeDiff,Nat.reduceAdd,Nat.reduceMul]
    exact tl
 ·have h10:digs 65536 10=[10]:=by rw[digs1 (by omega)];rfl
  have hdv:=rdivide_fn (A:=n) (V:=10) t' true (by omega) (by omega) (by rw[h10];simp)
  rw[h10]at hdv
  have hlp:0<(digs 65536 n).length:=by rw[digs_pos (by omega) hpos];simp
  simp(disch:=first|exact Xe|fail)only[hlp,rep1,↓Xa,Xb,Xc,↓reduceIte,Nat.reduceLT,Nat.reduceEqDiff,Nat.reduceBEq,Nat.reduceLeDiff,Nat.reduceAdd,Nat.reduceMul]
  refine hdv.call ?_
  have hm:n%10<10:=Nat.mod_lt _ (by omega)
  have hlt:n / 10<n:=Nat.div_lt_self hpos (by omega)
  have fin: ∀(y':AV)(H2:AHeap),growC (H.upd p1 (some (.row 44 0 [.bool (neg),LS (digs 65536 N) t]))) 5 1 (ds.length+1) (Bt (ds.map chD)++[.int .u8 ((48+n%10:Nat):Int)]) y' H2→
   Settle (fun s'=> ∃x':Nat×Bool×List Nat×AV×AHeap,x'.1<n∧(x'.1≤N∧digs 10 N=x'.2.2.1++digs 10 x'.1∧growC (H.upd p1 (some (.row 44 0 [.bool (neg),LS (digs 65536 N) t]))) 5 1 x'.2.2.1.length (Bt (x'.2.2.1.map chD)) x'.2.2.2.1 x'.2.2.2.2)∧s'=⟨[],[(1,.ptr p1 2 0),(3,x'.2.2.2.1),(4,LS (digs 65536 x'.1) x'.2.1)],x'.2.2.2.2⟩)
    ⟨[],[(1,.ptr p1 2 0),(3,y'),(4,LS (digs 65536 (n / 10)) false)],H2⟩:=by
   intro y' H2 h
   refine Settle.now ⟨(n / 10,false,ds++[n%10],y',H2),hlt,⟨by dsimp only;omega,?_,?_⟩,rfl⟩
   ·dsimp only;rw[hds,digs_pos (by omega) hpos];simp
   ·dsimp only
    rw[List.map_append,Bt_app,List.length_append]
    rw[Bt_one (by omega)]at h
    exact h
  have hb13:ds.length≤10000002:=by omega
  clear hd10 hdt hl hnl hdsl
  by_cases hz:n%10=0
  ·have e:digs 65536 (n%10)=[]:=by rw[hz,digs_zero]
   rw[e]
   simp(disch:=first|exact Xe|fail)only[List.length_nil,wn_u8',↓Xa,Xb,Xc,↓reduceIte,Nat.reduceLT,Nat.reduceEqDiff,Nat.reduceBEq,Nat.reduceLeDiff,Nat.reduceAdd,Nat.reduceMul]
   refine app_C hg rfl rfl (by omega) (by omega) (by omega) fun y' H2 hg2=>?_
   simp(disch:=first|exact Xe|fail)only[↓Xa,Xb,Xc,↓reduceIte,Nat.reduceLT,Nat.reduceEqDiff,Nat.reduceBEq,Nat.reduceLeDiff,Nat.reduceAdd,Nat.reduceMul]
   exact fin y' H2 (by rw[hz];exact hg2)
  ·have e:digs 65536 (n%10)=[n%10]:=by rw[digs1 (by omega),if_neg hz]
   rw[e]
   simp(disch:=first|exact Xe|fail)only[List.length_cons,List.length_nil,wn_u8',load_U1,↓Xa,Xb,Xc,↓reduceIte,Nat.reduceLT,Nat.reduceEqDiff,Nat.reduceBEq,Nat.reduceLeDiff,Nat.reduceAdd,Nat.reduceMul]
   refine app_C (m:=1) (bytes:=1) hg rfl rfl (by omega) (by omega) (by omega) fun y' H2 hg2=>?_
   simp(disch:=first|exact Xe|fail)only[↓Xa,Xb,Xc,↓reduceIte,Nat.reduceLT,Nat.reduceEqDiff,Nat.reduceBEq,Nat.reduceLeDiff,Nat.reduceAdd,Nat.reduceMul]
   exact fin y' H2 hg2
abbrev RowA(zs:List Int)(t:Bool):AV:=.seq zs.length (IC zs) t
def RC(zs:List Int):List AV:=zs.flatMap fun z=>[RefB z,RefD z]
abbrev RefR(zs:List Int)(t:Bool):AV:=.seq zs.length (RC zs) t
theorem RC_len(zs:List Int):(RC zs).length=zs.length*2:=by
 induction zs with
 |nil=>rfl
 |cons a l ih=>simp only[RC,List.flatMap_cons,List.length_append,List.length_cons,List.length_nil]at *; omega
theorem RC_snoc(zs:List Int)(z:Int):RC (zs++[z])=RC zs++[RefB z,RefD z]:=by simp[RC,List.flatMap_append]
theorem RC_drop: ∀(l:List Int)(i:Nat)(h:i<l.length),(RC l).drop (i*2)=RefB (l[i])::RefD (l[i])::(RC l).drop (i*2+2)
 |a::l,0,_=>rfl
 |a::l,i+1,h=>by
  have:=RC_drop l i (by simpa using h)
  rw[show(i+1)*2=i*2+2 by omega]
  show((RefB a::RefD a::RC l).drop (i*2+2))=_
  simp only[List.drop_succ_cons,List.getElem_cons_succ]
  rw[this]
  show _=_::_::((RefB a::RefD a::RC l).drop (i*2+2+2))
  simp only[List.drop_succ_cons]
section
variable {K:AV→Prop} {H:AHeap} {k:IntKind} {t:Bool} {zs:List Int} {i:Nat}
theorem idx_IC(h:i<zs.length):idxAW 2 (.seq zs.length (IC zs) t) (.int k (i:Int)) K=K (.cptr ((IC zs).drop (i*2))):=idx_rw (IC_len zs) h
theorem idx_RC(h:i<zs.length):idxAW 2 (.seq zs.length (RC zs) t) (.int k (i:Int)) K=K (.cptr ((RC zs).drop (i*2))):=idx_rw (RC_len zs) h
theorem load_IC(h:i<zs.length):loadW H (some 2) (.cptr ((IC zs).drop (i*2))) K=K (IntA (zs[i])):=by
 simp only[loadW,cellsAt,IC_drop zs i h];simp[IntA_eq]
theorem load_RC(h:i<zs.length):loadW H (some 2) (.cptr ((RC zs).drop (i*2))) K=K (RefA (zs[i]) false):=by
 simp only[loadW,cellsAt,RC_drop zs i h];simp[RefA,RefB,RefD]
end
def RB4(k:Nat)(zs:List Int):Prop:=(∀z,z∈zs→Bd k z)∧zs.length<4611686018427387904
theorem RB4.at{k:Nat}{zs:List Int}(h:RB4 k zs){i:Nat}(hi:i<zs.length):Bd k (zs[i]):=h.1 _ (List.getElem_mem hi)
theorem repI1{a b:AV}:repA [a,b] 2=[a,b]:=by simp[repA,List.range,List.range.loop]
theorem cellI{z:Int}:[IntB z,IntD z].all AV.cell=true:=rfl
theorem IC_take{zs:List Int}{i:Nat}(h:i<zs.length):IC (zs.take (i+1))=IC (zs.take i)++[IntB (zs[i]),IntD (zs[i])]:=by
 rw[List.take_add_one,List.getElem?_eq_getElem h,Option.toList_some,IC_snoc]
theorem fn_cells{f:Go.Fn}{a b:List AV}:(AV.fn f a b).cells=some [.fn f a b]:=id rfl
theorem callW_fn{P:Program}{f:FuncId}{first caps args:List AV}{H:AHeap}{K:AV→AHeap→Prop}(h:Run P f (first++args++caps) H K):callW P (.fn (.func f) first caps) args H K:=h
theorem Le.both{A B:AHeap}{p:Nat}{x:Option ABlk}(h:Le A B):Le (A.upd p x) (B.upd p x):=fun o y ho=>by
 by_cases e:o=p
 ·subst e;rw[upd_same]at ho ⊢; exact ho
 ·rw[upd_other _ _ e]at ho ⊢; exact h o y ho
section
variable {H:AHeap} {Q:AV→AHeap→Prop} {zs ws:List Int} {t t':Bool} {k:Nat}
theorem zip_len{f:Int→Int→Int}(h:zs.length=ws.length):(zipI f zs ws).length=zs.length:=by simp[zipI,h]
theorem zip_at{f:Int→Int→Int}(h:zs.length=ws.length){i:Nat}(hi:i<zs.length)(hi2:i<(zipI f zs ws).length):(zipI f zs ws)[i]=f (zs[i]) (ws[i]'(by omega)):=by simp[zipI]
end
end Go.Proofs.YtmndejlpfmmaiaaGreatDoor.Fw
namespace Go.Proofs.YtmndejlpfmmaiaaGreatDoor.Fw
open Go Go.Proofs.YtmndejlpfmmaiaaGreatDoor.Ma
abbrev QQ:=_root_.Rat
theorem q_pos(q:QQ):0<(q.den:Int):=by have:=q.den_pos;omega
theorem mk_num{n:Int}{d:Nat}(hd:0<d):(mkRat n d).num=n / ((Int.gcd n (d:Int):Nat):Int):=by
 rw[_root_.Rat.num_mkRat,if_neg (by omega),Nat.gcd_comm];rfl
theorem mk_den{n:Int}{d:Nat}(hd:0<d):(((mkRat n d).den:Nat):Int)=(d:Int) / ((Int.gcd n (d:Int):Nat):Int):=by
 rw[_root_.Rat.den_mkRat,if_neg (by omega),Nat.gcd_comm];rfl
theorem q_lt{p q:QQ}:p<q↔p.num*(q.den:Int)<q.num*(p.den:Int):=_root_.Rat.lt_iff p q
theorem Bd.oneQ(k:Nat):Bd (k+1) 1:=by
 unfold Bd
 have:4294967296^1≤4294967296^(k+1):=Nat.pow_le_pow_right (by omega) (by omega)
 have e:(1:Int).natAbs=1:=rfl
 omega
def RB(k:Nat)(q:QQ):Prop:=Bd k q.num∧Bd k (q.den:Int)
theorem RB.mk{n:Int}{d k:Nat}(hn:Bd k n)(hd:Bd k (d:Int))(h0:0<d):RB k (mkRat n d):=by
 refine⟨?_,?_⟩
 ·rw[mk_num h0];exact hn.ediv
 ·rw[mk_den h0];exact hd.ediv
theorem RB.mono{q:QQ}{k k':Nat}(h:RB k q)(hk:k≤k'):RB k' q:=⟨h.1.mono hk,h.2.mono hk⟩
theorem RB.neg{q:QQ}{k:Nat}(h:RB k q):RB k (-q):=⟨h.1.neg,h.2⟩
theorem RB.add{p q:QQ}{k k':Nat}(h:RB k p)(h':RB k' q):RB (k+k'+1) (p+q):=by
 rw[_root_.Rat.add_def']
 refine RB.mk (Bd.add (h.1.mul h'.2) ?_) ?_ (Nat.mul_pos p.den_pos q.den_pos)
 ·have:=h'.1.mul h.2;rw[Nat.add_comm];exact this
 ·rw[Int.natCast_mul];exact(h.2.mul h'.2).mono (by omega)
theorem RB.sub{p q:QQ}{k k':Nat}(h:RB k p)(h':RB k' q):RB (k+k'+1) (p-q):=by
 rw[_root_.Rat.sub_eq_add_neg];exact h.add h'.neg
theorem RB.mul{p q:QQ}{k k':Nat}(h:RB k p)(h':RB k' q):RB (k+k') (p*q):=by
 rw[_root_.Rat.mul_def']
 refine RB.mk (h.1.mul h'.1) ?_ (Nat.mul_pos p.den_pos q.den_pos)
 rw[Int.natCast_mul];exact h.2.mul h'.2
theorem RB.int{z:Int}{k:Nat}(h:Bd (k+1) z):RB (k+1) (z:QQ):=⟨h,Bd.oneQ k⟩
theorem RB.less{q:QQ}{k:Nat}(h:RB k q):Bd k ((q.den:Int)-1):=h.2.le (by have:=q_pos q;omega)
end Go.Proofs.YtmndejlpfmmaiaaGreatDoor.Fw
namespace Go.Proofs.YtmndejlpfmmaiaaGreatDoor.Fw
open Go Go.Proofs.YtmndejlpfmmaiaaGreatDoor.Ma
set_option maxRecDepth 20000
end Go.Proofs.YtmndejlpfmmaiaaGreatDoor.Fw
namespace Go.Proofs.YtmndejlpfmmaiaaGreatDoor.Fw
open Go Go.Proofs.YtmndejlpfmmaiaaGreatDoor.Ma
def cst(i:Ins):Int:=if i.op=5∨i.op=6 then i.c else 2^i.c.toNat
def doZ(i:Ins)(a b:Int):Option Int:=
 if i.op=2 then some (-a)else if i.op=3 then some (a+b)else if i.op=4 then some (a-b)
 else if i.op=5∨i.op=7 then some (cst i*a)else if i.op=6∨i.op=8 then(if a%cst i=0 then some (a / cst i)else none)else some a
def doR(i:Ins)(a b:List Int):Option (List Int):=
 if i.op=2 then some (a.map (- ·))else if i.op=3 then some (zipI (· + ·) a b)else if i.op=4 then some (zipI (· - ·) a b)
 else if i.op=5∨i.op=7 then some (a.map (cst i* ·))else if i.op=6∨i.op=8 then(if(∀z,z∈a→z%cst i=0)then some (a.map (· / cst i))else none)else some a
def runX{α:Type}(d:Ins→α→α→Option α)(z:α):List Ins→List α→List α×List α
 |[],r=>([],r)
 |i::l,r=>match d i (r.getD i.a.toNat z) (r.getD i.b.toNat z)with
  |none=>([],r)
  |some x=>let q:=runX d z l (r.set i.to.toNat x);(x::q.1,q.2)
theorem runX_len{α:Type}{d:Ins→α→α→Option α}{z:α}: ∀(l:List Ins)(r:List α),(runX d z l r).1.length≤l.length
 |[],r=>Nat.le_refl _
 |i::l,r=>by
  unfold runX
  split
  ·exact Nat.zero_le _
  ·exact Nat.succ_le_succ (runX_len l _)
theorem runX_regs{α:Type}{d:Ins→α→α→Option α}{z:α}: ∀(l:List Ins)(r:List α),(runX d z l r).2.length=r.length
 |[],r=>rfl
 |i::l,r=>by
  unfold runX
  split
  ·rfl
  ·dsimp only;rw[runX_regs l,List.length_set]
theorem runX_at{α:Type}{d:Ins→α→α→Option α}{z:α}{l:List Ins}{k:Nat}(hk:k<l.length)(r:List α){x:α}(hx:d l[k] (r.getD l[k].a.toNat z) (r.getD l[k].b.toNat z)=some x):runX d z (l.drop k) r=(x::(runX d z (l.drop (k+1)) (r.set l[k].to.toNat x)).1,(runX d z (l.drop (k+1)) (r.set l[k].to.toNat x)).2):=by
 rw[List.drop_eq_getElem_cons hk,runX,hx]
theorem runX_no{α:Type}{d:Ins→α→α→Option α}{z:α}{l:List Ins}{k:Nat}(hk:k<l.length)(r:List α)(hx:d l[k] (r.getD l[k].a.toNat z) (r.getD l[k].b.toNat z)=none):runX d z (l.drop k) r=([],r):=by
 rw[List.drop_eq_getElem_cons hk,runX,hx]
def mayI(n:Int)(i:Ins):Prop:=1≤i.op∧i.op≤8∧0≤i.to∧i.to<n∧0≤i.a∧i.a<n∧
 (if i.op=3∨i.op=4 then 0≤i.b∧i.b<n∧i.c=0 else i.b=0∧(if i.op=5∨i.op=6 then i.c≠0∧ -512≤i.c∧i.c≤512 else if i.op=7∨i.op=8 then 1≤i.c∧i.c≤64 else i.c=0))
instance (n:Int)(i:Ins):Decidable (mayI n i):=by unfold mayI;infer_instance
def headP(p:PR):Prop:=1≤p.ins∧p.ins≤p.regs∧p.regs≤128∧p.code.length≤16384∧1≤p.outs.length∧p.outs.length≤128
instance (p:PR):Decidable (headP p):=by unfold headP;infer_instance
def rightP(p:PR):Prop:=headP p∧(∀n,n∈p.outs→0≤n∧n<p.regs)∧∀i,i∈p.code→mayI p.regs i
instance (p:PR):Decidable (rightP p):=by unfold rightP;infer_instance
theorem mayI_b{n:Int}{i:Ins}(h:mayI n i):0≤i.b∧i.b<n:=by
 obtain⟨_,_,_,_,h1,h2,h3⟩:=h
 split at h3
 ·exact⟨h3.1,h3.2.1⟩
 ·omega
theorem cst_ne{n:Int}{i:Ins}(h:mayI n i):cst i≠0:=by
 unfold cst
 split
 ·rename_i h5
  obtain⟨_,_,_,_,_,_,h3⟩:=h
  rw[if_neg (by omega),if_pos h5]at h3
  exact h3.2.1
 ·exact Int.ne_of_gt (Int.pow_pos (by omega))
theorem pow2_64:(2:Nat)^64=4294967296^2:=by decide
theorem cst_bd{n:Int}{i:Ins}(h:mayI n i)(h5:5≤i.op):Bd 3 (cst i):=by
 obtain⟨_,_,_,_,_,_,h3⟩:=h
 rw[if_neg (by omega)]at h3
 unfold cst Bd
 by_cases e:i.op=5∨i.op=6
 ·rw[if_pos e]
  rw[if_pos e]at h3
  have:(4294967296:Nat)^1≤4294967296^3:=Nat.pow_le_pow_right (by omega) (by omega)
  omega
 ·rw[if_neg e]
  rw[if_neg e,if_pos (by omega)]at h3
  rw[Int.natAbs_pow]
  have h1:(2:Nat)^i.c.toNat≤2^64:=Nat.pow_le_pow_right (by omega) (by omega)
  rw[pow2_64]at h1
  have h2:(4294967296:Nat)^2<4294967296^3:=Nat.pow_lt_pow_right (by omega) (by omega)
  exact Nat.lt_of_le_of_lt h1 h2
theorem doZ_bd{n:Int}{i:Ins}(h:mayI n i){a b x:Int}{k:Nat}(ha:Bd k a)(hb:Bd k b)(hx:doZ i a b=some x):Bd (k+3) x:=by
 unfold doZ at hx
 split at hx
 ·injection hx with hx;subst hx;exact ha.neg.mono (by omega)
 ·split at hx
  ·injection hx with hx;subst hx;exact(ha.add hb).mono (by omega)
  ·split at hx
   ·injection hx with hx;subst hx;exact(ha.sub hb).mono (by omega)
   ·split at hx
    ·injection hx with hx;subst hx;exact((cst_bd h (by omega)).mul ha).mono (by omega)
    ·split at hx
     ·split at hx
      ·injection hx with hx;subst hx;exact(ha.ediv).mono (by omega)
      ·cases hx
     ·injection hx with hx;subst hx;exact ha.mono (by omega)
theorem getD_map{f:Int→Int}{l:List Int}{k:Nat}(h:k<l.length):(l.map f).getD k 0=f (l.getD k 0):=by
 simp[List.getD_eq_getElem?_getD,h]
theorem getD_zip{f:Int→Int→Int}{l m:List Int}{k:Nat}(h:k<l.length)(h':l.length=m.length):(zipI f l m).getD k 0=f (l.getD k 0) (m.getD k 0):=by
 have h2:k<m.length:=by omega
 simp[zipI,List.getD_eq_getElem?_getD,List.getElem?_zipWith,h,h2]
theorem doR_len{i:Ins}{a b r:List Int}(h:a.length=b.length)(hr:doR i a b=some r):r.length=a.length:=by
 unfold doR at hr
 repeat' split at hr
 all_goals first|(injection hr with hr;subst hr;simp[zipI,h])|cases hr
theorem doR_at{i:Ins}{a b r:List Int}(h:a.length=b.length)(hr:doR i a b=some r){k:Nat}(hk:k<a.length):doZ i (a.getD k 0) (b.getD k 0)=some (r.getD k 0):=by
 unfold doR at hr
 unfold doZ
 split at hr
 ·rename_i e;rw[if_pos e];injection hr with hr;subst hr;rw[getD_map hk]
 rename_i e2;rw[if_neg e2]
 split at hr
 ·rename_i e;rw[if_pos e];injection hr with hr;subst hr;rw[getD_zip hk h]
 rename_i e3;rw[if_neg e3]
 split at hr
 ·rename_i e;rw[if_pos e];injection hr with hr;subst hr;rw[getD_zip hk h]
 rename_i e4;rw[if_neg e4]
 split at hr
 ·rename_i e;rw[if_pos e];injection hr with hr;subst hr;rw[getD_map hk]
 rename_i e5;rw[if_neg e5]
 split at hr
 ·rename_i e;rw[if_pos e]
  split at hr
  ·rename_i ha
   injection hr with hr;subst hr
   have hm:a.getD k 0∈a:=by rw[List.getD_eq_getElem?_getD,List.getElem?_eq_getElem hk];exact List.getElem_mem hk
   rw[if_pos (ha _ hm),getD_map hk]
  ·cases hr
 ·rename_i e;rw[if_neg e];injection hr with hr;subst hr;rfl
theorem doR_no{i:Ins}{a b:List Int}(hr:doR i a b=none): ∃k,k<a.length∧∀y,doZ i (a.getD k 0) y=none:=by
 unfold doR at hr
 split at hr
 ·cases hr
 split at hr
 ·cases hr
 split at hr
 ·cases hr
 split at hr
 ·cases hr
 rename_i e2 e3 e4 e5
 split at hr
 ·rename_i e
  split at hr
  ·cases hr
  ·rename_i ha
   obtain⟨z,hz⟩:=Classical.not_forall.1 ha
   obtain⟨hm,hz⟩:=Classical.not_imp.1 hz
   obtain⟨k,hk,rfl⟩:=List.getElem_of_mem hm
   refine⟨k,hk,fun y=>?_⟩
   rw[List.getD_eq_getElem?_getD,List.getElem?_eq_getElem hk,Option.getD_some]
   unfold doZ
   rw[if_neg e2,if_neg e3,if_neg e4,if_neg e5,if_pos e,if_neg hz]
 ·cases hr
def RR{α β:Type}(R:α→β→Prop)(N:Nat)(z:α)(z':β)(r:List α)(r':List β):Prop:=r.length=N∧r'.length=N∧∀j,j<N→R (r.getD j z) (r'.getD j z')
theorem getD_setL{α:Type}{r:List α}{j k:Nat}{x z:α}(hk:k<r.length):(r.set k x).getD j z=if j=k then x else r.getD j z:=by
 simp only[List.getD_eq_getElem?_getD,List.getElem?_set]
 by_cases h:j=k
 ·subst h;simp[hk]
 ·rw[if_neg (Ne.symm h),if_neg h]
theorem RR.set{α β:Type}{R:α→β→Prop}{N:Nat}{z:α}{z':β}{r:List α}{r':List β}(h:RR R N z z' r r'){k:Nat}(hk:k<N){x:α}{x':β}(hx:R x x'):RR R N z z' (r.set k x) (r'.set k x'):=by
 obtain⟨h1,h2,h3⟩:=h
 refine⟨by rw[List.length_set,h1],by rw[List.length_set,h2],fun j hj=>?_⟩
 rw[getD_setL (by omega),getD_setL (by omega)]
 split
 ·exact hx
 ·exact h3 j hj
theorem run_rel{α β:Type}{R:α→β→Prop}{N:Nat}{z:α}{z':β}{d:Ins→α→α→Option α}{d':Ins→β→β→Option β}: ∀(code:List Ins)(r:List α)(r':List β),(∀i,i∈code→mayI (N:Int) i)→
 (∀i,i∈code→∀a b a' b' x,R a a'→R b b'→d i a b=some x→∃x',d' i a' b'=some x'∧R x x')→RR R N z z' r r'→
 (runX d z code r).1.length≤(runX d' z' code r').1.length∧(∀j,j<(runX d z code r).1.length→R ((runX d z code r).1.getD j z) ((runX d' z' code r').1.getD j z'))∧((runX d z code r).1.length=code.length→RR R N z z' (runX d z code r).2 (runX d' z' code r').2)
 |[],r,r',_,_,h=>⟨Nat.le_refl _,fun j hj=>absurd hj (by simp[runX]),fun _=>h⟩
 |i::l,r,r',hm,hd,h=>by
  have hi:=hm i (by simp)
  have hb:=mayI_b hi
  have ha:=hi.2.2
  simp only[runX]
  cases e:d i (r.getD i.a.toNat z) (r.getD i.b.toNat z)with
  |none=>exact⟨Nat.zero_le _,fun j hj=>absurd hj (by simp),fun e=>by simp at e⟩
  |some x=>
   obtain⟨x',e',hx⟩:=hd i (by simp) _ _ _ _ x (h.2.2 _ (by omega)) (h.2.2 _ (by omega)) e
   rw[e']
   obtain⟨g1,g2,g3⟩:=run_rel l _ _ (fun j hj=>hm j (by simp[hj])) (fun j hj=>hd j (by simp[hj])) (h.set (k:=i.to.toNat) (by omega) hx)
   refine⟨by simpa using g1,fun j hj=>?_,fun e=>g3 (by simpa using e)⟩
   cases j with
   |zero=>exact hx
   |succ j=>exact g2 j (by simpa using hj)
theorem run_least{α β κ:Type}{I:α→Prop}{R:κ→α→β→Prop}{N:Nat}{z:α}{z':β}{d:Ins→α→α→Option α}{d':Ins→β→β→Option β}: ∀(code:List Ins)(r:List α)(r':κ→List β),(∀i,i∈code→mayI (N:Int) i)→
 (∀i,i∈code→∀a b x,I a→I b→d i a b=some x→I x)→
 (∀k i,i∈code→∀a b a' b' x,R k a a'→R k b b'→d i a b=some x→∃x',d' i a' b'=some x'∧R k x x')→
 (∀i,i∈code→∀a b,d i a b=none→I a→I b→∃k,∀a' b',R k a a'→R k b b'→d' i a' b'=none)→(∀k,RR (R k) N z z' r (r' k))→r.length=N→(∀j,j<N→I (r.getD j z))→
 (runX d z code r).1.length<code.length→∃k,(runX d' z' code (r' k)).1.length=(runX d z code r).1.length
 |[],r,r',_,_,_,_,_,_,_,hl=>by simp[runX]at hl
 |i::l,r,r',hm,hI,hd,hn,h,hN,hr,hl=>by
  have hi:=hm i (by simp)
  have hb:=mayI_b hi
  have ha:=hi.2.2
  simp only[runX]at hl ⊢
  cases e:d i (r.getD i.a.toNat z) (r.getD i.b.toNat z)with
  |none=>
   obtain⟨k,hk⟩:=hn i (by simp) _ _ e (hr _ (by omega)) (hr _ (by omega))
   refine⟨k,?_⟩
   rw[hk _ _ ((h k).2.2 _ (by omega)) ((h k).2.2 _ (by omega))];rfl
  |some x=>
   rw[e]at hl
   have hex: ∀k,∃x',d' i ((r' k).getD i.a.toNat z') ((r' k).getD i.b.toNat z')=some x'∧R k x x':=fun k=>hd k i (by simp) _ _ _ _ x ((h k).2.2 _ (by omega)) ((h k).2.2 _ (by omega)) e
   obtain⟨f,hf⟩:=Classical.axiomOfChoice hex
   have hx:I x:=hI i (by simp) _ _ _ (hr _ (by omega)) (hr _ (by omega)) e
   obtain⟨k,hk⟩:=run_least l (r.set i.to.toNat x) (fun k=>(r' k).set i.to.toNat (f k)) (fun j hj=>hm j (by simp[hj])) (fun j hj=>hI j (by simp[hj])) (fun k j hj=>hd k j (by simp[hj])) (fun j hj=>hn j (by simp[hj])) (fun k=>(h k).set (by omega) (hf k).2)
    (by rw[List.length_set,hN]) (fun j hj=>by rw[getD_setL (by omega)];split;exact hx;exact hr j hj) (by simpa using hl)
   refine⟨k,?_⟩
   rw[(hf k).1]
   simpa using hk
end Go.Proofs.YtmndejlpfmmaiaaGreatDoor.Fw
