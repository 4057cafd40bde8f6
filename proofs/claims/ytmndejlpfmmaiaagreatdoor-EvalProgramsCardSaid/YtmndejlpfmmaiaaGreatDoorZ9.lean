/- The texts Lay156 Kj Kh Kk Kl Km Ko Kp Kq Kr Ks Kt Ku Kv Kw Ee Ef Gn Go Eg Eh Ei Gp Gq Ej Kx Ek El Em Er Gs Gt Gv Es Et, joined. -/
import Derived.Test.YtmndejlpfmmaiaaGreatDoorZ8
import Derived.Shelf.Strings.OnBuilder
import Derived.Test.YtmndejlpfmmaiaaGreatDoorProg
import Derived.Lib.SmallJoins
set_option linter.unusedSimpArgs false
set_option linter.unusedVariables false
namespace Go.Proofs.YtmndejlpfmmaiaaGreatDoor.Fw
open Go Go.Shelf Go.Proofs
end Go.Proofs.YtmndejlpfmmaiaaGreatDoor.Fw
namespace Go.Proofs.YtmndejlpfmmaiaaGreatDoor.Fw
open Go Go.Proofs.YtmndejlpfmmaiaaGreatDoor.Ma Go.Shelf
set_option maxRecDepth 20000
end Go.Proofs.YtmndejlpfmmaiaaGreatDoor.Fw
namespace Go.Proofs.YtmndejlpfmmaiaaGreatDoor.Fw
open Go Go.Proofs.YtmndejlpfmmaiaaGreatDoor.Ma
set_option maxRecDepth 20000
theorem zFr{α:Type}{f:α→AV}{l:List α}{H:AHeap}{K:AV→Prop}{i:Nat}(h:i<l.length):zBC H none (.cptr ((l.map f).drop i)) K=K (f (l[i])):=by
 have hi:i<(l.map f).length:=by simpa using h
 simp only[zBC,zBB,List.drop_eq_getElem_cons hi]
 simp
theorem zJF{α:Type}{f:α→AV}{l:List α}{t:Bool}{k:IntKind}{K:AV→Prop}{i:Nat}(h:i<l.length):zBl 1 (.seq l.length (l.map f) t) (.int k (i:Int)) K=K (.cptr ((l.map f).drop (i*1))):=zHR (by simp) h
def ze0:List Nat→Nat
 |[]=>0
 |a::l=>a+ze0 l
section
variable {K:AV→Prop} {H:AHeap} {k:IntKind} {t:Bool} {l:List ziS} {i:Nat}
end
theorem zKw{zs:List Int}{i:Nat}(h:i<zs.length):RC (zs.take (i+1))=RC (zs.take i)++[zEA (zs[i]),zFS (zs[i])]:=by
 rw[List.take_add_one,List.getElem?_eq_getElem h,Option.toList_some,zZ8]
theorem zas{z:Int}:[zEA z,zFS z].all AV.cell=true:=rfl
theorem zIA{z:Int}{t:Bool}:(zBd z t).cells=some [zEA z,LS (digs 65536 z.natAbs) t]:=id rfl
theorem zDr{z:Int}{t:Bool}:AV.agg [zEA z,LS (digs 65536 z.natAbs) t]=zBd z t:=id rfl
theorem PFn.loose1{P:Program}{f:FuncId}{x:AV}{rest:List AV}{r:AV}(h:PFn P f (loose x::rest) r):PFn P f (x::rest) r:=fun H Q hq=>
 ⟨(h H Q hq).1,fun c vs hH hok hs he=>(h H Q hq).2 c vs hH hok (by simpa using hs) fun i hi hi'=>by
  match i,hi with
  |0,_=>exact zCH _ _ (he 0 (by simp) hi')
  |i+1,hi=>exact he (i+1) (by simpa using hi) hi'⟩
theorem zLR{H:AHeap}{Q:AV→AHeap→Prop}{zs:List Int}{t:Bool}{c:Int}{k:Nat}(hz:RB4 k zs)(hc:Bd k c)(hk:k≤1000000)(hc0:c≠0)(hbig:zs.length≤1000000)
 (hq:(∀z,z∈zs→z%c=0)→∀y M,zBI H 48 2 zs.length (IC (zs.map (· / c))) y M→Q (.tup [y,.int .i64 ((0:Nat):Int)]) M)
 (hn:(∃z,z∈zs∧z%c≠0)→Q (.tup [.seq 0 [] true,.int .i64 ((20:Nat):Int)]) H):Run Tryz.prog 187 [zB7 zs t,zAl c] H Q:=by
 have nz:zs.length<9223372036854775808:=by omega
 have hs:decide (zD4 c=((0:Nat):Int))=false:=decide_eq_false (by unfold zD4;rw[if_neg hc0];split<;>omega)
 refine zTF (by simp) ?_
 simp(disch:=first|exact Xe|fail)only[zdD,zAE,↓Xa,Xb,Xc,↓reduceIte,Nat.reduceLT,Nat.reduceEqDiff,Nat.reduceBEq,Nat.reduceLeDiff,Nat.reduceAdd]
 refine zAD fun p1 hp1=>?_
 have n1:=hp1
 simp(disch:=first|exact Xe|fail)only[zAI,↓Xa,Xb,Xc,↓reduceIte,Nat.reduceLT,Nat.reduceEqDiff,Nat.reduceBEq,Nat.reduceLeDiff,Nat.reduceAdd]
 refine(zGa hc (by omega)).call ?_
 simp(disch:=first|exact Xe|fail)only[zAF,hs,zBK,↓Xa,Xb,Xc,↓reduceIte,Nat.reduceLT,Nat.reduceEqDiff,Nat.reduceBEq,Nat.reduceLeDiff,Nat.reduceAdd]
 refine zAO (fun s:Nat×AV×AHeap=>⟨[],[(3,.ptr p1 2 0),(6,s.2.1),(15,zB7 zs t),(16,.int .i64 (zs.length:Int)),(17,.int .i64 s.1)],s.2.2⟩)
  (fun s=>s.1≤zs.length∧(∀z,z∈zs.take s.1→z%c=0)∧zBI (H.upd p1 (some (.row 48 0 [zB0 c,zB1 c]))) 48 2 s.1 (IC ((zs.map (· / c)).take s.1)) s.2.1 s.2.2) (fun s=>zs.length-s.1) (0,.seq 0 [] true,_) (Settle.now rfl) ⟨Nat.zero_le _,by simp,zAh⟩ ?_
 rintro⟨i,y,M⟩ ⟨h3,hall,hg⟩
 dsimp only at h3 hall hg ⊢
 have m1:M p1=some (.row 48 0 [zB0 c,zB1 c]):=zBq hg (zAC _ _ _)
 by_cases hi:i<zs.length
 ·have hi2:i<(zs.map (· / c)).length:=by simpa using hi
  simp(disch:=first|exact Xe|fail)only[hi,zEv,zDF,↓Xa,Xb,Xc,↓reduceIte,Nat.reduceLT,Nat.reduceEqDiff,Nat.reduceBEq,Nat.reduceLeDiff,Nat.reduceAdd]
  refine zAD fun q1 hq1=>?_
  have a1:=zAW m1 hq1
  simp(disch:=first|exact Xe|fail)only[zAE,zAI,m1,↓Xa,Xb,Xc,↓reduceIte,Nat.reduceLT,Nat.reduceEqDiff,Nat.reduceBEq,Nat.reduceLeDiff,Nat.reduceAdd]
  have hg1:=zCf (r:=.row 48 0 [zB0 (zs[i]),zB1 (zs[i])]) hg hq1
  refine(zOH (hz.at hi) (by omega) hc (by omega) hc0).call ?_
  simp(disch:=first|exact Xe|fail)only[↓Xa,Xb,Xc,↓reduceIte,Nat.reduceLT,Nat.reduceEqDiff,Nat.reduceBEq,Nat.reduceLeDiff,Nat.reduceAdd]
  refine zAD fun q2 hq2=>?_
  have a2:=zAW m1 (zAB.1 hq2).2
  simp(disch:=first|exact Xe|fail)only[↓Xa,Xb,Xc,↓reduceIte,Nat.reduceLT,Nat.reduceEqDiff,Nat.reduceBEq,Nat.reduceLeDiff,Nat.reduceAdd]
  refine zAD fun q3 hq3=>?_
  have a3:=zAW m1 (zAB.1 (zAB.1 hq3).2).2
  have a32:=(zAB.1 hq3).1
  simp(disch:=first|exact Xe|fail)only[zAE,zAI,↓Xa,Xb,Xc,↓reduceIte,Nat.reduceLT,Nat.reduceEqDiff,Nat.reduceBEq,Nat.reduceLeDiff,Nat.reduceAdd]
  have hg2:=zCf (r:=.row 48 0 [zB0 (zs[i] / c),zB1 (zs[i] / c)]) hg1 hq2
  have hq3':((M.upd q1 (some (.row 48 0 [zB0 (zs[i]),zB1 (zs[i])]))).upd q2 (some (.row 48 0 [zB0 (zs[i] / c),zB1 (zs[i] / c)]))) q3=none:=zAB.2 ⟨a32,(zAB.1 hq3).2⟩
  have hg3:=zCf (r:=.row 48 0 [zB0 (zs[i]%c),zB1 (zs[i]%c)]) hg2 hq3'
  have br:Bd k (zs[i]%c):=by
   have h1:=Int.emod_lt (zs[i]) hc0
   have h2:=Int.emod_nonneg (zs[i]) hc0
   unfold Bd at hc ⊢; omega
  refine(zGa br (by omega)).call ?_
  by_cases h0:zs[i]%c=0
  ·simp(disch:=first|exact Xe|fail)only[zMD,h0,zIU,zAE,zAI,↓Xa,Xb,Xc,↓reduceIte,Nat.reduceLT,Nat.reduceEqDiff,Nat.reduceBEq,Nat.reduceLeDiff,Nat.reduceAdd,Nat.reduceMul]
   rw[h0]at hg3
   refine zFV (m:=1) hg3 rfl zYs (by omega) (by omega) (by omega) fun y' M2 hg4=>?_
   have et:(zs.map (· / c))[i]=zs[i] / c:=by simp
   rw[← et,← zLU hi2]at hg4
   have hle:Le (H.upd p1 (some (.row 48 0 [zB0 c,zB1 c]))) ((((H.upd p1 (some (.row 48 0 [zB0 c,zB1 c]))).upd q1 (some (.row 48 0 [zB0 (zs[i]),zB1 (zs[i])]))).upd q2 (some (.row 48 0 [zB0 ((zs.map (· / c))[i]),zB1 ((zs.map (· / c))[i])]))).upd q3 (some (.row 48 0 [zB0 0,zB1 0]))):=
    (((Le.refl _).updB (zCY hg hq1)).updB (zCY hg (zAB.1 hq2).2)).updB (zCY hg (zAB.1 (zAB.1 hq3).2).2)
   obtain⟨M3,hg5,hl5⟩:=zBO hg4 hle
   simp(disch:=first|exact Xe|fail)only[↓Xa,Xb,Xc,↓reduceIte,Nat.reduceLT,Nat.reduceEqDiff,Nat.reduceBEq,Nat.reduceLeDiff,Nat.reduceAdd]
   refine Settle.dropTo hl5 (Settle.now ⟨(i+1,y',M3),by dsimp only;omega,⟨by dsimp only;omega,fun z hm=>?_,hg5⟩,rfl⟩)
   dsimp only at hm
   rw[List.take_add_one,List.getElem?_eq_getElem hi,Option.toList_some]at hm
   rcases List.mem_append.1 hm with hm|hm
   ·exact hall z hm
   ·rw[List.mem_singleton.1 hm];exact h0
  ·simp(disch:=first|exact Xe|fail)only[zMD,h0,zZG,↓Xa,Xb,Xc,↓reduceIte,Nat.reduceLT,Nat.reduceEqDiff,Nat.reduceBEq,Nat.reduceLeDiff,Nat.reduceAdd]
   refine SetR.dropTo ?_ (SetR.now (hn ⟨_,List.getElem_mem hi,h0⟩))
   have hH:Le H M:=fun o x ho=>zD9 hg o x (((Le.refl H).updB n1) o x ho)
   exact((hH.upd hq1).upd hq2).upd hq3'
 ·obtain rfl:i=zs.length:=by omega
  rw[List.take_of_length_le (by omega)]at hall
  rw[List.take_of_length_le (by simp)]at hg
  simp(disch:=first|exact Xe|fail)only[hi,↓Xa,Xb,Xc,↓reduceIte,Nat.reduceLT,Nat.reduceEqDiff,Nat.reduceBEq,Nat.reduceLeDiff,Nat.reduceAdd]
  refine Settle.now ?_
  simp(disch:=first|exact Xe|fail)only[zZG,↓Xa,Xb,Xc,↓reduceIte,Nat.reduceLT,Nat.reduceEqDiff,Nat.reduceBEq,Nat.reduceLeDiff,Nat.reduceAdd]
  obtain⟨M3,hg5,hl5⟩:=zBO hg ((Le.refl H).updB n1)
  exact SetR.dropTo hl5 (SetR.now (hq hall y M3 hg5))
theorem RB4.map{k k':Nat}{zs:List Int}{f:Int→Int}(h:RB4 k zs)(hf: ∀z,Bd k z→Bd k' (f z)):RB4 k' (zs.map f):=
 ⟨fun z hz=>by obtain⟨y,hy,rfl⟩:=List.mem_map.1 hz;exact hf y (h.1 y hy),by rw[List.length_map];exact h.2⟩
theorem RB4.zip{k k1 k2:Nat}{zs ws:List Int}{f:Int→Int→Int}(h:RB4 k1 zs)(h2:RB4 k2 ws)(hl:zs.length=ws.length)(hf: ∀z w,Bd k1 z→Bd k2 w→Bd k (f z w)):RB4 k (zDe f zs ws):=
 ⟨fun z hz=>by
  obtain⟨i,hi,rfl⟩:=List.getElem_of_mem hz
  have hi2:i<zs.length:=by rw[zES hl]at hi;exact hi
  rw[zMk hl hi2]
  exact hf _ _ (h.at hi2) (h2.at (by omega)),by rw[zES hl];exact h.2⟩
theorem RB4.mono{k k':Nat}{zs:List Int}(h:RB4 k zs)(hk:k≤k'):RB4 k' zs:=⟨fun z hz=>(h.1 z hz).mono hk,h.2⟩
section
variable {zs ws:List Int} {t t':Bool} {k:Nat}
end
theorem zLT{H:AHeap}{n b L off ty es:Nat}{cells l:List AV}{K:AV→AHeap→Prop}(hL:cells.length=L)(hl:l.length=n)(ho:off+n≤L):stP H n b L off K (some l) (some (.row ty es cells))↔K .bot (H.upd b (some (.row ty es (zAo cells off l)))):=by
 simp[stP,hL,hl,ho]
def RowO(M:AHeap)(y:AV)(zs:List Int):Prop:=(zs=[]∧y=.seq 0 [] true)∨(0<zs.length∧∃b,y=.own b (zs.length*2) 0 zs.length false∧M b=some (.row 48 2 (IC zs)))
theorem RowO.of{H M:AHeap}{n:Nat}{y:AV}{zs:List Int}(h:zBI H 48 2 n (IC zs) y M)(hn:zs.length=n):RowO M y zs:=by
 subst hn
 rcases h with⟨h1,_,rfl,rfl⟩|⟨hn,_,b,hb,rfl,rfl⟩
 ·exact .inl ⟨List.length_eq_zero_iff.1 h1,rfl⟩
 ·exact .inr ⟨hn,b,rfl,zAC _ _ _⟩
theorem RowO.le{M M':AHeap}{y:AV}{zs:List Int}(h:RowO M y zs)(hl:Le M M'):RowO M' y zs:=by
 rcases h with h|⟨hn,b,e,hb⟩
 ·exact .inl h
 ·exact .inr ⟨hn,b,e,hl _ _ hb⟩
theorem RowO.len{M:AHeap}{y:AV}{zs:List Int}(h:RowO M y zs)(hn:zs.length<9223372036854775808){K:AV→Prop}:zEE false y K=K (.int .i64 ((zs.length:Nat):Int)):=by
 rcases h with⟨rfl,rfl⟩|⟨h0,b,rfl,hb⟩<;>simp[zEE,hn]
section
variable {zs ws:List Int} {t t':Bool} {k:Nat}
theorem zJG{c d:Int}{k':Nat}(tc td:Bool)(hz:RB4 k zs)(hw:RB4 k ws)(hc:Bd k' c)(hd:Bd k' d)(hk:k+k'+1≤1000000)(hl:zs.length=ws.length)(hbig:zs.length≤1000000):
 PFn Tryz.prog 214 [zBd c tc,zIe zs t,zBd d td,zIe ws t'] (zIe (zDe (fun x y=>c*x+d*y) zs ws) false):=by
 intro H Q hq
 have nz:zs.length<9223372036854775808:=by omega
 have hln:(zDe (fun x y=>c*x+d*y) zs ws).length=zs.length:=zES hl
 rw[show zIe (zDe (fun x y=>c*x+d*y) zs ws) false=.seq zs.length (RC (zDe (fun x y=>c*x+d*y) zs ws)) false by rw[← hln]]at hq
 refine zTV (by simp) ?_
 simp(disch:=first|exact Xe|fail)only[zcK,zIA,↓Xa,Xb,Xc,↓reduceIte,Nat.reduceLT,Nat.reduceEqDiff,Nat.reduceBEq,Nat.reduceLeDiff,Nat.reduceAdd]
 refine zAD fun p1 hp1=>?_
 have n1:=hp1
 simp(disch:=first|exact Xe|fail)only[zIA,↓Xa,Xb,Xc,↓reduceIte,Nat.reduceLT,Nat.reduceEqDiff,Nat.reduceBEq,Nat.reduceLeDiff,Nat.reduceAdd]
 refine zAD fun p2 hp2=>?_
 have n2:=hp2
 simp only[zAB]at n2
 obtain⟨_,n2⟩:=n2
 simp(disch:=first|exact Xe|fail)only[↓Xa,Xb,Xc,↓reduceIte,Nat.reduceLT,Nat.reduceEqDiff,Nat.reduceBEq,Nat.reduceLeDiff,Nat.reduceAdd]
 refine zAO (fun s:Nat×AV×AHeap=>⟨[],[(1,zIe zs t),(3,zIe ws t'),(4,.ptr p1 2 0),(6,.ptr p2 2 0),(9,s.2.1),(10,.int .i64 s.1)],s.2.2⟩)
  (fun s=>s.1≤zs.length∧zBI ((H.upd p1 (some (.row 44 0 [zEA c,LS (digs 65536 c.natAbs) tc]))).upd p2 (some (.row 44 0 [zEA d,LS (digs 65536 d.natAbs) td]))) 44 2 s.1 (RC ((zDe (fun x y=>c*x+d*y) zs ws).take s.1)) s.2.1 s.2.2) (fun s=>zs.length-s.1) (0,.seq 0 [] true,_) (Settle.now rfl) ⟨Nat.zero_le _,zAh⟩ ?_
 rintro⟨i,y,M⟩ ⟨h3,hg⟩
 dsimp only at h3 hg ⊢
 have m1:M p1=some (.row 44 0 [zEA c,LS (digs 65536 c.natAbs) tc]):=zBq hg (by rw[zAA _ _ (by apply Ne.symm;assumption),zAC])
 have m2:M p2=some (.row 44 0 [zEA d,LS (digs 65536 d.natAbs) td]):=zBq hg (zAC _ _ _)
 by_cases hi:i<zs.length
 ·have hi2:i<ws.length:=by omega
  have hi3:i<(zDe (fun x y=>c*x+d*y) zs ws).length:=by omega
  simp(disch:=first|exact Xe|fail)only[hi,hi2,zBK,m1,m2,zJ5,zGA,zDr,↓Xa,Xb,Xc,↓reduceIte,Nat.reduceLT,Nat.reduceEqDiff,Nat.reduceBEq,Nat.reduceLeDiff,Nat.reduceAdd]
  refine PFn.dcall (zF2 tc false hc (by omega) (hz.at hi) (by omega)) ?_
  simp(disch:=first|exact Xe|fail)only[hi,hi2,zBK,m1,m2,zJ5,zGA,zDr,↓Xa,Xb,Xc,↓reduceIte,Nat.reduceLT,Nat.reduceEqDiff,Nat.reduceBEq,Nat.reduceLeDiff,Nat.reduceAdd]
  refine PFn.dcall (zF2 td false hd (by omega) (hw.at hi2) (by omega)) ?_
  simp(disch:=first|exact Xe|fail)only[↓Xa,Xb,Xc,↓reduceIte,Nat.reduceLT,Nat.reduceEqDiff,Nat.reduceBEq,Nat.reduceLeDiff,Nat.reduceAdd]
  refine PFn.dcall (zIb false false (hc.mul (hz.at hi)) (by omega) (hd.mul (hw.at hi2)) (by omega)) ?_
  simp(disch:=first|exact Xe|fail)only[zIU,zAe,↓Xa,Xb,Xc,↓reduceIte,Nat.reduceLT,Nat.reduceEqDiff,Nat.reduceBEq,Nat.reduceLeDiff,Nat.reduceAdd,Nat.reduceMul]
  refine zFV (m:=1) hg rfl zas (by omega) (by omega) (by omega) fun y' M2 hg3=>?_
  rw[← zMk (f:=fun x y=>c*x+d*y) hl hi hi3,← zKw hi3]at hg3
  simp(disch:=first|exact Xe|fail)only[↓Xa,Xb,Xc,↓reduceIte,Nat.reduceLT,Nat.reduceEqDiff,Nat.reduceBEq,Nat.reduceLeDiff,Nat.reduceAdd]
  exact Settle.now ⟨(i+1,y',M2),by dsimp only;omega,⟨by dsimp only;omega,hg3⟩,rfl⟩
 ·obtain rfl:i=zs.length:=by omega
  rw[List.take_of_length_le (by omega)]at hg
  simp(disch:=first|exact Xe|fail)only[hi,zBK,↓Xa,Xb,Xc,↓reduceIte,Nat.reduceLT,Nat.reduceEqDiff,Nat.reduceBEq,Nat.reduceLeDiff,Nat.reduceAdd]
  refine Settle.now ?_
  simp(disch:=first|exact Xe|fail)only[zeE,↓Xa,Xb,Xc,↓reduceIte,Nat.reduceLT,Nat.reduceEqDiff,Nat.reduceBEq,Nat.reduceLeDiff,Nat.reduceAdd]
  refine SetR.join (zJP hg ?_)
  exact SetR.dropTo (((Le.refl H).updB n1).updB n2) (SetR.now hq)
theorem zZc(hz:RB4 k zs)(hw:RB4 k ws)(hk:k+3≤1000000)(hl:zs.length=ws.length)(hbig:zs.length≤1000000):
 PFn Tryz.prog 155 [zIe zs t,zIe ws t'] (zIe (zDe (· + ·) zs ws) false):=by
 intro H Q hq
 have e:zDe (fun x y=>((1:Nat):Int)*x+((1:Nat):Int)*y) zs ws=zDe (· + ·) zs ws:=by
  rw[show(fun x y:Int=>((1:Nat):Int)*x+((1:Nat):Int)*y)=(· + ·)from funext fun x=>funext fun y=>by omega]
 have hc:=zJG (t:=t) (t':=t') (c:=((1:Nat):Int)) (d:=((1:Nat):Int)) (k':=2) false false hz hw (Bd.i64 (by omega)) (Bd.i64 (by omega)) (by omega) hl hbig
 rw[e]at hc
 refine zV3 (by simp) ?_
 simp(disch:=first|exact Xe|fail)only[zcJ,↓Xa,Xb,Xc,↓reduceIte,Nat.reduceLT,Nat.reduceEqDiff,Nat.reduceBEq,Nat.reduceLeDiff,Nat.reduceAdd]
 refine(zDZ (n:=((1:Nat):Int)) (by omega)).call ?_
 simp(disch:=first|exact Xe|fail)only[↓Xa,Xb,Xc,↓reduceIte,Nat.reduceLT,Nat.reduceEqDiff,Nat.reduceBEq,Nat.reduceLeDiff,Nat.reduceAdd]
 refine(zDZ (n:=((1:Nat):Int)) (by omega)).call ?_
 simp(disch:=first|exact Xe|fail)only[↓Xa,Xb,Xc,↓reduceIte,Nat.reduceLT,Nat.reduceEqDiff,Nat.reduceBEq,Nat.reduceLeDiff,Nat.reduceAdd]
 refine hc.call ?_
 simp(disch:=first|exact Xe|fail)only[zcc,↓Xa,Xb,Xc,↓reduceIte,Nat.reduceLT,Nat.reduceEqDiff,Nat.reduceBEq,Nat.reduceLeDiff,Nat.reduceAdd]
 exact SetR.now hq
theorem zZU(hz:RB4 k zs)(hw:RB4 k ws)(hk:k+3≤1000000)(hl:zs.length=ws.length)(hbig:zs.length≤1000000):
 PFn Tryz.prog 156 [zIe zs t,zIe ws t'] (zIe (zDe (· - ·) zs ws) false):=by
 intro H Q hq
 have e:zDe (fun x y=>((1:Nat):Int)*x+ -1*y) zs ws=zDe (· - ·) zs ws:=by
  rw[show(fun x y:Int=>((1:Nat):Int)*x+ -1*y)=(· - ·)from funext fun x=>funext fun y=>by omega]
 have hc:=zJG (t:=t) (t':=t') (c:=((1:Nat):Int)) (d:= -1) (k':=2) false false hz hw (Bd.i64 (by omega)) (Bd.i64 (by omega)) (by omega) hl hbig
 rw[e]at hc
 refine zSo (by simp) ?_
 simp(disch:=first|exact Xe|fail)only[zc1,↓Xa,Xb,Xc,↓reduceIte,Nat.reduceLT,Nat.reduceEqDiff,Nat.reduceBEq,Nat.reduceLeDiff,Nat.reduceAdd]
 refine(zDZ (n:=((1:Nat):Int)) (by omega)).call ?_
 simp(disch:=first|exact Xe|fail)only[↓Xa,Xb,Xc,↓reduceIte,Nat.reduceLT,Nat.reduceEqDiff,Nat.reduceBEq,Nat.reduceLeDiff,Nat.reduceAdd]
 refine(zDZ (n:= -1) (by omega)).call ?_
 simp(disch:=first|exact Xe|fail)only[↓Xa,Xb,Xc,↓reduceIte,Nat.reduceLT,Nat.reduceEqDiff,Nat.reduceBEq,Nat.reduceLeDiff,Nat.reduceAdd]
 refine hc.call ?_
 simp(disch:=first|exact Xe|fail)only[zbQ,↓Xa,Xb,Xc,↓reduceIte,Nat.reduceLT,Nat.reduceEqDiff,Nat.reduceBEq,Nat.reduceLeDiff,Nat.reduceAdd]
 exact SetR.now hq
theorem zF5{c:Int}{k':Nat}(hz:RB4 k zs)(hc:Bd k' c)(hk:k+k'+1≤1000000)(hbig:zs.length≤1000000):
 PFn Tryz.prog 154 [zIe zs t,zBd c false] (zIe (zs.map (c* ·)) false):=by
 intro H Q hq
 have e:zDe (fun x y=>c*x+0*y) zs zs=zs.map (c* ·):=by
  refine List.ext_getElem (by simp[zDe]) fun i h1 h2=>?_
  simp[zDe]
 have hcb:=zJG (t:=t) (t':=t) (c:=c) (d:=0) (k':=k') false true hz hz hc (Bd.zero _) (by omega) rfl hbig
 rw[e]at hcb
 have z:zBd 0 true=.agg [.bool false,.seq 0 [] true]:=by simp[zBd,zAQ,LS,U]
 rw[z]at hcb
 refine zSa (by simp) ?_
 simp(disch:=first|exact Xe|fail)only[zb2,zAe,↓Xa,Xb,Xc,↓reduceIte,Nat.reduceLT,Nat.reduceEqDiff,Nat.reduceBEq,Nat.reduceLeDiff,Nat.reduceAdd]
 refine zAD fun p1 hp1=>?_
 have n1:=hp1
 simp(disch:=first|exact Xe|fail)only[zA2,↓Xa,Xb,Xc,↓reduceIte,Nat.reduceLT,Nat.reduceEqDiff,Nat.reduceBEq,Nat.reduceLeDiff,Nat.reduceAdd]
 refine hcb.call ?_
 simp(disch:=first|exact Xe|fail)only[zeC,↓Xa,Xb,Xc,↓reduceIte,Nat.reduceLT,Nat.reduceEqDiff,Nat.reduceBEq,Nat.reduceLeDiff,Nat.reduceAdd]
 exact SetR.dropTo ((Le.refl H).updB n1) (SetR.now hq)
end
theorem zNS(a b:List Int):IC (a++b)=IC a++IC b:=by simp[IC,List.flatMap_append]
theorem zfU(n:Nat):zCM [.bool false,.seq 0 [] true] (n*2)=IC (List.replicate n 0):=by
 induction n with
 |zero=>simp[zCM,IC]
 |succ n ih=>
  have e1:n*2%2=0:=by omega
  have e2:(n*2+1)%2=1:=by omega
  rw[List.replicate_succ',zQI,← ih,show(n+1)*2=n*2+1+1 by omega]
  simp only[zCM,List.range_succ,List.map_append,List.map_cons,List.map_nil,List.length_cons,List.length_nil,e1,e2]
  simp[zB0,zB1,zAQ,LS,U,e1,e2]
theorem zN6{H:AHeap}{ty n:Nat}{K:AV→AHeap→Prop}(h:n≤100000):zOq H ty 2 32 [.bool false,.seq 0 [] true] (.int .i64 (n:Int)) (.int .i64 (n:Int)) K↔∀b,H b=none→K (.own b (n*2) 0 n true) (H.upd b (some (.row ty 2 (IC (List.replicate n 0))))):=by
 have h1:(32:Int)*n≤281474976710656:=by omega
 have h2:(n:Int)<9223372036854775808:=by omega
 simp[zOq,h1,h2,zfU]
theorem zbS{zs:List Int}{k:Nat}(h:k≤zs.length):(IC zs).take (k*2)=IC (zs.take k):=by
 conv=>lhs;rw[← List.take_append_drop k zs,zNS]
 exact List.take_left' (by rw[zBU,List.length_take];omega)
theorem zYY{zs:List Int}{k:Nat}(h:k≤zs.length):(IC zs).drop (k*2)=IC (zs.drop k):=by
 conv=>lhs;rw[← List.take_append_drop k zs,zNS]
 exact List.drop_left' (by rw[zBU,List.length_take];omega)
theorem zdQ{zs:List Int}{k:Nat}{v:Int}(h:k<zs.length):(IC zs).take (k*2)++[zB0 v,zB1 v]++(IC zs).drop (k*2+2)=IC (zs.set k v):=by
 rw[zbS (by omega),show k*2+2=(k+1)*2 by omega,zYY (by omega),List.set_eq_take_append_cons_drop,if_pos h,zNS]
 simp[IC]
theorem zTX{G:AHeap}{b m i ty:Nat}{t:Bool}{cells:List AV}(hG:G b=some (.row ty 2 cells))(hl:cells.length=m*2)(hi:i<m){k:IntKind}{K:AV→Prop}:(zCQ G (.own b (m*2) 0 m t)∧zBl 2 (.own b (m*2) 0 m t) (.int k (i:Int)) K)↔K (.ptr b (m*2) (i*2)):=by simp[zCQ,zBl,hG,hl,hi]
theorem zcj{ty m j:Nat}{zs:List Int}{K:AV→Prop}(hl:zs.length=m)(hj:j<zs.length):ldP (some 2) (m*2) (j*2) K (some (.row ty 2 (IC zs)))↔K (zAl (zs[j])):=by
 have h1:(IC zs).length=m*2:=by rw[zBU,hl]
 have h2:j*2+2≤m*2:=by omega
 simp[ldP,ldC,h1,h2,zGG zs j hj,zFH]
def zho(M:AHeap)(y:AV):AHeap:=fun o=>if o∈zBW y then none else M o
theorem RowO.blk{M:AHeap}{y:AV}{zs:List Int}(h:RowO M y zs){b:Nat}(hb:b∈zBW y):M b≠none:=by
 rcases h with⟨_,rfl⟩|⟨_,c,rfl,hc⟩
 ·simp[zBW]at hb
 ·rw[List.mem_singleton.1 hb,hc];simp
theorem RowO.min{M:AHeap}{y z:AV}{zs:List Int}(h:RowO M y zs)(ha: ∀b,b∈zBW z→b∉zBW y):RowO (zho M z) y zs:=by
 rcases h with h|⟨hn,b,rfl,hb⟩
 ·exact .inl h
 ·refine .inr ⟨hn,b,rfl,?_⟩
  unfold zho
  rw[if_neg fun hz=>ha b hz (by simp[zBW])];exact hb
def RCt(t:Bool)(zs:List Int):List AV:=zs.flatMap fun z=>[zEA z,LS (digs 65536 z.natAbs) t]
theorem zZO(t:Bool)(zs:List Int):(RCt t zs).length=zs.length*2:=by
 induction zs with
 |nil=>rfl
 |cons a l ih=>simp only[RCt,List.flatMap_cons,List.length_append,List.length_cons,List.length_nil]at *; omega
theorem zTG{zs:List Int}{t:Bool}{c:Int}{k:Nat}(hz:RB4 k zs)(hc:Bd k c)(hk:k≤1000000)(hc0:c≠0)(hbig:zs.length≤1000000):
 PFn Tryz.prog 158 [zIe zs t,zBd c false] (if(zs.all fun z=>decide (z%c=0))=true then .tup [zIe (zs.map (· / c)) false,.bool true]else .tup [.seq 0 [] true,.bool false]):=by
 intro H Q hq
 have nz:zs.length<9223372036854775808:=by omega
 refine zSz (by simp) ?_
 simp(disch:=first|exact Xe|fail)only[zbd,zAe,↓Xa,Xb,Xc,↓reduceIte,Nat.reduceLT,Nat.reduceEqDiff,Nat.reduceBEq,Nat.reduceLeDiff,Nat.reduceAdd]
 refine zAD fun p1 hp1=>?_
 have n1:=hp1
 simp(disch:=first|exact Xe|fail)only[↓Xa,Xb,Xc,↓reduceIte,Nat.reduceLT,Nat.reduceEqDiff,Nat.reduceBEq,Nat.reduceLeDiff,Nat.reduceAdd]
 refine zAO (fun s:Nat×AV×AHeap=>⟨[],[(0,zIe zs t),(3,.ptr p1 2 0),(6,s.2.1),(7,.int .i64 s.1)],s.2.2⟩)
  (fun s=>s.1≤zs.length∧(∀z,z∈zs.take s.1→z%c=0)∧zBI (H.upd p1 (some (.row 44 0 [zEA c,zFS c]))) 44 2 s.1 (RC ((zs.map (· / c)).take s.1)) s.2.1 s.2.2) (fun s=>zs.length-s.1) (0,.seq 0 [] true,_) (Settle.now rfl) ⟨Nat.zero_le _,by simp,zAh⟩ ?_
 rintro⟨i,y,M⟩ ⟨h3,hall,hg⟩
 dsimp only at h3 hall hg ⊢
 have m1:M p1=some (.row 44 0 [zEA c,zFS c]):=zBq hg (zAC _ _ _)
 by_cases hi:i<zs.length
 ·have hi2:i<(zs.map (· / c)).length:=by simpa using hi
  have hov:=zVW (hz.at hi) (by omega) hc (by omega) hc0
  simp(disch:=first|exact Xe|fail)only[hi,zBK,zJ5,zGA,m1,zA2,↓Xa,Xb,Xc,↓reduceIte,Nat.reduceLT,Nat.reduceEqDiff,Nat.reduceBEq,Nat.reduceLeDiff,Nat.reduceAdd]
  refine PFn.dcall hov ?_
  by_cases h0:zs[i]%c=0
  ·rw[if_pos h0]
   simp(disch:=first|exact Xe|fail)only[↓Xa,Xb,Xc,↓reduceIte,Nat.reduceLT,Nat.reduceEqDiff,Nat.reduceBEq,Nat.reduceLeDiff,Nat.reduceAdd]
   refine zCp fun q hq1=>?_
   have a1:=zAW m1 hq1
   have hg1:=zCf (r:=.row 44 0 [zEA (zs[i] / c),zFS (zs[i] / c)]) hg hq1
   simp(disch:=first|exact Xe|fail)only[zIU,zAe,zA2,↓Xa,Xb,Xc,↓reduceIte,Nat.reduceLT,Nat.reduceEqDiff,Nat.reduceBEq,Nat.reduceLeDiff,Nat.reduceAdd,Nat.reduceMul]
   refine zFV (m:=1) hg1 rfl zas (by omega) (by omega) (by omega) fun y' M2 hg4=>?_
   have et:(zs.map (· / c))[i]=zs[i] / c:=by simp
   rw[← et,← zKw hi2]at hg4
   obtain⟨M3,hg5,hl5⟩:=zBO hg4 ((Le.refl _).updB (zCY hg hq1))
   simp(disch:=first|exact Xe|fail)only[↓Xa,Xb,Xc,↓reduceIte,Nat.reduceLT,Nat.reduceEqDiff,Nat.reduceBEq,Nat.reduceLeDiff,Nat.reduceAdd]
   refine Settle.dropTo hl5 (Settle.now ⟨(i+1,y',M3),by dsimp only;omega,⟨by dsimp only;omega,fun z hm=>?_,hg5⟩,rfl⟩)
   dsimp only at hm
   rw[List.take_add_one,List.getElem?_eq_getElem hi,Option.toList_some]at hm
   rcases List.mem_append.1 hm with hm|hm
   ·exact hall z hm
   ·rw[List.mem_singleton.1 hm];exact h0
  ·rw[if_neg h0]
   have hno:(zs.all fun z=>decide (z%c=0))=false:=List.all_eq_false.2 ⟨zs[i],List.getElem_mem hi,by simpa using h0⟩
   rw[if_neg (by rw[hno];simp)]at hq
   simp(disch:=first|exact Xe|fail)only[↓Xa,Xb,Xc,↓reduceIte,Nat.reduceLT,Nat.reduceEqDiff,Nat.reduceBEq,Nat.reduceLeDiff,Nat.reduceAdd]
   refine zCp fun q hq1=>?_
   have a1:=zAW m1 hq1
   simp(disch:=first|exact Xe|fail)only[zAe,zZm,↓Xa,Xb,Xc,↓reduceIte,Nat.reduceLT,Nat.reduceEqDiff,Nat.reduceBEq,Nat.reduceLeDiff,Nat.reduceAdd]
   refine SetR.dropTo ?_ (SetR.now hq)
   have hH:Le H M:=fun o x ho=>zD9 hg o x (((Le.refl H).updB n1) o x ho)
   exact hH.upd hq1
 ·obtain rfl:i=zs.length:=by omega
  rw[List.take_of_length_le (by omega)]at hall
  rw[List.take_of_length_le (by simp)]at hg
  have hyes:(zs.all fun z=>decide (z%c=0))=true:=List.all_eq_true.2 fun z hm=>decide_eq_true (hall z hm)
  rw[if_pos hyes]at hq
  simp(disch:=first|exact Xe|fail)only[hi,zBK,↓Xa,Xb,Xc,↓reduceIte,Nat.reduceLT,Nat.reduceEqDiff,Nat.reduceBEq,Nat.reduceLeDiff,Nat.reduceAdd]
  refine Settle.now ?_
  simp(disch:=first|exact Xe|fail)only[zZm,↓Xa,Xb,Xc,↓reduceIte,Nat.reduceLT,Nat.reduceEqDiff,Nat.reduceBEq,Nat.reduceLeDiff,Nat.reduceAdd]
  obtain⟨M3,hg5,hl5⟩:=zBO hg ((Le.refl H).updB n1)
  refine SetR.dropTo hl5 ?_
  rw[show zIe (zs.map (· / c)) false=.seq zs.length (RC (zs.map (· / c))) false by simp]at hq
  rcases hg5 with⟨h1,h2,rfl,rfl⟩|⟨hn,hl,b,hb,rfl,rfl⟩
  ·rw[h1,h2]at hq
   exact SetR.loose (SetR.now hq)
  ·refine SetR.frz b (zAC _ _ _) ?_
   rw[zAP,zAU _ hb]
   have e:frz b 2 (RC (zs.map (· / c))) (.tup [.own b (zs.length*2) 0 zs.length false,.bool true])=.tup [.seq zs.length (RC (zs.map (· / c))) false,.bool true]:=by simp[frz,zF0,zCy,hl,List.take_of_length_le]
   rw[e];exact SetR.now hq
def zSV(p:PR)(n:Int):Nat:=if zBV p then(if n=p.ins then 0 else 5)else 80
theorem zNz(p:PR)(hp:p.ok)(n:Int):PFn Tryz.prog 83 [zCV p,.int .i64 n] (.int .i64 ((zSV p n:Nat):Int)):=by
 intro H Q hq
 obtain⟨k,hf⟩:=zNB p hp
 refine zZa (by simp) ?_
 simp(disch:=first|exact Xe|fail)only[ziH,zAq,↓Xa,Xb,Xc,↓reduceIte,Nat.reduceLT,Nat.reduceEqDiff,Nat.reduceBEq,Nat.reduceLeDiff,Nat.reduceAdd]
 refine zAD fun p1 hp1=>?_
 have n1:=hp1
 simp(disch:=first|exact Xe|fail)only[zBL,↓Xa,Xb,Xc,↓reduceIte,Nat.reduceLT,Nat.reduceEqDiff,Nat.reduceBEq,Nat.reduceLeDiff,Nat.reduceAdd]
 refine hf.call ?_
 unfold zSV at hq
 by_cases h:zBV p
 ·rw[if_pos h]at hq ⊢
  have e0:decide (((0:Nat):Int)=((0:Nat):Int))=true:=rfl
  by_cases hn:n=p.ins
  ·rw[if_pos hn]at hq
   simp(disch:=first|exact Xe|fail)only[zAV,e0,decide_eq_true hn,Bool.not_true,zex,↓Xa,Xb,Xc,↓reduceIte,Nat.reduceLT,Nat.reduceEqDiff,Nat.reduceBEq,Nat.reduceLeDiff,Nat.reduceAdd]
   exact SetR.dropTo ((Le.refl H).updB n1) (SetR.now hq)
  ·rw[if_neg hn]at hq
   simp(disch:=first|exact Xe|fail)only[zAV,e0,decide_eq_false hn,Bool.not_true,Bool.not_false,zex,↓Xa,Xb,Xc,↓reduceIte,Nat.reduceLT,Nat.reduceEqDiff,Nat.reduceBEq,Nat.reduceLeDiff,Nat.reduceAdd]
   exact SetR.dropTo ((Le.refl H).updB n1) (SetR.now hq)
 ·rw[if_neg h]at hq ⊢
  have e0:decide (((80:Nat):Int)=((0:Nat):Int))=false:=rfl
  simp(disch:=first|exact Xe|fail)only[zAV,e0,Bool.not_false,zex,↓Xa,Xb,Xc,↓reduceIte,Nat.reduceLT,Nat.reduceEqDiff,Nat.reduceBEq,Nat.reduceLeDiff,Nat.reduceAdd]
  exact SetR.dropTo ((Le.refl H).updB n1) (SetR.now hq)
theorem zH8{n:Nat}(hn:n≤65536):PFn Tryz.prog 212 [.int .i64 (n:Int)] (zAl (2^n)):=by
 intro H Q hq
 refine zTI (by simp) ?_
 simp(disch:=first|exact Xe|fail)only[zal,↓Xa,Xb,Xc,↓reduceIte,Nat.reduceLT,Nat.reduceEqDiff,Nat.reduceBEq,Nat.reduceLeDiff,Nat.reduceAdd]
 refine zAD fun p1 hp1=>?_
 have n1:=hp1
 simp(disch:=first|exact Xe|fail)only[↓Xa,Xb,Xc,↓reduceIte,Nat.reduceLT,Nat.reduceEqDiff,Nat.reduceBEq,Nat.reduceLeDiff,Nat.reduceAdd]
 refine(zHI (n:=((1:Nat):Int)) (by omega)).call ?_
 simp(disch:=first|exact Xe|fail)only[↓Xa,Xb,Xc,↓reduceIte,Nat.reduceLT,Nat.reduceEqDiff,Nat.reduceBEq,Nat.reduceLeDiff,Nat.reduceAdd]
 refine(zQy (Bd.i64 (n:=((1:Nat):Int)) (by omega)) (by omega) hn).call ?_
 rw[show((1:Nat):Int)*2^n=2^n from Int.one_mul _]
 simp(disch:=first|exact Xe|fail)only[↓Xa,Xb,Xc,↓reduceIte,Nat.reduceLT,Nat.reduceEqDiff,Nat.reduceBEq,Nat.reduceLeDiff,Nat.reduceAdd]
 refine zAD fun p2 hp2=>?_
 have n2:=hp2
 simp only[zAB]at n2
 obtain⟨_,n2⟩:=n2
 simp(disch:=first|exact Xe|fail)only[zAE,zAI,za1,↓Xa,Xb,Xc,↓reduceIte,Nat.reduceLT,Nat.reduceEqDiff,Nat.reduceBEq,Nat.reduceLeDiff,Nat.reduceAdd]
 exact SetR.dropTo (((Le.refl H).updB n1).updB n2) (SetR.now hq)
theorem zPC{G:AHeap}{b m i ty:Nat}{t:Bool}{cells:List AV}(hG:G b=some (.row ty 2 cells))(hl:cells.length=m*2)(hi:i<m){k:IntKind}{K:AV→Prop}:(zCQ G (.own b (m*2) 0 m t)∧zBl 2 (.own b (m*2) 0 m t) (.int k (i:Int)) K)↔K (.ptr b (m*2) (i*2)):=zTX hG hl hi
theorem zRD{A B:AHeap}{b:Nat}(h:A b=none):Un A B b=B b:=by simp[Un,h]
theorem zMR{A B B':AHeap}(h:Le B B'):Le (Un A B) (Un A B'):=fun o x ho=>by
 unfold Un at ho ⊢
 cases e:A o with
 |some y=>rw[e]at ho;exact ho
 |none=>rw[e]at ho;exact h o x ho
theorem zTK{A B B':AHeap}(h:Dj A B')(hl:Le B B'):Dj A B:=fun i=>by
 rcases h i with h|h
 ·exact .inl h
 ·right
  cases e:B i with
  |none=>rfl
  |some x=>have:=hl i x e;rw[h]at this;cases this
theorem zN2{P:Program}{f:AV}{args:List AV}{H:AHeap}{K K':AV→AHeap→Prop}(h:zBw P f args H K)(hk: ∀r H',K r H'→K' r H'):zBw P f args H K':=by
 unfold zBw at h ⊢
 split at h
 ·exact Run.mono h hk
 ·exact YieldW.mono h hk
 ·exact h.elim
theorem zMB{H:AHeap}{b N w ty:Nat}{x:Int}{regs:List Int}{K:AV→AHeap→Prop}(hN:regs.length=N)(hw:w<N):stP H 2 b (N*2) (w*2) K (some [zB0 x,zB1 x]) (some (.row ty 2 (IC regs)))↔K .bot (H.upd b (some (.row ty 2 (IC (regs.set w x))))):=by
 rw[zLT (n:=2) (l:=[zB0 x,zB1 x]) (by rw[zBU,hN]) rfl (by omega)]
 have e:zAo (IC regs) (w*2) [zB0 x,zB1 x]=IC (regs.set w x):=zdQ (by omega)
 rw[e]
def CodeV(C:AHeap)(v:AV)(l:List Ins):Prop:=v.cell=true∧(∀K,zEE false v K=K (.int .i64 ((l.length:Nat):Int)))∧∃qf:Nat→AV,∀G,Le C G→Lent G v (zAf l false)∧∀i(h:i<l.length),(∀k K,(zCQ G v∧zBl 5 v (.int k (i:Int)) K)↔K (qf i))∧∀K,zBC G (some 5) (qf i) K↔K (zFh (l[i]))
def OutsV(C:AHeap)(v:AV)(l:List Int):Prop:=v.cell=true∧(∀K,zEE false v K=K (.int .i64 ((l.length:Nat):Int)))∧∃qf:Nat→AV,∀G,Le C G→Lent G v (zAa l false)∧∀i(h:i<l.length),(∀k K,(zCQ G v∧zBl 1 v (.int k (i:Int)) K)↔K (qf i))∧∀K,zBC G none (qf i) K↔K (.int .i64 (l[i]))
theorem Lent.loose{G:AHeap}{n:Nat}{cells:List AV}{t:Bool}:Lent G (.seq n cells t) (.seq n cells false):=fun c _ _ _ h=>zCH _ _ (h.later (c.dropTo_later zMm))
theorem CodeV.seq{C:AHeap}{l:List Ins}{t:Bool}(hl:l.length<9223372036854775808):CodeV C (zAf l t) l:=⟨rfl,fun K=>zAZ hl,fun i=>.cptr ((l.flatMap zDC).drop (i*5)),fun G _=>⟨Lent.loose,fun i h=>⟨fun k K=>by rw[zBN h];simp[zCQ],fun K=>by rw[zBb h]⟩⟩⟩
theorem OutsV.seq{C:AHeap}{l:List Int}{t:Bool}(hl:l.length<9223372036854775808):OutsV C (zAa l t) l:=⟨rfl,fun K=>zAY hl,fun i=>.cptr ((l.map fun n=>AV.int .i64 n).drop i),fun G _=>⟨Lent.loose,fun i h=>⟨fun k K=>by rw[zBJ h];simp[zCQ],fun K=>by rw[zA3 h]⟩⟩⟩
theorem zNa{b L n:Nat}{t:Bool}(hn:n<9223372036854775808){K:AV→Prop}:zEE false (.own b L 0 n t) K=K (.int .i64 ((n:Nat):Int)):=by simp[zEE,hn]
def zUB(p:PR)(cv ov:AV):AV:=.agg [.int .i64 p.ins,.int .i64 p.regs,cv,ov]
theorem zKt{p:PR}{cv ov:AV}(h1:cv.cell=true)(h2:ov.cell=true):(zUB p cv ov).cells=some [.int .i64 p.ins,.int .i64 p.regs,cv,ov]:=by
 have e:([.int .i64 p.ins,.int .i64 p.regs,cv,ov]:List AV).all AV.cell=true:=by
  rw[List.all_cons,List.all_cons,List.all_cons,List.all_cons,h1,h2];rfl
 show(if([.int .i64 p.ins,.int .i64 p.regs,cv,ov]:List AV).all AV.cell=true then _ else _)=_
 rw[if_pos e]
theorem zbu{A B:AHeap}(h:Dj A B):Le B (Un A B):=fun o x ho=>by rw[zRD (zDU h ho),ho]
def PtV(A B:Int):AV:=.agg [.int .i64 A,.int .i64 B]
theorem zBp{A B:Int}:(PtV A B).cells=some [.int .i64 A,.int .i64 B]:=rfl
def zFG(A B:Int):Bool:=decide (-16≤A∧A≤16∧ -16≤B∧B≤16)
theorem zF6{n:Int}:PFn Tryz.prog 203 [.int .i64 n] (.bool (decide (-16≤n∧n≤16))):=by
 intro H Q hq
 refine zVa (by simp) ?_
 by_cases h1: -16≤n
 ·by_cases h2:n≤16
  ·rw[decide_eq_true ⟨h1,h2⟩]at hq
   have e1:decide (-16≤n)=true:=decide_eq_true h1
   have e2:decide (n≤((16:Nat):Int))=true:=decide_eq_true h2
   simp(disch:=first|exact Xe|fail)only[zUO,zBt,zDc,e1,e2,zUx,↓Xa,Xb,Xc,↓reduceIte,Nat.reduceLT,Nat.reduceEqDiff,Nat.reduceBEq,Nat.reduceLeDiff,Nat.reduceAdd]
   exact SetR.now hq
  ·rw[decide_eq_false (by omega)]at hq
   have e1:decide (-16≤n)=true:=decide_eq_true h1
   have e2:decide (n≤((16:Nat):Int))=false:=decide_eq_false h2
   simp(disch:=first|exact Xe|fail)only[zUO,zBt,zDc,e1,e2,zUx,↓Xa,Xb,Xc,↓reduceIte,Nat.reduceLT,Nat.reduceEqDiff,Nat.reduceBEq,Nat.reduceLeDiff,Nat.reduceAdd]
   exact SetR.now hq
 ·rw[decide_eq_false (by omega)]at hq
  have e1:decide (-16≤n)=false:=decide_eq_false h1
  simp(disch:=first|exact Xe|fail)only[zUO,zBt,zDc,e1,zUx,↓Xa,Xb,Xc,↓reduceIte,Nat.reduceLT,Nat.reduceEqDiff,Nat.reduceBEq,Nat.reduceLeDiff,Nat.reduceAdd]
  exact SetR.now hq
theorem zFq{A B:Int}:PFn Tryz.prog 137 [PtV A B] (.bool (zFG A B)):=by
 intro H Q hq
 refine zUE (by simp) ?_
 simp(disch:=first|exact Xe|fail)only[zbq,zBp,↓Xa,Xb,Xc,↓reduceIte,Nat.reduceLT,Nat.reduceEqDiff,Nat.reduceBEq,Nat.reduceLeDiff,Nat.reduceAdd]
 refine zAD fun p1 hp1=>?_
 have n1:=hp1
 simp(disch:=first|exact Xe|fail)only[↓Xa,Xb,Xc,↓reduceIte,Nat.reduceLT,Nat.reduceEqDiff,Nat.reduceBEq,Nat.reduceLeDiff,Nat.reduceAdd]
 refine zF6.call ?_
 by_cases h1: -16≤A∧A≤16
 ·rw[decide_eq_true h1]
  simp(disch:=first|exact Xe|fail)only[↓Xa,Xb,Xc,↓reduceIte,Nat.reduceLT,Nat.reduceEqDiff,Nat.reduceBEq,Nat.reduceLeDiff,Nat.reduceAdd]
  refine zF6.call ?_
  have e:decide (-16≤B∧B≤16)=zFG A B:=by unfold zFG;congr 1;simp[h1.1,h1.2]
  rw[e]
  simp(disch:=first|exact Xe|fail)only[zYd,↓Xa,Xb,Xc,↓reduceIte,Nat.reduceLT,Nat.reduceEqDiff,Nat.reduceBEq,Nat.reduceLeDiff,Nat.reduceAdd]
  exact SetR.dropTo ((Le.refl H).updB n1) (SetR.now hq)
 ·rw[decide_eq_false h1]
  have e:zFG A B=false:=decide_eq_false (by omega)
  rw[e]at hq
  simp(disch:=first|exact Xe|fail)only[zYd,↓Xa,Xb,Xc,↓reduceIte,Nat.reduceLT,Nat.reduceEqDiff,Nat.reduceBEq,Nat.reduceLeDiff,Nat.reduceAdd]
  exact SetR.dropTo ((Le.refl H).updB n1) (SetR.now hq)
theorem zDP{A B:Int}:AV.agg [.int .i64 A,.int .i64 B]=PtV A B:=rfl
theorem zGf{A:Int}{i:Nat}(hi:i≤16)(h1: -16≤A)(h2:A≤16):Bd 3 (A^i):=by
 unfold Bd
 rw[Int.natAbs_pow]
 have e1:A.natAbs^i≤16^i:=Nat.pow_le_pow_left (by omega) i
 have e2:(16:Nat)^i≤16^16:=Nat.pow_le_pow_right (by omega) hi
 have e3:(16:Nat)^16<4294967296^3:=by decide
 omega
def zEj(A B:Int)(n k:Nat):List Int:=(List.range n).map fun i=>if i<k then A^i else A^i*B^(n-1-i)
def zBP(A B:Int)(n:Nat):List Int:=(List.range n).map fun i=>A^i*B^(n-1-i)
theorem zKD{A B:Int}{n:Nat}(hn:n≤16)(hin:zFG A B=true):PFn Tryz.prog 132 [PtV A B,.int .i64 (n:Int)] (.tup [zB7 (zBP A B n) true,.int .i64 ((0:Nat):Int)]):=by
 intro H Q hq
 refine zVt (by simp) ?_
 simp(disch:=first|exact Xe|fail)only[zeR,zBp,↓Xa,Xb,Xc,↓reduceIte,Nat.reduceLT,Nat.reduceEqDiff,Nat.reduceBEq,Nat.reduceLeDiff,Nat.reduceAdd]
 refine zAD fun p2 n2=>?_
 simp(disch:=first|exact Xe|fail)only[zDP,↓Xa,Xb,Xc,↓reduceIte,Nat.reduceLT,Nat.reduceEqDiff,Nat.reduceBEq,Nat.reduceLeDiff,Nat.reduceAdd]
 refine zFq.call ?_
 have d1:decide (((n:Nat):Int)<((0:Nat):Int))=false:=decide_eq_false (by omega)
 have d2:decide (((16:Nat):Int)<((n:Nat):Int))=false:=decide_eq_false (by omega)
 simp(disch:=first|exact Xe|fail)only[hin,zAN,zAb,d1,d2,zN6,↓Xa,Xb,Xc,↓reduceIte,Nat.reduceLT,Nat.reduceEqDiff,Nat.reduceBEq,Nat.reduceLeDiff,Nat.reduceAdd]
 intro b hb
 have hbp:Ap b p2:=(zAB.1 hb).1
 refine(zHI (n:=1) (by omega)).call ?_
 simp(disch:=first|exact Xe|fail)only[↓Xa,Xb,Xc,↓reduceIte,Nat.reduceLT,Nat.reduceEqDiff,Nat.reduceBEq,Nat.reduceLeDiff,Nat.reduceAdd]
 refine(zHI (n:=1) (by omega)).call ?_
 simp(disch:=first|exact Xe|fail)only[↓Xa,Xb,Xc,↓reduceIte,Nat.reduceLT,Nat.reduceEqDiff,Nat.reduceBEq,Nat.reduceLeDiff,Nat.reduceAdd]
 refine zAD fun q7 hq7=>?_
 simp(disch:=first|exact Xe|fail)only[↓Xa,Xb,Xc,↓reduceIte,Nat.reduceLT,Nat.reduceEqDiff,Nat.reduceBEq,Nat.reduceLeDiff,Nat.reduceAdd]
 refine zAD fun q8 hq8=>?_
 obtain⟨a87,hq8'⟩:=zAB.1 hq8
 obtain⟨a8b,hq8''⟩:=zAB.1 hq8'
 obtain⟨a8p,hq8h⟩:=zAB.1 hq8''
 obtain⟨a7b,hq7'⟩:=zAB.1 hq7
 obtain⟨a7p,hq7h⟩:=zAB.1 hq7'
 simp(disch:=first|exact Xe|fail)only[zAE,a87,a8b,a8p,a7b,a7p,a87.symm,a8b.symm,a8p.symm,a7b.symm,a7p.symm,hbp,hbp.symm,↓Xa,Xb,Xc,↓reduceIte,Nat.reduceLT,Nat.reduceEqDiff,Nat.reduceBEq,Nat.reduceLeDiff,Nat.reduceAdd]
 have hln:(n:Int)<9223372036854775808:=by omega
 have hA: -16≤A∧A≤16∧ -16≤B∧B≤16:=of_decide_eq_true hin
 let F:=fun(M:AHeap) (l:List Int) (x y:Int)=>M p2=some (.row 112 0 [.int .i64 A,.int .i64 B])∧M b=some (.row 48 2 (IC l))∧M q7=some (.row 48 0 [zB0 x,zB1 x])∧M q8=some (.row 48 0 [zB0 y,zB1 y])∧∀o,Ap o b→Ap o p2→Ap o q7→Ap o q8→M o=H o
 have F0:F ((((H.upd p2 (some (.row 112 0 [.int .i64 A,.int .i64 B]))).upd b (some (.row 48 2 (IC (List.replicate n 0))))).upd q7 (some (.row 48 0 [zB0 1,zB1 1]))).upd q8 (some (.row 48 0 [zB0 1,zB1 1]))) (List.replicate n 0) 1 1:=by
  refine⟨?_,?_,?_,?_,fun o o1 o2 o3 o4=>?_⟩
  ·rw[zAA _ _ a8p.symm,zAA _ _ a7p.symm,zAA _ _ hbp.symm,zAC]
  ·rw[zAA _ _ a8b.symm,zAA _ _ a7b.symm,zAC]
  ·rw[zAA _ _ a87.symm,zAC]
  ·rw[zAC]
  ·rw[zAA _ _ o4,zAA _ _ o3,zAA _ _ o1,zAA _ _ o2]
 generalize((((H.upd p2 (some (.row 112 0 [.int .i64 A,.int .i64 B]))).upd b (some (.row 48 2 (IC (List.replicate n 0))))).upd q7 (some (.row 48 0 [zB0 1,zB1 1]))).upd q8 (some (.row 48 0 [zB0 1,zB1 1])))=M0 at*
 refine zAO (fun s:Nat×AHeap=>⟨[],[(1,.int .i64 (n:Int)),(2,.ptr p2 2 0),(6,.own b (n*2) 0 n true),(7,.ptr q7 2 0),(8,.ptr q8 2 0),(27,.int .i64 (n:Int)),(28,.int .i64 s.1)],s.2⟩)
  (fun s=>s.1≤n∧F s.2 ((List.range s.1).map (fun i=>A^i)++List.replicate (n-s.1) 0) (A^s.1) 1) (fun s=>n-s.1) (0,M0) (Settle.now rfl) ⟨Nat.zero_le _,by simpa using F0⟩ ?_
 rintro⟨i,M⟩ ⟨hi0,f1,f2,f3,f4,f5⟩
 dsimp only at hi0 f1 f2 f3 f4 f5 ⊢
 by_cases hi:i<n
 ·generalize hl:((List.range i).map (fun i=>A^i)++List.replicate (n-i) 0)=l at*
  have hll:l.length=n:=by rw[← hl];simp;omega
  have hil:i<l.length:=by omega
  simp(disch:=first|exact Xe|fail)only[hi,f1,f2,f3,f4,zAI,zAE,zMB hll hi,a7b,a7b.symm,a87,a87.symm,a8b,hbp,hbp.symm,a7p,a7p.symm,↓Xa,Xb,Xc,↓reduceIte,Nat.reduceLT,Nat.reduceEqDiff,Nat.reduceBEq,Nat.reduceLeDiff,Nat.reduceAdd]
  refine⟨by rw[zBU,hll],?_⟩
  have bA:=zGf (by omega:i≤16) hA.1 hA.2.1
  refine(zGM bA (by omega) (by omega)).call ?_
  simp(disch:=first|exact Xe|fail)only[f1,f3,f4,zAE,a7b,a7b.symm,a87,a87.symm,a8b,hbp,hbp.symm,a7p,a7p.symm,↓Xa,Xb,Xc,↓reduceIte,Nat.reduceLT,Nat.reduceEqDiff,Nat.reduceBEq,Nat.reduceLeDiff,Nat.reduceAdd]
  refine Settle.now ⟨(i+1,(M.upd b (some (.row 48 2 (IC (l.set i (A^i)))))).upd q7 (some (.row 48 0 [zB0 (A^i*A),zB1 (A^i*A)]))),by dsimp only;omega,⟨by dsimp only;omega,?_,?_,?_,?_,fun o o1 o2 o3 o4=>?_⟩,rfl⟩
  ·dsimp only
   rw[zAA _ _ a7p.symm,zAA _ _ hbp.symm,f1]
  ·dsimp only
   rw[zAA _ _ a7b.symm,zAC]
   have e:l.set i (A^i)=(List.range (i+1)).map (fun i=>A^i)++List.replicate (n-(i+1)) 0:=by
    rw[← hl,List.set_append_right _ _ (by simp),show i-((List.range i).map fun i=>A^i).length=0 by simp,show n-i=(n-(i+1))+1 by omega,List.replicate_succ,List.set_cons_zero,List.range_succ,List.map_append,List.append_assoc]
    rfl
   rw[e]
  ·dsimp only
   rw[zAC,Int.pow_succ]
  ·dsimp only
   rw[zAA _ _ a87,zAA _ _ a8b,f4]
  ·dsimp only
   rw[zAA _ _ o3,zAA _ _ o1];exact f5 o o1 o2 o3 o4
 ·obtain rfl:i=n:=by omega
  have eL:(List.range i).map (fun i=>A^i)++List.replicate (i-i) 0=zEj A B i i:=by
   rw[Nat.sub_self,List.replicate_zero,List.append_nil]
   exact List.map_congr_left fun j hj=>by rw[if_pos (List.mem_range.1 hj)]
  rw[eL]at f2
  simp(disch:=first|exact Xe|fail)only[hi,f1,f2,f3,f4,zDQ (show i<9223372036854775808 by omega),↓Xa,Xb,Xc,↓reduceIte,Nat.reduceLT,Nat.reduceEqDiff,Nat.reduceBEq,Nat.reduceLeDiff,Nat.reduceAdd]
  refine Settle.now ?_
  simp(disch:=first|exact Xe|fail)only[zDQ (show i<9223372036854775808 by omega),↓Xa,Xb,Xc,↓reduceIte,Nat.reduceLT,Nat.reduceEqDiff,Nat.reduceBEq,Nat.reduceLeDiff,Nat.reduceAdd]
  refine zAO (fun s:Nat×AHeap=>⟨[],[(2,.ptr p2 2 0),(6,.own b (i*2) 0 i true),(8,.ptr q8 2 0),(10,.int .i64 (dn s.1))],s.2⟩)
   (fun s=>s.1≤i∧s.2 p2=some (.row 112 0 [.int .i64 A,.int .i64 B])∧s.2 b=some (.row 48 2 (IC (zEj A B i s.1)))∧s.2 q8=some (.row 48 0 [zB0 (B^(i-s.1)),zB1 (B^(i-s.1))])∧∀o,Ap o b→Ap o p2→Ap o q7→Ap o q8→s.2 o=H o) (fun s=>s.1) (i,M) (Settle.now rfl) ⟨Nat.le_refl _,f1,f2,by rw[Nat.sub_self,Int.pow_zero];exact f4,f5⟩ ?_
  rintro⟨k,M2⟩ ⟨hk0,g1,g2,g4,g5⟩
  dsimp only at hk0 g1 g2 g4 g5 ⊢
  cases k with
  |zero=>
   have dz:decide (((0:Nat):Int)≤ -1)=false:=by decide
   simp(disch:=first|exact Xe|fail)only[zFN,zBt,dz,↓Xa,Xb,Xc,↓reduceIte,Nat.reduceLT,Nat.reduceEqDiff,Nat.reduceBEq,Nat.reduceLeDiff,Nat.reduceAdd]
   refine Settle.now ?_
   simp(disch:=first|exact Xe|fail)only[zcl,↓Xa,Xb,Xc,↓reduceIte,Nat.reduceLT,Nat.reduceEqDiff,Nat.reduceBEq,Nat.reduceLeDiff,Nat.reduceAdd]
   refine SetR.frz b g2 ?_
   have e0:zEj A B i 0=zBP A B i:=by simp[zEj,zBP]
   have el:(IC (zBP A B i)).length=i*2:=by rw[zBU];simp[zBP]
   have ell:(zBP A B i).length=i:=by simp[zBP]
   rw[e0]
   have e:frz b 2 (IC (zBP A B i)) (.tup [.own b (i*2) 0 i true,.int .i64 ((0:Nat):Int)])=.tup [zB7 (zBP A B i) true,.int .i64 ((0:Nat):Int)]:=by simp[frz,zF0,zCy,el,ell,zB7,List.take_of_length_le]
   rw[e]
   refine SetR.dropTo (fun o x ho=>?_) (SetR.now hq)
   have o1:Ap o b:=by rintro rfl;rw[(zAB.1 hb).2]at ho;cases ho
   rw[zAA _ _ o1,g5 o o1 (by rintro rfl;rw[n2]at ho;cases ho) (by rintro rfl;rw[hq7h]at ho;cases ho) (by rintro rfl;rw[hq8h]at ho;cases ho)]
   exact ho
  |succ k=>
   have dz:decide (((0:Nat):Int)≤(k:Int))=true:=decide_eq_true (by omega)
   have hki:k<i:=by omega
   have hpl:(zEj A B i (k+1)).length=i:=by simp[zEj]
   have hkl:k<(zEj A B i (k+1)).length:=by omega
   have ek:(zEj A B i (k+1))[k]=A^k:=by simp[zEj]
   generalize hl:zEj A B i (k+1)=l at*
   simp(disch:=first|exact Xe|fail)only[zCt,zBt,dz,hki,g1,g2,g4,zcj hpl hkl,ek,zAI,zAE,↓Xa,Xb,Xc,↓reduceIte,Nat.reduceLT,Nat.reduceEqDiff,Nat.reduceBEq,Nat.reduceLeDiff,Nat.reduceAdd]
   have bA:=zGf (show k≤16 by omega) hA.1 hA.2.1
   have bB:=zGf (show i-(k+1)≤16 by omega) hA.2.2.1 hA.2.2.2
   refine⟨by rw[zBU,hpl],?_⟩
   refine PFn.dcall (zIp bA (by omega) bB (by omega)) ?_
   simp(disch:=first|exact Xe|fail)only[hki,g1,g2,g4,zAI,zAE,zMB hpl hki,a8b,a8b.symm,hbp,hbp.symm,a8p,a8p.symm,↓Xa,Xb,Xc,↓reduceIte,Nat.reduceLT,Nat.reduceEqDiff,Nat.reduceBEq,Nat.reduceLeDiff,Nat.reduceAdd]
   refine⟨by rw[zBU,hpl],?_⟩
   refine(zGM bB (by omega) (by omega)).call ?_
   simp(disch:=first|exact Xe|fail)only[zDQ (show k<9223372036854775808 by omega),g1,g2,g4,zAE,a8b,a8b.symm,hbp,hbp.symm,a8p,a8p.symm,↓Xa,Xb,Xc,↓reduceIte,Nat.reduceLT,Nat.reduceEqDiff,Nat.reduceBEq,Nat.reduceLeDiff,Nat.reduceAdd]
   refine Settle.now ⟨(k,(M2.upd b (some (.row 48 2 (IC (l.set k (A^k*B^(i-(k+1)))))))).upd q8 (some (.row 48 0 [zB0 (B^(i-(k+1))*B),zB1 (B^(i-(k+1))*B)]))),by dsimp only;omega,⟨by dsimp only;omega,?_,?_,?_,fun o o1 o2 o3 o4=>?_⟩,rfl⟩
   ·dsimp only
    rw[zAA _ _ a8p.symm,zAA _ _ hbp.symm,g1]
   ·dsimp only
    rw[zAA _ _ a8b.symm,zAC]
    have e:l.set k (A^k*B^(i-(k+1)))=zEj A B i k:=by
     rw[← hl]
     refine List.ext_getElem (by simp[zEj]) fun j hj1 hj2=>?_
     rw[List.getElem_set]
     by_cases ej:k=j
     ·subst ej
      rw[if_pos rfl]
      simp only[zEj,List.getElem_map,List.getElem_range]
      rw[if_neg (Nat.lt_irrefl k),show i-1-k=i-(k+1) by omega]
     ·rw[if_neg ej]
      simp only[zEj,List.getElem_map,List.getElem_range]
      by_cases hjk:j<k
      ·rw[if_pos hjk,if_pos (by omega)]
      ·rw[if_neg hjk,if_neg (by omega)]
    rw[e]
   ·dsimp only
    rw[zAC,← Int.pow_succ,show(i-(k+1)).succ=i-k by omega]
   ·dsimp only
    rw[zAA _ _ o4,zAA _ _ o1];exact g5 o o1 o2 o3 o4
def zFA(A B:Int)(xs:List Int):Nat→Int
 |0=>0
 |k+1=>zFA A B xs k+xs.getD k 0*(A^k*B^(xs.length-1-k))
theorem zO6{A B:Int}{xs:List Int}{k0:Nat}(hx: ∀z,z∈xs→Bd k0 z)(hA: -16≤A∧A≤16∧ -16≤B∧B≤16)(hl:xs.length≤16): ∀k,k≤xs.length→Bd (k0+6+k) (zFA A B xs k)
 |0,_=>Bd.zero _
 |k+1,h=>by
  have ih:=zO6 hx hA hl k (by omega)
  have e:xs.getD k 0=xs[k]'(by omega):=by rw[List.getD_eq_getElem?_getD,List.getElem?_eq_getElem (by omega)];rfl
  have b1:=hx _ (List.getElem_mem (show k<xs.length by omega))
  have b2:=(b1.mul ((zGf (A:=A) (show k≤16 by omega) hA.1 hA.2.1).mul (zGf (A:=B) (show xs.length-1-k≤16 by omega) hA.2.2.1 hA.2.2.2)))
  rw[zFA,e]
  exact(ih.add (b2.mono (by omega))).mono (by omega)
theorem zTt{A B:Int}{xs:List Int}{t:Bool}{k0:Nat}(hx: ∀z,z∈xs→Bd k0 z)(hk:k0≤100000)(hl0:1≤xs.length)(hl:xs.length≤16)(hin:zFG A B=true):PFn Tryz.prog 71 [zB7 xs t,PtV A B] (.tup [zAl (zFA A B xs xs.length),.int .i64 ((0:Nat):Int)]):=by
 intro H Q hq
 have hA: -16≤A∧A≤16∧ -16≤B∧B≤16:=of_decide_eq_true hin
 have hn:xs.length<9223372036854775808:=by omega
 refine zRV (by simp) ?_
 simp(disch:=first|exact Xe|fail)only[zg7,zBp,↓Xa,Xb,Xc,↓reduceIte,Nat.reduceLT,Nat.reduceEqDiff,Nat.reduceBEq,Nat.reduceLeDiff,Nat.reduceAdd]
 refine zAD fun p3 n3=>?_
 simp(disch:=first|exact Xe|fail)only[↓Xa,Xb,Xc,↓reduceIte,Nat.reduceLT,Nat.reduceEqDiff,Nat.reduceBEq,Nat.reduceLeDiff,Nat.reduceAdd]
 refine zAD fun p4 n4=>?_
 obtain⟨a43,n4'⟩:=zAB.1 n4
 have d1:decide (((xs.length:Nat):Int)<((1:Nat):Int))=false:=decide_eq_false (by omega)
 have d2:decide (((16:Nat):Int)<((xs.length:Nat):Int))=false:=decide_eq_false (by omega)
 simp(disch:=first|exact Xe|fail)only[zBK,hn,zAN,zAb,d1,d2,a43,a43.symm,zDP,↓Xa,Xb,Xc,↓reduceIte,Nat.reduceLT,Nat.reduceEqDiff,Nat.reduceBEq,Nat.reduceLeDiff,Nat.reduceAdd]
 refine zFq.call ?_
 simp(disch:=first|exact Xe|fail)only[hin,a43,a43.symm,zDP,zBK,hn,↓Xa,Xb,Xc,↓reduceIte,Nat.reduceLT,Nat.reduceEqDiff,Nat.reduceBEq,Nat.reduceLeDiff,Nat.reduceAdd]
 refine(zKD hl hin).call ?_
 have d0:decide (((0:Nat):Int)=((0:Nat):Int))=true:=rfl
 simp(disch:=first|exact Xe|fail)only[zAV,d0,↓Xa,Xb,Xc,↓reduceIte,Nat.reduceLT,Nat.reduceEqDiff,Nat.reduceBEq,Nat.reduceLeDiff,Nat.reduceAdd]
 refine zAD fun p8 n8=>?_
 simp(disch:=first|exact Xe|fail)only[zBK,hn,↓Xa,Xb,Xc,↓reduceIte,Nat.reduceLT,Nat.reduceEqDiff,Nat.reduceBEq,Nat.reduceLeDiff,Nat.reduceAdd]
 obtain⟨a84,n8'⟩:=zAB.1 n8
 have hz0:(ABlk.row 48 0 [.bool false,.seq 0 [] true])=.row 48 0 [zB0 0,zB1 0]:=by
  have:=zfU 1
  rw[show 1*2=2 from rfl,zIU]at this
  rw[this];rfl
 generalize hG:(H.upd p3 (some (.row 112 0 [.int .i64 A,.int .i64 B]))).upd p4 (some (.row 48 0 [.bool false,.seq 0 [] true]))=G at*
 have hHG:Le H G:=hG▸(((Le.refl H).updB n3).updB n4')
 have g4:G p4=some (.row 48 0 [.bool false,.seq 0 [] true]):=by rw[← hG,zAC]
 refine zAO (fun s:Nat=>⟨[],[(4,.ptr p4 2 0),(6,zB7 (zBP A B xs.length) true),(8,.ptr p8 2 0),(36,zB7 xs t),(37,.int .i64 (xs.length:Int)),(38,.int .i64 s)],G.upd p8 (some (.row 48 0 [zB0 (zFA A B xs s),zB1 (zFA A B xs s)]))⟩) (fun s=>s≤xs.length) (fun s=>xs.length-s) 0 (Settle.now (by rw[hz0];rfl)) (Nat.zero_le _) ?_
 intro i hi0
 by_cases hi:i<xs.length
 ·have hip:i<(zBP A B xs.length).length:=by simpa[zBP]using hi
  have epi:(zBP A B xs.length)[i]=A^i*B^(xs.length-1-i):=by simp[zBP]
  have lpp:(zBP A B xs.length).length=xs.length:=by simp[zBP]
  simp(disch:=first|exact Xe|fail)only[hi,zEv,zDF,↓Xa,Xb,Xc,↓reduceIte,Nat.reduceLT,Nat.reduceEqDiff,Nat.reduceBEq,Nat.reduceLeDiff,Nat.reduceAdd]
  refine zAD fun p10 n10=>?_
  obtain⟨a10,n10'⟩:=zAB.1 n10
  simp(disch:=first|exact Xe|fail)only[hi,hip,a10,a10.symm,zAE,zAI,zEv,zDF,epi,↓Xa,Xb,Xc,↓reduceIte,Nat.reduceLT,Nat.reduceEqDiff,Nat.reduceBEq,Nat.reduceLeDiff,Nat.reduceAdd]
  have b1:=hx _ (List.getElem_mem hi)
  have b2:=(zGf (A:=A) (show i≤16 by omega) hA.1 hA.2.1).mul (zGf (A:=B) (show xs.length-1-i≤16 by omega) hA.2.2.1 hA.2.2.2)
  have b3:=zO6 hx hA hl i (by omega)
  refine PFn.dcall (zIp b1 (by omega) b2 (by omega)) ?_
  simp(disch:=first|exact Xe|fail)only[↓Xa,Xb,Xc,↓reduceIte,Nat.reduceLT,Nat.reduceEqDiff,Nat.reduceBEq,Nat.reduceLeDiff,Nat.reduceAdd]
  refine(zGd b3 (by omega) (b1.mul b2) (by omega)).call ?_
  have ev:zFA A B xs (i+1)=zFA A B xs i+xs[i]*(A^i*B^(xs.length-1-i)):=by
   rw[zFA,List.getD_eq_getElem?_getD,List.getElem?_eq_getElem hi];rfl
  simp(disch:=first|exact Xe|fail)only[a10,a10.symm,zAE,↓Xa,Xb,Xc,↓reduceIte,Nat.reduceLT,Nat.reduceEqDiff,Nat.reduceBEq,Nat.reduceLeDiff,Nat.reduceAdd]
  rw[← ev]
  exact Settle.dropTo ((Le.refl _).updB (zAB.2 ⟨a10,n10'⟩)) (Settle.now ⟨i+1,by omega,by omega,rfl⟩)
 ·obtain rfl:i=xs.length:=by omega
  simp(disch:=first|exact Xe|fail)only[hi,↓Xa,Xb,Xc,↓reduceIte,Nat.reduceLT,Nat.reduceEqDiff,Nat.reduceBEq,Nat.reduceLeDiff,Nat.reduceAdd]
  refine Settle.now ?_
  simp(disch:=first|exact Xe|fail)only[zAI,a84,a84.symm,g4,zAE,zag,↓Xa,Xb,Xc,↓reduceIte,Nat.reduceLT,Nat.reduceEqDiff,Nat.reduceBEq,Nat.reduceLeDiff,Nat.reduceAdd]
  exact SetR.dropTo ((hHG.updB (zAB.1 n8').2).updB n4') (SetR.now hq)
theorem Lent.agg{H:AHeap}{xs ys:List AV}(h:LentL H xs ys):Lent H (.agg xs) (.agg ys):=by
 intro c hc hok v he
 cases he with
 |agg _ vs hlen hcs=>exact .agg _ _ (hlen.trans h.len.symm) fun i hi hi'=>h.get i (by have:=h.len;omega) hi c hc hok _ (hcs i (by have:=h.len;omega) hi')
theorem CodeV.le{C C':AHeap}{v:AV}{l:List Ins}(h:CodeV C v l)(hl:Le C C'):CodeV C' v l:=⟨h.1,h.2.1,h.2.2.choose,fun G hG=>h.2.2.choose_spec G (hl.trans hG)⟩
theorem OutsV.le{C C':AHeap}{v:AV}{l:List Int}(h:OutsV C v l)(hl:Le C C'):OutsV C' v l:=⟨h.1,h.2.1,h.2.2.choose,fun G hG=>h.2.2.choose_spec G (hl.trans hG)⟩
theorem zZp{H:AHeap}{b ty N:Nat}{t t':Bool}{o xs:List Int}{K:AV→AHeap→Prop}(hH:H b=some (.row ty 2 (IC o)))(ho:o.length=N)(h:xs.length≤N)(k:K (.int .i64 ((xs.length:Nat):Int)) (H.upd b (some (.row ty 2 (IC (xs++o.drop xs.length)))))):
 zaN H 2 (.own b (N*2) 0 N t) (zB7 xs t') K:=by
 have hlo:(IC o).length=N*2:=by rw[zBU,ho]
 simp[zaN,zZX,hH,hlo,zBU]
 have em:xs.length.min N=xs.length:=Nat.min_eq_left h
 have et:List.take (xs.length*2) (IC xs)=IC xs:=List.take_of_length_le (by rw[zBU];omega)
 have es:zAo (IC o) 0 (IC xs)=IC (xs++o.drop xs.length):=by
  unfold zAo
  rw[List.take_zero,List.nil_append,Nat.zero_add,zBU,zNS,zYY (by omega)]
 rw[em,et,es]
 refine⟨fun x hx=>?_,k⟩
 simp only[IC,List.mem_flatMap]at hx
 obtain⟨z,-,hx⟩:=hx
 exact List.all_eq_true.1 (zYs (z:=z)) x hx
def RowV(M:AHeap)(y:AV)(zs:List Int):Prop:=RowO M y zs∨∃t,y=zB7 zs t
theorem RowV.le{M M':AHeap}{y:AV}{zs:List Int}(h:RowV M y zs)(hl:Le M M'):RowV M' y zs:=h.imp (·.le hl) id
theorem RowV.len{M:AHeap}{y:AV}{zs:List Int}(h:RowV M y zs)(hn:zs.length<9223372036854775808){K:AV→Prop}:zEE false y K=K (.int .i64 ((zs.length:Nat):Int)):=by
 rcases h with h|⟨t,rfl⟩
 ·exact h.len hn
 ·exact zBK hn
def zJR(p:PR)(xs:List Int):List Int:=p.outs.map fun r=>(zCO doZ 0 p.code (xs++List.replicate (p.regs.toNat-xs.length) 0)).2.getD r.toNat 0
def zRj(p:PR)(xs:List Int):List Int:=(zCO doZ 0 p.code (xs++List.replicate (p.regs.toNat-xs.length) 0)).1
theorem zOs{l:List Int}{t:Bool}(hl:l.length≤1000000)(hI: ∀n,n∈l→I64 n):PFn Tryz.prog 65 [zAa l t] (zB7 l false):=by
 refine PFn.frozen (ty:=48) (es:=2) (n:=l.length) (cells:=IC l) fun H Q hq=>?_
 have hlen:l.length<9223372036854775808:=by omega
 refine zZF (by simp) ?_
 simp(disch:=first|exact Xe|fail)only[zhU,zAY hlen,↓Xa,Xb,Xc,↓reduceIte,Nat.reduceLT,Nat.reduceEqDiff,Nat.reduceBEq,Nat.reduceLeDiff,Nat.reduceAdd]
 refine zAO (fun s:Nat×AV×AHeap=>⟨[],[(3,s.2.1),(6,zAa l t),(7,.int .i64 l.length),(8,.int .i64 s.1)],s.2.2⟩) (fun s=>s.1≤l.length∧zBI H 48 2 s.1 (IC (l.take s.1)) s.2.1 s.2.2) (fun s=>l.length-s.1) (0,.seq 0 [] true,H) (Settle.now rfl) ⟨Nat.zero_le _,zAh⟩ ?_
 rintro⟨i,y,M⟩ ⟨h1,hg1⟩
 dsimp only at h1 hg1 ⊢
 by_cases hi:i<l.length
 ·have hij:=hI _ (List.getElem_mem hi)
  unfold I64 at hij
  simp(disch:=first|exact Xe|fail)only[hi,zBJ hi,zA3 hi,↓Xa,Xb,Xc,↓reduceIte,Nat.reduceLT,Nat.reduceEqDiff,Nat.reduceBEq,Nat.reduceLeDiff,Nat.reduceAdd]
  refine(zHI (n:=l[i]) (by omega)).call ?_
  simp(disch:=first|exact Xe|fail)only[zIU,zAE,↓Xa,Xb,Xc,↓reduceIte,Nat.reduceLT,Nat.reduceEqDiff,Nat.reduceBEq,Nat.reduceLeDiff,Nat.reduceAdd,Nat.reduceMul]
  refine zFV (m:=1) hg1 rfl rfl (by omega) (by omega) (by omega) fun y' M2 hg4=>?_
  rw[← zLU hi]at hg4
  simp(disch:=first|exact Xe|fail)only[↓Xa,Xb,Xc,↓reduceIte,Nat.reduceLT,Nat.reduceEqDiff,Nat.reduceBEq,Nat.reduceLeDiff,Nat.reduceAdd]
  exact Settle.now ⟨(i+1,y',M2),by dsimp only;omega,⟨by dsimp only;omega,hg4⟩,rfl⟩
 ·obtain rfl:i=l.length:=by omega
  rw[List.take_of_length_le (by omega)]at hg1
  simp(disch:=first|exact Xe|fail)only[hi,↓Xa,Xb,Xc,↓reduceIte,Nat.reduceLT,Nat.reduceEqDiff,Nat.reduceBEq,Nat.reduceLeDiff,Nat.reduceAdd]
  refine Settle.now ?_
  simp(disch:=first|exact Xe|fail)only[zhy,↓Xa,Xb,Xc,↓reduceIte,Nat.reduceLT,Nat.reduceEqDiff,Nat.reduceBEq,Nat.reduceLeDiff,Nat.reduceAdd]
  exact SetR.now (hq _ _ hg1)
def zCK(l:List Int):List Pt:=(List.range (l.length / 2)).map fun i=>⟨l.getD (2*i) 0,l.getD (2*i+1) 0⟩
theorem zLG{l:List Int}{t:Bool}(hl:l.length≤1000):PFn Tryz.prog 124 [zAa l t] (zDd (zCK l) false):=by
 have hpl:(zCK l).length=l.length / 2:=by simp[zCK]
 refine PFn.frozen (ty:=112) (es:=2) (n:=(zCK l).length) (cells:=(zCK l).flatMap ptC) fun H Q hq=>?_
 have hlen:l.length<9223372036854775808:=by omega
 refine zVh (by simp) ?_
 simp(disch:=first|exact Xe|fail)only[zaW,↓Xa,Xb,Xc,↓reduceIte,Nat.reduceLT,Nat.reduceEqDiff,Nat.reduceBEq,Nat.reduceLeDiff,Nat.reduceAdd]
 refine zAO (fun s:Nat×AV×AHeap=>⟨[],[(0,zAa l t),(3,s.2.1),(4,.int .i64 ((2*s.1:Nat):Int))],s.2.2⟩) (fun s=>s.1≤(zCK l).length∧zBI H 112 2 s.1 (((zCK l).take s.1).flatMap ptC) s.2.1 s.2.2) (fun s=>(zCK l).length-s.1) (0,.seq 0 [] true,H) (Settle.now rfl) ⟨Nat.zero_le _,zAh⟩ ?_
 rintro⟨i,y,M⟩ ⟨h1,hg1⟩
 dsimp only at h1 hg1 ⊢
 by_cases hi:i<(zCK l).length
 ·have j1:2*i<l.length:=by omega
  have j2:2*i+1<l.length:=by omega
  have d1:decide (((2*i+1:Nat):Int)<((l.length:Nat):Int))=true:=decide_eq_true (by omega)
  simp(disch:=first|exact Xe|fail)only[zAY hlen,zAN,d1,zBJ j1,zA3 j1,zBJ j2,zA3 j2,zDP,zBp,zIU,↓Xa,Xb,Xc,↓reduceIte,Nat.reduceLT,Nat.reduceEqDiff,Nat.reduceBEq,Nat.reduceLeDiff,Nat.reduceAdd,Nat.reduceMul]
  refine zFV (m:=1) hg1 rfl rfl (by omega) (by omega) (by omega) fun y' M2 hg4=>?_
  have ep:(zCK l)[i]=⟨l[2*i],l[2*i+1]⟩:=by simp[zCK,List.getD_eq_getElem?_getD,j1,j2]
  have et:((zCK l).take i).flatMap ptC++[.int .i64 (l[2*i]),.int .i64 (l[2*i+1])]=((zCK l).take (i+1)).flatMap ptC:=by
   rw[List.take_succ_eq_append_getElem hi,List.flatMap_append,ep];rfl
  rw[et]at hg4
  simp(disch:=first|exact Xe|fail)only[↓Xa,Xb,Xc,↓reduceIte,Nat.reduceLT,Nat.reduceEqDiff,Nat.reduceBEq,Nat.reduceLeDiff,Nat.reduceAdd]
  exact Settle.now ⟨(i+1,y',M2),by dsimp only;omega,⟨by dsimp only;omega,hg4⟩,rfl⟩
 ·obtain rfl:i=(zCK l).length:=by omega
  rw[List.take_of_length_le (by omega)]at hg1
  have d1:decide (((2*(zCK l).length+1:Nat):Int)<((l.length:Nat):Int))=false:=decide_eq_false (by omega)
  simp(disch:=first|exact Xe|fail)only[zAY hlen,zAN,d1,↓Xa,Xb,Xc,↓reduceIte,Nat.reduceLT,Nat.reduceEqDiff,Nat.reduceBEq,Nat.reduceLeDiff,Nat.reduceAdd]
  refine Settle.now ?_
  simp(disch:=first|exact Xe|fail)only[zdJ,↓Xa,Xb,Xc,↓reduceIte,Nat.reduceLT,Nat.reduceEqDiff,Nat.reduceBEq,Nat.reduceLeDiff,Nat.reduceAdd]
  exact SetR.now (hq _ _ hg1)
def zfP(g:List (List Int)):Nat:=ze0 (g.map fun l=>1+l.length)
def shN(l:List Ins):Nat:=ze0 (l.map fun i=>if i.op=7 then 1 else 0)
def zaT(p:PR)(g:List (List Int))(n:Nat):Prop:=400<n+zfP g∨60<p.code.length∨128<p.outs.length∨12<shN p.code
instance (p:PR)(g:List (List Int))(n:Nat):Decidable (zaT p g n):=by unfold zaT;infer_instance
theorem zOv{n:Nat}{c:List AV}{t:Bool}{KD:AV→List Nat→Option (Nat×ABlk)→Prop}(h:n<9223372036854775808):dlen KD false (.seq n c t)↔KD (.int .i64 ((n:Nat):Int)) [] none:=by simp[dlen,h]
theorem zhe(n:Nat):IC (List.replicate n 0)=RCt true (List.replicate n 0):=by
 induction n with
 |zero=>rfl
 |succ n ih=>
  rw[List.replicate_succ]
  show zB0 0::zB1 0::IC (List.replicate n 0)=zEA 0::LS (digs 65536 (0:Int).natAbs) true::RCt true (List.replicate n 0)
  rw[ih]
  simp[zB0,zB1,zEA,zAQ,LS,U]
theorem zVT{n:Nat}(h:n≤100000):PFn Tryz.prog 89 [.int .i64 (n:Int)] (.seq n (RCt true (List.replicate n 0)) true):=by
 intro H Q hq
 have hl:(IC (List.replicate n 0)).length=n*2:=by rw[zBU];simp
 refine zX5 (by simp) ?_
 simp(disch:=first|exact Xe|fail)only[zhR,zN6,↓Xa,Xb,Xc,↓reduceIte,Nat.reduceLT,Nat.reduceEqDiff,Nat.reduceBEq,Nat.reduceLeDiff,Nat.reduceAdd]
 intro b hb
 simp(disch:=first|exact Xe|fail)only[ziA,↓Xa,Xb,Xc,↓reduceIte,Nat.reduceLT,Nat.reduceEqDiff,Nat.reduceBEq,Nat.reduceLeDiff,Nat.reduceAdd]
 refine SetR.frz b (zAC _ _ _) ?_
 rw[zAP,zAU _ hb]
 have e:frz b 2 (IC (List.replicate n 0)) (.own b (n*2) 0 n true)=.seq n (RCt true (List.replicate n 0)) true:=by
  rw[← zhe];simp[frz,zF0,zCy,hl,List.take_of_length_le]
 rw[e];exact SetR.now hq
theorem zDA{i:Ins}{n:Int}(hm:zCe n i)(h5:5≤i.op):PFn Tryz.prog 157 [zFh i] (zBd (cst i) false):=by
 intro H Q hq
 obtain⟨_,h8,_,_,_,_,h3⟩:=hm
 rw[if_neg (by omega)]at h3
 refine zUF (by simp) ?_
 simp(disch:=first|exact Xe|fail)only[zb5,zAr,↓Xa,Xb,Xc,↓reduceIte,Nat.reduceLT,Nat.reduceEqDiff,Nat.reduceBEq,Nat.reduceLeDiff,Nat.reduceAdd]
 refine zAD fun p1 hp1=>?_
 have n1:=hp1
 simp(disch:=first|exact Xe|fail)only[↓Xa,Xb,Xc,↓reduceIte,Nat.reduceLT,Nat.reduceEqDiff,Nat.reduceBEq,Nat.reduceLeDiff,Nat.reduceAdd]
 refine zAD fun p2 hp2=>?_
 have n2:=hp2
 simp only[zAB]at n2
 obtain⟨_,n2⟩:=n2
 by_cases e5:i.op=5
 ·have hc:cst i=i.c:=by simp[cst,e5]
  rw[if_pos (.inl e5)]at h3
  have d5:decide (i.op=((5:Nat):Int))=true:=decide_eq_true e5
  simp(disch:=first|exact Xe|fail)only[zAF,d5,↓Xa,Xb,Xc,↓reduceIte,Nat.reduceLT,Nat.reduceEqDiff,Nat.reduceBEq,Nat.reduceLeDiff,Nat.reduceAdd]
  refine(zDZ (n:=i.c) (by omega)).call ?_
  rw[← hc]
  simp(disch:=first|exact Xe|fail)only[zAe,zA2,zDr,zUT,↓Xa,Xb,Xc,↓reduceIte,Nat.reduceLT,Nat.reduceEqDiff,Nat.reduceBEq,Nat.reduceLeDiff,Nat.reduceAdd]
  exact SetR.dropTo (((Le.refl H).updB n1).updB n2) (SetR.now hq)
 have d5:decide (i.op=((5:Nat):Int))=false:=decide_eq_false e5
 by_cases e6:i.op=6
 ·have hc:cst i=i.c:=by simp[cst,e6]
  rw[if_pos (.inr e6)]at h3
  have d6:decide (i.op=((6:Nat):Int))=true:=decide_eq_true e6
  simp(disch:=first|exact Xe|fail)only[zAF,d5,d6,↓Xa,Xb,Xc,↓reduceIte,Nat.reduceLT,Nat.reduceEqDiff,Nat.reduceBEq,Nat.reduceLeDiff,Nat.reduceAdd]
  refine(zDZ (n:=i.c) (by omega)).call ?_
  rw[← hc]
  simp(disch:=first|exact Xe|fail)only[zAe,zA2,zDr,zUT,↓Xa,Xb,Xc,↓reduceIte,Nat.reduceLT,Nat.reduceEqDiff,Nat.reduceBEq,Nat.reduceLeDiff,Nat.reduceAdd]
  exact SetR.dropTo (((Le.refl H).updB n1).updB n2) (SetR.now hq)
 have d6:decide (i.op=((6:Nat):Int))=false:=decide_eq_false e6
 have hc:cst i=2^i.c.toNat:=by simp[cst,e5,e6]
 rw[if_neg (by omega)]at h3
 by_cases e7:i.op=7∨i.op=8
 ·rw[if_pos e7]at h3
  obtain⟨c,hcc⟩: ∃c:Nat,i.c=(c:Int):=⟨i.c.toNat,by omega⟩
  have hc2:cst i=2^c:=by rw[hc,hcc];rfl
  simp(disch:=first|exact Xe|fail)only[zAF,d5,d6,hcc,↓Xa,Xb,Xc,↓reduceIte,Nat.reduceLT,Nat.reduceEqDiff,Nat.reduceBEq,Nat.reduceLeDiff,Nat.reduceAdd]
  refine(zPG (n:=c) (by omega)).call ?_
  rw[← hc2]
  simp(disch:=first|exact Xe|fail)only[zAe,zA2,zDr,zUT,↓Xa,Xb,Xc,↓reduceIte,Nat.reduceLT,Nat.reduceEqDiff,Nat.reduceBEq,Nat.reduceLeDiff,Nat.reduceAdd]
  exact SetR.dropTo (((Le.refl H).updB n1).updB n2) (SetR.now hq)
 ·exact absurd (by omega) e7
abbrev rR(r:List Int):AV:=zIe r false
def GC(g:List (List Int)):List AV:=g.map rR
theorem zH1(g:List (List Int)):(GC g).length=g.length:=by simp[GC]
theorem zA6{G:AHeap}{b m i ty:Nat}{t:Bool}{cells:List AV}(hG:G b=some (.row ty 1 cells))(hl:cells.length=m)(hi:i<m){k:IntKind}{K:AV→Prop}:(zCQ G (.own b m 0 m t)∧zBl 1 (.own b m 0 m t) (.int k (i:Int)) K)↔K (.ptr b m i):=by simp[zCQ,zBl,hG,hl,hi]
theorem zC2{ty m j:Nat}{g:List (List Int)}{K:AV→Prop}(hl:g.length=m)(hj:j<g.length):ldP none m j K (some (.row ty 1 (GC g)))↔K (rR (g[j])):=by
 have e:((GC g).drop j).take 1=[rR (g[j])]:=by
  rw[List.drop_eq_getElem_cons (by rw[zH1];exact hj)];simp[GC]
 have h1:(GC g).length=m:=by rw[zH1,hl]
 have h2:j+1≤m:=by omega
 simp only[ldP,h1,h2,true_and,Option.getD_none,e]
 rfl
def zDg(k L:Nat)(g:List (List Int)):Prop:= ∀r,r∈g→r.length=L∧RB4 k r
theorem zZW{H:AHeap}{Q:AV→AHeap→Prop}{b N k L ty:Nat}{t:Bool}{regs:List (List Int)}{i:Ins}(hb:H b=some (.row ty 1 (GC regs)))(hN:regs.length=N)(hm:zCe (N:Int) i)(hz:zDg k L regs)(hk:k≤100000)(hL:L≤100000)
 (hq1: ∀x,doR i (regs.getD i.a.toNat []) (regs.getD i.b.toNat [])=some x→RB4 (k+3) x→x.length=L→Q (.tup [rR x,.bool true]) H)
 (hq2:doR i (regs.getD i.a.toNat []) (regs.getD i.b.toNat [])=none→Q (.tup [.seq 0 [] true,.bool false]) H):
 Run Tryz.prog 90 [zFh i,.own b N 0 N t] H Q:=by
 have hmb:=zIE hm
 have hma:=hm.2.2
 have h18:1≤i.op∧i.op≤8:=⟨hm.1,hm.2.1⟩
 obtain⟨a,ha⟩: ∃a:Nat,i.a=(a:Int):=⟨i.a.toNat,by omega⟩
 obtain⟨c,hc⟩: ∃c:Nat,i.b=(c:Int):=⟨i.b.toNat,by omega⟩
 have haN:a<regs.length:=by omega
 have hcN:c<regs.length:=by omega
 have ga:regs.getD i.a.toNat []=regs[a]:=by rw[ha,Int.toNat_natCast,List.getD_eq_getElem?_getD,List.getElem?_eq_getElem haN];rfl
 have gc:regs.getD i.b.toNat []=regs[c]:=by rw[hc,Int.toNat_natCast,List.getD_eq_getElem?_getD,List.getElem?_eq_getElem hcN];rfl
 rw[ga,gc]at hq1 hq2
 obtain⟨lx,bx⟩:=hz _ (List.getElem_mem haN)
 obtain⟨ly,by'⟩:=hz _ (List.getElem_mem hcN)
 have hl:(GC regs).length=N:=by rw[zH1,hN]
 refine zYm (by simp) ?_
 simp(disch:=first|exact Xe|fail)only[ziI,zAr,↓Xa,Xb,Xc,↓reduceIte,Nat.reduceLT,Nat.reduceEqDiff,Nat.reduceBEq,Nat.reduceLeDiff,Nat.reduceAdd]
 refine zAD fun p1 n1=>?_
 have a1:=zAW hb n1
 have hle: ∀{x:ABlk},Le H (H.upd p1 (some x)):=(Le.refl H).updB n1
 have hnum: ∀n:Nat,i.op≠(n:Int)→decide (i.op=((n:Nat):Int))=false:=fun n h=>decide_eq_false h
 have fin1: ∀{x:List Int}{r:ABlk},doR i regs[a] regs[c]=some x→RB4 (k+3) x→SetR Q (.tup [rR x,.bool true]) (H.upd p1 (some r)):=fun h hbx=>SetR.dropTo hle (SetR.now (hq1 _ h hbx ((zG2 (lx.trans ly.symm) h).trans lx)))
 have haN':a<N:=by omega
 have hcN':c<N:=by omega
 by_cases e2:i.op=2
 ·have d2:decide (i.op=((2:Nat):Int))=true:=decide_eq_true e2
  have hdo:doR i regs[a] regs[c]=some ((regs[a]).map (-1* ·)):=by
   rw[doR,if_pos e2,show(fun x:Int=> -1*x)=(- ·)from funext fun x=>by omega]
  simp(disch:=first|exact Xe|fail)only[ha,hc,hb,zA6,hl,haN',zC2 hN haN,zAF,d2,↓Xa,Xb,Xc,↓reduceIte,Nat.reduceLT,Nat.reduceEqDiff,Nat.reduceBEq,Nat.reduceLeDiff,Nat.reduceAdd]
  refine(zDZ (n:= -1) (by omega)).call ?_
  simp(disch:=first|exact Xe|fail)only[↓Xa,Xb,Xc,↓reduceIte,Nat.reduceLT,Nat.reduceEqDiff,Nat.reduceBEq,Nat.reduceLeDiff,Nat.reduceAdd]
  refine(zF5 (k':=2) bx (Bd.i64 (by omega)) (by omega) (by omega)).call ?_
  simp(disch:=first|exact Xe|fail)only[zQU,↓Xa,Xb,Xc,↓reduceIte,Nat.reduceLT,Nat.reduceEqDiff,Nat.reduceBEq,Nat.reduceLeDiff,Nat.reduceAdd]
  exact fin1 hdo (bx.map fun z hz=>((Bd.i64 (n:= -1) (by omega)).mul hz).mono (by omega))
 have d2:=hnum 2 e2
 by_cases e3:i.op=3
 ·have d3:decide (i.op=((3:Nat):Int))=true:=decide_eq_true e3
  have hdo:doR i regs[a] regs[c]=some (zDe (· + ·) regs[a] regs[c]):=by rw[doR,if_neg e2,if_pos e3]
  simp(disch:=first|exact Xe|fail)only[ha,hc,hb,zA6,hl,haN',hcN',zC2 hN haN,zC2 hN hcN,zAF,d2,d3,↓Xa,Xb,Xc,↓reduceIte,Nat.reduceLT,Nat.reduceEqDiff,Nat.reduceBEq,Nat.reduceLeDiff,Nat.reduceAdd]
  refine(zZc bx by' (by omega) (lx.trans ly.symm) (by omega)).call ?_
  simp(disch:=first|exact Xe|fail)only[zQU,↓Xa,Xb,Xc,↓reduceIte,Nat.reduceLT,Nat.reduceEqDiff,Nat.reduceBEq,Nat.reduceLeDiff,Nat.reduceAdd]
  exact fin1 hdo (bx.zip by' (lx.trans ly.symm) fun z w hz hw=>(hz.add hw).mono (by omega))
 have d3:=hnum 3 e3
 by_cases e4:i.op=4
 ·have d4:decide (i.op=((4:Nat):Int))=true:=decide_eq_true e4
  have hdo:doR i regs[a] regs[c]=some (zDe (· - ·) regs[a] regs[c]):=by rw[doR,if_neg e2,if_neg e3,if_pos e4]
  simp(disch:=first|exact Xe|fail)only[ha,hc,hb,zA6,hl,haN',hcN',zC2 hN haN,zC2 hN hcN,zAF,d2,d3,d4,↓Xa,Xb,Xc,↓reduceIte,Nat.reduceLT,Nat.reduceEqDiff,Nat.reduceBEq,Nat.reduceLeDiff,Nat.reduceAdd]
  refine(zZU bx by' (by omega) (lx.trans ly.symm) (by omega)).call ?_
  simp(disch:=first|exact Xe|fail)only[zQU,↓Xa,Xb,Xc,↓reduceIte,Nat.reduceLT,Nat.reduceEqDiff,Nat.reduceBEq,Nat.reduceLeDiff,Nat.reduceAdd]
  exact fin1 hdo (bx.zip by' (lx.trans ly.symm) fun z w hz hw=>(hz.sub hw).mono (by omega))
 have d4:=hnum 4 e4
 have eI:AV.agg [.int .i64 i.op,.int .i64 i.to,.int .i64 (a:Int),.int .i64 (c:Int),.int .i64 i.c]=zFh i:=by rw[← ha,← hc];rfl
 by_cases e57:i.op=5∨i.op=7
 ·have hcb:=zHv hm (by omega)
  have hdo:doR i regs[a] regs[c]=some ((regs[a]).map (cst i* ·)):=by rw[doR,if_neg e2,if_neg e3,if_neg e4,if_pos e57]
  have hgo:RB4 (k+3) ((regs[a]).map (cst i* ·)):=bx.map fun z hz=>(hcb.mul hz).mono (by omega)
  rcases e57 with e5|e7
  ·have d5:decide (i.op=((5:Nat):Int))=true:=decide_eq_true e5
   simp(disch:=first|exact Xe|fail)only[ha,hc,hb,zA6,hl,haN',zC2 hN haN,zAF,d2,d3,d4,d5,eI,↓Xa,Xb,Xc,↓reduceIte,Nat.reduceLT,Nat.reduceEqDiff,Nat.reduceBEq,Nat.reduceLeDiff,Nat.reduceAdd]
   refine(zDA hm (by omega)).call ?_
   simp(disch:=first|exact Xe|fail)only[↓Xa,Xb,Xc,↓reduceIte,Nat.reduceLT,Nat.reduceEqDiff,Nat.reduceBEq,Nat.reduceLeDiff,Nat.reduceAdd]
   refine(zF5 (k':=3) bx hcb (by omega) (by omega)).call ?_
   simp(disch:=first|exact Xe|fail)only[zQU,↓Xa,Xb,Xc,↓reduceIte,Nat.reduceLT,Nat.reduceEqDiff,Nat.reduceBEq,Nat.reduceLeDiff,Nat.reduceAdd]
   exact fin1 hdo hgo
  ·have d5:=hnum 5 (by omega)
   have d7:decide (i.op=((7:Nat):Int))=true:=decide_eq_true e7
   simp(disch:=first|exact Xe|fail)only[ha,hc,hb,zA6,hl,haN',zC2 hN haN,zAF,d2,d3,d4,d5,d7,eI,↓Xa,Xb,Xc,↓reduceIte,Nat.reduceLT,Nat.reduceEqDiff,Nat.reduceBEq,Nat.reduceLeDiff,Nat.reduceAdd]
   refine(zDA hm (by omega)).call ?_
   simp(disch:=first|exact Xe|fail)only[↓Xa,Xb,Xc,↓reduceIte,Nat.reduceLT,Nat.reduceEqDiff,Nat.reduceBEq,Nat.reduceLeDiff,Nat.reduceAdd]
   refine(zF5 (k':=3) bx hcb (by omega) (by omega)).call ?_
   simp(disch:=first|exact Xe|fail)only[zQU,↓Xa,Xb,Xc,↓reduceIte,Nat.reduceLT,Nat.reduceEqDiff,Nat.reduceBEq,Nat.reduceLeDiff,Nat.reduceAdd]
   exact fin1 hdo hgo
 have d5:=hnum 5 (by omega)
 have d7:=hnum 7 (by omega)
 by_cases e68:i.op=6∨i.op=8
 ·have hcb:=zHv hm (by omega)
  have hov:=zTG (t:=false) (c:=cst i) (k:=k+3) (bx.mono (by omega)) (hcb.mono (by omega)) (by omega) (zXL hm) (by omega)
  by_cases hall: ∀z,z∈regs[a]→z%cst i=0
  ·have ea:((regs[a]).all fun z=>decide (z%cst i=0))=true:=List.all_eq_true.2 fun z hz=>decide_eq_true (hall z hz)
   rw[if_pos ea]at hov
   have hdo:doR i regs[a] regs[c]=some ((regs[a]).map (· / cst i)):=by rw[doR,if_neg e2,if_neg e3,if_neg e4,if_neg e57,if_pos e68,if_pos hall]
   have hgo:RB4 (k+3) ((regs[a]).map (· / cst i)):=bx.map fun z hz=>hz.ediv.mono (by omega)
   rcases e68 with e6|e8
   ·have d6:decide (i.op=((6:Nat):Int))=true:=decide_eq_true e6
    simp(disch:=first|exact Xe|fail)only[ha,hc,hb,zA6,hl,haN',zC2 hN haN,zAF,d2,d3,d4,d5,d6,d7,eI,↓Xa,Xb,Xc,↓reduceIte,Nat.reduceLT,Nat.reduceEqDiff,Nat.reduceBEq,Nat.reduceLeDiff,Nat.reduceAdd]
    refine(zDA hm (by omega)).call ?_
    simp(disch:=first|exact Xe|fail)only[↓Xa,Xb,Xc,↓reduceIte,Nat.reduceLT,Nat.reduceEqDiff,Nat.reduceBEq,Nat.reduceLeDiff,Nat.reduceAdd]
    refine hov.call ?_
    simp(disch:=first|exact Xe|fail)only[zQU,↓Xa,Xb,Xc,↓reduceIte,Nat.reduceLT,Nat.reduceEqDiff,Nat.reduceBEq,Nat.reduceLeDiff,Nat.reduceAdd]
    exact fin1 hdo hgo
   ·have d6:=hnum 6 (by omega)
    have d8:decide (i.op=((8:Nat):Int))=true:=decide_eq_true e8
    simp(disch:=first|exact Xe|fail)only[ha,hc,hb,zA6,hl,haN',zC2 hN haN,zAF,d2,d3,d4,d5,d6,d7,d8,eI,↓Xa,Xb,Xc,↓reduceIte,Nat.reduceLT,Nat.reduceEqDiff,Nat.reduceBEq,Nat.reduceLeDiff,Nat.reduceAdd]
    refine(zDA hm (by omega)).call ?_
    simp(disch:=first|exact Xe|fail)only[↓Xa,Xb,Xc,↓reduceIte,Nat.reduceLT,Nat.reduceEqDiff,Nat.reduceBEq,Nat.reduceLeDiff,Nat.reduceAdd]
    refine hov.call ?_
    simp(disch:=first|exact Xe|fail)only[zQU,↓Xa,Xb,Xc,↓reduceIte,Nat.reduceLT,Nat.reduceEqDiff,Nat.reduceBEq,Nat.reduceLeDiff,Nat.reduceAdd]
    exact fin1 hdo hgo
  ·have ea: ¬((regs[a]).all fun z=>decide (z%cst i=0))=true:=fun h=>hall fun z hz=>of_decide_eq_true (List.all_eq_true.1 h z hz)
   rw[if_neg ea]at hov
   have hdo:doR i regs[a] regs[c]=none:=by rw[doR,if_neg e2,if_neg e3,if_neg e4,if_neg e57,if_pos e68,if_neg hall]
   rcases e68 with e6|e8
   ·have d6:decide (i.op=((6:Nat):Int))=true:=decide_eq_true e6
    simp(disch:=first|exact Xe|fail)only[ha,hc,hb,zA6,hl,haN',zC2 hN haN,zAF,d2,d3,d4,d5,d6,d7,eI,↓Xa,Xb,Xc,↓reduceIte,Nat.reduceLT,Nat.reduceEqDiff,Nat.reduceBEq,Nat.reduceLeDiff,Nat.reduceAdd]
    refine(zDA hm (by omega)).call ?_
    simp(disch:=first|exact Xe|fail)only[↓Xa,Xb,Xc,↓reduceIte,Nat.reduceLT,Nat.reduceEqDiff,Nat.reduceBEq,Nat.reduceLeDiff,Nat.reduceAdd]
    refine hov.call ?_
    simp(disch:=first|exact Xe|fail)only[zQU,↓Xa,Xb,Xc,↓reduceIte,Nat.reduceLT,Nat.reduceEqDiff,Nat.reduceBEq,Nat.reduceLeDiff,Nat.reduceAdd]
    exact SetR.dropTo hle (SetR.now (hq2 hdo))
   ·have d6:=hnum 6 (by omega)
    have d8:decide (i.op=((8:Nat):Int))=true:=decide_eq_true e8
    simp(disch:=first|exact Xe|fail)only[ha,hc,hb,zA6,hl,haN',zC2 hN haN,zAF,d2,d3,d4,d5,d6,d7,d8,eI,↓Xa,Xb,Xc,↓reduceIte,Nat.reduceLT,Nat.reduceEqDiff,Nat.reduceBEq,Nat.reduceLeDiff,Nat.reduceAdd]
    refine(zDA hm (by omega)).call ?_
    simp(disch:=first|exact Xe|fail)only[↓Xa,Xb,Xc,↓reduceIte,Nat.reduceLT,Nat.reduceEqDiff,Nat.reduceBEq,Nat.reduceLeDiff,Nat.reduceAdd]
    refine hov.call ?_
    simp(disch:=first|exact Xe|fail)only[zQU,↓Xa,Xb,Xc,↓reduceIte,Nat.reduceLT,Nat.reduceEqDiff,Nat.reduceBEq,Nat.reduceLeDiff,Nat.reduceAdd]
    exact SetR.dropTo hle (SetR.now (hq2 hdo))
 have d6:=hnum 6 (by omega)
 have d8:=hnum 8 (by omega)
 have hdo:doR i regs[a] regs[c]=some regs[a]:=by rw[doR,if_neg e2,if_neg e3,if_neg e4,if_neg e57,if_neg e68]
 simp(disch:=first|exact Xe|fail)only[ha,hc,hb,zA6,hl,haN',zC2 hN haN,zAF,d2,d3,d4,d5,d6,d7,d8,zQU,↓Xa,Xb,Xc,↓reduceIte,Nat.reduceLT,Nat.reduceEqDiff,Nat.reduceBEq,Nat.reduceLeDiff,Nat.reduceAdd]
 exact fin1 hdo (bx.mono (by omega))
theorem zHh{H0 H1 H:AHeap}{ty es n ty' es' n':Nat}{cells cells':List AV}{x y:AV}{k:IntKind}{z:Int}{Q:AV→AHeap→Prop}(h:zBI H0 ty es n cells x H1)(h2:zBI H1 ty' es' n' cells' y H)(hq:Q (.tup [.seq n cells false,.int k z,.seq n' cells' false]) H0):SetR Q (.tup [x,.int k z,y]) H:=by
 rcases h with⟨rfl,rfl,rfl,rfl⟩|⟨hn,hl,b,hb,rfl,rfl⟩<;>rcases h2 with⟨rfl,rfl,rfl,rfl⟩|⟨hn2,hl2,b2,hb2,rfl,rfl⟩
 ·exact SetR.loose (SetR.now hq)
 ·refine SetR.loose (SetR.frz b2 (zAC _ _ _) ?_)
  rw[zAP,zAU _ hb2]
  have e:frz b2 es' cells' (loose (.tup [.seq 0 [] true,.int k z,.own b2 (n'*es') 0 n' false]))=.tup [.seq 0 [] false,.int k z,.seq n' cells' false]:=by simp[frz,zF0,zCy,loose,zFX,loose1,hl2,List.take_of_length_le]
  rw[e];exact SetR.now hq
 ·refine SetR.loose (SetR.frz b (zAC _ _ _) ?_)
  rw[zAP,zAU _ hb]
  have e:frz b es cells (loose (.tup [.own b (n*es) 0 n false,.int k z,.seq 0 [] true]))=.tup [.seq n cells false,.int k z,.seq 0 [] false]:=by simp[frz,zF0,zCy,loose,zFX,loose1,hl,List.take_of_length_le]
  rw[e];exact SetR.now hq
 ·obtain⟨e,e2⟩:=zAB.1 hb2
  refine SetR.frz b2 (zAC _ _ _) ?_
  rw[zAP,zAU _ hb2]
  have e1:frz b2 es' cells' (.tup [.own b (n*es) 0 n false,.int k z,.own b2 (n'*es') 0 n' false])=.tup [.own b (n*es) 0 n false,.int k z,.seq n' cells' false]:=by simp[frz,zF0,zCy,hl2,List.take_of_length_le,Ne.symm e]
  rw[e1]
  refine SetR.frz b (zAC _ _ _) ?_
  rw[zAP,zAU _ hb]
  have e3:frz b es cells (.tup [.own b (n*es) 0 n false,.int k z,.seq n' cells' false])=.tup [.seq n cells false,.int k z,.seq n' cells' false]:=by simp[frz,zF0,zCy,hl,List.take_of_length_le]
  rw[e3];exact SetR.now hq
theorem Run.weak{P:Program}{f:FuncId}{args:List AV}{H:AHeap}{Q Q':AV→AHeap→Prop}(h:Run P f args H Q)(hq: ∀r H',Q r H'→∃r',Wk r r'∧Q' r' H'):Run P f args H Q':=
 ⟨h.1,fun c vs hH hok hs he=>(h.2 c vs hH hok hs he).mono fun _ _ ⟨c',v,r,a1,a2,a3,a4,a5,a6⟩=>let⟨r',hw,q⟩:=hq _ _ a6;⟨c',v,r',a1,a2,a3,a4,hw c' v a5,q⟩⟩
theorem PFn.weak{P:Program}{f:FuncId}{args:List AV}{r r':AV}(h:PFn P f args r)(hw:Wk r r'):PFn P f args r':=fun H Q hq=>
 Run.weak (h H (fun x H'=>x=r∧H'=H) ⟨rfl,rfl⟩) fun x H' ⟨e1,e2⟩=>⟨r',e1▸hw,e2▸hq⟩
theorem Wk.cells{n:Nat}{a b:List AV}{t:Bool}(hl:a.length=b.length)(h: ∀i(h1:i<a.length)(h2:i<b.length),Wk (a[i]) (b[i])):Wk (.seq n a t) (.seq n b false):=fun c v he=>by
 cases he with
 |seq _ _ _ base cap cv hlen hcap hmax ht hb hn hce=>
  exact .seq n b false base cap cv (fun e=>List.length_eq_zero_iff.1 (by rw[← hl,hlen e];rfl)) hcap hmax (fun e=>by cases e) (fun hp=>by rw[← hl]at hp ⊢; exact hb hp) hn fun i hi=>h i (by omega) hi c _ (hce i (by omega))
theorem Wk.l0{n:Nat}{cells:List AV}{t:Bool}:Wk (.seq n cells t) (.seq n cells false):=fun _ _ h=>zCH _ _ h
theorem zRw: ∀(zs:List Int)(i:Nat)(h1:i<(RCt true zs).length)(h2:i<(RC zs).length),Wk ((RCt true zs)[i]) ((RC zs)[i])
 |a::l,0,_,_=>Wk.refl
 |a::l,1,_,_=>Wk.l0
 |a::l,i+2,h1,h2=>zRw l i (by simpa[RCt]using h1) (by simpa[RC]using h2)
theorem zML{n:Nat}(h:n≤100000):PFn Tryz.prog 89 [.int .i64 (n:Int)] (rR (List.replicate n 0)):=by
 have e:rR (List.replicate n 0)=.seq n (RC (List.replicate n 0)) false:=by simp[rR]
 rw[e]
 have hl: ∀zs:List Int,(RCt true zs).length=(RC zs).length:=fun zs=>by
  induction zs with
  |nil=>rfl
  |cons a l ih=>simp only[RCt,RC,List.flatMap_cons,List.length_append]at ih ⊢; rw[ih];rfl
 exact(zVT h).weak (Wk.cells (hl _) (zRw _))
def zAu(p:PR)(grid:List (List Int))(L:Nat):List (List Int):=grid++List.replicate (p.regs.toNat-grid.length) (List.replicate L 0)
def zCG(p:PR)(grid:List (List Int))(L:Nat):List (List Int):=(zCO doR [] p.code (zAu p grid L)).1
def zBm(p:PR)(grid:List (List Int))(L:Nat):List (List Int):=p.outs.map fun r=>(zCO doR [] p.code (zAu p grid L)).2.getD r.toNat []
abbrev GA(g:List (List Int))(t:Bool):AV:=.seq g.length (GC g) t
def zIY(p:PR)(grid:List (List Int))(L:Nat):AV:=
 if(zCG p grid L).length=p.code.length then .tup [GA (zCG p grid L) false,.int .i64 (-1),GA (zBm p grid L) false]
 else .tup [GA (zCG p grid L) false,.int .i64 ((zCG p grid L).length:Nat),.seq 0 [] false]
theorem zIr{g:List (List Int)}{i:Nat}(h:i<g.length):GC (g.take (i+1))=GC (g.take i)++[rR (g[i])]:=by
 unfold GC;rw[List.take_succ_eq_append_getElem h,List.map_append];rfl
theorem zcB{r:List Int}:[rR r].all AV.cell=true:=rfl
theorem zeV{H:AHeap}{ty n:Nat}{K:AV→AHeap→Prop}(h:n≤100000):zOq H ty 1 24 [.seq 0 [] true] (.int .i64 (n:Int)) (.int .i64 (n:Int)) K↔∀b,H b=none→K (.own b n 0 n true) (H.upd b (some (.row ty 1 (List.replicate n (.seq 0 [] true))))):=by
 have h1:(24:Int)*n≤281474976710656:=by omega
 have h2:(n:Int)<9223372036854775808:=by omega
 have e:zCM [.seq 0 [] true] n=List.replicate n (.seq 0 [] true):=by
  have e0:(fun i:Nat=>[AV.seq 0 [] true].getD (i%1) .bot)=fun _=>AV.seq 0 [] true:=funext fun i=>by rw[Nat.mod_one];rfl
  unfold zCM
  have e1:n*[AV.seq 0 [] true].length=n:=by simp
  simp only[e1,List.length_cons,List.length_nil,Nat.zero_add]
  rw[e0,List.map_const',List.length_range]
 simp[zOq,h1,h2,e]
theorem zZq{l:List AV}{i:Nat}{x:AV}(h:i<l.length):zAo l i [x]=l.set i x:=by
 unfold zAo
 rw[List.set_eq_take_append_cons_drop,if_pos h];simp
theorem zKL{H:AHeap}{b N j ty:Nat}{x:AV}{cells:List AV}{K:AV→AHeap→Prop}(hN:cells.length=N)(hj:j<N):stP H 1 b N j K (some [x]) (some (.row ty 1 cells))↔K .bot (H.upd b (some (.row ty 1 (cells.set j x)))):=by
 rw[zLT (n:=1) (l:=[x]) hN rfl (by omega),zZq (by omega)]
theorem zJt{H:AHeap}{l:List Ins}{i:Nat}{K:AV→Prop}(h:i<l.length):zBC H none (.cptr (((l.flatMap zDC).drop (i*5)).drop 1)) K=K (.int .i64 (l[i]).to):=by
 simp only[zBC,zBB];rw[zC0 zCo l i h];simp[zDC]
def CJ(R:List (List Int))(N j:Nat):List AV:=GC (R.take j)++List.replicate (N-j) (.seq 0 [] true)
theorem zdU{R:List (List Int)}{N j:Nat}(hR:R.length=N)(hj:j≤N):(CJ R N j).length=N:=by simp[CJ,GC];omega
theorem zXE{R:List (List Int)}{N j:Nat}(hR:R.length=N)(hj:j<N):(CJ R N j).set j (rR (R[j]'(by omega)))=CJ R N (j+1):=by
 unfold CJ
 have h1:(GC (R.take j)).length=j:=by simp[GC];omega
 rw[zIr (by omega),List.set_append_right _ _ (by omega),h1,Nat.sub_self,show N-j=(N-(j+1))+1 by omega,List.replicate_succ,List.set_cons_zero,List.append_assoc];rfl
theorem zQJ{p:PR}(hp:p.ok)(hr:zBV p){grid:List (List Int)}{t:Bool}{k0 L:Nat}(hg:zDg k0 L grid)(hlen:(grid.length:Int)=p.ins)(hL:L≤100000)(hk:k0+3*p.code.length≤100000):
 PFn Tryz.prog 20 [zCV p,GA grid t] (zIY p grid L):=by
 intro H Q hq
 have hh:=hr.1
 unfold zC5 at hh
 obtain⟨N,hN⟩: ∃N:Nat,p.regs=(N:Int):=⟨p.regs.toNat,by omega⟩
 have hgl:grid.length≤N:=by omega
 have hg0:0<grid.length:=by omega
 have hR0:(zAu p grid L).length=N:=by simp[zAu,hN];omega
 have hgr:grid.length<9223372036854775808:=by omega
 refine zZV (by simp) ?_
 simp(disch:=first|exact Xe|fail)only[zhf,zAq,↓Xa,Xb,Xc,↓reduceIte,Nat.reduceLT,Nat.reduceEqDiff,Nat.reduceBEq,Nat.reduceLeDiff,Nat.reduceAdd]
 refine zAD fun p2 hp2=>?_
 simp(disch:=first|exact Xe|fail)only[hN,↓Xa,Xb,Xc,↓reduceIte,Nat.reduceLT,Nat.reduceEqDiff,Nat.reduceBEq,Nat.reduceLeDiff,Nat.reduceAdd]
 rw[zeV (by omega)]
 intro b hb
 have hbp:=(zAB.1 hb).1
 have hbH:=(zAB.1 hb).2
 generalize hX:(ABlk.row 25 0 [.int .i64 p.ins,.int .i64 (N:Int),zAf p.code false,zAa p.outs false])=X at*
 have m2: ∀x:ABlk,((H.upd p2 (some X)).upd b (some x)) p2=some (ABlk.row 25 0 [.int .i64 p.ins,.int .i64 (N:Int),zAf p.code false,zAa p.outs false]):=fun x=>by rw[zAA _ _ (Ne.symm hbp),zAC,hX]
 simp(disch:=first|exact Xe|fail)only[↓Xa,Xb,Xc,↓reduceIte,Nat.reduceLT,Nat.reduceEqDiff,Nat.reduceBEq,Nat.reduceLeDiff,Nat.reduceAdd]
 refine zAO (fun s:Nat=>⟨[],[(1,GA grid t),(2,.ptr p2 4 0),(7,.own b N 0 N true),(8,.int .i64 s)],(H.upd p2 (some X)).upd b (some (.row 31 1 (CJ (zAu p grid L) N s)))⟩) (fun s=>s≤N) (fun s=>N-s) 0 (Settle.now ?_) (Nat.zero_le _) ?_
 ·have e:CJ (zAu p grid L) N 0=List.replicate N (.seq 0 [] true):=by simp[CJ,GC]
  rw[e]
 rintro j h1
 have hCl:=zdU hR0 h1
 have hld: ∀{M:AHeap}{K:AV→Prop}{i:Nat}(h:i<grid.length),zBC M none (.cptr ((GC grid).drop i)) K=K (rR (grid[i])):=fun{M K i} h=>zFr h
 have hix: ∀{k:IntKind}{K:AV→Prop}{i:Nat}(h:i<grid.length),zBl 1 (GA grid t) (.int k (i:Int)) K=K (.cptr ((GC grid).drop i)):=fun{k K i} h=>by
  have:=zJF (f:=rR) (t:=t) (k:=k) (K:=K) h
  rw[Nat.mul_one]at this;exact this
 by_cases hj:j<N
 ·have gl0:(grid[0]).length=L:=(hg _ (List.getElem_mem hg0)).1
  have gl0':(grid[0]).length<9223372036854775808:=by omega
  have hld0: ∀{M:AHeap}{K:AV→Prop},zBC M none (.cptr (GC grid)) K=K (rR (grid[0])):=fun{M K}=>hld (i:=0) hg0
  have hjR:j<(zAu p grid L).length:=by omega
  have zz:AV.seq L (RC (List.replicate L 0)) false=rR (List.replicate L 0):=by simp[rR]
  by_cases hjg:j<grid.length
  ·have eR:(zAu p grid L)[j]=grid[j]:=by simp only[zAu];rw[List.getElem_append_left hjg]
   simp(disch:=first|exact Xe|fail)only[m2,hj,hix hg0,hld0,zBK,gl0',gl0,↓Xa,Xb,Xc,↓reduceIte,Nat.reduceLT,Nat.reduceEqDiff,Nat.reduceBEq,Nat.reduceLeDiff,Nat.reduceAdd]
   refine(zML (n:=L) hL).call ?_
   simp(disch:=first|exact Xe|fail)only[m2,hj,hix hg0,zA6,hCl,zz,↓Xa,Xb,Xc,↓reduceIte,Nat.reduceLT,Nat.reduceEqDiff,Nat.reduceBEq,Nat.reduceLeDiff,Nat.reduceAdd]
   refine(zKL (x:=rR (List.replicate L 0)) hCl hj).2 ?_
   rw[zAP]
   have hCl2:((CJ (zAu p grid L) N j).set j (rR (List.replicate L 0))).length=N:=by rw[List.length_set,hCl]
   have hsame: ∀x:ABlk,((H.upd p2 (some X)).upd b (some x)) b=some x:=fun x=>zAC _ _ _
   simp(disch:=first|exact Xe|fail)only[m2,hj,hjg,hix hjg,hld hjg,zBK,zA6,hCl2,↓Xa,Xb,Xc,↓reduceIte,Nat.reduceLT,Nat.reduceEqDiff,Nat.reduceBEq,Nat.reduceLeDiff,Nat.reduceAdd]
   refine(zKL (x:=rR (grid[j])) hCl2 hj).2 ?_
   rw[zAP,List.set_set,← eR,zXE hR0 hj]
   simp(disch:=first|exact Xe|fail)only[↓Xa,Xb,Xc,↓reduceIte,Nat.reduceLT,Nat.reduceEqDiff,Nat.reduceBEq,Nat.reduceLeDiff,Nat.reduceAdd]
   exact Settle.now ⟨j+1,by omega,by omega,rfl⟩
  ·have eR:(zAu p grid L)[j]=List.replicate L 0:=by simp only[zAu];rw[List.getElem_append_right (by omega)];simp
   simp(disch:=first|exact Xe|fail)only[m2,hj,hix hg0,hld0,zBK,gl0',gl0,↓Xa,Xb,Xc,↓reduceIte,Nat.reduceLT,Nat.reduceEqDiff,Nat.reduceBEq,Nat.reduceLeDiff,Nat.reduceAdd]
   refine(zML (n:=L) hL).call ?_
   simp(disch:=first|exact Xe|fail)only[m2,hj,hix hg0,zA6,hCl,zz,↓Xa,Xb,Xc,↓reduceIte,Nat.reduceLT,Nat.reduceEqDiff,Nat.reduceBEq,Nat.reduceLeDiff,Nat.reduceAdd]
   refine(zKL (x:=rR (List.replicate L 0)) hCl hj).2 ?_
   rw[zAP,← eR,zXE hR0 hj]
   simp(disch:=first|exact Xe|fail)only[m2,hj,hjg,zBK,↓Xa,Xb,Xc,↓reduceIte,Nat.reduceLT,Nat.reduceEqDiff,Nat.reduceBEq,Nat.reduceLeDiff,Nat.reduceAdd]
   exact Settle.now ⟨j+1,by omega,by omega,rfl⟩
 ·obtain rfl:j=N:=by omega
  have eC:CJ (zAu p grid L) j j=GC (zAu p grid L):=by
   simp only[CJ,Nat.sub_self,List.replicate_zero,List.append_nil];rw[List.take_of_length_le (by omega)]
  rw[eC]
  simp(disch:=first|exact Xe|fail)only[m2,hj,↓Xa,Xb,Xc,↓reduceIte,Nat.reduceLT,Nat.reduceEqDiff,Nat.reduceBEq,Nat.reduceLeDiff,Nat.reduceAdd]
  refine Settle.now ?_
  simp(disch:=first|exact Xe|fail)only[m2,↓Xa,Xb,Xc,↓reduceIte,Nat.reduceLT,Nat.reduceEqDiff,Nat.reduceBEq,Nat.reduceLeDiff,Nat.reduceAdd]
  have lc:p.code.length<9223372036854775808:=by omega
  have lo:p.outs.length<9223372036854775808:=by omega
  have goodR:zDg k0 L (zAu p grid L):=fun r hm=>by
   rcases List.mem_append.1 hm with hm|hm
   ·exact hg r hm
   ·rw[List.mem_replicate]at hm;rw[hm.2]
    exact⟨by simp,fun z hz=>by rw[List.mem_replicate]at hz;rw[hz.2];exact Bd.zero _,by simp;omega⟩
  generalize hS:zCG p grid L=S at*
  have hSd:S=(zCO doR [] p.code (zAu p grid L)).1:=hS.symm
  have hSle:S.length≤p.code.length:=by rw[hSd];exact zIh _ _
  refine zAO (fun s:Nat×List (List Int)×AV×AHeap=>⟨[],[(2,.ptr p2 4 0),(7,.own b j 0 j true),(9,s.2.2.1),(10,.int .i64 s.1)],s.2.2.2⟩)
   (fun s=>s.1≤p.code.length∧s.1≤S.length∧s.2.1.length=j∧zDg (k0+3*s.1) L s.2.1∧zBI ((H.upd p2 (some X)).upd b (some (.row 31 1 (GC s.2.1)))) 31 1 s.1 (GC (S.take s.1)) s.2.2.1 s.2.2.2∧zCO doR [] (p.code.drop s.1) s.2.1=(S.drop s.1,(zCO doR [] p.code (zAu p grid L)).2)) (fun s=>p.code.length-s.1) (0,zAu p grid L,.seq 0 [] true,_) (Settle.now rfl) ⟨Nat.zero_le _,Nat.zero_le _,hR0,by simpa using goodR,zAh,by rw[List.drop_zero,List.drop_zero,hSd]⟩ ?_
  rintro⟨i,R,y,M⟩ ⟨g1,g2,g3,g4,g5,g6⟩
  dsimp only at g1 g2 g3 g4 g5 g6 ⊢
  have M2:M p2=some (.row 25 0 [.int .i64 p.ins,.int .i64 (j:Int),zAf p.code false,zAa p.outs false]):=zBq g5 (m2 _)
  have Mb:M b=some (.row 31 1 (GC R)):=zBq g5 (zAC _ _ _)
  by_cases hi:i<p.code.length
  ·have hmi:zCe (j:Int) p.code[i]:=by rw[← hN];exact hr.2.2 _ (List.getElem_mem hi)
   obtain⟨w,hw⟩: ∃w:Nat,(p.code[i]).to=(w:Int):=⟨(p.code[i]).to.toNat,by have:=hmi.2.2.1;omega⟩
   have hwj:w<j:=by have:=hmi.2.2.2.1;omega
   simp(disch:=first|exact Xe|fail)only[M2,zAZ lc,hi,zBN,zBb,↓Xa,Xb,Xc,↓reduceIte,Nat.reduceLT,Nat.reduceEqDiff,Nat.reduceBEq,Nat.reduceLeDiff,Nat.reduceAdd]
   refine zAM (zZW (b:=b) (N:=j) (k:=k0+3*i) (L:=L) (regs:=R) Mb g3 hmi g4 (by omega) hL ?_ ?_)
   ·intro x hdo hbx hxl
    have hat:=zPl hi R hdo
    rw[g6]at hat
    simp(disch:=first|exact Xe|fail)only[M2,hi,zBN,zJt,hw,Mb,zA6,hwj,zH1,g3,↓Xa,Xb,Xc,↓reduceIte,Nat.reduceLT,Nat.reduceEqDiff,Nat.reduceBEq,Nat.reduceLeDiff,Nat.reduceAdd]
    refine(zKL (x:=rR x) (by rw[zH1,g3]) hwj).2 ?_
    have eset:(GC R).set w (rR x)=GC (R.set w x):=by simp[GC,List.map_set]
    rw[eset]
    have ew:(p.code[i]).to.toNat=w:=by omega
    rw[ew]at hat
    have hS1:S.drop i=x::(zCO doR [] (p.code.drop (i+1)) (R.set w x)).1:=congrArg Prod.fst hat
    have hiS:i<S.length:=by
     have:=congrArg List.length hS1
     simp at this;omega
    rw[List.drop_eq_getElem_cons hiS]at hS1
    injection hS1 with hS2 hS3
    obtain⟨H1,hg1,hl1⟩:=zHg (M:=M.upd b (some (.row 31 1 (GC (R.set w x))))) g5 fun o ho _=>zAA _ _ (by rintro rfl;rw[zAC]at ho;cases ho)
    have hb2:=(zD9 g5).both (p:=b) (x:=some (.row 31 1 (GC (R.set w x))))
    rw[zAP]at hb2
    have hle1:=hl1 _ hb2 fun o ho=>by
     by_cases e:o=b
     ·subst e;rw[zAC]at ho;cases ho
     ·rw[zAA _ _ e]at ho ⊢; exact ho
    simp(disch:=first|exact Xe|fail)only[↓Xa,Xb,Xc,↓reduceIte,Nat.reduceLT,Nat.reduceEqDiff,Nat.reduceBEq,Nat.reduceLeDiff,Nat.reduceAdd]
    refine zFV (m:=1) hg1 rfl zcB (by omega) (by omega) (by omega) fun y' M3 hg4=>?_
    rw[← hS2,← zIr hiS]at hg4
    obtain⟨M4,hg5,hl5⟩:=zBO hg4 hle1
    simp(disch:=first|exact Xe|fail)only[↓Xa,Xb,Xc,↓reduceIte,Nat.reduceLT,Nat.reduceEqDiff,Nat.reduceBEq,Nat.reduceLeDiff,Nat.reduceAdd]
    refine Settle.dropTo hl5 (Settle.now ⟨(i+1,R.set w x,y',M4),by dsimp only;omega,⟨hi,hiS,by dsimp only;rw[List.length_set,g3],fun r hm=>?_,hg5,?_⟩,rfl⟩)
    ·rcases List.mem_or_eq_of_mem_set hm with hm|rfl
     ·exact⟨(g4 r hm).1,(g4 r hm).2.mono (by dsimp only;omega)⟩
     ·exact⟨hxl,hbx.mono (by dsimp only;omega)⟩
    ·dsimp only
     rw[hS3,congrArg Prod.snd hat]
   ·intro hdo
    have hno:=zRt hi R hdo
    rw[g6]at hno
    have hS0:S.drop i=[]:=congrArg Prod.fst hno
    have hSl:S.length≤i:=by
     have:=congrArg List.length hS0
     simp at this;omega
    obtain rfl:i=S.length:=by omega
    rw[List.take_of_length_le (Nat.le_refl _)]at g5
    unfold zIY at hq
    rw[hS,if_neg (by omega)]at hq
    simp(disch:=first|exact Xe|fail)only[zhI,↓Xa,Xb,Xc,↓reduceIte,Nat.reduceLT,Nat.reduceEqDiff,Nat.reduceBEq,Nat.reduceLeDiff,Nat.reduceAdd]
    obtain⟨M4,hg5,hl5⟩:=zBO g5 (((Le.refl H).updB hp2).updB hbH)
    exact SetR.dropTo hl5 (zHh hg5 (zAh (ty:=0) (es:=1)) hq)
  ·obtain rfl:i=p.code.length:=by omega
   have hR1:S.drop p.code.length=[]∧(zCO doR [] p.code (zAu p grid L)).2=R:=by
    rw[List.drop_of_length_le (Nat.le_refl _)]at g6
    exact⟨(congrArg Prod.fst g6).symm,(congrArg Prod.snd g6).symm⟩
   have hSl:S.length=p.code.length:=by omega
   rw[← hSl,List.take_of_length_le (Nat.le_refl _)]at g5
   unfold zIY at hq
   rw[hS,if_pos hSl]at hq
   have hou:zBm p grid L=p.outs.map fun r=>R.getD r.toNat []:=by unfold zBm;rw[hR1.2]
   have hol:(zBm p grid L).length=p.outs.length:=by simp[zBm]
   simp(disch:=first|exact Xe|fail)only[M2,zAZ lc,hi,↓Xa,Xb,Xc,↓reduceIte,Nat.reduceLT,Nat.reduceEqDiff,Nat.reduceBEq,Nat.reduceLeDiff,Nat.reduceAdd]
   refine Settle.now ?_
   simp(disch:=first|exact Xe|fail)only[M2,zAY lo,↓Xa,Xb,Xc,↓reduceIte,Nat.reduceLT,Nat.reduceEqDiff,Nat.reduceBEq,Nat.reduceLeDiff,Nat.reduceAdd]
   refine zAO (fun s:Nat×AV×AHeap=>⟨[],[(2,.ptr p2 4 0),(7,.own b j 0 j true),(9,y),(13,s.2.1),(14,.int .i64 s.1)],s.2.2⟩)
    (fun s=>s.1≤p.outs.length∧zBI M 31 1 s.1 (GC ((zBm p grid L).take s.1)) s.2.1 s.2.2) (fun s=>p.outs.length-s.1) (0,.seq 0 [] true,M) (Settle.now rfl) ⟨Nat.zero_le _,zAh⟩ ?_
   rintro⟨m,z,M'⟩ ⟨q1,q2⟩
   dsimp only at q1 q2 ⊢
   have N2:=zBq q2 M2
   have Nb:=zBq q2 Mb
   by_cases hm:m<p.outs.length
   ·have hjo:=hr.2.1 _ (List.getElem_mem hm)
    obtain⟨w,hw⟩: ∃w:Nat,p.outs[m]=(w:Int):=⟨(p.outs[m]).toNat,by omega⟩
    have hwj:w<j:=by omega
    have hwR:w<R.length:=by omega
    have et:(zBm p grid L)[m]'(by omega)=R[w]:=by
     simp only[hou,List.getElem_map,hw]
     simp[List.getD_eq_getElem?_getD,List.getElem?_eq_getElem hwR]
    simp(disch:=first|exact Xe|fail)only[N2,zAY lo,hm,zBJ,zA3,hw,Nb,zA6,hwj,zH1,g3,zC2 g3 hwR,↓Xa,Xb,Xc,↓reduceIte,Nat.reduceLT,Nat.reduceEqDiff,Nat.reduceBEq,Nat.reduceLeDiff,Nat.reduceAdd]
    refine zFV (m:=1) q2 rfl zcB (by omega) (by omega) (by omega) fun z' M3 q3=>?_
    rw[← et,← zIr (by omega)]at q3
    simp(disch:=first|exact Xe|fail)only[↓Xa,Xb,Xc,↓reduceIte,Nat.reduceLT,Nat.reduceEqDiff,Nat.reduceBEq,Nat.reduceLeDiff,Nat.reduceAdd]
    exact Settle.now ⟨(m+1,z',M3),by dsimp only;omega,⟨hm,q3⟩,rfl⟩
   ·obtain rfl:m=p.outs.length:=by omega
    rw[← hol,List.take_of_length_le (Nat.le_refl _)]at q2
    simp(disch:=first|exact Xe|fail)only[N2,zAY lo,hm,↓Xa,Xb,Xc,↓reduceIte,Nat.reduceLT,Nat.reduceEqDiff,Nat.reduceBEq,Nat.reduceLeDiff,Nat.reduceAdd]
    refine Settle.now ?_
    simp(disch:=first|exact Xe|fail)only[zhI,↓Xa,Xb,Xc,↓reduceIte,Nat.reduceLT,Nat.reduceEqDiff,Nat.reduceBEq,Nat.reduceLeDiff,Nat.reduceAdd]
    obtain⟨M4,hg5,hl5⟩:=zBO g5 (((Le.refl H).updB hp2).updB hbH)
    obtain⟨M5,hg6,hl6⟩:=zBO q2 hl5
    exact SetR.dropTo hl6 (zHh hg5 hg6 hq)
theorem Settle.frzC{K:St→Prop}{D:List Nat}{E:Env}{H:AHeap}(r b:Nat){ty es ty' es':Nat}{cells cs:List AV}(cs':List AV)(hl:cs'.length=cs.length)(hw: ∀i(h:i<cs.length)(h':i<cs'.length),Wk (zCy b es cells (cs[i])) (cs'[i]))(hb:H b=some (.row ty es cells))(hr:H r=some (.row ty' es' cs))(hne:r≠b)(h:Settle K ⟨D,E.map (Fw.frz b es cells),(H.upd b none).upd r (some (.row ty' es' cs'))⟩):Settle K ⟨D,E,H⟩:=by
 refine Settle.join ?_
 intro N c a hc hok hr2
 have hc:c.H=H:=hc
 have hb':c.H b=some (.row ty es cells):=hc▸hb
 have ok1:=Ctx.drop_ok hok b
 have hH1:(c.drop b).H r=some (.row ty' es' cs):=by
  show(c.H.upd b none) r=_
  rw[zAA _ _ hne,hc];exact hr
 obtain⟨arr,k1,k2,k3⟩:=hok.blk r _ (hc▸hr)
 have l2:Later (c.drop b) ((c.drop b).put r (.row ty' es' cs') arr):=Ctx.put_later ok1 hH1 k1 (by omega) rfl
 have ok2:Ok ((c.drop b).put r (.row ty' es' cs') arr):=Ctx.put_ok ok1 hH1 k1 (by omega) rfl (by omega) fun i hi hi'=>hw i (by omega) hi _ _ (zF3 hok hb' _ _ (k3 i (by omega) hi'))
 have hw2:((c.drop b).put r (.row ty' es' cs') arr).w=c.w:=setRow_self _ _ _ _ _ k1
 refine⟨_,⟨D,E.map (Fw.frz b es cells),_⟩,?_,hw2,ok2,?_,(c.drop_later b).trans l2,h⟩
 ·show(c.H.upd b none).upd r _=_
  rw[hc]
 ·have hr':=hr2.later ((c.drop_later b).trans l2)
  refine⟨hr'.size,fun u=>?_,hr'.dlen,hr'.dmark⟩
  rw[Env.get_map _ rfl]
  exact(zJD hok hb' _ _ (hr2.tmp u)).later l2
abbrev rI(r:List Int):AV:=zB7 r false
def GI(g:List (List Int)):List AV:=g.map rI
theorem zG4(g:List (List Int)):(GI g).length=g.length:=by simp[GI]
theorem zcb{ty m j:Nat}{cells:List AV}{x:AV}{K:AV→Prop}(hl:cells.length=m)(hj:j<m)(hx:cells[j]? =some x):ldP none m j K (some (.row ty 1 cells))↔K x:=by
 have hj':j<cells.length:=by omega
 have e:(cells.drop j).take 1=[x]:=by
  rw[List.drop_eq_getElem_cons hj']
  rw[List.getElem?_eq_getElem hj']at hx;injection hx with hx
  simp[hx]
 have h2:j+1≤m:=by omega
 simp only[ldP,hl,h2,true_and,Option.getD_none,e]
 rfl
theorem zJN{ty m j:Nat}{g:List (List Int)}{K:AV→Prop}(hl:g.length=m)(hj:j<g.length):ldP none m j K (some (.row ty 1 (GI g)))↔K (rI (g[j])):=zcb (by rw[zG4,hl]) (by omega) (by simp[GI,hj])
theorem zKq{g:List (List Int)}{i:Nat}(h:i<g.length):GI (g.take (i+1))=GI (g.take i)++[rI (g[i])]:=by
 unfold GI;rw[List.take_succ_eq_append_getElem h,List.map_append];rfl
theorem zad{r:List Int}:[rI r].all AV.cell=true:=rfl
section
variable {zs ws:List Int} {t t':Bool} {k:Nat}
theorem zY5(hz:RB4 k zs)(hk:k≤1000000)(hbig:zs.length≤1000000):PFn Tryz.prog 180 [zB7 zs t] (rI (zs.map (- ·))):=by
 have h:=PFn.frozen (P:=Tryz.prog) (f:=180) (args:=[zB7 zs t]) fun H Q hq=>zTd hz hk hbig hq
 have e:rI (zs.map (- ·))=.seq zs.length (IC (zs.map (- ·))) false:=by simp
 rw[e];exact h
theorem zJd{c:Int}{k':Nat}(hz:RB4 k zs)(hc:Bd k' c)(hk:k+k'≤1000000)(hbig:zs.length≤1000000):PFn Tryz.prog 185 [zB7 zs t,zAl c] (rI (zs.map (c* ·))):=by
 have h:=PFn.frozen (P:=Tryz.prog) (f:=185) (args:=[zB7 zs t,zAl c]) fun H Q hq=>zPw hz hc hk hbig hq
 have e:rI (zs.map (c* ·))=.seq zs.length (IC (zs.map (c* ·))) false:=by simp
 rw[e];exact h
theorem zT1(hz:RB4 k zs)(hw:RB4 k ws)(hk:k≤1000000)(hl:zs.length=ws.length)(hbig:zs.length≤1000000):PFn Tryz.prog 181 [zB7 zs t,zB7 ws t'] (rI (zDe (· + ·) zs ws)):=by
 have h:=PFn.frozen1 (P:=Tryz.prog) (f:=182) (args:=[zB7 zs t,zB7 ws t']) fun H Q hq=>zOW hz hw hk hl hbig hq
 have e:rI (zDe (· + ·) zs ws)=.seq zs.length (IC (zDe (· + ·) zs ws)) false:=by rw[rI,zB7,zES hl]
 intro H Q hq
 refine zUu (by simp) ?_
 simp(disch:=first|exact Xe|fail)only[zeS,↓Xa,Xb,Xc,↓reduceIte,Nat.reduceLT,Nat.reduceEqDiff,Nat.reduceBEq,Nat.reduceLeDiff,Nat.reduceAdd]
 refine h.call ?_
 rw[e]at hq
 simp(disch:=first|exact Xe|fail)only[zcg,↓Xa,Xb,Xc,↓reduceIte,Nat.reduceLT,Nat.reduceEqDiff,Nat.reduceBEq,Nat.reduceLeDiff,Nat.reduceAdd]
 exact SetR.now hq
theorem zUb(hz:RB4 k zs)(hw:RB4 k ws)(hk:k≤1000000)(hl:zs.length=ws.length)(hbig:zs.length≤1000000):PFn Tryz.prog 183 [zB7 zs t,zB7 ws t'] (rI (zDe (· - ·) zs ws)):=by
 have h:=PFn.frozen1 (P:=Tryz.prog) (f:=184) (args:=[zB7 zs t,zB7 ws t']) fun H Q hq=>zNd hz hw hk hl hbig hq
 have e:rI (zDe (· - ·) zs ws)=.seq zs.length (IC (zDe (· - ·) zs ws)) false:=by rw[rI,zB7,zES hl]
 intro H Q hq
 refine zTs (by simp) ?_
 simp(disch:=first|exact Xe|fail)only[zck,↓Xa,Xb,Xc,↓reduceIte,Nat.reduceLT,Nat.reduceEqDiff,Nat.reduceBEq,Nat.reduceLeDiff,Nat.reduceAdd]
 refine h.call ?_
 rw[e]at hq
 simp(disch:=first|exact Xe|fail)only[zdP,↓Xa,Xb,Xc,↓reduceIte,Nat.reduceLT,Nat.reduceEqDiff,Nat.reduceBEq,Nat.reduceLeDiff,Nat.reduceAdd]
 exact SetR.now hq
theorem zKI{H:AHeap}{Q:AV→AHeap→Prop}{c:Int}(hz:RB4 k zs)(hc:Bd k c)(hk:k≤1000000)(hc0:c≠0)(hbig:zs.length≤1000000)
 (hq:(∀z,z∈zs→z%c=0)→Q (.tup [rI (zs.map (· / c)),.bool true]) H) (hn:(∃z,z∈zs∧z%c≠0)→Q (.tup [.seq 0 [] true,.bool false]) H):Run Tryz.prog 186 [zB7 zs t,zAl c] H Q:=by
 refine zU4 (by simp) ?_
 simp(disch:=first|exact Xe|fail)only[zap,zAE,↓Xa,Xb,Xc,↓reduceIte,Nat.reduceLT,Nat.reduceEqDiff,Nat.reduceBEq,Nat.reduceLeDiff,Nat.reduceAdd]
 refine zAD fun p1 hp1=>?_
 have n1:=hp1
 simp(disch:=first|exact Xe|fail)only[zAI,↓Xa,Xb,Xc,↓reduceIte,Nat.reduceLT,Nat.reduceEqDiff,Nat.reduceBEq,Nat.reduceLeDiff,Nat.reduceAdd]
 have hle: ∀{x:ABlk},Le H (H.upd p1 (some x)):=(Le.refl H).updB n1
 have e0:decide (((0:Nat):Int)=((0:Nat):Int))=true:=rfl
 have e20:decide (((20:Nat):Int)=((0:Nat):Int))=false:=rfl
 refine zAM (zLR hz hc hk hc0 hbig (fun h y M hg=>?_) fun h=>?_)
 ·simp(disch:=first|exact Xe|fail)only[zAF,e0,zX8,↓Xa,Xb,Xc,↓reduceIte,Nat.reduceLT,Nat.reduceEqDiff,Nat.reduceBEq,Nat.reduceLeDiff,Nat.reduceAdd]
  obtain⟨M2,hg2,hl⟩:=zBO hg hle
  refine SetR.dropTo hl ?_
  have e:rI (zs.map (· / c))=.seq zs.length (IC (zs.map (· / c))) false:=by simp
  have hq':=hq h
  rw[e]at hq'
  generalize IC (zs.map (· / c))=cells at*
  rcases hg2 with⟨h0,h1,rfl,rfl⟩|⟨h0,hln,b,hb,rfl,rfl⟩
  ·rw[h0,h1]at hq'
   exact SetR.loose (SetR.now hq')
  ·refine SetR.frz b (zAC _ _ _) ?_
   rw[zAP,zAU _ hb]
   have e:Fw.frz b 2 cells (.tup [.own b (zs.length*2) 0 zs.length false,.bool true])=.tup [.seq zs.length cells false,.bool true]:=by simp[frz,zF0,zCy,hln,List.take_of_length_le]
   rw[e];exact SetR.now hq'
 ·simp(disch:=first|exact Xe|fail)only[zAF,e20,zX8,↓Xa,Xb,Xc,↓reduceIte,Nat.reduceLT,Nat.reduceEqDiff,Nat.reduceBEq,Nat.reduceLeDiff,Nat.reduceAdd]
  exact SetR.dropTo hle (SetR.now (hn h))
end
theorem zJb{zs:List Int}{t:Bool}{k:Nat}{c:Int}(hz:RB4 k zs)(hc:Bd k c)(hk:k≤1000000)(hc0:c≠0)(hbig:zs.length≤1000000)(h: ∀z,z∈zs→z%c=0):PFn Tryz.prog 186 [zB7 zs t,zAl c] (.tup [rI (zs.map (· / c)),.bool true]):=
 fun H Q hq=>zKI hz hc hk hc0 hbig (fun _=>hq) fun⟨z,hm,hne⟩=>absurd (h z hm) hne
theorem zM2{zs:List Int}{t:Bool}{k:Nat}{c:Int}(hz:RB4 k zs)(hc:Bd k c)(hk:k≤1000000)(hc0:c≠0)(hbig:zs.length≤1000000)(h: ¬ ∀z,z∈zs→z%c=0):PFn Tryz.prog 186 [zB7 zs t,zAl c] (.tup [.seq 0 [] true,.bool false]):=
 fun H Q hq=>zKI hz hc hk hc0 hbig (fun hh=>absurd hh h) fun _=>hq
def ziQ:List AV:=[.fn (.func 180) [] [],.fn (.func 181) [] [],.fn (.func 183) [] [],.fn (.func 185) [] [],.fn (.func 186) [] []]
def zQl:AV:=.agg ziQ
theorem zEX:zQl.cells=some [.fn (.func 180) [] [],.fn (.func 181) [] [],.fn (.func 183) [] [],.fn (.func 185) [] [],.fn (.func 186) [] []]:=id rfl
theorem zHx:AV.agg [.fn (.func 180) [] [],.fn (.func 181) [] [],.fn (.func 183) [] [],.fn (.func 185) [] [],.fn (.func 186) [] []]=zQl:=id rfl
theorem zZY:PFn Tryz.prog 111 [] zQl:=by
 intro H Q hq
 refine zUG (by simp) ?_
 simp(disch:=first|exact Xe|fail)only[zct,↓Xa,Xb,Xc,↓reduceIte,Nat.reduceLT,Nat.reduceEqDiff,Nat.reduceBEq,Nat.reduceLeDiff,Nat.reduceAdd]
 refine zAD fun p1 hp1=>?_
 have n1:=hp1
 simp(disch:=first|exact Xe|fail)only[zIk,↓Xa,Xb,Xc,↓reduceIte,Nat.reduceLT,Nat.reduceEqDiff,Nat.reduceBEq,Nat.reduceLeDiff,Nat.reduceAdd]
 simp(disch:=first|exact Xe|fail)only[zEX,zHx,zbG,↓Xa,Xb,Xc,↓reduceIte,Nat.reduceLT,Nat.reduceEqDiff,Nat.reduceBEq,Nat.reduceLeDiff,Nat.reduceAdd]
 exact SetR.dropTo ((Le.refl H).updB n1) (SetR.now hq)
theorem zZd{H:AHeap}{Q:AV→AHeap→Prop}{b N k L ty:Nat}{t:Bool}{regs:List (List Int)}{i:Ins}(hb:H b=some (.row ty 1 (GI regs)))(hN:regs.length=N)(hm:zCe (N:Int) i)(hz:zDg k L regs)(hk:k≤100000)(hL:L≤100000)
 (hq1: ∀x,doR i (regs.getD i.a.toNat []) (regs.getD i.b.toNat [])=some x→RB4 (k+3) x→x.length=L→Q (.tup [rI x,.bool true]) H)
 (hq2:doR i (regs.getD i.a.toNat []) (regs.getD i.b.toNat [])=none→Q (.tup [.seq 0 [] true,.bool false]) H):
 Run Tryz.prog 179 [zQl,.own b N 0 N t,zFh i] H Q:=by
 have hmb:=zIE hm
 have hma:=hm.2.2
 have h18:1≤i.op∧i.op≤8:=⟨hm.1,hm.2.1⟩
 obtain⟨a,ha⟩: ∃a:Nat,i.a=(a:Int):=⟨i.a.toNat,by omega⟩
 obtain⟨c,hc⟩: ∃c:Nat,i.b=(c:Int):=⟨i.b.toNat,by omega⟩
 have haN:a<regs.length:=by omega
 have hcN:c<regs.length:=by omega
 have ga:regs.getD i.a.toNat []=regs[a]:=by rw[ha,Int.toNat_natCast,List.getD_eq_getElem?_getD,List.getElem?_eq_getElem haN];rfl
 have gc:regs.getD i.b.toNat []=regs[c]:=by rw[hc,Int.toNat_natCast,List.getD_eq_getElem?_getD,List.getElem?_eq_getElem hcN];rfl
 rw[ga,gc]at hq1 hq2
 obtain⟨lx,bx⟩:=hz _ (List.getElem_mem haN)
 obtain⟨ly,by'⟩:=hz _ (List.getElem_mem hcN)
 have hl:(GI regs).length=N:=by rw[zG4,hN]
 have haN':a<N:=by omega
 have hcN':c<N:=by omega
 refine zUD (by simp) ?_
 simp(disch:=first|exact Xe|fail)only[zbM,zEX,↓Xa,Xb,Xc,↓reduceIte,Nat.reduceLT,Nat.reduceEqDiff,Nat.reduceBEq,Nat.reduceLeDiff,Nat.reduceAdd]
 refine zAD fun p1 n1=>?_
 have a1:=zAW hb n1
 simp(disch:=first|exact Xe|fail)only[zAr,↓Xa,Xb,Xc,↓reduceIte,Nat.reduceLT,Nat.reduceEqDiff,Nat.reduceBEq,Nat.reduceLeDiff,Nat.reduceAdd]
 refine zAD fun p2 hp2=>?_
 have n2:=(zAB.1 hp2).2
 have a2:=zAW hb n2
 have d21:=(zAB.1 hp2).1
 simp(disch:=first|exact Xe|fail)only[ha,hc,hb,zA6,hl,haN',hcN',zJN hN haN,zJN hN hcN,↓Xa,Xb,Xc,↓reduceIte,Nat.reduceLT,Nat.reduceEqDiff,Nat.reduceBEq,Nat.reduceLeDiff,Nat.reduceAdd]
 generalize regs[a]=x at*
 generalize regs[c]=y at*
 have fin: ∀{r:AV}{x1 x2:ABlk},Q r H→SetR Q r ((H.upd p1 (some x1)).upd p2 (some x2)):=fun h=>
  SetR.dropTo (((Le.refl H).updB n1).updB n2) (SetR.now h)
 have ok1: ∀{z:List Int},doR i x y=some z→RB4 (k+3) z→Q (.tup [rI z,.bool true]) H:=fun h hb=>hq1 _ h hb ((zG2 (lx.trans ly.symm) h).trans lx)
 have e2': ∀n:Nat,i.op=(n:Int)→decide (i.op=((n:Nat):Int))=true:=fun n h=>decide_eq_true h
 have no: ∀n:Nat,i.op≠(n:Int)→decide (i.op=((n:Nat):Int))=false:=fun n h=>decide_eq_false h
 by_cases o2:i.op=2
 ·simp(disch:=first|exact Xe|fail)only[zAF,e2' 2 o2,↓Xa,Xb,Xc,↓reduceIte,Nat.reduceLT,Nat.reduceEqDiff,Nat.reduceBEq,Nat.reduceLeDiff,Nat.reduceAdd]
  refine(zY5 bx (by omega) (by omega)).call ?_
  simp(disch:=first|exact Xe|fail)only[zGX,↓Xa,Xb,Xc,↓reduceIte,Nat.reduceLT,Nat.reduceEqDiff,Nat.reduceBEq,Nat.reduceLeDiff,Nat.reduceAdd]
  exact fin (ok1 (by rw[doR,if_pos o2]) (bx.map fun z hz=>hz.neg.mono (by omega)))
 have e2:=no 2 o2
 by_cases o3:i.op=3
 ·simp(disch:=first|exact Xe|fail)only[zAF,e2,e2' 3 o3,↓Xa,Xb,Xc,↓reduceIte,Nat.reduceLT,Nat.reduceEqDiff,Nat.reduceBEq,Nat.reduceLeDiff,Nat.reduceAdd]
  refine(zT1 bx by' (by omega) (lx.trans ly.symm) (by omega)).call ?_
  simp(disch:=first|exact Xe|fail)only[zGX,↓Xa,Xb,Xc,↓reduceIte,Nat.reduceLT,Nat.reduceEqDiff,Nat.reduceBEq,Nat.reduceLeDiff,Nat.reduceAdd]
  exact fin (ok1 (by rw[doR,if_neg o2,if_pos o3]) (bx.zip by' (lx.trans ly.symm) fun z w hz hw=>(hz.add hw).mono (by omega)))
 have e3:=no 3 o3
 by_cases o4:i.op=4
 ·simp(disch:=first|exact Xe|fail)only[zAF,e2,e3,e2' 4 o4,↓Xa,Xb,Xc,↓reduceIte,Nat.reduceLT,Nat.reduceEqDiff,Nat.reduceBEq,Nat.reduceLeDiff,Nat.reduceAdd]
  refine(zUb bx by' (by omega) (lx.trans ly.symm) (by omega)).call ?_
  simp(disch:=first|exact Xe|fail)only[zGX,↓Xa,Xb,Xc,↓reduceIte,Nat.reduceLT,Nat.reduceEqDiff,Nat.reduceBEq,Nat.reduceLeDiff,Nat.reduceAdd]
  exact fin (ok1 (by rw[doR,if_neg o2,if_neg o3,if_pos o4]) (bx.zip by' (lx.trans ly.symm) fun z w hz hw=>(hz.sub hw).mono (by omega)))
 have e4:=no 4 o4
 have hcst:=zXL hm
 have h3:=hm.2.2.2.2.2.2
 rw[if_neg (by omega)]at h3
 have hcm:5≤i.op→RB4 (k+3) (x.map (cst i* ·)):=fun h5=>bx.map fun z hz=>((zHv hm h5).mul hz).mono (by omega)
 have hcd:RB4 (k+3) (x.map (· / cst i)):=bx.map fun z hz=>hz.ediv.mono (by omega)
 by_cases o5:i.op=5
 ·have hcs:cst i=i.c:=by unfold cst;rw[if_pos (.inl o5)]
  rw[if_pos (.inl o5)]at h3
  simp(disch:=first|exact Xe|fail)only[zAF,e2,e3,e4,e2' 5 o5,↓Xa,Xb,Xc,↓reduceIte,Nat.reduceLT,Nat.reduceEqDiff,Nat.reduceBEq,Nat.reduceLeDiff,Nat.reduceAdd]
  refine PFn.dcall (zHI (n:=i.c) (by omega)) ?_
  simp(disch:=first|exact Xe|fail)only[↓Xa,Xb,Xc,↓reduceIte,Nat.reduceLT,Nat.reduceEqDiff,Nat.reduceBEq,Nat.reduceLeDiff,Nat.reduceAdd]
  refine(zJd (k':=2) bx (Bd.i64 (n:=i.c) (by omega)) (by omega) (by omega)).call ?_
  rw[← hcs]
  simp(disch:=first|exact Xe|fail)only[zGX,↓Xa,Xb,Xc,↓reduceIte,Nat.reduceLT,Nat.reduceEqDiff,Nat.reduceBEq,Nat.reduceLeDiff,Nat.reduceAdd]
  exact fin (ok1 (by rw[doR,if_neg o2,if_neg o3,if_neg o4,if_pos (.inl o5)]) (hcm (by omega)))
 have e5:=no 5 o5
 by_cases o7:i.op=7
 ·have hcs:cst i=2^i.c.toNat:=by unfold cst;rw[if_neg (by omega)]
  rw[if_neg (by omega),if_pos (.inl o7)]at h3
  obtain⟨m,hmc⟩: ∃m:Nat,i.c=(m:Int):=⟨i.c.toNat,by omega⟩
  rw[hmc,Int.toNat_natCast]at hcs
  have hcb:=zHv hm (by omega)
  rw[hcs]at hcb
  simp(disch:=first|exact Xe|fail)only[zAF,e2,e3,e4,e5,e2' 7 o7,hmc,↓Xa,Xb,Xc,↓reduceIte,Nat.reduceLT,Nat.reduceEqDiff,Nat.reduceBEq,Nat.reduceLeDiff,Nat.reduceAdd]
  refine PFn.dcall (zH8 (n:=m) (by omega)) ?_
  simp(disch:=first|exact Xe|fail)only[↓Xa,Xb,Xc,↓reduceIte,Nat.reduceLT,Nat.reduceEqDiff,Nat.reduceBEq,Nat.reduceLeDiff,Nat.reduceAdd]
  refine(zJd bx hcb (by omega) (by omega)).call ?_
  rw[← hcs]
  simp(disch:=first|exact Xe|fail)only[zGX,↓Xa,Xb,Xc,↓reduceIte,Nat.reduceLT,Nat.reduceEqDiff,Nat.reduceBEq,Nat.reduceLeDiff,Nat.reduceAdd]
  exact fin (ok1 (by rw[doR,if_neg o2,if_neg o3,if_neg o4,if_pos (.inr o7)]) (hcm (by omega)))
 have e7:=no 7 o7
 by_cases o6:i.op=6
 ·have hcs:cst i=i.c:=by unfold cst;rw[if_pos (.inr o6)]
  rw[if_pos (.inr o6)]at h3
  have hbc:Bd (k+3) i.c:=(Bd.i64 (n:=i.c) (by omega)).mono (by omega)
  have hdo:doR i x y=if ∀z,z∈x→z%i.c=0 then some (x.map (· / i.c))else none:=by rw[doR,if_neg o2,if_neg o3,if_neg o4,if_neg (by omega),if_pos (.inl o6),hcs]
  rw[hcs]at hcd
  simp(disch:=first|exact Xe|fail)only[zAF,e2,e3,e4,e5,e7,e2' 6 o6,↓Xa,Xb,Xc,↓reduceIte,Nat.reduceLT,Nat.reduceEqDiff,Nat.reduceBEq,Nat.reduceLeDiff,Nat.reduceAdd]
  refine PFn.dcall (zHI (n:=i.c) (by omega)) ?_
  simp(disch:=first|exact Xe|fail)only[↓Xa,Xb,Xc,↓reduceIte,Nat.reduceLT,Nat.reduceEqDiff,Nat.reduceBEq,Nat.reduceLeDiff,Nat.reduceAdd]
  by_cases hall: ∀z,z∈x→z%i.c=0
  ·refine PFn.dcall (zJb (bx.mono (by omega)) hbc (by omega) h3.2.1 (by omega) hall) ?_
   simp(disch:=first|exact Xe|fail)only[zGX,↓Xa,Xb,Xc,↓reduceIte,Nat.reduceLT,Nat.reduceEqDiff,Nat.reduceBEq,Nat.reduceLeDiff,Nat.reduceAdd]
   exact fin (ok1 (by rw[hdo,if_pos hall]) hcd)
  ·refine PFn.dcall (zM2 (bx.mono (by omega)) hbc (by omega) h3.2.1 (by omega) hall) ?_
   simp(disch:=first|exact Xe|fail)only[zGX,↓Xa,Xb,Xc,↓reduceIte,Nat.reduceLT,Nat.reduceEqDiff,Nat.reduceBEq,Nat.reduceLeDiff,Nat.reduceAdd]
   exact fin (hq2 (by rw[hdo,if_neg hall]))
 have e6:=no 6 o6
 by_cases o8:i.op=8
 ·have hcs:cst i=2^i.c.toNat:=by unfold cst;rw[if_neg (by omega)]
  rw[if_neg (by omega),if_pos (.inr o8)]at h3
  obtain⟨m,hmc⟩: ∃m:Nat,i.c=(m:Int):=⟨i.c.toNat,by omega⟩
  rw[hmc,Int.toNat_natCast]at hcs
  have hcb:=zHv hm (by omega)
  rw[hcs]at hcb hcst hcd
  have hdo:doR i x y=if ∀z,z∈x→z%2^m=0 then some (x.map (· / 2^m))else none:=by rw[doR,if_neg o2,if_neg o3,if_neg o4,if_neg (by omega),if_pos (.inr o8),hcs]
  simp(disch:=first|exact Xe|fail)only[zAF,e2,e3,e4,e5,e7,e6,e2' 8 o8,hmc,↓Xa,Xb,Xc,↓reduceIte,Nat.reduceLT,Nat.reduceEqDiff,Nat.reduceBEq,Nat.reduceLeDiff,Nat.reduceAdd]
  refine PFn.dcall (zH8 (n:=m) (by omega)) ?_
  simp(disch:=first|exact Xe|fail)only[↓Xa,Xb,Xc,↓reduceIte,Nat.reduceLT,Nat.reduceEqDiff,Nat.reduceBEq,Nat.reduceLeDiff,Nat.reduceAdd]
  by_cases hall: ∀z,z∈x→z%2^m=0
  ·refine PFn.dcall (zJb (k:=k+3) (bx.mono (by omega)) (hcb.mono (by omega)) (by omega) hcst (by omega) hall) ?_
   simp(disch:=first|exact Xe|fail)only[zGX,↓Xa,Xb,Xc,↓reduceIte,Nat.reduceLT,Nat.reduceEqDiff,Nat.reduceBEq,Nat.reduceLeDiff,Nat.reduceAdd]
   exact fin (ok1 (by rw[hdo,if_pos hall]) hcd)
  ·refine PFn.dcall (zM2 (k:=k+3) (bx.mono (by omega)) (hcb.mono (by omega)) (by omega) hcst (by omega) hall) ?_
   simp(disch:=first|exact Xe|fail)only[zGX,↓Xa,Xb,Xc,↓reduceIte,Nat.reduceLT,Nat.reduceEqDiff,Nat.reduceBEq,Nat.reduceLeDiff,Nat.reduceAdd]
   exact fin (hq2 (by rw[hdo,if_neg hall]))
 have e8:=no 8 o8
 simp(disch:=first|exact Xe|fail)only[zAF,e2,e3,e4,e5,e7,e6,e8,zGX,↓Xa,Xb,Xc,↓reduceIte,Nat.reduceLT,Nat.reduceEqDiff,Nat.reduceBEq,Nat.reduceLeDiff,Nat.reduceAdd]
 exact fin (ok1 (by rw[doR,if_neg o2,if_neg o3,if_neg o4,if_neg (by omega),if_neg (by omega)]) (bx.mono (by omega)))
theorem zJv{H M2:AHeap}{b tyr esr ty n:Nat}{rc cells:List AV}{x x' y:AV}(hb:H b=none)(hg:zBI (H.upd b (some (.row tyr esr rc))) ty 1 (n+1) (cells++[x]) y M2)(hx:Wk (zCy b esr rc x) x')(hc: ∀c,c∈cells→zCy b esr rc c=c):
 ∃M3,zBI H ty 1 (n+1) (cells++[x']) y M3∧frz b esr rc y=y∧∀(K:St→Prop)(D:List Nat)(E:Env),E.map (Fw.frz b esr rc)=E→Settle K ⟨D,E,M3⟩→Settle K ⟨D,E,M2⟩:=by
 rcases hg with⟨_,h,_⟩|⟨_,hl,b2,hb2,rfl,rfl⟩
 ·simp at h
 ·obtain⟨ne0,hb2'⟩:=zAB.1 hb2
  have ne:b2≠b:=ne0
  refine⟨_,.inr ⟨by omega,by simpa using hl,b2,hb2',rfl,rfl⟩,by simp[frz,zF0,zCy,ne],fun K D E he h=>?_⟩
  refine Settle.frzC b2 b (cells++[x']) (by simp) (fun i h1 h2=>?_) (by rw[zAA _ _ (Ne.symm ne),zAC]) (zAC _ _ _) ne ?_
  ·by_cases hi:i<cells.length
   ·rw[List.getElem_append_left hi,List.getElem_append_left hi,hc _ (List.getElem_mem hi)]
    exact Wk.refl
   ·have hi':i=cells.length:=by simp at h1;omega
    subst hi'
    simpa using hx
  ·rw[he,zAw _ _ _ ne,zAP,zAP,zAU _ hb]
   exact h
def zA0(n:Nat):List (List Int):=(List.range n).map fun i=>(List.replicate n 0).set i 1
theorem zU9{n:Nat}(hn:n≤8):PFn Tryz.prog 131 [.int .i64 (n:Int)] (.seq n (GI (zA0 n)) false):=by
 refine PFn.frozen (ty:=29) (es:=1) (n:=n) (cells:=GI (zA0 n)) fun H Q hq=>?_
 have hul:(zA0 n).length=n:=by simp[zA0]
 refine zVE (by simp) ?_
 simp(disch:=first|exact Xe|fail)only[zaX,↓Xa,Xb,Xc,↓reduceIte,Nat.reduceLT,Nat.reduceEqDiff,Nat.reduceBEq,Nat.reduceLeDiff,Nat.reduceAdd]
 refine zAO (fun s:Nat×AV×AHeap=>⟨[],[(0,.int .i64 (n:Int)),(3,s.2.1),(6,.int .i64 (n:Int)),(7,.int .i64 s.1)],s.2.2⟩) (fun s=>s.1≤n∧zBI H 29 1 s.1 (GI ((zA0 n).take s.1)) s.2.1 s.2.2) (fun s=>n-s.1) (0,.seq 0 [] true,H) (Settle.now rfl) ⟨Nat.zero_le _,zAh⟩ ?_
 rintro⟨i,y,M⟩ ⟨h1,hg1⟩
 dsimp only at h1 hg1 ⊢
 by_cases hi:i<n
 ·have hiu:i<(zA0 n).length:=by omega
  simp(disch:=first|exact Xe|fail)only[hi,zN6 (show n≤100000 by omega),↓Xa,Xb,Xc,↓reduceIte,Nat.reduceLT,Nat.reduceEqDiff,Nat.reduceBEq,Nat.reduceLeDiff,Nat.reduceAdd]
  intro b hb
  refine(zHI (n:=1) (by omega)).call ?_
  have hll:(List.replicate n (0:Int)).length=n:=by simp
  simp(disch:=first|exact Xe|fail)only[hi,zAE,zMB hll hi,↓Xa,Xb,Xc,↓reduceIte,Nat.reduceLT,Nat.reduceEqDiff,Nat.reduceBEq,Nat.reduceLeDiff,Nat.reduceAdd]
  refine⟨by rw[zBU,hll],?_⟩
  refine zFV (m:=1) (zCf hg1 hb) rfl rfl (by omega) (by omega) (by omega) fun y' M2 hg4=>?_
  have eu:(zA0 n)[i]=(List.replicate n 0).set i 1:=by simp[zA0]
  have hlr:((List.replicate n (0:Int)).set i 1).length=n:=by simp
  obtain⟨M3,hg5,hf,hs⟩:=zJv (x':=rI ((zA0 n)[i])) (zCY hg1 hb) hg4 (by
   rw[eu]
   have e:zCy b 2 (IC ((List.replicate n 0).set i 1)) (.own b (n*2) 0 n true)=zB7 ((List.replicate n 0).set i 1) true:=by
    simp only[zCy,zB7,hlr]
    rw[if_pos trivial,if_pos ⟨by rw[zBU,hlr],.inr (by omega)⟩,List.drop_zero,List.take_of_length_le (by rw[zBU,hlr];exact Nat.le_refl _)]
   rw[e];exact Wk.l0) (fun c hc=>by
   obtain⟨r,_,rfl⟩:=List.mem_map.1 hc;rfl)
  rw[← zKq hiu]at hg5
  simp(disch:=first|exact Xe|fail)only[↓Xa,Xb,Xc,↓reduceIte,Nat.reduceLT,Nat.reduceEqDiff,Nat.reduceBEq,Nat.reduceLeDiff,Nat.reduceAdd]
  refine hs _ _ _ (by simp only[Env.map,List.map_cons,List.map_nil,hf];rfl) (Settle.now ⟨(i+1,y',M3),by dsimp only;omega,⟨by dsimp only;omega,hg5⟩,rfl⟩)
 ·obtain rfl:i=n:=by omega
  rw[List.take_of_length_le (by omega)]at hg1
  simp(disch:=first|exact Xe|fail)only[hi,↓Xa,Xb,Xc,↓reduceIte,Nat.reduceLT,Nat.reduceEqDiff,Nat.reduceBEq,Nat.reduceLeDiff,Nat.reduceAdd]
  refine Settle.now ?_
  simp(disch:=first|exact Xe|fail)only[zdG,↓Xa,Xb,Xc,↓reduceIte,Nat.reduceLT,Nat.reduceEqDiff,Nat.reduceBEq,Nat.reduceLeDiff,Nat.reduceAdd]
  exact SetR.now (hq _ _ hg1)
def zBF(to a c:Int):Ins:=
 if c=1 then⟨1,to,a,0,0⟩else if c= -1 then⟨2,to,a,0,0⟩else if c=2 then⟨7,to,a,0,1⟩else if c=4 then⟨7,to,a,0,2⟩else if c=8 then⟨7,to,a,0,3⟩else if c=16 then⟨7,to,a,0,4⟩else⟨5,to,a,0,c⟩
def zGS(code:List Ins)(i:Ins):List Ins:=if i.op=1∧i.to=i.a then code else code++[i]
def zFF(to c:Int):Nat→Int→List Ins→List Ins
 |0,_,code=>code
 |n+1,a,code=>zFF to c n to (zGS code (zBF to a c))
def zHQ(k:Nat)(to term A B:Int)(fr:Int)(j:Nat)(code:List Ins):List Ins:=
 if B=1∨(B= -1∧(k-1-j)%2=0)then zGS (zGS code (zBF to fr A)) ⟨3,to,to,j,0⟩
 else if B= -1 then zGS (zGS code (zBF to fr A)) ⟨4,to,to,j,0⟩
 else zGS (zFF term B (k-1-j) j (zGS code (zBF to fr A))) ⟨3,to,to,term,0⟩
def zHJ(k:Nat)(to term A B:Int):Nat→Int→List Ins→List Ins
 |0,_,code=>code
 |j+1,fr,code=>zHJ k to term A B j to (zHQ k to term A B fr j code)
def zDY(k:Nat)(term to:Int)(A B:Int)(code:List Ins):List Ins:=
 if k=1 then code else if A=0∧B=0 then zGS code ⟨4,to,0,0,0⟩else if A=0 then zFF to B (k-1) 0 code
 else if B=0 then zFF to A (k-1) ((k-1:Nat):Int) code else zHJ k to term A B (k-1) ((k-1:Nat):Int) code
def zFo(k m:Nat):List Pt→Nat→List Ins→List Ins
 |[],_,code=>code
 |q::l,i,code=>zFo k m l (i+1) (zDY k ((k+m:Nat):Int) ((k+i:Nat):Int) q.a q.b code)
def zIi(k i:Nat):Int:=if k=1 then 0 else((k+i:Nat):Int)
def zB5(k:Nat)(l:List Pt):PR:=⟨k,((k+l.length+1:Nat):Int),zFo k l.length l 0 [],(List.range l.length).map (zIi k)⟩
def zHG(code:List Ins)(r r':List Int):Prop:=(zCO doZ 0 code r).1.length=code.length∧(zCO doZ 0 code r).2=r'
theorem zVY{r:List Int}:zHG [] r r:=⟨rfl,rfl⟩
theorem zGH: ∀{code:List Ins}{r R:List Int}{i:Ins}{x:Int},zHG code r R→doZ i (R.getD i.a.toNat 0) (R.getD i.b.toNat 0)=some x→zHG (code++[i]) r (R.set i.to.toNat x)
 |[],r,R,i,x,⟨_,h⟩,hx=>by
  have h':r=R:=h
  subst h'
  show zHG [i] r _
  unfold zHG zCO
  rw[hx]
  exact⟨rfl,rfl⟩
 |c::code,r,R,i,x,h,hx=>by
  unfold zHG zCO at h
  show zHG (c::(code++[i])) r _
  unfold zHG zCO
  cases hc:doZ c (r.getD c.a.toNat 0) (r.getD c.b.toNat 0)with
  |none=>rw[hc]at h;simp at h
  |some y=>
   rw[hc]at h
   dsimp only at h ⊢
   have ih:=zGH (code:=code) (r:=r.set c.to.toNat y) (R:=R) ⟨by simpa using h.1,h.2⟩ hx
   exact⟨by simp only[List.length_cons];rw[ih.1],ih.2⟩
theorem zVA{l:List Int}{k:Nat}(h:k<l.length):l.set k (l.getD k 0)=l:=by
 refine List.ext_getElem (by simp) fun i h1 h2=>?_
 rw[List.getElem_set]
 split
 ·rename_i e;subst e;rw[List.getD_eq_getElem?_getD,List.getElem?_eq_getElem h];rfl
 ·rfl
theorem zPs{to a c x:Int}{y:Int}(h0:c≠0)(h1: -16≤c)(h2:c≤16):doZ (zBF to a c) x y=some (x*c):=by
 unfold zBF
 repeat' split
 all_goals subst_vars
 all_goals simp[doZ,cst]
 all_goals first|omega|exact Int.mul_comm _ _
theorem zQ6{to a c:Int}:(zBF to a c).to=to∧(zBF to a c).a=a∧(zBF to a c).b=0:=by
 unfold zBF
 repeat' split
 all_goals exact⟨rfl,rfl,rfl⟩
theorem zUQ{to a c:Int}(h:(zBF to a c).op=1):c=1:=by
 unfold zBF at h
 split at h
 ·assumption
 ·repeat' split at h
  all_goals cases h
theorem zHm{code:List Ins}{r R:List Int}{to a c:Int}(h:zHG code r R)(h0:c≠0)(h1: -16≤c)(h2:c≤16)(ht:to.toNat<R.length):zHG (zGS code (zBF to a c)) r (R.set to.toNat (R.getD a.toNat 0*c)):=by
 obtain⟨e1,e2,_⟩:=zQ6 (to:=to) (a:=a) (c:=c)
 unfold zGS
 split
 ·rename_i hh
  obtain rfl:=zUQ hh.1
  have:to=a:=by rw[← e1,← e2];exact hh.2
  subst this
  rw[Int.mul_one,zVA ht];exact h
 ·have:=zGH (i:=zBF to a c) (x:=R.getD a.toNat 0*c) h (by rw[e2];exact zPs h0 h1 h2)
  rwa[e1]at this
theorem zE9{to c:Int}(h0:c≠0)(h1: -16≤c)(h2:c≤16): ∀(n:Nat)(a:Int){code:List Ins}{r R:List Int},zHG code r R→to.toNat<R.length→zHG (zFF to c n a code) r (if n=0 then R else R.set to.toNat (R.getD a.toNat 0*c^n))
 |0,a,code,r,R,h,ht=>h
 |n+1,a,code,r,R,h,ht=>by
  have ih:=zE9 h0 h1 h2 n to (zHm (a:=a) h h0 h1 h2 ht) (by simpa using ht)
  rw[if_neg (by omega)]
  unfold zFF
  split at ih
  ·rename_i e;subst e
   rw[Int.pow_succ,Int.pow_zero,Int.one_mul];exact ih
  ·have e:(R.set to.toNat (R.getD a.toNat 0*c)).getD to.toNat 0=R.getD a.toNat 0*c:=by rw[zBM ht,if_pos rfl]
   rw[e,List.set_set,Int.mul_assoc,Int.mul_comm c,← Int.pow_succ]at ih
   exact ih
def zN4(A B:Int)(xs:List Int):Nat→Int
 |0=>0
 |p+1=>zN4 A B xs p*A+xs.getD (xs.length-1-p) 0*B^p
theorem zMd{A B:Int}{xs:List Int}: ∀p,p≤xs.length→A^(xs.length-p)*zN4 A B xs p=zFA A B xs xs.length-zFA A B xs (xs.length-p)
 |0,_=>by simp[zN4]
 |p+1,h=>by
  have ih:=zMd (A:=A) (B:=B) (xs:=xs) p (by omega)
  generalize hm:xs.length-(p+1)=m at*
  have e:xs.length-p=m+1:=by omega
  rw[e,zFA,Int.pow_succ]at ih
  have e2:xs.length-1-p=m:=by omega
  have e3:xs.length-1-m=p:=by omega
  rw[zN4,e2]
  rw[e3]at ih
  have e4:A^m*(zN4 A B xs p*A+xs.getD m 0*B^p)=A^m*A*zN4 A B xs p+xs.getD m 0*(A^m*B^p):=by
   rw[Int.mul_add]
   congr 1
   ·rw[Int.mul_assoc,Int.mul_comm A]
   ·rw[Int.mul_left_comm]
  rw[e4,ih];omega
theorem zSc{A B:Int}{xs:List Int}:zN4 A B xs xs.length=zFA A B xs xs.length:=by
 have:=zMd (A:=A) (B:=B) (xs:=xs) xs.length (Nat.le_refl _)
 rw[Nat.sub_self,Int.pow_zero,Int.one_mul,zFA]at this
 omega
def Holds(xs R:List Int)(N:Nat):Prop:=R.length=N∧∀j,j<xs.length→R.getD j 0=xs.getD j 0
theorem Holds.set{xs R:List Int}{N t:Nat}{x:Int}(h:Holds xs R N)(ht:xs.length≤t):Holds xs (R.set t x) N:=by
 refine⟨by rw[List.length_set,h.1],fun j hj=>?_⟩
 rw[← h.2 j hj,List.getD_eq_getElem?_getD,List.getD_eq_getElem?_getD,List.getElem?_set_ne (by omega)]
theorem zDM{l:List Int}{j t:Nat}{x:Int}(h:t≠j):(l.set t x).getD j 0=l.getD j 0:=by
 rw[List.getD_eq_getElem?_getD,List.getD_eq_getElem?_getD,List.getElem?_set_ne h]
theorem zSp{n:Nat}(h:n%2=0):(-1:Int)^n=1:=by
 obtain⟨m,rfl⟩: ∃m,n=2*m:=⟨n / 2,by omega⟩
 rw[Int.pow_mul];simp[Int.one_pow]
theorem zZw{n:Nat}(h:n%2≠0):(-1:Int)^n= -1:=by
 obtain⟨m,rfl⟩: ∃m,n=2*m+1:=⟨n / 2,by omega⟩
 rw[Int.pow_succ,Int.pow_mul];simp[Int.one_pow]
theorem zFz{code:List Ins}{r R:List Int}{i:Ins}{x:Int}(h:zHG code r R)(h1:i.op≠1)(hx:doZ i (R.getD i.a.toNat 0) (R.getD i.b.toNat 0)=some x):zHG (zGS code i) r (R.set i.to.toNat x):=by
 unfold zGS
 rw[if_neg (fun h=>h1 h.1)]
 exact zGH h hx
def Same2(R R':List Int)(t u:Nat):Prop:=R'.length=R.length∧∀j,j≠t→j≠u→R'.getD j 0=R.getD j 0
theorem Same2.refl{R:List Int}{t u:Nat}:Same2 R R t u:=⟨rfl,fun _ _ _=>rfl⟩
theorem Same2.trans{R R' R'':List Int}{t u:Nat}(h:Same2 R R' t u)(k:Same2 R' R'' t u):Same2 R R'' t u:=⟨k.1.trans h.1,fun j h1 h2=>(k.2 j h1 h2).trans (h.2 j h1 h2)⟩
theorem Same2.set1{R R':List Int}{t u:Nat}{x:Int}(h:Same2 R R' t u):Same2 R (R'.set t x) t u:=⟨by rw[List.length_set,h.1],fun j h1 h2=>by rw[zDM (Ne.symm h1)];exact h.2 j h1 h2⟩
theorem Same2.set2{R R':List Int}{t u:Nat}{x:Int}(h:Same2 R R' t u):Same2 R (R'.set u x) t u:=⟨by rw[List.length_set,h.1],fun j h1 h2=>by rw[zDM (Ne.symm h2)];exact h.2 j h1 h2⟩
theorem zRG{code:List Ins}{r R xs:List Int}{A B:Int}{to term j fr:Nat}(h:zHG code r R)(hA:A≠0∧ -16≤A∧A≤16)(hB:B≠0∧ -16≤B∧B≤16)(hj:j+1<xs.length)(hto:xs.length≤to)(hT:to<term)(hN:term<R.length)
 (hx:R.getD j 0=xs.getD j 0): ∃R',zHG (zHQ xs.length to term A B fr j code) r R'∧Same2 R R' to term∧R'.getD to 0=R.getD fr 0*A+xs.getD j 0*B^(xs.length-1-j):=by
 have f1:=zHm (to:=(to:Int)) (a:=(fr:Int)) h hA.1 hA.2.1 hA.2.2 (by simp;omega)
 simp only[Int.toNat_natCast]at f1
 have g1:(R.set to (R.getD fr 0*A)).getD to 0=R.getD fr 0*A:=by rw[zBM (by omega),if_pos rfl]
 have g2:(R.set to (R.getD fr 0*A)).getD j 0=xs.getD j 0:=by rw[zDM (by omega),hx]
 have gl:(R.set to (R.getD fr 0*A)).length=R.length:=by simp
 have s1:Same2 R (R.set to (R.getD fr 0*A)) to term:=Same2.refl.set1
 generalize(R.set to (R.getD fr 0*A))=R1 at*
 unfold zHQ
 split
 ·rename_i hb
  have e:B^(xs.length-1-j)=1:=by
   rcases hb with rfl|⟨rfl,h2⟩
   ·exact Int.one_pow
   ·exact zSp h2
  refine⟨_,zFz (x:=R1.getD to 0+R1.getD j 0) f1 (by simp) (by simp[doZ]),s1.set1,?_⟩
  simp only[Int.toNat_natCast]
  rw[zBM (by omega),if_pos rfl,g1,g2,e,Int.mul_one]
 ·rename_i hb
  split
  ·rename_i hb2
   subst hb2
   have e:(-1:Int)^(xs.length-1-j)= -1:=zZw fun h=>hb (.inr ⟨rfl,h⟩)
   refine⟨_,zFz (x:=R1.getD to 0-R1.getD j 0) f1 (by simp) (by simp[doZ]),s1.set1,?_⟩
   simp only[Int.toNat_natCast]
   rw[zBM (by omega),if_pos rfl,g1,g2,e];omega
  ·have f2:=zE9 (to:=(term:Int)) hB.1 hB.2.1 hB.2.2 (xs.length-1-j) (j:Int) f1 (by simp;omega)
   rw[if_neg (by omega)]at f2
   simp only[Int.toNat_natCast]at f2
   have s2:=s1.set2 (x:=R1.getD j 0*B^(xs.length-1-j))
   have k1:(R1.set term (R1.getD j 0*B^(xs.length-1-j))).getD to 0=R1.getD to 0:=zDM (by omega)
   have k2:(R1.set term (R1.getD j 0*B^(xs.length-1-j))).getD term 0=R1.getD j 0*B^(xs.length-1-j):=by rw[zBM (by omega),if_pos rfl]
   have kl:(R1.set term (R1.getD j 0*B^(xs.length-1-j))).length=R.length:=by simp[gl]
   generalize R1.set term (R1.getD j 0*B^(xs.length-1-j))=R2 at*
   refine⟨_,zFz (x:=R2.getD to 0+R2.getD term 0) f2 (by simp) (by simp[doZ]),s2.set1,?_⟩
   simp only[Int.toNat_natCast]
   rw[zBM (by omega),if_pos rfl,k1,k2,g1,g2]
theorem zJz{r xs:List Int}{A B:Int}{to term:Nat}(hA:A≠0∧ -16≤A∧A≤16)(hB:B≠0∧ -16≤B∧B≤16)(hto:xs.length≤to)(hT:to<term): ∀(j fr:Nat){code:List Ins}{R:List Int},zHG code r R→term<R.length→j<xs.length→(∀i,i<xs.length→R.getD i 0=xs.getD i 0)→
 R.getD fr 0=zN4 A B xs (xs.length-j)→∃R' fr',zHG (zHJ xs.length to term A B j fr code) r R'∧Same2 R R' to term∧R'.getD fr' 0=zFA A B xs xs.length∧(fr'=if j=0 then fr else to)
 |0,fr,code,R,h,hN,_,_,hf=>⟨R,fr,h,Same2.refl,by rw[hf,Nat.sub_zero,zSc],by simp⟩
 |j+1,fr,code,R,h,hN,hj,hx,hf=>by
  obtain⟨R1,f1,s1,g1⟩:=zRG (fr:=fr) (xs:=xs) h hA hB (j:=j) (by omega) hto hT hN (hx j (by omega))
  have e:zN4 A B xs (xs.length-j)=zN4 A B xs (xs.length-(j+1))*A+xs.getD j 0*B^(xs.length-1-j):=by
   rw[show xs.length-j=(xs.length-(j+1))+1 by omega,zN4,show xs.length-1-(xs.length-(j+1))=j by omega,show xs.length-(j+1)=xs.length-1-j by omega]
  obtain⟨R2,fr',f2,s2,g2,g3⟩:=zJz hA hB hto hT j to (R:=R1) f1 (by rw[s1.1];exact hN) (by omega) (fun i hi=>by rw[s1.2 i (by omega) (by omega),hx i hi]) (by rw[g1,hf,e])
  refine⟨R2,to,f2,s1.trans s2,?_,by simp⟩
  rw[← g2]
  by_cases hj0:j=0
  ·rw[g3,if_pos hj0]
  ·rw[g3,if_neg hj0]
def zQ9(xs:List Int)(q:Pt):Int:=zFA q.a q.b xs xs.length
theorem zGW{A B:Int}{xs:List Int}(hA:A=0): ∀k,0<k→zFA A B xs k=xs.getD 0 0*B^(xs.length-1)
 |1,_=>by simp[zFA,hA]
 |k+2,_=>by rw[zFA,zGW hA (k+1) (by omega),hA,Int.zero_pow (by omega)];simp
theorem zHn{A B:Int}{xs:List Int}(hB:B=0): ∀k,k<xs.length→zFA A B xs k=0
 |0,_=>rfl
 |k+1,h=>by rw[zFA,zHn hB k (by omega),hB,Int.zero_pow (show xs.length-1-k≠0 by omega)];simp
theorem zUv{A B:Int}{xs:List Int}(hB:B=0)(h:0<xs.length):zFA A B xs xs.length=xs.getD (xs.length-1) 0*A^(xs.length-1):=by
 obtain⟨n,hn⟩: ∃n,xs.length=n+1:=⟨xs.length-1,by omega⟩
 rw[hn,zFA,zHn hB n (by omega),hn]
 simp
theorem zOG{code:List Ins}{r R xs:List Int}{q:Pt}{to term:Nat}(h:zHG code r R)(hin:zFG q.a q.b=true)(hk:0<xs.length)(hto:xs.length≤to)(hT:to<term)(hN:term<R.length)(hx: ∀i,i<xs.length→R.getD i 0=xs.getD i 0):
 ∃R',zHG (zDY xs.length term to q.a q.b code) r R'∧Same2 R R' to term∧R'.getD (if xs.length=1 then 0 else to) 0=zQ9 xs q:=by
 obtain⟨A,B⟩:=q
 have hb: -16≤A∧A≤16∧ -16≤B∧B≤16:=of_decide_eq_true hin
 unfold zDY zQ9
 dsimp only
 by_cases h1:xs.length=1
 ·rw[if_pos h1,if_pos h1]
  refine⟨R,h,Same2.refl,?_⟩
  rw[hx 0 hk,h1]
  simp[zFA,h1]
 rw[if_neg h1,if_neg h1]
 by_cases h2:A=0∧B=0
 ·rw[if_pos h2]
  refine⟨_,zFz (x:=0) h (by simp) (by simp[doZ]),Same2.refl.set1,?_⟩
  simp only[Int.toNat_natCast]
  rw[zBM (by omega),if_pos rfl,zGW h2.1 _ hk,h2.2,Int.zero_pow (by omega),Int.mul_zero]
 rw[if_neg h2]
 by_cases hA:A=0
 ·rw[if_pos hA]
  have f:=zE9 (to:=(to:Int)) (c:=B) (fun e=>h2 ⟨hA,e⟩) hb.2.2.1 hb.2.2.2 (xs.length-1) 0 h (by simp;omega)
  rw[if_neg (by omega)]at f
  simp only[Int.toNat_natCast]at f
  refine⟨_,f,Same2.refl.set1,?_⟩
  rw[zBM (by omega),if_pos rfl,zGW hA _ hk,show((0:Int)).toNat=0 from rfl,hx 0 hk]
 rw[if_neg hA]
 by_cases hB:B=0
 ·rw[if_pos hB]
  have f:=zE9 (to:=(to:Int)) (c:=A) hA hb.1 hb.2.1 (xs.length-1) ((xs.length-1:Nat):Int) h (by simp;omega)
  rw[if_neg (by omega)]at f
  simp only[Int.toNat_natCast]at f
  refine⟨_,f,Same2.refl.set1,?_⟩
  rw[zBM (by omega),if_pos rfl,zUv hB hk,hx _ (by omega)]
 rw[if_neg hB]
 obtain⟨R',fr',f,s,g,e⟩:=zJz (xs:=xs) ⟨hA,hb.1,hb.2.1⟩ ⟨hB,hb.2.2.1,hb.2.2.2⟩ hto hT (xs.length-1) (xs.length-1) h hN (by omega) hx (by
  rw[hx _ (by omega),show xs.length-(xs.length-1)=0+1 by omega,zN4,zN4];simp)
 rw[if_neg (by omega)]at e
 exact⟨R',f,s,by rw[← g,e]⟩
theorem zKT{r xs:List Int}{m N:Nat}(hk:0<xs.length)(hN:N=xs.length+m+1): ∀(l:List Pt)(i:Nat){code:List Ins}{R:List Int},zHG code r R→R.length=N→i+l.length=m→(∀q,q∈l→zFG q.a q.b=true)→(∀j,j<xs.length→R.getD j 0=xs.getD j 0)→
 ∃R',zHG (zFo xs.length m l i code) r R'∧R'.length=N∧(∀j,j<xs.length+i→R'.getD j 0=R.getD j 0)∧∀j(h:j<l.length),R'.getD (if xs.length=1 then 0 else xs.length+i+j) 0=zQ9 xs (l[j])
 |[],i,code,R,h,hl,_,_,hx=>⟨R,h,hl,fun _ _=>rfl,fun j hj=>absurd hj (by simp)⟩
 |q::l,i,code,R,h,hl,hm,hin,hx=>by
  simp only[List.length_cons]at hm
  obtain⟨R1,f1,s1,g1⟩:=zOG (to:=xs.length+i) (term:=xs.length+m) h (hin q (by simp)) hk (by omega) (by omega) (by omega) hx
  have low: ∀j,j<xs.length+i→R1.getD j 0=R.getD j 0:=fun j hj=>s1.2 j (by omega) (by omega)
  obtain⟨R2,f2,l2,s2,g2⟩:=zKT hk hN l (i+1) f1 (s1.1.trans hl) (by omega) (fun p hp=>hin p (by simp[hp])) (fun j hj=>by rw[low j (by omega),hx j hj])
  refine⟨R2,f2,l2,fun j hj=>by rw[s2 j (by omega),low j hj],fun j hj=>?_⟩
  cases j with
  |zero=>
   rw[List.getElem_cons_zero,← g1]
   split
   ·exact s2 0 (by omega)
   ·exact s2 _ (by omega)
  |succ j=>
   rw[List.getElem_cons_succ,← g2 j (by simpa using hj),show xs.length+(i+1)+j=xs.length+i+(j+1) by omega]
theorem zOb{xs:List Int}{l:List Pt}(hk:0<xs.length)(hin: ∀q,q∈l→zFG q.a q.b=true):zJR (zB5 xs.length l) xs=l.map (zQ9 xs)∧(zRj (zB5 xs.length l) xs).length=(zB5 xs.length l).code.length:=by
 have hn:(zB5 xs.length l).regs.toNat-xs.length=l.length+1:=by simp[zB5];omega
 have hn2:(((xs.length+l.length+1:Nat):Int)).toNat-xs.length=l.length+1:=by omega
 obtain⟨R,f,e,s,g⟩:=zKT (r:=xs++List.replicate (l.length+1) 0) (xs:=xs) (m:=l.length) hk rfl l 0 zVY (by simp;omega) (by omega) hin (fun j hj=>by simp[List.getD_eq_getElem?_getD,List.getElem?_append_left hj])
 refine⟨?_,by unfold zRj;rw[hn];exact f.1⟩
 unfold zJR
 rw[hn]
 show(List.map (fun r=>(zCO doZ 0 (zFo xs.length l.length l 0 []) (xs++List.replicate (l.length+1) 0)).2.getD r.toNat 0) ((List.range l.length).map (zIi xs.length)))=_
 rw[f.2]
 refine List.ext_getElem (by simp) fun j h1 h2=>?_
 have hj:j<l.length:=by simpa using h1
 simp only[List.getElem_map,List.getElem_range]
 rw[← g j hj]
 unfold zIi
 split
 ·rfl
 ·rw[Int.toNat_natCast,Nat.add_zero]
def zGE(m:Nat)(i:Ins):Prop:=zCe (m:Int) i∧(i.op=5→ -16≤i.c∧i.c≤16)∧(i.op=7→i.c≤4)∧i.op≠6∧i.op≠8
theorem zFd{to a c:Int}{m:Nat}(h0:c≠0)(h1: -16≤c)(h2:c≤16)(ht:0≤to∧to<m)(ha:0≤a∧a<m):zGE m (zBF to a c):=by
 unfold zBF
 repeat' split
 all_goals simp[zGE,zCe]
 all_goals omega
def Beyond(m n:Nat)(code code':List Ins):Prop:= ∃l,code'=code++l∧(∀i,i∈l→zGE m i)∧l.length≤n
theorem Beyond.refl{m n:Nat}{code:List Ins}:Beyond m n code code:=⟨[],by simp,(fun _ h=>by cases h),Nat.zero_le _⟩
theorem Beyond.trans{m n n':Nat}{a b c:List Ins}(h:Beyond m n a b)(k:Beyond m n' b c):Beyond m (n+n') a c:=by
 obtain⟨l,rfl,h1,h2⟩:=h
 obtain⟨l',rfl,k1,k2⟩:=k
 refine⟨l++l',by simp,fun i hi=>?_,by simp;omega⟩
 rcases List.mem_append.1 hi with hi|hi
 ·exact h1 i hi
 ·exact k1 i hi
theorem Beyond.mono{m n n':Nat}{a b:List Ins}(h:Beyond m n a b)(hn:n≤n'):Beyond m n' a b:=let⟨l,e,h1,h2⟩:=h;⟨l,e,h1,by omega⟩
theorem zD8{m:Nat}{code:List Ins}{i:Ins}(h:zGE m i):Beyond m 1 code (zGS code i):=by
 unfold zGS
 split
 ·exact Beyond.refl
 ·exact⟨[i],rfl,fun j hj=>by rw[List.mem_singleton.1 hj];exact h,Nat.le_refl _⟩
theorem zEu{to c:Int}{m:Nat}(h0:c≠0)(h1: -16≤c)(h2:c≤16)(ht:0≤to∧to<m): ∀(n:Nat)(a:Int){code:List Ins},(0≤a∧a<m)→Beyond m n code (zFF to c n a code)
 |0,a,code,_=>Beyond.refl
 |n+1,a,code,ha=>((zD8 (zFd h0 h1 h2 ht ha)).trans (zEu h0 h1 h2 ht n to ht)).mono (by omega)
theorem zEz{m:Nat}{op to a b:Int}(ho:op=3∨op=4)(ht:0≤to∧to<m)(ha:0≤a∧a<m)(hb:0≤b∧b<m):zGE m ⟨op,to,a,b,0⟩:=by
 simp only[zGE,zCe]
 rcases ho with rfl|rfl<;>simp<;>omega
theorem zOu{k m j:Nat}{to term A B fr:Int}{code:List Ins}(hA:A≠0∧ -16≤A∧A≤16)(hB:B≠0∧ -16≤B∧B≤16)(hj:j+1<k)(hk:k≤m)(ht:0≤to∧to<m)(hT:0≤term∧term<m)(hf:0≤fr∧fr<m):Beyond m (k-1-j+2) code (zHQ k to term A B fr j code):=by
 have b1:=zD8 (code:=code) (zFd hA.1 hA.2.1 hA.2.2 ht hf)
 have hj':0≤(j:Int)∧(j:Int)<m:=by omega
 unfold zHQ
 split
 ·exact(b1.trans (zD8 (zEz (.inl rfl) ht ht hj'))).mono (by omega)
 ·split
  ·exact(b1.trans (zD8 (zEz (.inr rfl) ht ht hj'))).mono (by omega)
  ·exact((b1.trans (zEu hB.1 hB.2.1 hB.2.2 hT _ _ hj')).trans (zD8 (zEz (.inl rfl) ht ht hT))).mono (by omega)
theorem zKk{k m:Nat}{to term A B:Int}(hA:A≠0∧ -16≤A∧A≤16)(hB:B≠0∧ -16≤B∧B≤16)(hk:k≤m)(hk8:k≤8)(ht:0≤to∧to<m)(hT:0≤term∧term<m): ∀(j:Nat)(fr:Int){code:List Ins},j<k→(0≤fr∧fr<m)→Beyond m (j*(k+1)-j*(j-1) / 2) code (zHJ k to term A B j fr code)
 |0,fr,code,_,_=>Beyond.refl
 |j+1,fr,code,hj,hf=>by
  refine((zOu (j:=j) hA hB (by omega) hk ht hT hf).trans (zKk hA hB hk hk8 ht hT j to (by omega) ht)).mono ?_
  have:k=0∨k=1∨k=2∨k=3∨k=4∨k=5∨k=6∨k=7∨k=8:=by omega
  have:j=0∨j=1∨j=2∨j=3∨j=4∨j=5∨j=6:=by omega
  rcases ‹k=0∨_› with rfl|rfl|rfl|rfl|rfl|rfl|rfl|rfl|rfl<;>rcases ‹j=0∨_› with rfl|rfl|rfl|rfl|rfl|rfl|rfl<;>first|omega|decide
theorem zN0{k m:Nat}{q:Pt}{to term:Int}{code:List Ins}(hin:zFG q.a q.b=true)(hk0:0<k)(hk8:k≤8)(hk:k≤m)(ht:0≤to∧to<m)(hT:0≤term∧term<m):Beyond m (k*(k+3) / 2) code (zDY k term to q.a q.b code):=by
 obtain⟨A,B⟩:=q
 have hb: -16≤A∧A≤16∧ -16≤B∧B≤16:=of_decide_eq_true hin
 have c8:k=1∨k=2∨k=3∨k=4∨k=5∨k=6∨k=7∨k=8:=by omega
 have b1:1≤k*(k+3) / 2:=by rcases c8 with rfl|rfl|rfl|rfl|rfl|rfl|rfl|rfl<;>decide
 have b2:k-1≤k*(k+3) / 2:=by rcases c8 with rfl|rfl|rfl|rfl|rfl|rfl|rfl|rfl<;>decide
 have b3:(k-1)*(k+1)-(k-1)*(k-1-1) / 2≤k*(k+3) / 2:=by rcases c8 with rfl|rfl|rfl|rfl|rfl|rfl|rfl|rfl<;>decide
 unfold zDY
 dsimp only
 split
 ·exact Beyond.refl
 ·split
  ·exact(zD8 (zEz (.inr rfl) ht (by omega) (by omega))).mono b1
  ·rename_i h2
   split
   ·rename_i hA
    exact(zEu (fun e=>h2 ⟨hA,e⟩) hb.2.2.1 hb.2.2.2 ht _ _ (by omega)).mono b2
   ·split
    ·exact(zEu ‹¬ A=0› hb.1 hb.2.1 ht _ _ (by omega)).mono b2
    ·exact(zKk ⟨‹¬ A=0›,hb.1,hb.2.1⟩ ⟨‹¬ B=0›,hb.2.2.1,hb.2.2.2⟩ hk hk8 ht hT _ _ (by omega) (by omega)).mono b3
theorem zJn{k m M:Nat}(hk0:0<k)(hk8:k≤8)(hM:M=k+m+1): ∀(l:List Pt)(i:Nat){code:List Ins},i+l.length=m→(∀q,q∈l→zFG q.a q.b=true)→Beyond M (l.length*(k*(k+3) / 2)) code (zFo k m l i code)
 |[],i,code,_,_=>Beyond.refl
 |q::l,i,code,hm,hin=>by
  simp only[List.length_cons]at hm ⊢
  have:=(zN0 (m:=M) (to:=((k+i:Nat):Int)) (term:=((k+m:Nat):Int)) (code:=code) (hin q (by simp)) hk0 hk8 (by omega) (by omega) (by omega)).trans (zJn hk0 hk8 hM l (i+1) (by omega) fun p hp=>hin p (by simp[hp]))
  exact this.mono (by rw[Nat.add_mul];omega)
theorem zEW{k:Nat}{l:List Pt}(hk0:0<k)(hk8:k≤8)(hin: ∀q,q∈l→zFG q.a q.b=true):(∀i,i∈(zB5 k l).code→zGE (k+l.length+1) i)∧(zB5 k l).code.length≤l.length*(k*(k+3) / 2):=by
 obtain⟨c,h,h1,h2⟩:=zJn hk0 hk8 (M:=k+l.length+1) rfl l 0 (code:=[]) (by omega) hin
 have e:(zB5 k l).code=c:=by show zFo k l.length l 0 []=c;rw[h];rfl
 rw[e];exact⟨h1,h2⟩
theorem zEL{k:Nat}{l:List Pt}(hk0:0<k)(hk8:k≤8)(hl0:0<l.length)(hl:l.length≤15)(hin: ∀q,q∈l→zFG q.a q.b=true):zBV (zB5 k l):=by
 obtain⟨h1,h2⟩:=zEW hk0 hk8 hin
 have h3:(zB5 k l).code.length≤1000:=by
  have e:k*(k+3) / 2≤44:=by
   have:k=1∨k=2∨k=3∨k=4∨k=5∨k=6∨k=7∨k=8:=by omega
   rcases this with rfl|rfl|rfl|rfl|rfl|rfl|rfl|rfl<;>decide
  have:=Nat.mul_le_mul hl e
  omega
 refine⟨?_,fun n hn=>?_,fun i hi=>(h1 i hi).1⟩
 ·unfold zC5
  simp only[zB5,List.length_map,List.length_range]at h3 ⊢
  omega
 ·obtain⟨j,hj,rfl⟩:=List.mem_map.1 hn
  have:=List.mem_range.1 hj
  unfold zIi
  simp only[zB5]
  split<;>omega
section
variable {H:AHeap} {K:AV→Prop} {k:IntKind} {l:List Pt} {t:Bool} {i:Nat}
theorem zBE(h:l.length<9223372036854775808):zEE false (zDd l t) K=K (.int .i64 ((l.length:Nat):Int)):=zBK h
theorem zEd(h:i<l.length):zBl 2 (zDd l t) (.int k (i:Int)) K=K (.cptr ((l.flatMap ptC).drop (i*2))):=zHR (zDE (f:=ptC) (es:=2) (fun _=>rfl) l) h
theorem zDs(h:i<l.length):zBC H (some 2) (.cptr ((l.flatMap ptC).drop (i*2))) K=K (PtV (l[i]).a (l[i]).b):=by
 rw[zC0 (es:=2) (fun _=>rfl) l i h];simp[zBC,zBB,ptC,PtV]
end
def zPq(l:List Pt):Prop:= ∀q,q∈l→zFG q.a q.b=true
instance (l:List Pt):Decidable (zPq l):=by unfold zPq;infer_instance
def zEN(l:List Pt):Prop:=zPq l∧1≤l.length∧l.length≤15
instance (l:List Pt):Decidable (zEN l):=by unfold zEN;infer_instance
theorem zG5{l:List Pt}{t:Bool}(hl:l.length<9223372036854775808):PFn Tryz.prog 125 [zDd l t] (.bool (decide (zEN l))):=by
 intro H Q hq
 refine zTS (by simp) ?_
 simp(disch:=first|exact Xe|fail)only[zaq,zBE hl,↓Xa,Xb,Xc,↓reduceIte,Nat.reduceLT,Nat.reduceEqDiff,Nat.reduceBEq,Nat.reduceLeDiff,Nat.reduceAdd]
 refine zAO (fun s:Nat=>⟨[],[(0,zDd l t),(5,zDd l t),(6,.int .i64 l.length),(7,.int .i64 s)],H⟩) (fun s=>s≤l.length∧zPq (l.take s)) (fun s=>l.length-s) 0 (Settle.now rfl) ⟨Nat.zero_le _,fun q hq=>by simp at hq⟩ ?_
 rintro i ⟨h1,h2⟩
 by_cases hi:i<l.length
 ·simp(disch:=first|exact Xe|fail)only[hi,zEd hi,zDs hi,↓Xa,Xb,Xc,↓reduceIte,Nat.reduceLT,Nat.reduceEqDiff,Nat.reduceBEq,Nat.reduceLeDiff,Nat.reduceAdd]
  refine zAD fun p4 n4=>?_
  simp(disch:=first|exact Xe|fail)only[zBp,zDP,↓Xa,Xb,Xc,↓reduceIte,Nat.reduceLT,Nat.reduceEqDiff,Nat.reduceBEq,Nat.reduceLeDiff,Nat.reduceAdd]
  refine zFq.call ?_
  cases hin:zFG (l[i]).a (l[i]).b with
  |false=>
   have: ¬zEN l:=fun h=>by have:=h.1 _ (List.getElem_mem hi);rw[hin]at this;cases this
   rw[decide_eq_false this]at hq
   simp(disch:=first|exact Xe|fail)only[zRB,↓Xa,Xb,Xc,↓reduceIte,Nat.reduceLT,Nat.reduceEqDiff,Nat.reduceBEq,Nat.reduceLeDiff,Nat.reduceAdd]
   exact SetR.dropTo ((Le.refl H).updB n4) (SetR.now hq)
  |true=>
   simp(disch:=first|exact Xe|fail)only[↓Xa,Xb,Xc,↓reduceIte,Nat.reduceLT,Nat.reduceEqDiff,Nat.reduceBEq,Nat.reduceLeDiff,Nat.reduceAdd]
   refine Settle.dropTo ((Le.refl H).updB n4) (Settle.now ⟨i+1,by omega,⟨by omega,fun q hq=>?_⟩,rfl⟩)
   rw[List.take_succ_eq_append_getElem hi]at hq
   rcases List.mem_append.1 hq with hq|hq
   ·exact h2 q hq
   ·rw[List.mem_singleton.1 hq];exact hin
 ·obtain rfl:i=l.length:=by omega
  rw[List.take_length]at h2
  simp(disch:=first|exact Xe|fail)only[hi,↓Xa,Xb,Xc,↓reduceIte,Nat.reduceLT,Nat.reduceEqDiff,Nat.reduceBEq,Nat.reduceLeDiff,Nat.reduceAdd]
  refine Settle.now ?_
  by_cases g1:1≤l.length
  ·have e1:decide (((1:Nat):Int)≤((l.length:Nat):Int))=true:=decide_eq_true (by omega)
   by_cases g2:l.length≤15
   ·have e2:decide (((l.length:Nat):Int)≤((15:Nat):Int))=true:=decide_eq_true (by omega)
    rw[decide_eq_true (show zEN l from⟨h2,g1,g2⟩)]at hq
    simp(disch:=first|exact Xe|fail)only[zBE hl,zBt,zDc,e1,e2,zRB,↓Xa,Xb,Xc,↓reduceIte,Nat.reduceLT,Nat.reduceEqDiff,Nat.reduceBEq,Nat.reduceLeDiff,Nat.reduceAdd]
    exact SetR.now hq
   ·have e2:decide (((l.length:Nat):Int)≤((15:Nat):Int))=false:=decide_eq_false (by omega)
    rw[decide_eq_false (fun h=>g2 h.2.2)]at hq
    simp(disch:=first|exact Xe|fail)only[zBE hl,zBt,zDc,e1,e2,zRB,↓Xa,Xb,Xc,↓reduceIte,Nat.reduceLT,Nat.reduceEqDiff,Nat.reduceBEq,Nat.reduceLeDiff,Nat.reduceAdd]
    exact SetR.now hq
  ·have e1:decide (((1:Nat):Int)≤((l.length:Nat):Int))=false:=decide_eq_false (by omega)
   rw[decide_eq_false (fun h=>g1 h.2.1)]at hq
   simp(disch:=first|exact Xe|fail)only[zBE hl,zBt,zDc,e1,zRB,↓Xa,Xb,Xc,↓reduceIte,Nat.reduceLT,Nat.reduceEqDiff,Nat.reduceBEq,Nat.reduceLeDiff,Nat.reduceAdd]
   exact SetR.now hq
def zOi(n:Nat)(A B:Int):Prop:=1≤n∧n≤16∧zFG A B=true
instance (n:Nat)(A B:Int):Decidable (zOi n A B):=by unfold zOi;infer_instance
theorem zVV{A B:Int}{xs:List Int}{t:Bool}(hn:xs.length<9223372036854775808)(hno: ¬zOi xs.length A B):PFn Tryz.prog 71 [zB7 xs t,PtV A B] (.tup [zAl 0,.int .i64 ((2:Nat):Int)]):=by
 intro H Q hq
 refine zRV (by simp) ?_
 simp(disch:=first|exact Xe|fail)only[zg7,zBp,↓Xa,Xb,Xc,↓reduceIte,Nat.reduceLT,Nat.reduceEqDiff,Nat.reduceBEq,Nat.reduceLeDiff,Nat.reduceAdd]
 refine zAD fun p3 n3=>?_
 simp(disch:=first|exact Xe|fail)only[↓Xa,Xb,Xc,↓reduceIte,Nat.reduceLT,Nat.reduceEqDiff,Nat.reduceBEq,Nat.reduceLeDiff,Nat.reduceAdd]
 refine zAD fun p4 n4=>?_
 obtain⟨a43,n4'⟩:=zAB.1 n4
 have ez:AV.agg [.bool false,.seq 0 [] true]=zAl 0:=by
  have:=zfU 1
  rw[show 1*2=2 from rfl,zIU]at this
  have h2:([.bool false,.seq 0 [] true]:List AV)=[zB0 0,zB1 0]:=this
  rw[h2];rfl
 have fin: ∀{x:ABlk},Le H ((H.upd p3 (some (.row 112 0 [.int .i64 A,.int .i64 B]))).upd p4 (some x)):=((Le.refl H).updB n3).updB n4'
 by_cases h1:1≤xs.length
 ·have d1:decide (((xs.length:Nat):Int)<((1:Nat):Int))=false:=decide_eq_false (by omega)
  by_cases h2:xs.length≤16
  ·have d2:decide (((16:Nat):Int)<((xs.length:Nat):Int))=false:=decide_eq_false (by omega)
   have hin:zFG A B=false:=by
    cases e:zFG A B with
    |false=>rfl
    |true=>exact absurd ⟨h1,h2,e⟩ hno
   simp(disch:=first|exact Xe|fail)only[zBK,hn,zAN,zAb,d1,d2,a43,a43.symm,zDP,↓Xa,Xb,Xc,↓reduceIte,Nat.reduceLT,Nat.reduceEqDiff,Nat.reduceBEq,Nat.reduceLeDiff,Nat.reduceAdd]
   refine zFq.call ?_
   simp(disch:=first|exact Xe|fail)only[hin,a43,a43.symm,ez,zAE,zAI,zag,↓Xa,Xb,Xc,↓reduceIte,Nat.reduceLT,Nat.reduceEqDiff,Nat.reduceBEq,Nat.reduceLeDiff,Nat.reduceAdd]
   exact SetR.dropTo fin (SetR.now hq)
  ·have d2:decide (((16:Nat):Int)<((xs.length:Nat):Int))=true:=decide_eq_true (by omega)
   simp(disch:=first|exact Xe|fail)only[zBK,hn,zAN,zAb,d1,d2,a43,a43.symm,ez,zAE,zAI,zag,↓Xa,Xb,Xc,↓reduceIte,Nat.reduceLT,Nat.reduceEqDiff,Nat.reduceBEq,Nat.reduceLeDiff,Nat.reduceAdd]
   exact SetR.dropTo fin (SetR.now hq)
 ·have d1:decide (((xs.length:Nat):Int)<((1:Nat):Int))=true:=decide_eq_true (by omega)
  simp(disch:=first|exact Xe|fail)only[zBK,hn,zAN,zAb,d1,a43,a43.symm,ez,zAE,zAI,zag,↓Xa,Xb,Xc,↓reduceIte,Nat.reduceLT,Nat.reduceEqDiff,Nat.reduceBEq,Nat.reduceLeDiff,Nat.reduceAdd]
  exact SetR.dropTo fin (SetR.now hq)
def zdr(xs:List Int)(A B:Int):Int:=if zOi xs.length A B then zFA A B xs xs.length else 0
def zes(xs:List Int)(A B:Int):Nat:=if zOi xs.length A B then 0 else 2
theorem zNl{A B:Int}{xs:List Int}{t:Bool}{k0:Nat}(hn:xs.length<9223372036854775808)(hx: ∀z,z∈xs→Bd k0 z)(hk:k0≤100000):PFn Tryz.prog 71 [zB7 xs t,PtV A B] (.tup [zAl (zdr xs A B),.int .i64 ((zes xs A B:Nat):Int)]):=by
 by_cases h:zOi xs.length A B
 ·have:=zTt (t:=t) hx hk h.1 h.2.1 h.2.2
  rw[zdr,zes,if_pos h,if_pos h];exact this
 ·have:=zVV (t:=t) hn h
  rw[zdr,zes,if_neg h,if_neg h];exact this
theorem zSj{H C:AHeap}{cv ov:AV}{b N k0 L ty:Nat}{t:Bool}{p:PR}{f:AV}{regs0 S:List (List Int)}{A B:AHeap}{J:List (List Int)→AHeap→Prop}{Jx:AHeap→Prop}{Q:AV→AHeap→Prop}(hH:H=Un A B)
 (hS:S=(zCO doR [] p.code regs0).1) (hd:Dj A B) (hb:B b=some (.row ty 1 (GI regs0))) (hN:regs0.length=N) (hr: ∀i,i∈p.code→zCe (N:Int) i) (hz:zDg k0 L regs0) (hL:L≤100000) (hk:k0+3*p.code.length≤100000)
 (hJ:J [] A) (hcv:CodeV C cv p.code) (hov:ov.cell=true) (hCB:Le C B) (hCb:C b=none)
 (hf: ∀pre x rest A B,S=pre++x::rest→Dj A B→J pre A→zBw Tryz.prog f [.int .i64 ((pre.length:Nat):Int),rI x] (Un A B) fun r H'=> ∃A',Dj A' B∧H'=Un A' B∧((r=.bool true∧J (pre++[x]) A')∨(r=.bool false∧Jx A')))
 (hq: ∀r A' regs',regs'.length=N→zDg (k0+3*p.code.length) L regs'→Dj A' (B.upd b (some (.row ty 1 (GI regs'))))→((r= -1∧S.length=p.code.length∧J S A'∧regs'=(zCO doR [] p.code regs0).2)∨(r=(S.length:Int)∧S.length<p.code.length∧J S A')∨(r= -1∧Jx A'))→Q (.int .i64 r) (Un A' (B.upd b (some (.row ty 1 (GI regs')))))):
 Run Tryz.prog 110 [zQl,zUB p cv ov,.own b N 0 N t,f] H Q:=by
 subst hH
 obtain⟨hcc,hcl,qf,hcq⟩:=hcv
 have lc:p.code.length<9223372036854775808:=by omega
 have hAb:A b=none:=zDU hd hb
 refine zTA (by simp) ?_
 simp(disch:=first|exact Xe|fail)only[zbo,zEX,↓Xa,Xb,Xc,↓reduceIte,Nat.reduceLT,Nat.reduceEqDiff,Nat.reduceBEq,Nat.reduceLeDiff,Nat.reduceAdd]
 refine zAD fun p4 hp4=>?_
 obtain⟨a4,b4⟩:=zB4.1 hp4
 simp(disch:=first|exact Xe|fail)only[zKt hcc hov,↓Xa,Xb,Xc,↓reduceIte,Nat.reduceLT,Nat.reduceEqDiff,Nat.reduceBEq,Nat.reduceLeDiff,Nat.reduceAdd]
 refine zAD fun p5 hp5=>?_
 have d54:=(zAB.1 hp5).1
 obtain⟨a5,b5⟩:=zB4.1 (zAB.1 hp5).2
 have eb4:Ap p4 b:=zAW hb b4
 have eb5:Ap p5 b:=zAW hb b5
 simp(disch:=first|exact Xe|fail)only[hcl,↓Xa,Xb,Xc,↓reduceIte,Nat.reduceLT,Nat.reduceEqDiff,Nat.reduceBEq,Nat.reduceLeDiff,Nat.reduceAdd]
 generalize hwv:(ABlk.row 185 0 [.fn (.func 180) [] [],.fn (.func 181) [] [],.fn (.func 183) [] [],.fn (.func 185) [] [],.fn (.func 186) [] []])=wv
 have eB:B.upd b (some (.row ty 1 (GI regs0)))=B:=funext fun o=>by
  by_cases e:o=b
  ·subst e;rw[zAC,hb]
  ·rw[zAA _ _ e]
 have fin: ∀(M:AHeap)(A':AHeap)(regs':List (List Int))(r:Int),Le (Un A' (B.upd b (some (.row ty 1 (GI regs'))))) M→Q (.int .i64 r) (Un A' (B.upd b (some (.row ty 1 (GI regs')))))→SetR Q (.int .i64 r) M:=fun M A' regs' r hl h=>SetR.dropTo hl (SetR.now h)
 refine zAO (fun s:Nat×List (List Int)×AHeap=>⟨[],[(2,.own b N 0 N t),(3,f),(4,.ptr p4 5 0),(14,cv),(15,.int .i64 p.code.length),(16,.int .i64 s.1)],Un s.2.2 ((B.upd b (some (.row ty 1 (GI s.2.1)))).upd p4 (some wv))⟩)
  (fun s=>s.1≤p.code.length∧s.1≤S.length∧s.2.1.length=N∧Dj s.2.2 ((B.upd b (some (.row ty 1 (GI s.2.1)))).upd p4 (some wv))∧J (S.take s.1) s.2.2∧zCO doR [] (p.code.drop s.1) s.2.1=(S.drop s.1,(zCO doR [] p.code regs0).2)∧zDg (k0+3*s.1) L s.2.1) (fun s=>p.code.length-s.1) (0,regs0,A) ?_ ⟨Nat.zero_le _,Nat.zero_le _,hN,?_,by simpa using hJ,?_,by simpa using hz⟩ ?_
 ·dsimp only
  rw[eB]
  refine Settle.dropTo (Le.updB ?_ ?_) (Settle.now rfl)
  ·rw[zBn a4];exact Le.refl _
  ·rw[zBn a4];exact zAB.2 ⟨d54,zB4.2 ⟨a5,b5⟩⟩
 ·dsimp only
  rw[eB];exact zD0 hd a4
 ·dsimp only
  rw[List.drop_zero,List.drop_zero,hS]
 rintro⟨j,regs,A'⟩ ⟨h1,h2,h3,h4,h5,h6,h7⟩
 dsimp only at h1 h2 h3 h4 h5 h6 h7 ⊢
 have gb4:b≠p4:=Ne.symm eb4
 have m4:Un A' ((B.upd b (some (.row ty 1 (GI regs)))).upd p4 (some wv)) p4=some wv:=by rw[zRD (zDU h4 (zAC _ _ _)),zAC]
 have mb:Un A' ((B.upd b (some (.row ty 1 (GI regs)))).upd p4 (some wv)) b=some (.row ty 1 (GI regs)):=by
  have e:((B.upd b (some (.row ty 1 (GI regs)))).upd p4 (some wv)) b=some (.row ty 1 (GI regs)):=by rw[zAA _ _ gb4,zAC]
  rw[zRD (zDU h4 e),e]
 have hA'4:A' p4=none:=zDU h4 (zAC _ _ _)
 have hA'b:A' b=none:=zDU h4 (show _=some (ABlk.row ty 1 (GI regs)) by rw[zAA _ _ gb4,zAC])
 generalize hM:Un A' ((B.upd b (some (.row ty 1 (GI regs)))).upd p4 (some wv))=M at*
 by_cases hj:j<p.code.length
 ·have hmi:=hr _ (List.getElem_mem hj)
  have hma:=hmi.2.2
  obtain⟨w,hw⟩: ∃w:Nat,(p.code[j]).to=(w:Int):=⟨(p.code[j]).to.toNat,by omega⟩
  have hCM:Le C M:=fun o x ho=>by
   have ob:o≠b:=by rintro rfl;rw[hCb]at ho;cases ho
   have o4:o≠p4:=by rintro rfl;rw[hCB.none b4]at ho;cases ho
   have e:((B.upd b (some (.row ty 1 (GI regs)))).upd p4 (some wv)) o=some x:=by rw[zAA _ _ o4,zAA _ _ ob];exact hCB o x ho
   rw[← hM];exact zbu h4 o x e
  have hix:=(((hcq M hCM).2 j hj).1)
  have hlx:=(((hcq M hCM).2 j hj).2)
  simp(disch:=first|exact Xe|fail)only[hj,hix,hlx,↓Xa,Xb,Xc,↓reduceIte,Nat.reduceLT,Nat.reduceEqDiff,Nat.reduceBEq,Nat.reduceLeDiff,Nat.reduceAdd]
  refine zAD fun q1 hq1=>?_
  have u1:=zAW mb hq1
  have u2:=zAW m4 hq1
  have m4':=m4
  rw[← hwv]at m4'
  simp(disch:=first|exact Xe|fail)only[zAr,zA8,m4',zHx,↓Xa,Xb,Xc,↓reduceIte,Nat.reduceLT,Nat.reduceEqDiff,Nat.reduceBEq,Nat.reduceLeDiff,Nat.reduceAdd]
  have hlM:Le (Un A' (B.upd b (some (.row ty 1 (GI regs))))) M:=hM▸zMR ((Le.refl _).updB (zAB.2 ⟨eb4,b4⟩))
  have hdb:Dj A' (B.upd b (some (.row ty 1 (GI regs)))):=zTK h4 ((Le.refl _).updB (zAB.2 ⟨eb4,b4⟩))
  have hz':zDg (k0+3*p.code.length) L regs:=fun z hm=>⟨(h7 z hm).1,(h7 z hm).2.mono (by omega)⟩
  refine zAM (zZd (b:=b) (N:=N) (k:=k0+3*j) (L:=L) (ty:=ty) (regs:=regs) (by rw[zAA _ _ (Ne.symm u1)];exact mb) h3 hmi h7 (by omega) hL ?_ fun hno0=>?_)
  rotate_right
  ·have hno:=zRt hj regs hno0
   rw[h6]at hno
   have hS0:S.drop j=[]:=congrArg Prod.fst hno
   have hSl:S.length≤j:=by
    have:=congrArg List.length hS0
    simp at this;omega
   obtain rfl:j=S.length:=by omega
   rw[List.take_of_length_le (Nat.le_refl _)]at h5
   simp(disch:=first|exact Xe|fail)only[zN7,↓Xa,Xb,Xc,↓reduceIte,Nat.reduceLT,Nat.reduceEqDiff,Nat.reduceBEq,Nat.reduceLeDiff,Nat.reduceAdd]
   refine fin _ A' regs _ (hlM.updB (hlM.none hq1)) (hq _ A' regs h3 hz' hdb (.inr (.inl ⟨rfl,hj,h5⟩)))
  intro x hdo hbx hxl
  have hat:=zPl hj regs hdo
  rw[h6]at hat
  have hS1:S.drop j=x::(zCO doR [] (p.code.drop (j+1)) (regs.set (p.code[j]).to.toNat x)).1:=congrArg Prod.fst hat
  have hjS:j<S.length:=by
   have:=congrArg List.length hS1
   simp at this;omega
  have hSx:S=S.take j++x::S.drop (j+1):=by
   conv=>lhs;rw[← List.take_append_drop j S]
   rw[List.drop_eq_getElem_cons hjS]at hS1
   rw[List.drop_eq_getElem_cons hjS]
   injection hS1 with e1 e2
   rw[e1]
  have hS2:S.drop (j+1)=(zCO doR [] (p.code.drop (j+1)) (regs.set (p.code[j]).to.toNat x)).1:=by
   rw[List.drop_eq_getElem_cons hjS]at hS1
   injection hS1
  have hlt:(S.take j).length=j:=by rw[List.length_take];omega
  have hl2:(GI regs).length=N:=by rw[zG4,h3]
  have hwN:w<N:=by omega
  have hwr:w<regs.length:=by omega
  have eset:(GI regs).set w (rI x)=GI (regs.set w x):=by simp[GI,List.map_set]
  simp(disch:=first|exact Xe|fail)only[hw,mb,zA6,hl2,↓Xa,Xb,Xc,↓reduceIte,Nat.reduceLT,Nat.reduceEqDiff,Nat.reduceBEq,Nat.reduceLeDiff,Nat.reduceAdd]
  refine(zKL (x:=rI x) hl2 hwN).2 ?_
  rw[eset]
  generalize hX1:(some (ABlk.row 76 0 [.int .i64 (p.code[j]).op,.int .i64 (w:Int),.int .i64 (p.code[j]).a,.int .i64 (p.code[j]).b,.int .i64 (p.code[j]).c]))=X1 at*
  have qa1:A' q1=none:=(zB4.1 (hM▸hq1)).1
  have eH:(M.upd q1 X1).upd b (some (.row ty 1 (GI (regs.set w x))))=Un A' (((B.upd b (some (.row ty 1 (GI (regs.set w x))))).upd p4 (some wv)).upd q1 X1):=by
   rw[zBn qa1,zAw _ _ _ (show q1≠b from u1),← hM,← zBn hA'b,zAw _ _ _ (show p4≠b from eb4),zAP]
  rw[eH]
  have nb1:=(zAB.1 (zAB.1 (zB4.1 (hM▸hq1:Un A' _ q1=none)).2).2).2
  have hle1:Le (B.upd b (some (.row ty 1 (GI (regs.set w x))))) (((B.upd b (some (.row ty 1 (GI (regs.set w x))))).upd p4 (some wv)).upd q1 X1):=by
   rw[← hX1]
   exact((Le.refl _).updB (zAB.2 ⟨eb4,b4⟩)).updB (zAB.2 ⟨u1,nb1⟩)
  have hle2:Le ((B.upd b (some (.row ty 1 (GI (regs.set w x))))).upd p4 (some wv)) (((B.upd b (some (.row ty 1 (GI (regs.set w x))))).upd p4 (some wv)).upd q1 X1):=by
   rw[← hX1]
   exact(Le.refl _).updB (zAB.2 ⟨u2,zAB.2 ⟨u1,nb1⟩⟩)
  have hd2:Dj A' (((B.upd b (some (.row ty 1 (GI (regs.set w x))))).upd p4 (some wv)).upd q1 X1):=by
   refine zD0 (zD0 ?_ hA'4) qa1
   have h:=zD0 (x:=some (.row ty 1 (GI (regs.set w x)))) hdb hA'b
   rwa[zAP]at h
  generalize hB2:(((B.upd b (some (.row ty 1 (GI (regs.set w x))))).upd p4 (some wv)).upd q1 X1)=B2 at*
  have hf':=hf (S.take j) x (S.drop (j+1)) A' B2 hSx hd2 h5
  rw[hlt]at hf'
  have hlen':(regs.set w x).length=N:=by rw[List.length_set,h3]
  have hbd':zDg (k0+3*(j+1)) L (regs.set w x):=fun z hm=>by
   rcases List.mem_or_eq_of_mem_set hm with hm|rfl
   ·exact⟨(h7 z hm).1,(h7 z hm).2.mono (by omega)⟩
   ·exact⟨hxl,hbx.mono (by omega)⟩
  simp(disch:=first|exact Xe|fail)only[↓Xa,Xb,Xc,↓reduceIte,Nat.reduceLT,Nat.reduceEqDiff,Nat.reduceBEq,Nat.reduceLeDiff,Nat.reduceAdd]
  refine zN2 hf' ?_
  rintro r H' ⟨A'',hd3,rfl,⟨rfl,hJ'⟩|⟨rfl,hJ'⟩⟩
  ·simp(disch:=first|exact Xe|fail)only[↓Xa,Xb,Xc,↓reduceIte,Nat.reduceLT,Nat.reduceEqDiff,Nat.reduceBEq,Nat.reduceLeDiff,Nat.reduceAdd]
   have ew:(p.code[j]).to.toNat=w:=by omega
   rw[ew]at hat hS2
   refine Settle.dropTo (zMR hle2) (Settle.now ⟨(j+1,regs.set w x,A''),by dsimp only;omega,⟨hj,hjS,hlen',zTK hd3 hle2,?_,?_,hbd'⟩,rfl⟩)
   ·dsimp only
    rw[List.take_succ_eq_append_getElem hjS]
    have e:S[j]=x:=by
     rw[List.drop_eq_getElem_cons hjS]at hS1
     injection hS1
    rw[e];exact hJ'
   ·dsimp only
    rw[hS2,congrArg Prod.snd hat]
  ·simp(disch:=first|exact Xe|fail)only[zN7,↓Xa,Xb,Xc,↓reduceIte,Nat.reduceLT,Nat.reduceEqDiff,Nat.reduceBEq,Nat.reduceLeDiff,Nat.reduceAdd]
   refine Settle.now ?_
   simp(disch:=first|exact Xe|fail)only[zN7,↓Xa,Xb,Xc,↓reduceIte,Nat.reduceLT,Nat.reduceEqDiff,Nat.reduceBEq,Nat.reduceLeDiff,Nat.reduceAdd]
   exact fin _ A'' _ _ (zMR hle1) (hq _ A'' _ hlen' (fun z hm=>⟨(hbd' z hm).1,(hbd' z hm).2.mono (by omega)⟩) (zTK hd3 hle1) (.inr (.inr ⟨rfl,hJ'⟩)))
 ·obtain rfl:j=p.code.length:=by omega
  have hS0:S.drop p.code.length=[]∧(zCO doR [] p.code regs0).2=regs:=by
   rw[List.drop_of_length_le (Nat.le_refl _)]at h6
   exact⟨(congrArg Prod.fst h6).symm,(congrArg Prod.snd h6).symm⟩
  have hSl:S.length=p.code.length:=by
   have:=congrArg List.length hS0.1
   simp at this;omega
  have hlM:Le (Un A' (B.upd b (some (.row ty 1 (GI regs))))) M:=hM▸zMR ((Le.refl _).updB (zAB.2 ⟨eb4,b4⟩))
  have hdb:Dj A' (B.upd b (some (.row ty 1 (GI regs)))):=zTK h4 ((Le.refl _).updB (zAB.2 ⟨eb4,b4⟩))
  rw[← hSl,List.take_of_length_le (Nat.le_refl _)]at h5
  simp(disch:=first|exact Xe|fail)only[hj,zN7,↓Xa,Xb,Xc,↓reduceIte,Nat.reduceLT,Nat.reduceEqDiff,Nat.reduceBEq,Nat.reduceLeDiff,Nat.reduceAdd]
  refine Settle.now ?_
  simp(disch:=first|exact Xe|fail)only[zN7,↓Xa,Xb,Xc,↓reduceIte,Nat.reduceLT,Nat.reduceEqDiff,Nat.reduceBEq,Nat.reduceLeDiff,Nat.reduceAdd]
  exact fin _ A' _ _ hlM (hq _ A' _ h3 h7 hdb (.inl ⟨rfl,hSl,h5,hS0.2.symm⟩))
def zDb(p:PR)(g:List (List Int)):Nat:=if zBV p∧(g.length:Int)=p.ins then(if(∀r,r∈g→r.length=(g.getD 0 []).length)∧(g.getD 0 []).length≤4096 then 0 else 5)else zSV p g.length
abbrev GIA(g:List (List Int))(t:Bool):AV:=.seq g.length (GI g) t
def CI(R:List (List Int))(N j:Nat):List AV:=GI (R.take j)++List.replicate (N-j) (.seq 0 [] true)
theorem zOx{R:List (List Int)}{N j:Nat}(hR:R.length=N)(hj:j≤N):(CI R N j).length=N:=by simp[CI,GI];omega
theorem zd0{R:List (List Int)}{N j:Nat}(hR:R.length=N)(hj:j<N):(CI R N j).set j (rI (R[j]'(by omega)))=CI R N (j+1):=by
 unfold CI
 have h1:(GI (R.take j)).length=j:=by simp[GI];omega
 rw[zKq (by omega),List.set_append_right _ _ (by omega),h1,Nat.sub_self,show N-j=(N-(j+1))+1 by omega,List.replicate_succ,List.set_cons_zero,List.append_assoc];rfl
theorem zeH{R:List (List Int)}{N j:Nat}: ∀x,x∈CI R N j→∃n c t,x=.seq n c t:=fun x hx=>by
 rcases List.mem_append.1 hx with hx|hx
 ·obtain⟨r,-,rfl⟩:=List.mem_map.1 hx;exact⟨_,_,_,rfl⟩
 ·rw[List.mem_replicate]at hx;exact⟨_,_,_,hx.2⟩
theorem zej{R:List (List Int)}{N j b n:Nat}(hR:R.length=N)(hj:j<N)(hn:(R[j]'(by omega)).length=n){t:Bool}:
 ∀i(h:i<((CI R N j).set j (.own b (n*2) 0 n t)).length)(h':i<(CI R N (j+1)).length),Wk (zCy b 2 (IC (R[j]'(by omega))) (((CI R N j).set j (.own b (n*2) 0 n t))[i])) ((CI R N (j+1))[i]):=fun i h h'=>by
 have hCl:=zOx hR (Nat.le_of_lt hj)
 have e1: ∀zs:List Int,zs.length=n→zCy b 2 (IC zs) (.own b (n*2) 0 n t)=.seq n (IC zs) t:=fun zs hz=>by
  simp[zCy,zBU,hz];rw[List.take_of_length_le (by rw[zBU];omega)]
 simp only[← zd0 hR hj,List.getElem_set]
 by_cases e:j=i
 ·rw[if_pos e,if_pos e,e1 _ hn]
  have:rI (R[j]'(by omega))=.seq n (IC (R[j]'(by omega))) false:=by rw[rI,zB7,hn]
  rw[this];exact Wk.l0
 ·rw[if_neg e,if_neg e]
  obtain⟨n',c',t',ex⟩:=zeH (R:=R) (N:=N) (j:=j) _ (List.getElem_mem (by rw[List.length_set]at h;exact h))
  rw[ex];exact Wk.refl
theorem zTx{H:AHeap}{Q:AV→AHeap→Prop}{p:PR}{grid:List (List Int)}{t:Bool}{L N:Nat}(hp:p.ok)(hN0:p.regs.toNat=N)(hLg:(grid.getD 0 []).length=L)(hL:L≤100000)(hgl:grid.length<9223372036854775808)(hgb: ∀r,r∈grid→r.length<9223372036854775808)
 (hbad:zDb p grid≠0→Q (.tup [.seq 0 [] true,.int .i64 ((zDb p grid:Nat):Int)]) H)
 (hok:zDb p grid=0→∀b,H b=none→Q (.tup [.own b N 0 N true,.int .i64 ((0:Nat):Int)]) (H.upd b (some (.row 29 1 (GI (zAu p grid L)))))):
 Run Tryz.prog 109 [zCV p,GIA grid t] H Q:=by
 refine zUi (by simp) ?_
 simp(disch:=first|exact Xe|fail)only[zb1,zAq,↓Xa,Xb,Xc,↓reduceIte,Nat.reduceLT,Nat.reduceEqDiff,Nat.reduceBEq,Nat.reduceLeDiff,Nat.reduceAdd]
 refine zAD fun p2 hp2=>?_
 simp(disch:=first|exact Xe|fail)only[zBL,zBK,↓Xa,Xb,Xc,↓reduceIte,Nat.reduceLT,Nat.reduceEqDiff,Nat.reduceBEq,Nat.reduceLeDiff,Nat.reduceAdd]
 refine(zNz p hp grid.length).call ?_
 have hle2: ∀{x:ABlk},Le H (H.upd p2 (some x)):=(Le.refl H).updB hp2
 by_cases hr:zBV p∧(grid.length:Int)=p.ins
 rotate_right
 ·have e0: ∃n:Nat,zSV p grid.length=n+1:=by
   unfold zSV
   split
   ·rw[if_neg (fun e=>hr ⟨‹_›,e⟩)];exact⟨_,rfl⟩
   ·exact⟨_,rfl⟩
  obtain⟨n,e0⟩:=e0
  have hd:decide (((n+1:Nat):Int)=((0:Nat):Int))=false:=decide_eq_false (by omega)
  have hge:zDb p grid=n+1:=by unfold zDb;rw[if_neg hr,e0]
  rw[e0]
  rw[hge]at hbad
  simp(disch:=first|exact Xe|fail)only[zAV,hd,zPk,↓Xa,Xb,Xc,↓reduceIte,Nat.reduceLT,Nat.reduceEqDiff,Nat.reduceBEq,Nat.reduceLeDiff,Nat.reduceAdd]
  exact SetR.dropTo hle2 (SetR.now (hbad (by omega)))
 have e0:zSV p grid.length=0:=by simp[zSV,hr.1,hr.2]
 have hge:zDb p grid=if(∀r,r∈grid→r.length=L)∧L≤4096 then 0 else 5:=by unfold zDb;rw[if_pos hr,hLg]
 rw[e0]
 obtain⟨hr1,hr2⟩:=hr
 have hh:=hr1.1
 unfold zC5 at hh
 have hN:p.regs=(N:Int):=by omega
 have hg0:0<grid.length:=by omega
 have hgN:grid.length≤N:=by omega
 have gl0:(grid[0]).length=L:=by rw[← hLg];simp[List.getD_eq_getElem?_getD,hg0]
 have hR0:(zAu p grid L).length=N:=by simp[zAu,hN];omega
 have hix: ∀{k:IntKind}{K:AV→Prop}{i:Nat}(h:i<grid.length),zBl 1 (GIA grid t) (.int k (i:Int)) K=K (.cptr ((GI grid).drop i)):=fun{k K i} h=>by
  have:=zJF (f:=rI) (t:=t) (k:=k) (K:=K) h
  rw[Nat.mul_one]at this;exact this
 have hld: ∀{M:AHeap}{K:AV→Prop}{i:Nat}(h:i<grid.length),zBC M none (.cptr ((GI grid).drop i)) K=K (rI (grid[i])):=fun{M K i} h=>zFr h
 have hld0: ∀{M:AHeap}{K:AV→Prop},zBC M none (.cptr (GI grid)) K=K (rI (grid[0])):=fun{M K}=>hld (i:=0) hg0
 have gl0':(grid[0]).length<9223372036854775808:=by omega
 have e00:decide (((0:Nat):Int)=((0:Nat):Int))=true:=rfl
 simp(disch:=first|exact Xe|fail)only[zAV,e00,hix hg0,hld0,zBK,gl0',gl0,hN,↓Xa,Xb,Xc,↓reduceIte,Nat.reduceLT,Nat.reduceEqDiff,Nat.reduceBEq,Nat.reduceLeDiff,Nat.reduceAdd]
 rw[zeV (by omega)]
 intro b hb
 have hbp:=(zAB.1 hb).1
 have hbH:=(zAB.1 hb).2
 generalize hX:(ABlk.row 25 0 [.int .i64 p.ins,.int .i64 (N:Int),zAf p.code false,zAa p.outs false])=X at*
 have lN:N<9223372036854775808:=by omega
 simp(disch:=first|exact Xe|fail)only[zNa lN,↓Xa,Xb,Xc,↓reduceIte,Nat.reduceLT,Nat.reduceEqDiff,Nat.reduceBEq,Nat.reduceLeDiff,Nat.reduceAdd]
 refine zAO (fun s:Nat=>⟨[],[(1,GIA grid t),(7,.int .i64 L),(8,.own b N 0 N true),(25,.int .i64 N),(26,.int .i64 s)],(H.upd p2 (some X)).upd b (some (.row 29 1 (CI (zAu p grid L) N s)))⟩) (fun s=>s≤N∧∀i(h:i<grid.length),i<s→(grid[i]).length=L∧L≤4096) (fun s=>N-s) 0 (Settle.now ?_) ⟨Nat.zero_le _,fun i _ h=>absurd h (Nat.not_lt_zero i)⟩ ?_
 ·have e:CI (zAu p grid L) N 0=List.replicate N (.seq 0 [] true):=by simp[CI,GI]
  rw[e]
 rintro j ⟨h1,hall⟩
 have hCl:=zOx hR0 h1
 by_cases hj:j<N
 ·simp(disch:=first|exact Xe|fail)only[hj,↓Xa,Xb,Xc,↓reduceIte,Nat.reduceLT,Nat.reduceEqDiff,Nat.reduceBEq,Nat.reduceLeDiff,Nat.reduceAdd]
  rw[zN6 (by omega)]
  intro b2 hb2
  have b2b:b2≠b:=(zAB.1 hb2).1
  have b2p:=(zAB.1 (zAB.1 hb2).2).1
  have b2H:=(zAB.1 (zAB.1 hb2).2).2
  have mb: ∀x y:ABlk,((H.upd p2 (some X)).upd b (some x)).upd b2 (some y)=(((H.upd p2 (some X)).upd b2 (some y)).upd b (some x)):=fun x y=>zAw _ _ _ (Ne.symm b2b)
  rw[mb]
  have hsame: ∀x:ABlk,(((H.upd p2 (some X)).upd b2 (some (.row 48 2 (IC (List.replicate L 0))))).upd b (some x)) b=some x:=fun x=>zAC _ _ _
  have hjR:j<(zAu p grid L).length:=by omega
  simp(disch:=first|exact Xe|fail)only[zA6,hsame,hCl,hj,↓Xa,Xb,Xc,↓reduceIte,Nat.reduceLT,Nat.reduceEqDiff,Nat.reduceBEq,Nat.reduceLeDiff,Nat.reduceAdd]
  refine(zKL (x:=.own b2 (L*2) 0 L true) hCl hj).2 ?_
  rw[zAP]
  have hCl2:((CI (zAu p grid L) N j).set j (.own b2 (L*2) 0 L true)).length=N:=by rw[List.length_set,hCl]
  have hgj:((CI (zAu p grid L) N j).set j (.own b2 (L*2) 0 L true))[j]? =some (.own b2 (L*2) 0 L true):=by
   rw[List.getElem?_set_self (by omega)]
  have fin: ∀{K:St→Prop},((zAu p grid L)[j]).length=L→K ⟨[],[(1,GIA grid t),(7,.int .i64 L),(8,.own b N 0 N true),(25,.int .i64 N),(26,.int .i64 ((j+1:Nat):Int))],(H.upd p2 (some X)).upd b (some (.row 29 1 (CI (zAu p grid L) N (j+1))))⟩→
   Settle K ⟨[],[(1,GIA grid t),(7,.int .i64 L),(8,.own b N 0 N true),(25,.int .i64 N),(26,.int .i64 ((j+1:Nat):Int))],((H.upd p2 (some X)).upd b2 (some (.row 48 2 (IC ((zAu p grid L)[j]))))).upd b (some (.row 29 1 ((CI (zAu p grid L) N j).set j (.own b2 (L*2) 0 L true))))⟩:=fun{K} hlR hk=>by
   refine Settle.frzC b b2 (CI (zAu p grid L) N (j+1)) (by rw[zOx hR0 (by omega),hCl2]) (zej hR0 hj hlR) (by rw[zAA _ _ b2b,zAC]) (zAC _ _ _) (Ne.symm b2b) (Settle.now ?_)
   have hA:(H.upd p2 (some X)) b2=none:=zAB.2 ⟨b2p,b2H⟩
   rw[zAw ((H.upd p2 (some X)).upd b2 _) _ _ (Ne.symm b2b),zAP,zAP,zAU _ hA]
   have eE:Env.map (Fw.frz b2 2 (IC ((zAu p grid L)[j]))) [(1,GIA grid t),(7,.int .i64 L),(8,.own b N 0 N true),(25,.int .i64 N),(26,.int .i64 ((j+1:Nat):Int))]=[(1,GIA grid t),(7,.int .i64 L),(8,.own b N 0 N true),(25,.int .i64 N),(26,.int .i64 ((j+1:Nat):Int))]:=by
    simp[Env.map,Fw.frz,zF0,zCy,Ne.symm b2b]
   rw[eE];exact hk
  by_cases hjg:j<grid.length
  ·have eR:(zAu p grid L)[j]=grid[j]:=by simp only[zAu];rw[List.getElem_append_left hjg]
   have gj:(grid[j]).length<9223372036854775808:=hgb _ (List.getElem_mem hjg)
   have bad: ¬((grid[j]).length=L∧L≤4096)→SetR Q (.tup [.seq 0 [] true,.int .i64 ((5:Nat):Int)]) (((H.upd p2 (some X)).upd b2 (some (.row 48 2 (IC (List.replicate L 0))))).upd b (some (.row 29 1 ((CI (zAu p grid L) N j).set j (.own b2 (L*2) 0 L true))))):=fun h=>by
    have hg:zDb p grid=5:=by rw[hge];exact if_neg fun hh=>h ⟨hh.1 _ (List.getElem_mem hjg),hh.2⟩
    rw[hg]at hbad
    exact SetR.dropTo ((hle2.updB b2H).updB hbH) (SetR.now (hbad (by decide)))
   by_cases hjl:(grid[j]).length=L
   ·have d1:(!decide ((grid[j]).length=L))=false:=by simp[hjl]
    by_cases h4:L≤4096
    ·have d2:decide (((4096:Nat):Int)<(L:Int))=false:=decide_eq_false (by omega)
     simp(disch:=first|exact Xe|fail)only[hjg,hix hjg,hld hjg,zBK,gj,zAV,Int.natCast_inj,d1,zAb,d2,zcb hCl2 hj hgj,↓Xa,Xb,Xc,↓reduceIte,Nat.reduceLT,Nat.reduceEqDiff,Nat.reduceBEq,Nat.reduceLeDiff,Nat.reduceAdd]
     refine zZp (ty:=48) (o:=List.replicate L 0) (by rw[zAA _ _ b2b,zAC]) (by simp) (by omega) ?_
     rw[zAw _ _ _ (Ne.symm b2b),zAP]
     have ed:grid[j]++List.drop (grid[j]).length (List.replicate L 0)=(zAu p grid L)[j]:=by rw[eR];simp[hjl]
     rw[ed]
     simp(disch:=first|exact Xe|fail)only[↓Xa,Xb,Xc,↓reduceIte,Nat.reduceLT,Nat.reduceEqDiff,Nat.reduceBEq,Nat.reduceLeDiff,Nat.reduceAdd]
     refine fin (by rw[eR];exact hjl) ⟨j+1,by omega,⟨by omega,fun i h hi=>?_⟩,rfl⟩
     by_cases e:i=j
     ·subst e;exact⟨hjl,h4⟩
     ·exact hall i h (by omega)
    ·have d2:decide (((4096:Nat):Int)<(L:Int))=true:=decide_eq_true (by omega)
     simp(disch:=first|exact Xe|fail)only[hjg,hix hjg,hld hjg,zBK,gj,zAV,Int.natCast_inj,d1,zAb,d2,zPk,↓Xa,Xb,Xc,↓reduceIte,Nat.reduceLT,Nat.reduceEqDiff,Nat.reduceBEq,Nat.reduceLeDiff,Nat.reduceAdd]
     exact bad fun hh=>h4 hh.2
   ·have d1:(!decide ((grid[j]).length=L))=true:=by simp[hjl]
    simp(disch:=first|exact Xe|fail)only[hjg,hix hjg,hld hjg,zBK,gj,zAV,Int.natCast_inj,d1,zPk,↓Xa,Xb,Xc,↓reduceIte,Nat.reduceLT,Nat.reduceEqDiff,Nat.reduceBEq,Nat.reduceLeDiff,Nat.reduceAdd]
    exact bad fun hh=>hjl hh.1
  ·have eR:(zAu p grid L)[j]=List.replicate L 0:=by simp only[zAu];rw[List.getElem_append_right (by omega)];simp
   simp(disch:=first|exact Xe|fail)only[hjg,zBK,↓Xa,Xb,Xc,↓reduceIte,Nat.reduceLT,Nat.reduceEqDiff,Nat.reduceBEq,Nat.reduceLeDiff,Nat.reduceAdd]
   have eI:IC (List.replicate L 0)=IC ((zAu p grid L)[j]):=by rw[eR]
   rw[eI]
   have hlR:((zAu p grid L)[j]).length=L:=by rw[eR];simp
   refine fin hlR ⟨j+1,by omega,⟨by omega,fun i h hi=>?_⟩,rfl⟩
   by_cases e:i=j
   ·subst e;exact absurd h hjg
   ·exact hall i h (by omega)
 ·obtain rfl:j=N:=by omega
  have eC:CI (zAu p grid L) j j=GI (zAu p grid L):=by
   simp only[CI,Nat.sub_self,List.replicate_zero,List.append_nil];rw[List.take_of_length_le (by omega)]
  have hg:zDb p grid=0:=by
   rw[hge]
   refine if_pos ⟨fun r hm=>?_,?_⟩
   ·obtain⟨i,hi,rfl⟩:=List.getElem_of_mem hm
    exact(hall i hi (by omega)).1
   ·exact(hall 0 hg0 (by omega)).2
  simp(disch:=first|exact Xe|fail)only[hj,↓Xa,Xb,Xc,↓reduceIte,Nat.reduceLT,Nat.reduceEqDiff,Nat.reduceBEq,Nat.reduceLeDiff,Nat.reduceAdd]
  refine Settle.now ?_
  simp(disch:=first|exact Xe|fail)only[zPk,↓Xa,Xb,Xc,↓reduceIte,Nat.reduceLT,Nat.reduceEqDiff,Nat.reduceBEq,Nat.reduceLeDiff,Nat.reduceAdd]
  rw[eC]
  exact SetR.dropTo hle2.both (SetR.now (hok hg b hbH))
theorem zSy{g t:Bool}{K:AV→Prop}:zOp g (zB7 [] t) K↔(K (.bool true)∧K (.bool false)):=by simp[zOp]
theorem zVI{g t:Bool}{zs:List Int}{K:AV→Prop}(h:0<zs.length):zOp g (zB7 zs t) K↔K (.bool g):=by
 cases zs with
 |nil=>simp at h
 |cons x l=>simp[zOp]
theorem zTJ(zs:List Int):(IC zs).all AV.cell=true:=by
 induction zs with
 |nil=>rfl
 |cons z zs ih=>simp only[IC,List.flatMap_cons,List.all_append]at *; rw[ih];rfl
theorem zN3{zs:List Int}{t:Bool}(hbig:zs.length≤1000000){H:AHeap}{Q:AV→AHeap→Prop}(hq: ∀y M,zBI H 48 2 zs.length (IC zs) y M→Q y M):Run Tryz.prog 101 [zB7 zs t] H Q:=by
 refine zTi (by simp) ?_
 rcases Nat.eq_zero_or_pos zs.length with h0|h0
 ·obtain rfl:=List.length_eq_zero_iff.1 h0
  simp(disch:=first|exact Xe|fail)only[zaE,zSy,↓Xa,Xb,Xc,↓reduceIte,Nat.reduceLT,Nat.reduceEqDiff,Nat.reduceBEq,Nat.reduceLeDiff,Nat.reduceAdd]
  refine⟨?_,?_⟩
  ·simp(disch:=first|exact Xe|fail)only[zU2,↓Xa,Xb,Xc,↓reduceIte,Nat.reduceLT,Nat.reduceEqDiff,Nat.reduceBEq,Nat.reduceLeDiff,Nat.reduceAdd]
   exact SetR.now (hq _ _ zAh)
  ·refine .inl ⟨rfl,rfl,?_⟩
   refine⟨rfl,rfl,by simp,by simp,fun _=>?_,fun e=>absurd e (by simp)⟩
   simp(disch:=first|exact Xe|fail)only[zU2,↓Xa,Xb,Xc,↓reduceIte,Nat.reduceLT,Nat.reduceEqDiff,Nat.reduceBEq,Nat.reduceLeDiff,Nat.reduceAdd]
   exact SetR.now (hq _ _ zAh)
 ·simp(disch:=first|exact Xe|fail)only[zaE,zVI h0,↓Xa,Xb,Xc,↓reduceIte,Nat.reduceLT,Nat.reduceEqDiff,Nat.reduceBEq,Nat.reduceLeDiff,Nat.reduceAdd]
  refine zFV (n:=0) (m:=zs.length) zAh (zBU zs) (zTJ zs) h0 (by omega) (by omega) fun y M hg=>?_
  rw[Nat.zero_add,List.nil_append]at hg
  simp(disch:=first|exact Xe|fail)only[zU2,↓Xa,Xb,Xc,↓reduceIte,Nat.reduceLT,Nat.reduceEqDiff,Nat.reduceBEq,Nat.reduceLeDiff,Nat.reduceAdd]
  exact SetR.now (hq y M hg)
theorem zPb{zs:List Int}{t:Bool}(hbig:zs.length≤1000000):PFn Tryz.prog 101 [zB7 zs t] (rI zs):=PFn.frozen fun _ _ hq=>zN3 hbig hq
theorem zOP{n:Int}{x:List Int}:PFn Tryz.prog 112 [.int .i64 n,rI x] (.bool true):=by
 intro H Q hq
 refine zVH (by simp) ?_
 simp(disch:=first|exact Xe|fail)only[zcm,zcS,↓Xa,Xb,Xc,↓reduceIte,Nat.reduceLT,Nat.reduceEqDiff,Nat.reduceBEq,Nat.reduceLeDiff,Nat.reduceAdd]
 exact SetR.now hq
def zSU(p:PR)(g:List (List Int)):List (List Int)×Nat×Nat:=
 if zDb p g=0 then(if(zCG p g (g.getD 0 []).length).length<p.code.length then([],(zCG p g (g.getD 0 []).length).length,20)else(zBm p g (g.getD 0 []).length,0,0))else([],0,zDb p g)
theorem zYp{p:PR}{g:List (List Int)}(h:zDb p g=0):zBV p∧(g.length:Int)=p.ins∧(∀r,r∈g→r.length=(g.getD 0 []).length)∧(g.getD 0 []).length≤4096:=by
 unfold zDb at h
 split at h
 ·rename_i hr
  split at h
  ·rename_i hh;exact⟨hr.1,hr.2,hh.1,hh.2⟩
  ·cases h
 ·rename_i hr
  unfold zSV at h
  split at h
  ·split at h
   ·rename_i h1 h2;exact absurd ⟨h1,h2⟩ hr
   ·cases h
  ·cases h
theorem zLj{H:AHeap}{Q:AV→AHeap→Prop}{p:PR}{grid:List (List Int)}{t:Bool}{k0:Nat}(hp:p.ok)(hL:(grid.getD 0 []).length≤100000)(hz: ∀r,r∈grid→RB4 k0 r)(hgl:grid.length<9223372036854775808)(hk:zBV p→k0+3*p.code.length≤100000)
 (hq: ∀y M,zBI H 29 1 (zSU p grid).1.length (GI (zSU p grid).1) y M→Q (.tup [y,.int .i64 (((zSU p grid).2.1:Nat):Int),.int .i64 (((zSU p grid).2.2:Nat):Int)]) M):
 Run Tryz.prog 48 [zCV p,GIA grid t] H Q:=by
 have hgb: ∀r,r∈grid→r.length<9223372036854775808:=fun r hm=>by have:=(hz r hm).2;omega
 refine zYC (by simp) ?_
 simp(disch:=first|exact Xe|fail)only[zhu,zAq,↓Xa,Xb,Xc,↓reduceIte,Nat.reduceLT,Nat.reduceEqDiff,Nat.reduceBEq,Nat.reduceLeDiff,Nat.reduceAdd]
 refine zAD fun p2 hp2=>?_
 simp(disch:=first|exact Xe|fail)only[zBL,↓Xa,Xb,Xc,↓reduceIte,Nat.reduceLT,Nat.reduceEqDiff,Nat.reduceBEq,Nat.reduceLeDiff,Nat.reduceAdd]
 have hle2: ∀{x:ABlk},Le H (H.upd p2 (some x)):=(Le.refl H).updB hp2
 refine zAM (zTx hp rfl rfl hL hgl hgb (fun hbad=>?_) fun hok b hb=>?_)
 ·have e:zSU p grid=([],0,zDb p grid):=by rw[zSU,if_neg hbad]
  rw[e]at hq
  have hd:decide (((zDb p grid:Nat):Int)=((0:Nat):Int))=false:=decide_eq_false (by omega)
  simp(disch:=first|exact Xe|fail)only[zAV,hd,zez,↓Xa,Xb,Xc,↓reduceIte,Nat.reduceLT,Nat.reduceEqDiff,Nat.reduceBEq,Nat.reduceLeDiff,Nat.reduceAdd]
  exact SetR.dropTo hle2 (SetR.now (hq _ _ zAh))
 obtain⟨hr1,hr2,hlen,h4⟩:=zYp hok
 have hh:=hr1.1
 unfold zC5 at hh
 obtain⟨N,hN⟩: ∃N:Nat,p.regs=(N:Int):=⟨p.regs.toNat,by omega⟩
 have hbp:=(zAB.1 hb).1
 have hbH:=(zAB.1 hb).2
 have e00:decide (((0:Nat):Int)=((0:Nat):Int))=true:=rfl
 generalize hL0:(grid.getD 0 []).length=L at*
 have hg0:0<grid.length:=by omega
 have hR0:(zAu p grid L).length=N:=by simp[zAu,hN];omega
 have hRg:zDg k0 L (zAu p grid L):=fun r hm=>by
  rcases List.mem_append.1 hm with hm|hm
  ·exact⟨hlen r hm,hz r hm⟩
  ·rw[List.mem_replicate]at hm;rw[hm.2]
   exact⟨by simp,fun z hz=>by rw[List.mem_replicate]at hz;rw[hz.2];exact Bd.zero _,by simp;omega⟩
 have hans:zSU p grid=(if(zCG p grid L).length<p.code.length then([],(zCG p grid L).length,20)else(zBm p grid L,0,0)):=by rw[zSU,if_pos hok,hL0]
 have hN1:p.regs.toNat=N:=by omega
 rw[hN1]
 simp(disch:=first|exact Xe|fail)only[zAV,e00,hN,↓Xa,Xb,Xc,↓reduceIte,Nat.reduceLT,Nat.reduceEqDiff,Nat.reduceBEq,Nat.reduceLeDiff,Nat.reduceAdd]
 refine PFn.dcall zZY ?_
 have hb2:(H.upd p2 (some (.row 25 0 [.int .i64 p.ins,.int .i64 (N:Int),zAf p.code false,zAa p.outs false]))) b=none:=zAB.2 ⟨hbp,hbH⟩
 have lc:p.code.length<9223372036854775808:=by omega
 have lo:p.outs.length<9223372036854775808:=by omega
 have eP:AV.agg [.int .i64 p.ins,.int .i64 (N:Int),zAf p.code false,zAa p.outs false]=zUB p (zAf p.code false) (zAa p.outs false):=by rw[zUB,hN]
 simp(disch:=first|exact Xe|fail)only[eP,↓Xa,Xb,Xc,↓reduceIte,Nat.reduceLT,Nat.reduceEqDiff,Nat.reduceBEq,Nat.reduceLeDiff,Nat.reduceAdd]
 refine zAM (zSj (C:=zPr) (A:=zPr) (k0:=k0) (L:=L) (S:=zCG p grid L) (J:=fun _ A=>A=zPr) (Jx:=fun _=>False) zGU.symm rfl zQ4 (zAC _ _ _) hR0 (fun i hi=>by rw[← hN];exact hr1.2.2 i hi) hRg (by omega) (hk hr1) rfl (CodeV.seq lc) rfl (fun o x ho=>by cases ho) rfl ?_ ?_)
 ·rintro pre x rest A B-hd rfl
  exact zOP.call ⟨zPr,hd,rfl,.inl ⟨rfl,rfl⟩⟩
 intro r A' regs' hl' hbd hdj hcase
 have gm1:decide (((0:Nat):Int)≤ -1)=false:=by decide
 rcases hcase with⟨rfl,hSl,rfl,hre⟩|⟨rfl,hSl,rfl⟩|⟨_,h⟩
 ·rw[zGU,zAP]
  rw[hans,if_neg (by omega)]at hq
  have hou:zBm p grid L=p.outs.map fun r=>regs'.getD r.toNat []:=by rw[hre];rfl
  have hol:(zBm p grid L).length=p.outs.length:=by simp[zBm]
  have m2:((H.upd p2 (some (.row 25 0 [.int .i64 p.ins,.int .i64 (N:Int),zAf p.code false,zAa p.outs false]))).upd b (some (.row 29 1 (GI regs')))) p2=some (.row 25 0 [.int .i64 p.ins,.int .i64 (N:Int),zAf p.code false,zAa p.outs false]):=by rw[zAA _ _ (Ne.symm hbp),zAC]
  simp(disch:=first|exact Xe|fail)only[zBt,gm1,m2,zAY lo,↓Xa,Xb,Xc,↓reduceIte,Nat.reduceLT,Nat.reduceEqDiff,Nat.reduceBEq,Nat.reduceLeDiff,Nat.reduceAdd]
  have hlG:Le H ((H.upd p2 (some (.row 25 0 [.int .i64 p.ins,.int .i64 (N:Int),zAf p.code false,zAa p.outs false]))).upd b (some (.row 29 1 (GI regs')))):=((Le.refl H).updB hp2).updB hbH
  generalize hG:((H.upd p2 (some (.row 25 0 [.int .i64 p.ins,.int .i64 (N:Int),zAf p.code false,zAa p.outs false]))).upd b (some (.row 29 1 (GI regs'))))=G at*
  have hGb:G b=some (.row 29 1 (GI regs')):=by rw[← hG,zAC]
  refine zAO (fun s:Nat×AV×AHeap=>⟨[],[(7,.own b N 0 N true),(10,s.2.1),(30,zAa p.outs false),(31,.int .i64 p.outs.length),(32,.int .i64 s.1)],s.2.2⟩)
   (fun s=>s.1≤p.outs.length∧zBI G 29 1 s.1 (GI ((zBm p grid L).take s.1)) s.2.1 s.2.2) (fun s=>p.outs.length-s.1) (0,.seq 0 [] true,G) (Settle.now rfl) ⟨Nat.zero_le _,zAh⟩ ?_
  rintro⟨j,z,M⟩ ⟨h1,hg⟩
  dsimp only at h1 hg ⊢
  by_cases hj:j<p.outs.length
  ·have hjo:=hr1.2.1 _ (List.getElem_mem hj)
   obtain⟨w,hw⟩: ∃w:Nat,p.outs[j]=(w:Int):=⟨(p.outs[j]).toNat,by omega⟩
   have hwN:w<N:=by omega
   have hwr:w<regs'.length:=by omega
   have mb:M b=some (.row 29 1 (GI regs')):=zBq hg hGb
   have hlN:(GI regs').length=N:=by rw[zG4,hl']
   have hwb:=(hbd _ (List.getElem_mem hwr)).1
   simp(disch:=first|exact Xe|fail)only[hj,zBJ,zA3,hw,mb,zA6,hlN,hwN,zJN hl' hwr,↓Xa,Xb,Xc,↓reduceIte,Nat.reduceLT,Nat.reduceEqDiff,Nat.reduceBEq,Nat.reduceLeDiff,Nat.reduceAdd]
   refine(zPb (by omega)).call ?_
   simp(disch:=first|exact Xe|fail)only[↓Xa,Xb,Xc,↓reduceIte,Nat.reduceLT,Nat.reduceEqDiff,Nat.reduceBEq,Nat.reduceLeDiff,Nat.reduceAdd]
   refine zFV (m:=1) hg rfl zad (by omega) (by omega) (by omega) fun y' M2 hg4=>?_
   have et:(zBm p grid L)[j]'(by omega)=regs'[w]:=by
    simp only[hou,List.getElem_map,hw]
    simp[List.getD_eq_getElem?_getD,List.getElem?_eq_getElem hwr]
   rw[← et,← zKq (by omega)]at hg4
   simp(disch:=first|exact Xe|fail)only[↓Xa,Xb,Xc,↓reduceIte,Nat.reduceLT,Nat.reduceEqDiff,Nat.reduceBEq,Nat.reduceLeDiff,Nat.reduceAdd]
   exact Settle.now ⟨(j+1,y',M2),by dsimp only;omega,⟨by dsimp only;omega,hg4⟩,rfl⟩
  ·obtain rfl:j=p.outs.length:=by omega
   rw[List.take_of_length_le (by omega)]at hg
   simp(disch:=first|exact Xe|fail)only[hj,↓Xa,Xb,Xc,↓reduceIte,Nat.reduceLT,Nat.reduceEqDiff,Nat.reduceBEq,Nat.reduceLeDiff,Nat.reduceAdd]
   refine Settle.now ?_
   simp(disch:=first|exact Xe|fail)only[zez,↓Xa,Xb,Xc,↓reduceIte,Nat.reduceLT,Nat.reduceEqDiff,Nat.reduceBEq,Nat.reduceLeDiff,Nat.reduceAdd]
   obtain⟨M2,hg2,hl3⟩:=zBO hg hlG
   exact SetR.dropTo hl3 (SetR.now (hq _ _ (by rw[hol];exact hg2)))
 ·rw[zGU,zAP]
  rw[hans,if_pos hSl]at hq
  have hge:decide (((0:Nat):Int)≤(((zCG p grid L).length:Nat):Int))=true:=decide_eq_true (by omega)
  simp(disch:=first|exact Xe|fail)only[zBt,hge,zez,↓Xa,Xb,Xc,↓reduceIte,Nat.reduceLT,Nat.reduceEqDiff,Nat.reduceBEq,Nat.reduceLeDiff,Nat.reduceAdd]
  exact SetR.dropTo (((Le.refl H).updB hp2).updB hbH) (SetR.now (hq _ _ zAh))
 ·exact h.elim
end Go.Proofs.YtmndejlpfmmaiaaGreatDoor.Fw
