/- The texts Lay156 Kj Kh Kk Kl Km Ko Kp Kq Kr Ks Kt Ku Kv Kw Ee Ef Gn Go Eg Eh Ei Gp Gq Ej Kx Ek El Em Er Gs Gt Gv Es Et Gb Gc Gx, joined. -/
import Derived.Test.YtmndejlpfmmaiaaGreatDoorZ8
import Derived.Shelf.Strings.OnBuilder
import Derived.Test.YtmndejlpfmmaiaaGreatDoorProg
import Derived.Lib.SmallJoins
set_option linter.unusedSimpArgs false
set_option linter.unusedVariables false
namespace Go.Proofs.YtmndejlpfmmaiaaGreatDoor.Fw
open Go Go.Shelf Go.Proofs
end Go.Proofs.YtmndejlpfmmaiaaGreatDoor.Fw
namespace Go.Proofs.YtmndejlpfmmaiaaGreatDoor.Fw
open Go Go.Proofs.YtmndejlpfmmaiaaGreatDoor.Ma Go.Shelf
set_option maxRecDepth 20000
end Go.Proofs.YtmndejlpfmmaiaaGreatDoor.Fw
namespace Go.Proofs.YtmndejlpfmmaiaaGreatDoor.Fw
open Go Go.Proofs.YtmndejlpfmmaiaaGreatDoor.Ma
set_option maxRecDepth 20000
theorem zMQ{α:Type}{f:α→AV}{l:List α}{H:AHeap}{K:AV→Prop}{i:Nat}(h:i<l.length):zA9 H none (.cptr ((l.map f).drop i)) K=K (f (l[i])):=by
 have hi:i<(l.map f).length:=by simpa using h
 simp only[zA9,zA4,List.drop_eq_getElem_cons hi]
 simp
theorem zQy{α:Type}{f:α→AV}{l:List α}{t:Bool}{k:IntKind}{K:AV→Prop}{i:Nat}(h:i<l.length):zBg 1 (.seq l.length (l.map f) t) (.int k (i:Int)) K=K (.cptr ((l.map f).drop (i*1))):=zHg (by simp) h
def zdQ:List Nat→Nat
 |[]=>0
 |a::l=>a+zdQ l
section
variable {K:AV→Prop} {H:AHeap} {k:IntKind} {t:Bool} {l:List zgX} {i:Nat}
end
theorem zQa{zs:List Int}{i:Nat}(h:i<zs.length):RC (zs.take (i+1))=RC (zs.take i)++[zG8 (zs[i]),zRy (zs[i])]:=by
 rw[List.take_add_one,List.getElem?_eq_getElem h,Option.toList_some,zYv]
theorem zdq{z:Int}:[zG8 z,zRy z].all AV.cell=true:=rfl
theorem zNN{z:Int}{t:Bool}:(zDg z t).cells=some [zG8 z,LS (digs 65536 z.natAbs) t]:=id rfl
theorem zJS{z:Int}{t:Bool}:AV.agg [zG8 z,LS (digs 65536 z.natAbs) t]=zDg z t:=id rfl
theorem PFn.loose1{P:Program}{f:FuncId}{x:AV}{rest:List AV}{r:AV}(h:PFn P f (loose x::rest) r):PFn P f (x::rest) r:=fun H Q hq=>
 ⟨(h H Q hq).1,fun c vs hH hok hs he=>(h H Q hq).2 c vs hH hok (by simpa using hs) fun i hi hi'=>by
  match i,hi with
  |0,_=>exact zCo _ _ (he 0 (by simp) hi')
  |i+1,hi=>exact he (i+1) (by simpa using hi) hi'⟩
theorem zKn{H:AHeap}{Q:AV→AHeap→Prop}{zs:List Int}{t:Bool}{c:Int}{k:Nat}(hz:RB4 k zs)(hc:Bd k c)(hk:k≤1000000)(hc0:c≠0)(hbig:zs.length≤1000000)
 (hq:(∀z,z∈zs→z%c=0)→∀y M,zA7 H 48 2 zs.length (IC (zs.map (· / c))) y M→Q (.tup [y,.int .i64 ((0:Nat):Int)]) M)
 (hn:(∃z,z∈zs∧z%c≠0)→Q (.tup [.seq 0 [] true,.int .i64 ((20:Nat):Int)]) H):Run Tryz.prog 187 [zBk zs t,zAe c] H Q:=by
 have nz:zs.length<9223372036854775808:=by omega
 have hs:decide (zGl c=((0:Nat):Int))=false:=decide_eq_false (by unfold zGl;rw[if_neg hc0];split<;>omega)
 refine zTe (by simp) ?_
 simp(disch:=first|exact Xe|fail)only[zbj,zAE,↓Xa,Xb,Xc,↓reduceIte,Nat.reduceLT,Nat.reduceEqDiff,Nat.reduceBEq,Nat.reduceLeDiff,Nat.reduceAdd,Nat.reduceMul]
 refine zAD fun p1 hp1=>?_
 have n1:=hp1
 simp(disch:=first|exact Xe|fail)only[zAF,↓Xa,Xb,Xc,↓reduceIte,Nat.reduceLT,Nat.reduceEqDiff,Nat.reduceBEq,Nat.reduceLeDiff,Nat.reduceAdd,Nat.reduceMul]
 refine(zC2 hc (by omega)).call ?_
 simp(disch:=first|exact Xe|fail)only[zAK,hs,zBE,↓Xa,Xb,Xc,↓reduceIte,Nat.reduceLT,Nat.reduceEqDiff,Nat.reduceBEq,Nat.reduceLeDiff,Nat.reduceAdd,Nat.reduceMul]
 refine zAO (fun s:Nat×AV×AHeap=>⟨[],[(3,.ptr p1 2 0),(6,s.2.1),(15,zBk zs t),(16,.int .i64 (zs.length:Int)),(17,.int .i64 s.1)],s.2.2⟩)
  (fun s=>s.1≤zs.length∧(∀z,z∈zs.take s.1→z%c=0)∧zA7 (H.upd p1 (some (.row 48 0 [zBO c,zBU c]))) 48 2 s.1 (IC ((zs.map (· / c)).take s.1)) s.2.1 s.2.2) (fun s=>zs.length-s.1) (0,.seq 0 [] true,_) (Settle.now rfl) ⟨Nat.zero_le _,by simp,zAl⟩ ?_
 rintro⟨i,y,M⟩ ⟨h3,hall,hg⟩
 dsimp only at h3 hall hg ⊢
 have m1:M p1=some (.row 48 0 [zBO c,zBU c]):=zGS hg (zAC _ _ _)
 by_cases hi:i<zs.length
 ·have hi2:i<(zs.map (· / c)).length:=by simpa using hi
  simp(disch:=first|exact Xe|fail)only[hi,zDy,zCi,↓Xa,Xb,Xc,↓reduceIte,Nat.reduceLT,Nat.reduceEqDiff,Nat.reduceBEq,Nat.reduceLeDiff,Nat.reduceAdd,Nat.reduceMul]
  refine zAD fun q1 hq1=>?_
  have a1:=zAS m1 hq1
  simp(disch:=first|exact Xe|fail)only[zAE,zAF,m1,↓Xa,Xb,Xc,↓reduceIte,Nat.reduceLT,Nat.reduceEqDiff,Nat.reduceBEq,Nat.reduceLeDiff,Nat.reduceAdd,Nat.reduceMul]
  have hg1:=zCT (r:=.row 48 0 [zBO (zs[i]),zBU (zs[i])]) hg hq1
  refine(zN9 (hz.at hi) (by omega) hc (by omega) hc0).call ?_
  simp(disch:=first|exact Xe|fail)only[↓Xa,Xb,Xc,↓reduceIte,Nat.reduceLT,Nat.reduceEqDiff,Nat.reduceBEq,Nat.reduceLeDiff,Nat.reduceAdd,Nat.reduceMul]
  refine zAD fun q2 hq2=>?_
  have a2:=zAS m1 (zAB.1 hq2).2
  simp(disch:=first|exact Xe|fail)only[↓Xa,Xb,Xc,↓reduceIte,Nat.reduceLT,Nat.reduceEqDiff,Nat.reduceBEq,Nat.reduceLeDiff,Nat.reduceAdd,Nat.reduceMul]
  refine zAD fun q3 hq3=>?_
  have a3:=zAS m1 (zAB.1 (zAB.1 hq3).2).2
  have a32:=(zAB.1 hq3).1
  simp(disch:=first|exact Xe|fail)only[zAE,zAF,↓Xa,Xb,Xc,↓reduceIte,Nat.reduceLT,Nat.reduceEqDiff,Nat.reduceBEq,Nat.reduceLeDiff,Nat.reduceAdd,Nat.reduceMul]
  have hg2:=zCT (r:=.row 48 0 [zBO (zs[i] / c),zBU (zs[i] / c)]) hg1 hq2
  have hq3':((M.upd q1 (some (.row 48 0 [zBO (zs[i]),zBU (zs[i])]))).upd q2 (some (.row 48 0 [zBO (zs[i] / c),zBU (zs[i] / c)]))) q3=none:=zAB.2 ⟨a32,(zAB.1 hq3).2⟩
  have hg3:=zCT (r:=.row 48 0 [zBO (zs[i]%c),zBU (zs[i]%c)]) hg2 hq3'
  have br:Bd k (zs[i]%c):=by
   have h1:=Int.emod_lt (zs[i]) hc0
   have h2:=Int.emod_nonneg (zs[i]) hc0
   unfold Bd at hc ⊢; omega
  refine(zC2 br (by omega)).call ?_
  by_cases h0:zs[i]%c=0
  ·simp(disch:=first|exact Xe|fail)only[zLs,h0,zGw,zAE,zAF,↓Xa,Xb,Xc,↓reduceIte,Nat.reduceLT,Nat.reduceEqDiff,Nat.reduceBEq,Nat.reduceLeDiff,Nat.reduceAdd,Nat.reduceMul]
   rw[h0]at hg3
   refine zFB (m:=1) hg3 rfl zXO (by omega) (by omega) (by omega) fun y' M2 hg4=>?_
   have et:(zs.map (· / c))[i]=zs[i] / c:=by simp
   rw[← et,← zH6 hi2]at hg4
   have hle:Le (H.upd p1 (some (.row 48 0 [zBO c,zBU c]))) ((((H.upd p1 (some (.row 48 0 [zBO c,zBU c]))).upd q1 (some (.row 48 0 [zBO (zs[i]),zBU (zs[i])]))).upd q2 (some (.row 48 0 [zBO ((zs.map (· / c))[i]),zBU ((zs.map (· / c))[i])]))).upd q3 (some (.row 48 0 [zBO 0,zBU 0]))):=
    (((Le.refl _).updB (zCH hg hq1)).updB (zCH hg (zAB.1 hq2).2)).updB (zCH hg (zAB.1 (zAB.1 hq3).2).2)
   obtain⟨M3,hg5,hl5⟩:=zBp hg4 hle
   simp(disch:=first|exact Xe|fail)only[↓Xa,Xb,Xc,↓reduceIte,Nat.reduceLT,Nat.reduceEqDiff,Nat.reduceBEq,Nat.reduceLeDiff,Nat.reduceAdd,Nat.reduceMul]
   refine Settle.dropTo hl5 (Settle.now ⟨(i+1,y',M3),by dsimp only;omega,⟨by dsimp only;omega,fun z hm=>?_,hg5⟩,rfl⟩)
   dsimp only at hm
   rw[List.take_add_one,List.getElem?_eq_getElem hi,Option.toList_some]at hm
   rcases List.mem_append.1 hm with hm|hm
   ·exact hall z hm
   ·rw[List.mem_singleton.1 hm];exact h0
  ·simp(disch:=first|exact Xe|fail)only[zLs,h0,zYU,↓Xa,Xb,Xc,↓reduceIte,Nat.reduceLT,Nat.reduceEqDiff,Nat.reduceBEq,Nat.reduceLeDiff,Nat.reduceAdd,Nat.reduceMul]
   refine SetR.dropTo ?_ (SetR.now (hn ⟨_,List.getElem_mem hi,h0⟩))
   have hH:Le H M:=fun o x ho=>zFe hg o x (((Le.refl H).updB n1) o x ho)
   exact((hH.upd hq1).upd hq2).upd hq3'
 ·obtain rfl:i=zs.length:=by omega
  rw[List.take_of_length_le (by omega)]at hall
  rw[List.take_of_length_le (by simp)]at hg
  simp(disch:=first|exact Xe|fail)only[hi,↓Xa,Xb,Xc,↓reduceIte,Nat.reduceLT,Nat.reduceEqDiff,Nat.reduceBEq,Nat.reduceLeDiff,Nat.reduceAdd,Nat.reduceMul]
  refine Settle.now ?_
  simp(disch:=first|exact Xe|fail)only[zYU,↓Xa,Xb,Xc,↓reduceIte,Nat.reduceLT,Nat.reduceEqDiff,Nat.reduceBEq,Nat.reduceLeDiff,Nat.reduceAdd,Nat.reduceMul]
  obtain⟨M3,hg5,hl5⟩:=zBp hg ((Le.refl H).updB n1)
  exact SetR.dropTo hl5 (SetR.now (hq hall y M3 hg5))
theorem RB4.map{k k':Nat}{zs:List Int}{f:Int→Int}(h:RB4 k zs)(hf: ∀z,Bd k z→Bd k' (f z)):RB4 k' (zs.map f):=
 ⟨fun z hz=>by obtain⟨y,hy,rfl⟩:=List.mem_map.1 hz;exact hf y (h.1 y hy),by rw[List.length_map];exact h.2⟩
theorem RB4.zip{k k1 k2:Nat}{zs ws:List Int}{f:Int→Int→Int}(h:RB4 k1 zs)(h2:RB4 k2 ws)(hl:zs.length=ws.length)(hf: ∀z w,Bd k1 z→Bd k2 w→Bd k (f z w)):RB4 k (zHO f zs ws):=
 ⟨fun z hz=>by
  obtain⟨i,hi,rfl⟩:=List.getElem_of_mem hz
  have hi2:i<zs.length:=by rw[zFD hl]at hi;exact hi
  rw[zOj hl hi2]
  exact hf _ _ (h.at hi2) (h2.at (by omega)),by rw[zFD hl];exact h.2⟩
theorem RB4.mono{k k':Nat}{zs:List Int}(h:RB4 k zs)(hk:k≤k'):RB4 k' zs:=⟨fun z hz=>(h.1 z hz).mono hk,h.2⟩
section
variable {zs ws:List Int} {t t':Bool} {k:Nat}
end
theorem zO2{H:AHeap}{n b L off ty es:Nat}{cells l:List AV}{K:AV→AHeap→Prop}(hL:cells.length=L)(hl:l.length=n)(ho:off+n≤L):stP H n b L off K (some l) (some (.row ty es cells))↔K .bot (H.upd b (some (.row ty es (zAh cells off l)))):=by
 simp[stP,hL,hl,ho]
def RowO(M:AHeap)(y:AV)(zs:List Int):Prop:=(zs=[]∧y=.seq 0 [] true)∨(0<zs.length∧∃b,y=.own b (zs.length*2) 0 zs.length false∧M b=some (.row 48 2 (IC zs)))
theorem RowO.of{H M:AHeap}{n:Nat}{y:AV}{zs:List Int}(h:zA7 H 48 2 n (IC zs) y M)(hn:zs.length=n):RowO M y zs:=by
 subst hn
 rcases h with⟨h1,_,rfl,rfl⟩|⟨hn,_,b,hb,rfl,rfl⟩
 ·exact .inl ⟨List.length_eq_zero_iff.1 h1,rfl⟩
 ·exact .inr ⟨hn,b,rfl,zAC _ _ _⟩
theorem RowO.le{M M':AHeap}{y:AV}{zs:List Int}(h:RowO M y zs)(hl:Le M M'):RowO M' y zs:=by
 rcases h with h|⟨hn,b,e,hb⟩
 ·exact .inl h
 ·exact .inr ⟨hn,b,e,hl _ _ hb⟩
theorem RowO.len{M:AHeap}{y:AV}{zs:List Int}(h:RowO M y zs)(hn:zs.length<9223372036854775808){K:AV→Prop}:zDr false y K=K (.int .i64 ((zs.length:Nat):Int)):=by
 rcases h with⟨rfl,rfl⟩|⟨h0,b,rfl,hb⟩<;>simp[zDr,hn]
section
variable {zs ws:List Int} {t t':Bool} {k:Nat}
end
theorem zMz(a b:List Int):IC (a++b)=IC a++IC b:=by simp[IC,List.flatMap_append]
theorem zdM(n:Nat):zB8 [.bool false,.seq 0 [] true] (n*2)=IC (List.replicate n 0):=by
 induction n with
 |zero=>simp[zB8,IC]
 |succ n ih=>
  have e1:n*2%2=0:=by omega
  have e2:(n*2+1)%2=1:=by omega
  rw[List.replicate_succ',zRu,← ih,show(n+1)*2=n*2+1+1 by omega]
  simp only[zB8,List.range_succ,List.map_append,List.map_cons,List.map_nil,List.length_cons,List.length_nil,e1,e2]
  simp[zBO,zBU,zAL,LS,U,e1,e2]
theorem zUI{H:AHeap}{ty n:Nat}{K:AV→AHeap→Prop}(h:n≤100000):zOP H ty 2 32 [.bool false,.seq 0 [] true] (.int .i64 (n:Int)) (.int .i64 (n:Int)) K↔∀b,H b=none→K (.own b (n*2) 0 n true) (H.upd b (some (.row ty 2 (IC (List.replicate n 0))))):=by
 have h1:(32:Int)*n≤281474976710656:=by omega
 have h2:(n:Int)<9223372036854775808:=by omega
 simp[zOP,h1,h2,zdM]
theorem zdY{zs:List Int}{k:Nat}(h:k≤zs.length):(IC zs).take (k*2)=IC (zs.take k):=by
 conv=>lhs;rw[← List.take_append_drop k zs,zMz]
 exact List.take_left' (by rw[zBQ,List.length_take];omega)
theorem zaR{zs:List Int}{k:Nat}(h:k≤zs.length):(IC zs).drop (k*2)=IC (zs.drop k):=by
 conv=>lhs;rw[← List.take_append_drop k zs,zMz]
 exact List.drop_left' (by rw[zBQ,List.length_take];omega)
theorem zbO{zs:List Int}{k:Nat}{v:Int}(h:k<zs.length):(IC zs).take (k*2)++[zBO v,zBU v]++(IC zs).drop (k*2+2)=IC (zs.set k v):=by
 rw[zdY (by omega),show k*2+2=(k+1)*2 by omega,zaR (by omega),List.set_eq_take_append_cons_drop,if_pos h,zMz]
 simp[IC]
theorem zT7{G:AHeap}{b m i ty:Nat}{t:Bool}{cells:List AV}(hG:G b=some (.row ty 2 cells))(hl:cells.length=m*2)(hi:i<m){k:IntKind}{K:AV→Prop}:(zCB G (.own b (m*2) 0 m t)∧zBg 2 (.own b (m*2) 0 m t) (.int k (i:Int)) K)↔K (.ptr b (m*2) (i*2)):=by simp[zCB,zBg,hG,hl,hi]
theorem zZc{ty m j:Nat}{zs:List Int}{K:AV→Prop}(hl:zs.length=m)(hj:j<zs.length):ldP (some 2) (m*2) (j*2) K (some (.row ty 2 (IC zs)))↔K (zAe (zs[j])):=by
 have h1:(IC zs).length=m*2:=by rw[zBQ,hl]
 have h2:j*2+2≤m*2:=by omega
 simp[ldP,ldC,h1,h2,zFz zs j hj,zE2]
def zff(M:AHeap)(y:AV):AHeap:=fun o=>if o∈zBJ y then none else M o
theorem RowO.blk{M:AHeap}{y:AV}{zs:List Int}(h:RowO M y zs){b:Nat}(hb:b∈zBJ y):M b≠none:=by
 rcases h with⟨_,rfl⟩|⟨_,c,rfl,hc⟩
 ·simp[zBJ]at hb
 ·rw[List.mem_singleton.1 hb,hc];simp
theorem RowO.min{M:AHeap}{y z:AV}{zs:List Int}(h:RowO M y zs)(ha: ∀b,b∈zBJ z→b∉zBJ y):RowO (zff M z) y zs:=by
 rcases h with h|⟨hn,b,rfl,hb⟩
 ·exact .inl h
 ·refine .inr ⟨hn,b,rfl,?_⟩
  unfold zff
  rw[if_neg fun hz=>ha b hz (by simp[zBJ])];exact hb
def RCt(t:Bool)(zs:List Int):List AV:=zs.flatMap fun z=>[zG8 z,LS (digs 65536 z.natAbs) t]
def zRw(p:PR)(n:Int):Nat:=if zBl p then(if n=p.ins then 0 else 5)else 80
theorem zOF(p:PR)(hp:p.ok)(n:Int):PFn Tryz.prog 83 [zEF p,.int .i64 n] (.int .i64 ((zRw p n:Nat):Int)):=by
 intro H Q hq
 obtain⟨k,hf⟩:=zMP p hp
 refine zYS (by simp) ?_
 simp(disch:=first|exact Xe|fail)only[zfh,zBj,↓Xa,Xb,Xc,↓reduceIte,Nat.reduceLT,Nat.reduceEqDiff,Nat.reduceBEq,Nat.reduceLeDiff,Nat.reduceAdd,Nat.reduceMul]
 refine zAD fun p1 hp1=>?_
 have n1:=hp1
 simp(disch:=first|exact Xe|fail)only[zCM,↓Xa,Xb,Xc,↓reduceIte,Nat.reduceLT,Nat.reduceEqDiff,Nat.reduceBEq,Nat.reduceLeDiff,Nat.reduceAdd,Nat.reduceMul]
 refine hf.call ?_
 unfold zRw at hq
 by_cases h:zBl p
 ·rw[if_pos h]at hq ⊢
  have e0:decide (((0:Nat):Int)=((0:Nat):Int))=true:=rfl
  by_cases hn:n=p.ins
  ·rw[if_pos hn]at hq
   simp(disch:=first|exact Xe|fail)only[zAU,e0,decide_eq_true hn,Bool.not_true,zdG,↓Xa,Xb,Xc,↓reduceIte,Nat.reduceLT,Nat.reduceEqDiff,Nat.reduceBEq,Nat.reduceLeDiff,Nat.reduceAdd,Nat.reduceMul]
   exact SetR.dropTo ((Le.refl H).updB n1) (SetR.now hq)
  ·rw[if_neg hn]at hq
   simp(disch:=first|exact Xe|fail)only[zAU,e0,decide_eq_false hn,Bool.not_true,Bool.not_false,zdG,↓Xa,Xb,Xc,↓reduceIte,Nat.reduceLT,Nat.reduceEqDiff,Nat.reduceBEq,Nat.reduceLeDiff,Nat.reduceAdd,Nat.reduceMul]
   exact SetR.dropTo ((Le.refl H).updB n1) (SetR.now hq)
 ·rw[if_neg h]at hq ⊢
  have e0:decide (((80:Nat):Int)=((0:Nat):Int))=false:=rfl
  simp(disch:=first|exact Xe|fail)only[zAU,e0,Bool.not_false,zdG,↓Xa,Xb,Xc,↓reduceIte,Nat.reduceLT,Nat.reduceEqDiff,Nat.reduceBEq,Nat.reduceLeDiff,Nat.reduceAdd,Nat.reduceMul]
  exact SetR.dropTo ((Le.refl H).updB n1) (SetR.now hq)
theorem zG2{n:Nat}(hn:n≤65536):PFn Tryz.prog 212 [.int .i64 (n:Int)] (zAe (2^n)):=by
 intro H Q hq
 refine zUs (by simp) ?_
 simp(disch:=first|exact Xe|fail)only[zc0,↓Xa,Xb,Xc,↓reduceIte,Nat.reduceLT,Nat.reduceEqDiff,Nat.reduceBEq,Nat.reduceLeDiff,Nat.reduceAdd,Nat.reduceMul]
 refine zAD fun p1 hp1=>?_
 have n1:=hp1
 simp(disch:=first|exact Xe|fail)only[↓Xa,Xb,Xc,↓reduceIte,Nat.reduceLT,Nat.reduceEqDiff,Nat.reduceBEq,Nat.reduceLeDiff,Nat.reduceAdd,Nat.reduceMul]
 refine(zGo (n:=((1:Nat):Int)) (by omega)).call ?_
 simp(disch:=first|exact Xe|fail)only[↓Xa,Xb,Xc,↓reduceIte,Nat.reduceLT,Nat.reduceEqDiff,Nat.reduceBEq,Nat.reduceLeDiff,Nat.reduceAdd,Nat.reduceMul]
 refine(zO8 (Bd.i64 (n:=((1:Nat):Int)) (by omega)) (by omega) hn).call ?_
 rw[show((1:Nat):Int)*2^n=2^n from Int.one_mul _]
 simp(disch:=first|exact Xe|fail)only[↓Xa,Xb,Xc,↓reduceIte,Nat.reduceLT,Nat.reduceEqDiff,Nat.reduceBEq,Nat.reduceLeDiff,Nat.reduceAdd,Nat.reduceMul]
 refine zAD fun p2 hp2=>?_
 have n2:=hp2
 simp only[zAB]at n2
 obtain⟨_,n2⟩:=n2
 simp(disch:=first|exact Xe|fail)only[zAE,zAF,zaD,↓Xa,Xb,Xc,↓reduceIte,Nat.reduceLT,Nat.reduceEqDiff,Nat.reduceBEq,Nat.reduceLeDiff,Nat.reduceAdd,Nat.reduceMul]
 exact SetR.dropTo (((Le.refl H).updB n1).updB n2) (SetR.now hq)
theorem zRV{G:AHeap}{b m i ty:Nat}{t:Bool}{cells:List AV}(hG:G b=some (.row ty 2 cells))(hl:cells.length=m*2)(hi:i<m){k:IntKind}{K:AV→Prop}:(zCB G (.own b (m*2) 0 m t)∧zBg 2 (.own b (m*2) 0 m t) (.int k (i:Int)) K)↔K (.ptr b (m*2) (i*2)):=zT7 hG hl hi
theorem zRJ{A B:AHeap}{b:Nat}(h:A b=none):Un A B b=B b:=by simp[Un,h]
theorem zM8{A B B':AHeap}(h:Le B B'):Le (Un A B) (Un A B'):=fun o x ho=>by
 unfold Un at ho ⊢
 cases e:A o with
 |some y=>rw[e]at ho;exact ho
 |none=>rw[e]at ho;exact h o x ho
theorem zSg{A B B':AHeap}(h:Dj A B')(hl:Le B B'):Dj A B:=fun i=>by
 rcases h i with h|h
 ·exact .inl h
 ·right
  cases e:B i with
  |none=>rfl
  |some x=>have:=hl i x e;rw[h]at this;cases this
theorem zNo{P:Program}{f:AV}{args:List AV}{H:AHeap}{K K':AV→AHeap→Prop}(h:zBn P f args H K)(hk: ∀r H',K r H'→K' r H'):zBn P f args H K':=by
 unfold zBn at h ⊢
 split at h
 ·exact Run.mono h hk
 ·exact YieldW.mono h hk
 ·exact h.elim
theorem zMe{H:AHeap}{b N w ty:Nat}{x:Int}{regs:List Int}{K:AV→AHeap→Prop}(hN:regs.length=N)(hw:w<N):stP H 2 b (N*2) (w*2) K (some [zBO x,zBU x]) (some (.row ty 2 (IC regs)))↔K .bot (H.upd b (some (.row ty 2 (IC (regs.set w x))))):=by
 rw[zO2 (n:=2) (l:=[zBO x,zBU x]) (by rw[zBQ,hN]) rfl (by omega)]
 have e:zAh (IC regs) (w*2) [zBO x,zBU x]=IC (regs.set w x):=zbO (by omega)
 rw[e]
def CodeV(C:AHeap)(v:AV)(l:List Ins):Prop:=v.cell=true∧(∀K,zDr false v K=K (.int .i64 ((l.length:Nat):Int)))∧∃qf:Nat→AV,∀G,Le C G→Lent G v (zBI l false)∧∀i(h:i<l.length),(∀k K,(zCB G v∧zBg 5 v (.int k (i:Int)) K)↔K (qf i))∧∀K,zA9 G (some 5) (qf i) K↔K (zIk (l[i]))
def OutsV(C:AHeap)(v:AV)(l:List Int):Prop:=v.cell=true∧(∀K,zDr false v K=K (.int .i64 ((l.length:Nat):Int)))∧∃qf:Nat→AV,∀G,Le C G→Lent G v (zAr l false)∧∀i(h:i<l.length),(∀k K,(zCB G v∧zBg 1 v (.int k (i:Int)) K)↔K (qf i))∧∀K,zA9 G none (qf i) K↔K (.int .i64 (l[i]))
theorem Lent.loose{G:AHeap}{n:Nat}{cells:List AV}{t:Bool}:Lent G (.seq n cells t) (.seq n cells false):=fun c _ _ _ h=>zCo _ _ (h.later (c.dropTo_later zMu))
theorem CodeV.seq{C:AHeap}{l:List Ins}{t:Bool}(hl:l.length<9223372036854775808):CodeV C (zBI l t) l:=⟨rfl,fun K=>zBf hl,fun i=>.cptr ((l.flatMap zDM).drop (i*5)),fun G _=>⟨Lent.loose,fun i h=>⟨fun k K=>by rw[zDb h];simp[zCB],fun K=>by rw[zCw h]⟩⟩⟩
theorem OutsV.seq{C:AHeap}{l:List Int}{t:Bool}(hl:l.length<9223372036854775808):OutsV C (zAr l t) l:=⟨rfl,fun K=>zAm hl,fun i=>.cptr ((l.map fun n=>AV.int .i64 n).drop i),fun G _=>⟨Lent.loose,fun i h=>⟨fun k K=>by rw[zBq h];simp[zCB],fun K=>by rw[zBb h]⟩⟩⟩
theorem zMa{b L n:Nat}{t:Bool}(hn:n<9223372036854775808){K:AV→Prop}:zDr false (.own b L 0 n t) K=K (.int .i64 ((n:Nat):Int)):=by simp[zDr,hn]
def zS1(p:PR)(cv ov:AV):AV:=.agg [.int .i64 p.ins,.int .i64 p.regs,cv,ov]
theorem zKz{p:PR}{cv ov:AV}(h1:cv.cell=true)(h2:ov.cell=true):(zS1 p cv ov).cells=some [.int .i64 p.ins,.int .i64 p.regs,cv,ov]:=by
 have e:([.int .i64 p.ins,.int .i64 p.regs,cv,ov]:List AV).all AV.cell=true:=by
  rw[List.all_cons,List.all_cons,List.all_cons,List.all_cons,h1,h2];rfl
 show(if([.int .i64 p.ins,.int .i64 p.regs,cv,ov]:List AV).all AV.cell=true then _ else _)=_
 rw[if_pos e]
theorem zcP{A B:AHeap}(h:Dj A B):Le B (Un A B):=fun o x ho=>by rw[zRJ (zDG h ho),ho]
def PtV(A B:Int):AV:=.agg [.int .i64 A,.int .i64 B]
theorem zA1{A B:Int}:(PtV A B).cells=some [.int .i64 A,.int .i64 B]:=rfl
def zEs(A B:Int):Bool:=decide (-16≤A∧A≤16∧ -16≤B∧B≤16)
theorem zGd{n:Int}:PFn Tryz.prog 203 [.int .i64 n] (.bool (decide (-16≤n∧n≤16))):=by
 intro H Q hq
 refine zTB (by simp) ?_
 by_cases h1: -16≤n
 ·by_cases h2:n≤16
  ·rw[decide_eq_true ⟨h1,h2⟩]at hq
   have e1:decide (-16≤n)=true:=decide_eq_true h1
   have e2:decide (n≤((16:Nat):Int))=true:=decide_eq_true h2
   simp(disch:=first|exact Xe|fail)only[zSl,zCx,zE0,e1,e2,zUz,↓Xa,Xb,Xc,↓reduceIte,Nat.reduceLT,Nat.reduceEqDiff,Nat.reduceBEq,Nat.reduceLeDiff,Nat.reduceAdd,Nat.reduceMul]
   exact SetR.now hq
  ·rw[decide_eq_false (by omega)]at hq
   have e1:decide (-16≤n)=true:=decide_eq_true h1
   have e2:decide (n≤((16:Nat):Int))=false:=decide_eq_false h2
   simp(disch:=first|exact Xe|fail)only[zSl,zCx,zE0,e1,e2,zUz,↓Xa,Xb,Xc,↓reduceIte,Nat.reduceLT,Nat.reduceEqDiff,Nat.reduceBEq,Nat.reduceLeDiff,Nat.reduceAdd,Nat.reduceMul]
   exact SetR.now hq
 ·rw[decide_eq_false (by omega)]at hq
  have e1:decide (-16≤n)=false:=decide_eq_false h1
  simp(disch:=first|exact Xe|fail)only[zSl,zCx,zE0,e1,zUz,↓Xa,Xb,Xc,↓reduceIte,Nat.reduceLT,Nat.reduceEqDiff,Nat.reduceBEq,Nat.reduceLeDiff,Nat.reduceAdd,Nat.reduceMul]
  exact SetR.now hq
theorem zFW{A B:Int}:PFn Tryz.prog 137 [PtV A B] (.bool (zEs A B)):=by
 intro H Q hq
 refine zTH (by simp) ?_
 simp(disch:=first|exact Xe|fail)only[zZl,zA1,↓Xa,Xb,Xc,↓reduceIte,Nat.reduceLT,Nat.reduceEqDiff,Nat.reduceBEq,Nat.reduceLeDiff,Nat.reduceAdd,Nat.reduceMul]
 refine zAD fun p1 hp1=>?_
 have n1:=hp1
 simp(disch:=first|exact Xe|fail)only[↓Xa,Xb,Xc,↓reduceIte,Nat.reduceLT,Nat.reduceEqDiff,Nat.reduceBEq,Nat.reduceLeDiff,Nat.reduceAdd,Nat.reduceMul]
 refine zGd.call ?_
 by_cases h1: -16≤A∧A≤16
 ·rw[decide_eq_true h1]
  simp(disch:=first|exact Xe|fail)only[↓Xa,Xb,Xc,↓reduceIte,Nat.reduceLT,Nat.reduceEqDiff,Nat.reduceBEq,Nat.reduceLeDiff,Nat.reduceAdd,Nat.reduceMul]
  refine zGd.call ?_
  have e:decide (-16≤B∧B≤16)=zEs A B:=by unfold zEs;congr 1;simp[h1.1,h1.2]
  rw[e]
  simp(disch:=first|exact Xe|fail)only[zYR,↓Xa,Xb,Xc,↓reduceIte,Nat.reduceLT,Nat.reduceEqDiff,Nat.reduceBEq,Nat.reduceLeDiff,Nat.reduceAdd,Nat.reduceMul]
  exact SetR.dropTo ((Le.refl H).updB n1) (SetR.now hq)
 ·rw[decide_eq_false h1]
  have e:zEs A B=false:=decide_eq_false (by omega)
  rw[e]at hq
  simp(disch:=first|exact Xe|fail)only[zYR,↓Xa,Xb,Xc,↓reduceIte,Nat.reduceLT,Nat.reduceEqDiff,Nat.reduceBEq,Nat.reduceLeDiff,Nat.reduceAdd,Nat.reduceMul]
  exact SetR.dropTo ((Le.refl H).updB n1) (SetR.now hq)
theorem zBA{A B:Int}:AV.agg [.int .i64 A,.int .i64 B]=PtV A B:=rfl
theorem zEy{A:Int}{i:Nat}(hi:i≤16)(h1: -16≤A)(h2:A≤16):Bd 3 (A^i):=by
 unfold Bd
 rw[Int.natAbs_pow]
 have e1:A.natAbs^i≤16^i:=Nat.pow_le_pow_left (by omega) i
 have e2:(16:Nat)^i≤16^16:=Nat.pow_le_pow_right (by omega) hi
 have e3:(16:Nat)^16<4294967296^3:=by decide
 omega
def zEH(A B:Int)(n k:Nat):List Int:=(List.range n).map fun i=>if i<k then A^i else A^i*B^(n-1-i)
def zBC(A B:Int)(n:Nat):List Int:=(List.range n).map fun i=>A^i*B^(n-1-i)
theorem zJT{A B:Int}{n:Nat}(hn:n≤16)(hin:zEs A B=true):PFn Tryz.prog 132 [PtV A B,.int .i64 (n:Int)] (.tup [zBk (zBC A B n) true,.int .i64 ((0:Nat):Int)]):=by
 intro H Q hq
 refine zSG (by simp) ?_
 simp(disch:=first|exact Xe|fail)only[zcG,zA1,↓Xa,Xb,Xc,↓reduceIte,Nat.reduceLT,Nat.reduceEqDiff,Nat.reduceBEq,Nat.reduceLeDiff,Nat.reduceAdd,Nat.reduceMul]
 refine zAD fun p2 n2=>?_
 simp(disch:=first|exact Xe|fail)only[zBA,↓Xa,Xb,Xc,↓reduceIte,Nat.reduceLT,Nat.reduceEqDiff,Nat.reduceBEq,Nat.reduceLeDiff,Nat.reduceAdd,Nat.reduceMul]
 refine zFW.call ?_
 have d1:decide (((n:Nat):Int)<((0:Nat):Int))=false:=decide_eq_false (by omega)
 have d2:decide (((16:Nat):Int)<((n:Nat):Int))=false:=decide_eq_false (by omega)
 simp(disch:=first|exact Xe|fail)only[hin,zAc,zAw,d1,d2,zUI,↓Xa,Xb,Xc,↓reduceIte,Nat.reduceLT,Nat.reduceEqDiff,Nat.reduceBEq,Nat.reduceLeDiff,Nat.reduceAdd,Nat.reduceMul]
 intro b hb
 have hbp:Ap b p2:=(zAB.1 hb).1
 refine(zGo (n:=1) (by omega)).call ?_
 simp(disch:=first|exact Xe|fail)only[↓Xa,Xb,Xc,↓reduceIte,Nat.reduceLT,Nat.reduceEqDiff,Nat.reduceBEq,Nat.reduceLeDiff,Nat.reduceAdd,Nat.reduceMul]
 refine(zGo (n:=1) (by omega)).call ?_
 simp(disch:=first|exact Xe|fail)only[↓Xa,Xb,Xc,↓reduceIte,Nat.reduceLT,Nat.reduceEqDiff,Nat.reduceBEq,Nat.reduceLeDiff,Nat.reduceAdd,Nat.reduceMul]
 refine zAD fun q7 hq7=>?_
 simp(disch:=first|exact Xe|fail)only[↓Xa,Xb,Xc,↓reduceIte,Nat.reduceLT,Nat.reduceEqDiff,Nat.reduceBEq,Nat.reduceLeDiff,Nat.reduceAdd,Nat.reduceMul]
 refine zAD fun q8 hq8=>?_
 obtain⟨a87,hq8'⟩:=zAB.1 hq8
 obtain⟨a8b,hq8''⟩:=zAB.1 hq8'
 obtain⟨a8p,hq8h⟩:=zAB.1 hq8''
 obtain⟨a7b,hq7'⟩:=zAB.1 hq7
 obtain⟨a7p,hq7h⟩:=zAB.1 hq7'
 simp(disch:=first|exact Xe|fail)only[zAE,a87,a8b,a8p,a7b,a7p,a87.symm,a8b.symm,a8p.symm,a7b.symm,a7p.symm,hbp,hbp.symm,↓Xa,Xb,Xc,↓reduceIte,Nat.reduceLT,Nat.reduceEqDiff,Nat.reduceBEq,Nat.reduceLeDiff,Nat.reduceAdd,Nat.reduceMul]
 have hln:(n:Int)<9223372036854775808:=by omega
 have hA: -16≤A∧A≤16∧ -16≤B∧B≤16:=of_decide_eq_true hin
 let F:=fun(M:AHeap) (l:List Int) (x y:Int)=>M p2=some (.row 112 0 [.int .i64 A,.int .i64 B])∧M b=some (.row 48 2 (IC l))∧M q7=some (.row 48 0 [zBO x,zBU x])∧M q8=some (.row 48 0 [zBO y,zBU y])∧∀o,Ap o b→Ap o p2→Ap o q7→Ap o q8→M o=H o
 have F0:F ((((H.upd p2 (some (.row 112 0 [.int .i64 A,.int .i64 B]))).upd b (some (.row 48 2 (IC (List.replicate n 0))))).upd q7 (some (.row 48 0 [zBO 1,zBU 1]))).upd q8 (some (.row 48 0 [zBO 1,zBU 1]))) (List.replicate n 0) 1 1:=by
  refine⟨?_,?_,?_,?_,fun o o1 o2 o3 o4=>?_⟩
  ·rw[zAA _ _ a8p.symm,zAA _ _ a7p.symm,zAA _ _ hbp.symm,zAC]
  ·rw[zAA _ _ a8b.symm,zAA _ _ a7b.symm,zAC]
  ·rw[zAA _ _ a87.symm,zAC]
  ·rw[zAC]
  ·rw[zAA _ _ o4,zAA _ _ o3,zAA _ _ o1,zAA _ _ o2]
 generalize((((H.upd p2 (some (.row 112 0 [.int .i64 A,.int .i64 B]))).upd b (some (.row 48 2 (IC (List.replicate n 0))))).upd q7 (some (.row 48 0 [zBO 1,zBU 1]))).upd q8 (some (.row 48 0 [zBO 1,zBU 1])))=M0 at*
 refine zAO (fun s:Nat×AHeap=>⟨[],[(1,.int .i64 (n:Int)),(2,.ptr p2 2 0),(6,.own b (n*2) 0 n true),(7,.ptr q7 2 0),(8,.ptr q8 2 0),(27,.int .i64 (n:Int)),(28,.int .i64 s.1)],s.2⟩)
  (fun s=>s.1≤n∧F s.2 ((List.range s.1).map (fun i=>A^i)++List.replicate (n-s.1) 0) (A^s.1) 1) (fun s=>n-s.1) (0,M0) (Settle.now rfl) ⟨Nat.zero_le _,by simpa using F0⟩ ?_
 rintro⟨i,M⟩ ⟨hi0,f1,f2,f3,f4,f5⟩
 dsimp only at hi0 f1 f2 f3 f4 f5 ⊢
 by_cases hi:i<n
 ·generalize hl:((List.range i).map (fun i=>A^i)++List.replicate (n-i) 0)=l at*
  have hll:l.length=n:=by rw[← hl];simp;omega
  have hil:i<l.length:=by omega
  simp(disch:=first|exact Xe|fail)only[hi,f1,f2,f3,f4,zAF,zAE,zMe hll hi,a7b,a7b.symm,a87,a87.symm,a8b,hbp,hbp.symm,a7p,a7p.symm,↓Xa,Xb,Xc,↓reduceIte,Nat.reduceLT,Nat.reduceEqDiff,Nat.reduceBEq,Nat.reduceLeDiff,Nat.reduceAdd,Nat.reduceMul]
  refine⟨by rw[zBQ,hll],?_⟩
  have bA:=zEy (by omega:i≤16) hA.1 hA.2.1
  refine(zGR bA (by omega) (by omega)).call ?_
  simp(disch:=first|exact Xe|fail)only[f1,f3,f4,zAE,a7b,a7b.symm,a87,a87.symm,a8b,hbp,hbp.symm,a7p,a7p.symm,↓Xa,Xb,Xc,↓reduceIte,Nat.reduceLT,Nat.reduceEqDiff,Nat.reduceBEq,Nat.reduceLeDiff,Nat.reduceAdd,Nat.reduceMul]
  refine Settle.now ⟨(i+1,(M.upd b (some (.row 48 2 (IC (l.set i (A^i)))))).upd q7 (some (.row 48 0 [zBO (A^i*A),zBU (A^i*A)]))),by dsimp only;omega,⟨by dsimp only;omega,?_,?_,?_,?_,fun o o1 o2 o3 o4=>?_⟩,rfl⟩
  ·dsimp only
   rw[zAA _ _ a7p.symm,zAA _ _ hbp.symm,f1]
  ·dsimp only
   rw[zAA _ _ a7b.symm,zAC]
   have e:l.set i (A^i)=(List.range (i+1)).map (fun i=>A^i)++List.replicate (n-(i+1)) 0:=by
    rw[← hl,List.set_append_right _ _ (by simp),show i-((List.range i).map fun i=>A^i).length=0 by simp,show n-i=(n-(i+1))+1 by omega,List.replicate_succ,List.set_cons_zero,List.range_succ,List.map_append,List.append_assoc]
    rfl
   rw[e]
  ·dsimp only
   rw[zAC,Int.pow_succ]
  ·dsimp only
   rw[zAA _ _ a87,zAA _ _ a8b,f4]
  ·dsimp only
   rw[zAA _ _ o3,zAA _ _ o1];exact f5 o o1 o2 o3 o4
 ·obtain rfl:i=n:=by omega
  have eL:(List.range i).map (fun i=>A^i)++List.replicate (i-i) 0=zEH A B i i:=by
   rw[Nat.sub_self,List.replicate_zero,List.append_nil]
   exact List.map_congr_left fun j hj=>by rw[if_pos (List.mem_range.1 hj)]
  rw[eL]at f2
  simp(disch:=first|exact Xe|fail)only[hi,f1,f2,f3,f4,zC5 (show i<9223372036854775808 by omega),↓Xa,Xb,Xc,↓reduceIte,Nat.reduceLT,Nat.reduceEqDiff,Nat.reduceBEq,Nat.reduceLeDiff,Nat.reduceAdd,Nat.reduceMul]
  refine Settle.now ?_
  simp(disch:=first|exact Xe|fail)only[zC5 (show i<9223372036854775808 by omega),↓Xa,Xb,Xc,↓reduceIte,Nat.reduceLT,Nat.reduceEqDiff,Nat.reduceBEq,Nat.reduceLeDiff,Nat.reduceAdd,Nat.reduceMul]
  refine zAO (fun s:Nat×AHeap=>⟨[],[(2,.ptr p2 2 0),(6,.own b (i*2) 0 i true),(8,.ptr q8 2 0),(10,.int .i64 (dn s.1))],s.2⟩)
   (fun s=>s.1≤i∧s.2 p2=some (.row 112 0 [.int .i64 A,.int .i64 B])∧s.2 b=some (.row 48 2 (IC (zEH A B i s.1)))∧s.2 q8=some (.row 48 0 [zBO (B^(i-s.1)),zBU (B^(i-s.1))])∧∀o,Ap o b→Ap o p2→Ap o q7→Ap o q8→s.2 o=H o) (fun s=>s.1) (i,M) (Settle.now rfl) ⟨Nat.le_refl _,f1,f2,by rw[Nat.sub_self,Int.pow_zero];exact f4,f5⟩ ?_
  rintro⟨k,M2⟩ ⟨hk0,g1,g2,g4,g5⟩
  dsimp only at hk0 g1 g2 g4 g5 ⊢
  cases k with
  |zero=>
   have dz:decide (((0:Nat):Int)≤ -1)=false:=by decide
   simp(disch:=first|exact Xe|fail)only[zEt,zCx,dz,↓Xa,Xb,Xc,↓reduceIte,Nat.reduceLT,Nat.reduceEqDiff,Nat.reduceBEq,Nat.reduceLeDiff,Nat.reduceAdd,Nat.reduceMul]
   refine Settle.now ?_
   simp(disch:=first|exact Xe|fail)only[zci,↓Xa,Xb,Xc,↓reduceIte,Nat.reduceLT,Nat.reduceEqDiff,Nat.reduceBEq,Nat.reduceLeDiff,Nat.reduceAdd,Nat.reduceMul]
   refine SetR.frz b g2 ?_
   have e0:zEH A B i 0=zBC A B i:=by simp[zEH,zBC]
   have el:(IC (zBC A B i)).length=i*2:=by rw[zBQ];simp[zBC]
   have ell:(zBC A B i).length=i:=by simp[zBC]
   rw[e0]
   have e:frz b 2 (IC (zBC A B i)) (.tup [.own b (i*2) 0 i true,.int .i64 ((0:Nat):Int)])=.tup [zBk (zBC A B i) true,.int .i64 ((0:Nat):Int)]:=by simp[frz,zIh,zDw,el,ell,zBk,List.take_of_length_le]
   rw[e]
   refine SetR.dropTo (fun o x ho=>?_) (SetR.now hq)
   have o1:Ap o b:=by rintro rfl;rw[(zAB.1 hb).2]at ho;cases ho
   rw[zAA _ _ o1,g5 o o1 (by rintro rfl;rw[n2]at ho;cases ho) (by rintro rfl;rw[hq7h]at ho;cases ho) (by rintro rfl;rw[hq8h]at ho;cases ho)]
   exact ho
  |succ k=>
   have dz:decide (((0:Nat):Int)≤(k:Int))=true:=decide_eq_true (by omega)
   have hki:k<i:=by omega
   have hpl:(zEH A B i (k+1)).length=i:=by simp[zEH]
   have hkl:k<(zEH A B i (k+1)).length:=by omega
   have ek:(zEH A B i (k+1))[k]=A^k:=by simp[zEH]
   generalize hl:zEH A B i (k+1)=l at*
   simp(disch:=first|exact Xe|fail)only[zCj,zCx,dz,hki,g1,g2,g4,zZc hpl hkl,ek,zAF,zAE,↓Xa,Xb,Xc,↓reduceIte,Nat.reduceLT,Nat.reduceEqDiff,Nat.reduceBEq,Nat.reduceLeDiff,Nat.reduceAdd,Nat.reduceMul]
   have bA:=zEy (show k≤16 by omega) hA.1 hA.2.1
   have bB:=zEy (show i-(k+1)≤16 by omega) hA.2.2.1 hA.2.2.2
   refine⟨by rw[zBQ,hpl],?_⟩
   refine PFn.dcall (zIR bA (by omega) bB (by omega)) ?_
   simp(disch:=first|exact Xe|fail)only[hki,g1,g2,g4,zAF,zAE,zMe hpl hki,a8b,a8b.symm,hbp,hbp.symm,a8p,a8p.symm,↓Xa,Xb,Xc,↓reduceIte,Nat.reduceLT,Nat.reduceEqDiff,Nat.reduceBEq,Nat.reduceLeDiff,Nat.reduceAdd,Nat.reduceMul]
   refine⟨by rw[zBQ,hpl],?_⟩
   refine(zGR bB (by omega) (by omega)).call ?_
   simp(disch:=first|exact Xe|fail)only[zC5 (show k<9223372036854775808 by omega),g1,g2,g4,zAE,a8b,a8b.symm,hbp,hbp.symm,a8p,a8p.symm,↓Xa,Xb,Xc,↓reduceIte,Nat.reduceLT,Nat.reduceEqDiff,Nat.reduceBEq,Nat.reduceLeDiff,Nat.reduceAdd,Nat.reduceMul]
   refine Settle.now ⟨(k,(M2.upd b (some (.row 48 2 (IC (l.set k (A^k*B^(i-(k+1)))))))).upd q8 (some (.row 48 0 [zBO (B^(i-(k+1))*B),zBU (B^(i-(k+1))*B)]))),by dsimp only;omega,⟨by dsimp only;omega,?_,?_,?_,fun o o1 o2 o3 o4=>?_⟩,rfl⟩
   ·dsimp only
    rw[zAA _ _ a8p.symm,zAA _ _ hbp.symm,g1]
   ·dsimp only
    rw[zAA _ _ a8b.symm,zAC]
    have e:l.set k (A^k*B^(i-(k+1)))=zEH A B i k:=by
     rw[← hl]
     refine List.ext_getElem (by simp[zEH]) fun j hj1 hj2=>?_
     rw[List.getElem_set]
     by_cases ej:k=j
     ·subst ej
      rw[if_pos rfl]
      simp only[zEH,List.getElem_map,List.getElem_range]
      rw[if_neg (Nat.lt_irrefl k),show i-1-k=i-(k+1) by omega]
     ·rw[if_neg ej]
      simp only[zEH,List.getElem_map,List.getElem_range]
      by_cases hjk:j<k
      ·rw[if_pos hjk,if_pos (by omega)]
      ·rw[if_neg hjk,if_neg (by omega)]
    rw[e]
   ·dsimp only
    rw[zAC,← Int.pow_succ,show(i-(k+1)).succ=i-k by omega]
   ·dsimp only
    rw[zAA _ _ o4,zAA _ _ o1];exact g5 o o1 o2 o3 o4
def zJR(A B:Int)(xs:List Int):Nat→Int
 |0=>0
 |k+1=>zJR A B xs k+xs.getD k 0*(A^k*B^(xs.length-1-k))
theorem zFC{A B:Int}{xs:List Int}{k0:Nat}(hx: ∀z,z∈xs→Bd k0 z)(hA: -16≤A∧A≤16∧ -16≤B∧B≤16)(hl:xs.length≤16): ∀k,k≤xs.length→Bd (k0+6+k) (zJR A B xs k)
 |0,_=>Bd.zero _
 |k+1,h=>by
  have ih:=zFC hx hA hl k (by omega)
  have e:xs.getD k 0=xs[k]'(by omega):=by rw[List.getD_eq_getElem?_getD,List.getElem?_eq_getElem (by omega)];rfl
  have b1:=hx _ (List.getElem_mem (show k<xs.length by omega))
  have b2:=(b1.mul ((zEy (A:=A) (show k≤16 by omega) hA.1 hA.2.1).mul (zEy (A:=B) (show xs.length-1-k≤16 by omega) hA.2.2.1 hA.2.2.2)))
  rw[zJR,e]
  exact(ih.add (b2.mono (by omega))).mono (by omega)
theorem zTw{A B:Int}{xs:List Int}{t:Bool}{k0:Nat}(hx: ∀z,z∈xs→Bd k0 z)(hk:k0≤100000)(hl0:1≤xs.length)(hl:xs.length≤16)(hin:zEs A B=true):PFn Tryz.prog 71 [zBk xs t,PtV A B] (.tup [zAe (zJR A B xs xs.length),.int .i64 ((0:Nat):Int)]):=by
 intro H Q hq
 have hA: -16≤A∧A≤16∧ -16≤B∧B≤16:=of_decide_eq_true hin
 have hn:xs.length<9223372036854775808:=by omega
 refine zQv (by simp) ?_
 simp(disch:=first|exact Xe|fail)only[ze0,zA1,↓Xa,Xb,Xc,↓reduceIte,Nat.reduceLT,Nat.reduceEqDiff,Nat.reduceBEq,Nat.reduceLeDiff,Nat.reduceAdd,Nat.reduceMul]
 refine zAD fun p3 n3=>?_
 simp(disch:=first|exact Xe|fail)only[↓Xa,Xb,Xc,↓reduceIte,Nat.reduceLT,Nat.reduceEqDiff,Nat.reduceBEq,Nat.reduceLeDiff,Nat.reduceAdd,Nat.reduceMul]
 refine zAD fun p4 n4=>?_
 obtain⟨a43,n4'⟩:=zAB.1 n4
 have d1:decide (((xs.length:Nat):Int)<((1:Nat):Int))=false:=decide_eq_false (by omega)
 have d2:decide (((16:Nat):Int)<((xs.length:Nat):Int))=false:=decide_eq_false (by omega)
 simp(disch:=first|exact Xe|fail)only[zBE,hn,zAc,zAw,d1,d2,a43,a43.symm,zBA,↓Xa,Xb,Xc,↓reduceIte,Nat.reduceLT,Nat.reduceEqDiff,Nat.reduceBEq,Nat.reduceLeDiff,Nat.reduceAdd,Nat.reduceMul]
 refine zFW.call ?_
 simp(disch:=first|exact Xe|fail)only[hin,a43,a43.symm,zBA,zBE,hn,↓Xa,Xb,Xc,↓reduceIte,Nat.reduceLT,Nat.reduceEqDiff,Nat.reduceBEq,Nat.reduceLeDiff,Nat.reduceAdd,Nat.reduceMul]
 refine(zJT hl hin).call ?_
 have d0:decide (((0:Nat):Int)=((0:Nat):Int))=true:=rfl
 simp(disch:=first|exact Xe|fail)only[zAU,d0,↓Xa,Xb,Xc,↓reduceIte,Nat.reduceLT,Nat.reduceEqDiff,Nat.reduceBEq,Nat.reduceLeDiff,Nat.reduceAdd,Nat.reduceMul]
 refine zAD fun p8 n8=>?_
 simp(disch:=first|exact Xe|fail)only[zBE,hn,↓Xa,Xb,Xc,↓reduceIte,Nat.reduceLT,Nat.reduceEqDiff,Nat.reduceBEq,Nat.reduceLeDiff,Nat.reduceAdd,Nat.reduceMul]
 obtain⟨a84,n8'⟩:=zAB.1 n8
 have hz0:(ABlk.row 48 0 [.bool false,.seq 0 [] true])=.row 48 0 [zBO 0,zBU 0]:=by
  have:=zdM 1
  rw[show 1*2=2 from rfl,zGw]at this
  rw[this];rfl
 generalize hG:(H.upd p3 (some (.row 112 0 [.int .i64 A,.int .i64 B]))).upd p4 (some (.row 48 0 [.bool false,.seq 0 [] true]))=G at*
 have hHG:Le H G:=hG▸(((Le.refl H).updB n3).updB n4')
 have g4:G p4=some (.row 48 0 [.bool false,.seq 0 [] true]):=by rw[← hG,zAC]
 refine zAO (fun s:Nat=>⟨[],[(4,.ptr p4 2 0),(6,zBk (zBC A B xs.length) true),(8,.ptr p8 2 0),(36,zBk xs t),(37,.int .i64 (xs.length:Int)),(38,.int .i64 s)],G.upd p8 (some (.row 48 0 [zBO (zJR A B xs s),zBU (zJR A B xs s)]))⟩) (fun s=>s≤xs.length) (fun s=>xs.length-s) 0 (Settle.now (by rw[hz0];rfl)) (Nat.zero_le _) ?_
 intro i hi0
 by_cases hi:i<xs.length
 ·have hip:i<(zBC A B xs.length).length:=by simpa[zBC]using hi
  have epi:(zBC A B xs.length)[i]=A^i*B^(xs.length-1-i):=by simp[zBC]
  have lpp:(zBC A B xs.length).length=xs.length:=by simp[zBC]
  simp(disch:=first|exact Xe|fail)only[hi,zDy,zCi,↓Xa,Xb,Xc,↓reduceIte,Nat.reduceLT,Nat.reduceEqDiff,Nat.reduceBEq,Nat.reduceLeDiff,Nat.reduceAdd,Nat.reduceMul]
  refine zAD fun p10 n10=>?_
  obtain⟨a10,n10'⟩:=zAB.1 n10
  simp(disch:=first|exact Xe|fail)only[hi,hip,a10,a10.symm,zAE,zAF,zDy,zCi,epi,↓Xa,Xb,Xc,↓reduceIte,Nat.reduceLT,Nat.reduceEqDiff,Nat.reduceBEq,Nat.reduceLeDiff,Nat.reduceAdd,Nat.reduceMul]
  have b1:=hx _ (List.getElem_mem hi)
  have b2:=(zEy (A:=A) (show i≤16 by omega) hA.1 hA.2.1).mul (zEy (A:=B) (show xs.length-1-i≤16 by omega) hA.2.2.1 hA.2.2.2)
  have b3:=zFC hx hA hl i (by omega)
  refine PFn.dcall (zIR b1 (by omega) b2 (by omega)) ?_
  simp(disch:=first|exact Xe|fail)only[↓Xa,Xb,Xc,↓reduceIte,Nat.reduceLT,Nat.reduceEqDiff,Nat.reduceBEq,Nat.reduceLeDiff,Nat.reduceAdd,Nat.reduceMul]
  refine(zFp b3 (by omega) (b1.mul b2) (by omega)).call ?_
  have ev:zJR A B xs (i+1)=zJR A B xs i+xs[i]*(A^i*B^(xs.length-1-i)):=by
   rw[zJR,List.getD_eq_getElem?_getD,List.getElem?_eq_getElem hi];rfl
  simp(disch:=first|exact Xe|fail)only[a10,a10.symm,zAE,↓Xa,Xb,Xc,↓reduceIte,Nat.reduceLT,Nat.reduceEqDiff,Nat.reduceBEq,Nat.reduceLeDiff,Nat.reduceAdd,Nat.reduceMul]
  rw[← ev]
  exact Settle.dropTo ((Le.refl _).updB (zAB.2 ⟨a10,n10'⟩)) (Settle.now ⟨i+1,by omega,by omega,rfl⟩)
 ·obtain rfl:i=xs.length:=by omega
  simp(disch:=first|exact Xe|fail)only[hi,↓Xa,Xb,Xc,↓reduceIte,Nat.reduceLT,Nat.reduceEqDiff,Nat.reduceBEq,Nat.reduceLeDiff,Nat.reduceAdd,Nat.reduceMul]
  refine Settle.now ?_
  simp(disch:=first|exact Xe|fail)only[zAF,a84,a84.symm,g4,zAE,zaC,↓Xa,Xb,Xc,↓reduceIte,Nat.reduceLT,Nat.reduceEqDiff,Nat.reduceBEq,Nat.reduceLeDiff,Nat.reduceAdd,Nat.reduceMul]
  exact SetR.dropTo ((hHG.updB (zAB.1 n8').2).updB n4') (SetR.now hq)
theorem Lent.agg{H:AHeap}{xs ys:List AV}(h:LentL H xs ys):Lent H (.agg xs) (.agg ys):=by
 intro c hc hok v he
 cases he with
 |agg _ vs hlen hcs=>exact .agg _ _ (hlen.trans h.len.symm) fun i hi hi'=>h.get i (by have:=h.len;omega) hi c hc hok _ (hcs i (by have:=h.len;omega) hi')
theorem CodeV.le{C C':AHeap}{v:AV}{l:List Ins}(h:CodeV C v l)(hl:Le C C'):CodeV C' v l:=⟨h.1,h.2.1,h.2.2.choose,fun G hG=>h.2.2.choose_spec G (hl.trans hG)⟩
theorem OutsV.le{C C':AHeap}{v:AV}{l:List Int}(h:OutsV C v l)(hl:Le C C'):OutsV C' v l:=⟨h.1,h.2.1,h.2.2.choose,fun G hG=>h.2.2.choose_spec G (hl.trans hG)⟩
theorem zXy{H:AHeap}{b ty N:Nat}{t t':Bool}{o xs:List Int}{K:AV→AHeap→Prop}(hH:H b=some (.row ty 2 (IC o)))(ho:o.length=N)(h:xs.length≤N)(k:K (.int .i64 ((xs.length:Nat):Int)) (H.upd b (some (.row ty 2 (IC (xs++o.drop xs.length)))))):
 zZB H 2 (.own b (N*2) 0 N t) (zBk xs t') K:=by
 have hlo:(IC o).length=N*2:=by rw[zBQ,ho]
 simp[zZB,zXQ,hH,hlo,zBQ]
 have em:xs.length.min N=xs.length:=Nat.min_eq_left h
 have et:List.take (xs.length*2) (IC xs)=IC xs:=List.take_of_length_le (by rw[zBQ];omega)
 have es:zAh (IC o) 0 (IC xs)=IC (xs++o.drop xs.length):=by
  unfold zAh
  rw[List.take_zero,List.nil_append,Nat.zero_add,zBQ,zMz,zaR (by omega)]
 rw[em,et,es]
 refine⟨fun x hx=>?_,k⟩
 simp only[IC,List.mem_flatMap]at hx
 obtain⟨z,-,hx⟩:=hx
 exact List.all_eq_true.1 (zXO (z:=z)) x hx
def RowV(M:AHeap)(y:AV)(zs:List Int):Prop:=RowO M y zs∨∃t,y=zBk zs t
theorem RowV.le{M M':AHeap}{y:AV}{zs:List Int}(h:RowV M y zs)(hl:Le M M'):RowV M' y zs:=h.imp (·.le hl) id
theorem RowV.len{M:AHeap}{y:AV}{zs:List Int}(h:RowV M y zs)(hn:zs.length<9223372036854775808){K:AV→Prop}:zDr false y K=K (.int .i64 ((zs.length:Nat):Int)):=by
 rcases h with h|⟨t,rfl⟩
 ·exact h.len hn
 ·exact zBE hn
theorem zCq{l:List Int}{t:Bool}(hl:l.length≤1000000)(hI: ∀n,n∈l→I64 n):PFn Tryz.prog 65 [zAr l t] (zBk l false):=by
 refine PFn.frozen (ty:=48) (es:=2) (n:=l.length) (cells:=IC l) fun H Q hq=>?_
 have hlen:l.length<9223372036854775808:=by omega
 refine zXN (by simp) ?_
 simp(disch:=first|exact Xe|fail)only[zfY,zAm hlen,↓Xa,Xb,Xc,↓reduceIte,Nat.reduceLT,Nat.reduceEqDiff,Nat.reduceBEq,Nat.reduceLeDiff,Nat.reduceAdd,Nat.reduceMul]
 refine zAO (fun s:Nat×AV×AHeap=>⟨[],[(3,s.2.1),(6,zAr l t),(7,.int .i64 l.length),(8,.int .i64 s.1)],s.2.2⟩) (fun s=>s.1≤l.length∧zA7 H 48 2 s.1 (IC (l.take s.1)) s.2.1 s.2.2) (fun s=>l.length-s.1) (0,.seq 0 [] true,H) (Settle.now rfl) ⟨Nat.zero_le _,zAl⟩ ?_
 rintro⟨i,y,M⟩ ⟨h1,hg1⟩
 dsimp only at h1 hg1 ⊢
 by_cases hi:i<l.length
 ·have hij:=hI _ (List.getElem_mem hi)
  unfold I64 at hij
  simp(disch:=first|exact Xe|fail)only[hi,zBq hi,zBb hi,↓Xa,Xb,Xc,↓reduceIte,Nat.reduceLT,Nat.reduceEqDiff,Nat.reduceBEq,Nat.reduceLeDiff,Nat.reduceAdd,Nat.reduceMul]
  refine(zGo (n:=l[i]) (by omega)).call ?_
  simp(disch:=first|exact Xe|fail)only[zGw,zAE,↓Xa,Xb,Xc,↓reduceIte,Nat.reduceLT,Nat.reduceEqDiff,Nat.reduceBEq,Nat.reduceLeDiff,Nat.reduceAdd,Nat.reduceMul]
  refine zFB (m:=1) hg1 rfl rfl (by omega) (by omega) (by omega) fun y' M2 hg4=>?_
  rw[← zH6 hi]at hg4
  simp(disch:=first|exact Xe|fail)only[↓Xa,Xb,Xc,↓reduceIte,Nat.reduceLT,Nat.reduceEqDiff,Nat.reduceBEq,Nat.reduceLeDiff,Nat.reduceAdd,Nat.reduceMul]
  exact Settle.now ⟨(i+1,y',M2),by dsimp only;omega,⟨by dsimp only;omega,hg4⟩,rfl⟩
 ·obtain rfl:i=l.length:=by omega
  rw[List.take_of_length_le (by omega)]at hg1
  simp(disch:=first|exact Xe|fail)only[hi,↓Xa,Xb,Xc,↓reduceIte,Nat.reduceLT,Nat.reduceEqDiff,Nat.reduceBEq,Nat.reduceLeDiff,Nat.reduceAdd,Nat.reduceMul]
  refine Settle.now ?_
  simp(disch:=first|exact Xe|fail)only[zfe,↓Xa,Xb,Xc,↓reduceIte,Nat.reduceLT,Nat.reduceEqDiff,Nat.reduceBEq,Nat.reduceLeDiff,Nat.reduceAdd,Nat.reduceMul]
  exact SetR.now (hq _ _ hg1)
def zB2(l:List Int):List Pt:=(List.range (l.length / 2)).map fun i=>⟨l.getD (2*i) 0,l.getD (2*i+1) 0⟩
theorem zLK{l:List Int}{t:Bool}(hl:l.length≤1000):PFn Tryz.prog 124 [zAr l t] (zBr (zB2 l) false):=by
 have hpl:(zB2 l).length=l.length / 2:=by simp[zB2]
 refine PFn.frozen (ty:=112) (es:=2) (n:=(zB2 l).length) (cells:=(zB2 l).flatMap ptC) fun H Q hq=>?_
 have hlen:l.length<9223372036854775808:=by omega
 refine zSV (by simp) ?_
 simp(disch:=first|exact Xe|fail)only[zcp,↓Xa,Xb,Xc,↓reduceIte,Nat.reduceLT,Nat.reduceEqDiff,Nat.reduceBEq,Nat.reduceLeDiff,Nat.reduceAdd,Nat.reduceMul]
 refine zAO (fun s:Nat×AV×AHeap=>⟨[],[(0,zAr l t),(3,s.2.1),(4,.int .i64 ((2*s.1:Nat):Int))],s.2.2⟩) (fun s=>s.1≤(zB2 l).length∧zA7 H 112 2 s.1 (((zB2 l).take s.1).flatMap ptC) s.2.1 s.2.2) (fun s=>(zB2 l).length-s.1) (0,.seq 0 [] true,H) (Settle.now rfl) ⟨Nat.zero_le _,zAl⟩ ?_
 rintro⟨i,y,M⟩ ⟨h1,hg1⟩
 dsimp only at h1 hg1 ⊢
 by_cases hi:i<(zB2 l).length
 ·have j1:2*i<l.length:=by omega
  have j2:2*i+1<l.length:=by omega
  have d1:decide (((2*i+1:Nat):Int)<((l.length:Nat):Int))=true:=decide_eq_true (by omega)
  simp(disch:=first|exact Xe|fail)only[zAm hlen,zAc,d1,zBq j1,zBb j1,zBq j2,zBb j2,zBA,zA1,zGw,↓Xa,Xb,Xc,↓reduceIte,Nat.reduceLT,Nat.reduceEqDiff,Nat.reduceBEq,Nat.reduceLeDiff,Nat.reduceAdd,Nat.reduceMul]
  refine zFB (m:=1) hg1 rfl rfl (by omega) (by omega) (by omega) fun y' M2 hg4=>?_
  have ep:(zB2 l)[i]=⟨l[2*i],l[2*i+1]⟩:=by simp[zB2,List.getD_eq_getElem?_getD,j1,j2]
  have et:((zB2 l).take i).flatMap ptC++[.int .i64 (l[2*i]),.int .i64 (l[2*i+1])]=((zB2 l).take (i+1)).flatMap ptC:=by
   rw[List.take_succ_eq_append_getElem hi,List.flatMap_append,ep];rfl
  rw[et]at hg4
  simp(disch:=first|exact Xe|fail)only[↓Xa,Xb,Xc,↓reduceIte,Nat.reduceLT,Nat.reduceEqDiff,Nat.reduceBEq,Nat.reduceLeDiff,Nat.reduceAdd,Nat.reduceMul]
  exact Settle.now ⟨(i+1,y',M2),by dsimp only;omega,⟨by dsimp only;omega,hg4⟩,rfl⟩
 ·obtain rfl:i=(zB2 l).length:=by omega
  rw[List.take_of_length_le (by omega)]at hg1
  have d1:decide (((2*(zB2 l).length+1:Nat):Int)<((l.length:Nat):Int))=false:=decide_eq_false (by omega)
  simp(disch:=first|exact Xe|fail)only[zAm hlen,zAc,d1,↓Xa,Xb,Xc,↓reduceIte,Nat.reduceLT,Nat.reduceEqDiff,Nat.reduceBEq,Nat.reduceLeDiff,Nat.reduceAdd,Nat.reduceMul]
  refine Settle.now ?_
  simp(disch:=first|exact Xe|fail)only[zcX,↓Xa,Xb,Xc,↓reduceIte,Nat.reduceLT,Nat.reduceEqDiff,Nat.reduceBEq,Nat.reduceLeDiff,Nat.reduceAdd,Nat.reduceMul]
  exact SetR.now (hq _ _ hg1)
def ze4(g:List (List Int)):Nat:=zdQ (g.map fun l=>1+l.length)
def shN(l:List Ins):Nat:=zdQ (l.map fun i=>if i.op=7 then 1 else 0)
def zbE(p:PR)(g:List (List Int))(n:Nat):Prop:=400<n+ze4 g∨60<p.code.length∨128<p.outs.length∨12<shN p.code
instance (p:PR)(g:List (List Int))(n:Nat):Decidable (zbE p g n):=by unfold zbE;infer_instance
theorem zPK{n:Nat}{c:List AV}{t:Bool}{KD:AV→List Nat→Option (Nat×ABlk)→Prop}(h:n<9223372036854775808):dlen KD false (.seq n c t)↔KD (.int .i64 ((n:Nat):Int)) [] none:=by simp[dlen,h]
theorem zgV(n:Nat):IC (List.replicate n 0)=RCt true (List.replicate n 0):=by
 induction n with
 |zero=>rfl
 |succ n ih=>
  rw[List.replicate_succ]
  show zBO 0::zBU 0::IC (List.replicate n 0)=zG8 0::LS (digs 65536 (0:Int).natAbs) true::RCt true (List.replicate n 0)
  rw[ih]
  simp[zBO,zBU,zG8,zAL,LS,U]
abbrev rR(r:List Int):AV:=zfu r false
theorem zDh{G:AHeap}{b m i ty:Nat}{t:Bool}{cells:List AV}(hG:G b=some (.row ty 1 cells))(hl:cells.length=m)(hi:i<m){k:IntKind}{K:AV→Prop}:(zCB G (.own b m 0 m t)∧zBg 1 (.own b m 0 m t) (.int k (i:Int)) K)↔K (.ptr b m i):=by simp[zCB,zBg,hG,hl,hi]
def zEV(k L:Nat)(g:List (List Int)):Prop:= ∀r,r∈g→r.length=L∧RB4 k r
theorem Run.weak{P:Program}{f:FuncId}{args:List AV}{H:AHeap}{Q Q':AV→AHeap→Prop}(h:Run P f args H Q)(hq: ∀r H',Q r H'→∃r',Wk r r'∧Q' r' H'):Run P f args H Q':=
 ⟨h.1,fun c vs hH hok hs he=>(h.2 c vs hH hok hs he).mono fun _ _ ⟨c',v,r,a1,a2,a3,a4,a5,a6⟩=>let⟨r',hw,q⟩:=hq _ _ a6;⟨c',v,r',a1,a2,a3,a4,hw c' v a5,q⟩⟩
theorem PFn.weak{P:Program}{f:FuncId}{args:List AV}{r r':AV}(h:PFn P f args r)(hw:Wk r r'):PFn P f args r':=fun H Q hq=>
 Run.weak (h H (fun x H'=>x=r∧H'=H) ⟨rfl,rfl⟩) fun x H' ⟨e1,e2⟩=>⟨r',e1▸hw,e2▸hq⟩
theorem Wk.cells{n:Nat}{a b:List AV}{t:Bool}(hl:a.length=b.length)(h: ∀i(h1:i<a.length)(h2:i<b.length),Wk (a[i]) (b[i])):Wk (.seq n a t) (.seq n b false):=fun c v he=>by
 cases he with
 |seq _ _ _ base cap cv hlen hcap hmax ht hb hn hce=>
  exact .seq n b false base cap cv (fun e=>List.length_eq_zero_iff.1 (by rw[← hl,hlen e];rfl)) hcap hmax (fun e=>by cases e) (fun hp=>by rw[← hl]at hp ⊢; exact hb hp) hn fun i hi=>h i (by omega) hi c _ (hce i (by omega))
theorem Wk.l0{n:Nat}{cells:List AV}{t:Bool}:Wk (.seq n cells t) (.seq n cells false):=fun _ _ h=>zCo _ _ h
def zBN(p:PR)(grid:List (List Int))(L:Nat):List (List Int):=grid++List.replicate (p.regs.toNat-grid.length) (List.replicate L 0)
def zFl(p:PR)(grid:List (List Int))(L:Nat):List (List Int):=(zFK doR [] p.code (zBN p grid L)).1
def zEq(p:PR)(grid:List (List Int))(L:Nat):List (List Int):=p.outs.map fun r=>(zFK doR [] p.code (zBN p grid L)).2.getD r.toNat []
theorem zeX{H:AHeap}{ty n:Nat}{K:AV→AHeap→Prop}(h:n≤100000):zOP H ty 1 24 [.seq 0 [] true] (.int .i64 (n:Int)) (.int .i64 (n:Int)) K↔∀b,H b=none→K (.own b n 0 n true) (H.upd b (some (.row ty 1 (List.replicate n (.seq 0 [] true))))):=by
 have h1:(24:Int)*n≤281474976710656:=by omega
 have h2:(n:Int)<9223372036854775808:=by omega
 have e:zB8 [.seq 0 [] true] n=List.replicate n (.seq 0 [] true):=by
  have e0:(fun i:Nat=>[AV.seq 0 [] true].getD (i%1) .bot)=fun _=>AV.seq 0 [] true:=funext fun i=>by rw[Nat.mod_one];rfl
  unfold zB8
  have e1:n*[AV.seq 0 [] true].length=n:=by simp
  simp only[e1,List.length_cons,List.length_nil,Nat.zero_add]
  rw[e0,List.map_const',List.length_range]
 simp[zOP,h1,h2,e]
theorem zYV{l:List AV}{i:Nat}{x:AV}(h:i<l.length):zAh l i [x]=l.set i x:=by
 unfold zAh
 rw[List.set_eq_take_append_cons_drop,if_pos h];simp
theorem zUU{H:AHeap}{b N j ty:Nat}{x:AV}{cells:List AV}{K:AV→AHeap→Prop}(hN:cells.length=N)(hj:j<N):stP H 1 b N j K (some [x]) (some (.row ty 1 cells))↔K .bot (H.upd b (some (.row ty 1 (cells.set j x)))):=by
 rw[zO2 (n:=1) (l:=[x]) hN rfl (by omega),zYV (by omega)]
theorem Settle.frzC{K:St→Prop}{D:List Nat}{E:Env}{H:AHeap}(r b:Nat){ty es ty' es':Nat}{cells cs:List AV}(cs':List AV)(hl:cs'.length=cs.length)(hw: ∀i(h:i<cs.length)(h':i<cs'.length),Wk (zDw b es cells (cs[i])) (cs'[i]))(hb:H b=some (.row ty es cells))(hr:H r=some (.row ty' es' cs))(hne:r≠b)(h:Settle K ⟨D,E.map (Fw.frz b es cells),(H.upd b none).upd r (some (.row ty' es' cs'))⟩):Settle K ⟨D,E,H⟩:=by
 refine Settle.join ?_
 intro N c a hc hok hr2
 have hc:c.H=H:=hc
 have hb':c.H b=some (.row ty es cells):=hc▸hb
 have ok1:=Ctx.drop_ok hok b
 have hH1:(c.drop b).H r=some (.row ty' es' cs):=by
  show(c.H.upd b none) r=_
  rw[zAA _ _ hne,hc];exact hr
 obtain⟨arr,k1,k2,k3⟩:=hok.blk r _ (hc▸hr)
 have l2:Later (c.drop b) ((c.drop b).put r (.row ty' es' cs') arr):=Ctx.put_later ok1 hH1 k1 (by omega) rfl
 have ok2:Ok ((c.drop b).put r (.row ty' es' cs') arr):=Ctx.put_ok ok1 hH1 k1 (by omega) rfl (by omega) fun i hi hi'=>hw i (by omega) hi _ _ (zFV hok hb' _ _ (k3 i (by omega) hi'))
 have hw2:((c.drop b).put r (.row ty' es' cs') arr).w=c.w:=setRow_self _ _ _ _ _ k1
 refine⟨_,⟨D,E.map (Fw.frz b es cells),_⟩,?_,hw2,ok2,?_,(c.drop_later b).trans l2,h⟩
 ·show(c.H.upd b none).upd r _=_
  rw[hc]
 ·have hr':=hr2.later ((c.drop_later b).trans l2)
  refine⟨hr'.size,fun u=>?_,hr'.dlen,hr'.dmark⟩
  rw[Env.get_map _ rfl]
  exact(zIc hok hb' _ _ (hr2.tmp u)).later l2
abbrev rI(r:List Int):AV:=zBk r false
def GI(g:List (List Int)):List AV:=g.map rI
theorem zFi(g:List (List Int)):(GI g).length=g.length:=by simp[GI]
theorem zct{ty m j:Nat}{cells:List AV}{x:AV}{K:AV→Prop}(hl:cells.length=m)(hj:j<m)(hx:cells[j]? =some x):ldP none m j K (some (.row ty 1 cells))↔K x:=by
 have hj':j<cells.length:=by omega
 have e:(cells.drop j).take 1=[x]:=by
  rw[List.drop_eq_getElem_cons hj']
  rw[List.getElem?_eq_getElem hj']at hx;injection hx with hx
  simp[hx]
 have h2:j+1≤m:=by omega
 simp only[ldP,hl,h2,true_and,Option.getD_none,e]
 rfl
theorem zJw{ty m j:Nat}{g:List (List Int)}{K:AV→Prop}(hl:g.length=m)(hj:j<g.length):ldP none m j K (some (.row ty 1 (GI g)))↔K (rI (g[j])):=zct (by rw[zFi,hl]) (by omega) (by simp[GI,hj])
theorem zK6{g:List (List Int)}{i:Nat}(h:i<g.length):GI (g.take (i+1))=GI (g.take i)++[rI (g[i])]:=by
 unfold GI;rw[List.take_succ_eq_append_getElem h,List.map_append];rfl
theorem zcY{r:List Int}:[rI r].all AV.cell=true:=rfl
section
variable {zs ws:List Int} {t t':Bool} {k:Nat}
theorem zX4(hz:RB4 k zs)(hk:k≤1000000)(hbig:zs.length≤1000000):PFn Tryz.prog 180 [zBk zs t] (rI (zs.map (- ·))):=by
 have h:=PFn.frozen (P:=Tryz.prog) (f:=180) (args:=[zBk zs t]) fun H Q hq=>zU7 hz hk hbig hq
 have e:rI (zs.map (- ·))=.seq zs.length (IC (zs.map (- ·))) false:=by simp
 rw[e];exact h
theorem zIx{c:Int}{k':Nat}(hz:RB4 k zs)(hc:Bd k' c)(hk:k+k'≤1000000)(hbig:zs.length≤1000000):PFn Tryz.prog 185 [zBk zs t,zAe c] (rI (zs.map (c* ·))):=by
 have h:=PFn.frozen (P:=Tryz.prog) (f:=185) (args:=[zBk zs t,zAe c]) fun H Q hq=>zRW hz hc hk hbig hq
 have e:rI (zs.map (c* ·))=.seq zs.length (IC (zs.map (c* ·))) false:=by simp
 rw[e];exact h
theorem zSz(hz:RB4 k zs)(hw:RB4 k ws)(hk:k≤1000000)(hl:zs.length=ws.length)(hbig:zs.length≤1000000):PFn Tryz.prog 181 [zBk zs t,zBk ws t'] (rI (zHO (· + ·) zs ws)):=by
 have h:=PFn.frozen1 (P:=Tryz.prog) (f:=182) (args:=[zBk zs t,zBk ws t']) fun H Q hq=>zOC hz hw hk hl hbig hq
 have e:rI (zHO (· + ·) zs ws)=.seq zs.length (IC (zHO (· + ·) zs ws)) false:=by rw[rI,zBk,zFD hl]
 intro H Q hq
 refine zSY (by simp) ?_
 simp(disch:=first|exact Xe|fail)only[zZF,↓Xa,Xb,Xc,↓reduceIte,Nat.reduceLT,Nat.reduceEqDiff,Nat.reduceBEq,Nat.reduceLeDiff,Nat.reduceAdd,Nat.reduceMul]
 refine h.call ?_
 rw[e]at hq
 simp(disch:=first|exact Xe|fail)only[zaY,↓Xa,Xb,Xc,↓reduceIte,Nat.reduceLT,Nat.reduceEqDiff,Nat.reduceBEq,Nat.reduceLeDiff,Nat.reduceAdd,Nat.reduceMul]
 exact SetR.now hq
theorem zTI(hz:RB4 k zs)(hw:RB4 k ws)(hk:k≤1000000)(hl:zs.length=ws.length)(hbig:zs.length≤1000000):PFn Tryz.prog 183 [zBk zs t,zBk ws t'] (rI (zHO (· - ·) zs ws)):=by
 have h:=PFn.frozen1 (P:=Tryz.prog) (f:=184) (args:=[zBk zs t,zBk ws t']) fun H Q hq=>zNc hz hw hk hl hbig hq
 have e:rI (zHO (· - ·) zs ws)=.seq zs.length (IC (zHO (· - ·) zs ws)) false:=by rw[rI,zBk,zFD hl]
 intro H Q hq
 refine zTP (by simp) ?_
 simp(disch:=first|exact Xe|fail)only[zbS,↓Xa,Xb,Xc,↓reduceIte,Nat.reduceLT,Nat.reduceEqDiff,Nat.reduceBEq,Nat.reduceLeDiff,Nat.reduceAdd,Nat.reduceMul]
 refine h.call ?_
 rw[e]at hq
 simp(disch:=first|exact Xe|fail)only[zab,↓Xa,Xb,Xc,↓reduceIte,Nat.reduceLT,Nat.reduceEqDiff,Nat.reduceBEq,Nat.reduceLeDiff,Nat.reduceAdd,Nat.reduceMul]
 exact SetR.now hq
theorem zJf{H:AHeap}{Q:AV→AHeap→Prop}{c:Int}(hz:RB4 k zs)(hc:Bd k c)(hk:k≤1000000)(hc0:c≠0)(hbig:zs.length≤1000000)
 (hq:(∀z,z∈zs→z%c=0)→Q (.tup [rI (zs.map (· / c)),.bool true]) H) (hn:(∃z,z∈zs∧z%c≠0)→Q (.tup [.seq 0 [] true,.bool false]) H):Run Tryz.prog 186 [zBk zs t,zAe c] H Q:=by
 refine zTD (by simp) ?_
 simp(disch:=first|exact Xe|fail)only[zcx,zAE,↓Xa,Xb,Xc,↓reduceIte,Nat.reduceLT,Nat.reduceEqDiff,Nat.reduceBEq,Nat.reduceLeDiff,Nat.reduceAdd,Nat.reduceMul]
 refine zAD fun p1 hp1=>?_
 have n1:=hp1
 simp(disch:=first|exact Xe|fail)only[zAF,↓Xa,Xb,Xc,↓reduceIte,Nat.reduceLT,Nat.reduceEqDiff,Nat.reduceBEq,Nat.reduceLeDiff,Nat.reduceAdd,Nat.reduceMul]
 have hle: ∀{x:ABlk},Le H (H.upd p1 (some x)):=(Le.refl H).updB n1
 have e0:decide (((0:Nat):Int)=((0:Nat):Int))=true:=rfl
 have e20:decide (((20:Nat):Int)=((0:Nat):Int))=false:=rfl
 refine zAM (zKn hz hc hk hc0 hbig (fun h y M hg=>?_) fun h=>?_)
 ·simp(disch:=first|exact Xe|fail)only[zAK,e0,zYd,↓Xa,Xb,Xc,↓reduceIte,Nat.reduceLT,Nat.reduceEqDiff,Nat.reduceBEq,Nat.reduceLeDiff,Nat.reduceAdd,Nat.reduceMul]
  obtain⟨M2,hg2,hl⟩:=zBp hg hle
  refine SetR.dropTo hl ?_
  have e:rI (zs.map (· / c))=.seq zs.length (IC (zs.map (· / c))) false:=by simp
  have hq':=hq h
  rw[e]at hq'
  generalize IC (zs.map (· / c))=cells at*
  rcases hg2 with⟨h0,h1,rfl,rfl⟩|⟨h0,hln,b,hb,rfl,rfl⟩
  ·rw[h0,h1]at hq'
   exact SetR.loose (SetR.now hq')
  ·refine SetR.frz b (zAC _ _ _) ?_
   rw[zAR,zAZ _ hb]
   have e:Fw.frz b 2 cells (.tup [.own b (zs.length*2) 0 zs.length false,.bool true])=.tup [.seq zs.length cells false,.bool true]:=by simp[frz,zIh,zDw,hln,List.take_of_length_le]
   rw[e];exact SetR.now hq'
 ·simp(disch:=first|exact Xe|fail)only[zAK,e20,zYd,↓Xa,Xb,Xc,↓reduceIte,Nat.reduceLT,Nat.reduceEqDiff,Nat.reduceBEq,Nat.reduceLeDiff,Nat.reduceAdd,Nat.reduceMul]
  exact SetR.dropTo hle (SetR.now (hn h))
end
theorem zJg{zs:List Int}{t:Bool}{k:Nat}{c:Int}(hz:RB4 k zs)(hc:Bd k c)(hk:k≤1000000)(hc0:c≠0)(hbig:zs.length≤1000000)(h: ∀z,z∈zs→z%c=0):PFn Tryz.prog 186 [zBk zs t,zAe c] (.tup [rI (zs.map (· / c)),.bool true]):=
 fun H Q hq=>zJf hz hc hk hc0 hbig (fun _=>hq) fun⟨z,hm,hne⟩=>absurd (h z hm) hne
theorem zMH{zs:List Int}{t:Bool}{k:Nat}{c:Int}(hz:RB4 k zs)(hc:Bd k c)(hk:k≤1000000)(hc0:c≠0)(hbig:zs.length≤1000000)(h: ¬ ∀z,z∈zs→z%c=0):PFn Tryz.prog 186 [zBk zs t,zAe c] (.tup [.seq 0 [] true,.bool false]):=
 fun H Q hq=>zJf hz hc hk hc0 hbig (fun hh=>absurd hh h) fun _=>hq
def zgP:List AV:=[.fn (.func 180) [] [],.fn (.func 181) [] [],.fn (.func 183) [] [],.fn (.func 185) [] [],.fn (.func 186) [] []]
def zQP:AV:=.agg zgP
theorem zD9:zQP.cells=some [.fn (.func 180) [] [],.fn (.func 181) [] [],.fn (.func 183) [] [],.fn (.func 185) [] [],.fn (.func 186) [] []]:=id rfl
theorem zHW:AV.agg [.fn (.func 180) [] [],.fn (.func 181) [] [],.fn (.func 183) [] [],.fn (.func 185) [] [],.fn (.func 186) [] []]=zQP:=id rfl
theorem zXK:PFn Tryz.prog 111 [] zQP:=by
 intro H Q hq
 refine zTY (by simp) ?_
 simp(disch:=first|exact Xe|fail)only[zZW,↓Xa,Xb,Xc,↓reduceIte,Nat.reduceLT,Nat.reduceEqDiff,Nat.reduceBEq,Nat.reduceLeDiff,Nat.reduceAdd,Nat.reduceMul]
 refine zAD fun p1 hp1=>?_
 have n1:=hp1
 simp(disch:=first|exact Xe|fail)only[zHw,↓Xa,Xb,Xc,↓reduceIte,Nat.reduceLT,Nat.reduceEqDiff,Nat.reduceBEq,Nat.reduceLeDiff,Nat.reduceAdd,Nat.reduceMul]
 simp(disch:=first|exact Xe|fail)only[zD9,zHW,zbW,↓Xa,Xb,Xc,↓reduceIte,Nat.reduceLT,Nat.reduceEqDiff,Nat.reduceBEq,Nat.reduceLeDiff,Nat.reduceAdd,Nat.reduceMul]
 exact SetR.dropTo ((Le.refl H).updB n1) (SetR.now hq)
theorem zYn{H:AHeap}{Q:AV→AHeap→Prop}{b N k L ty:Nat}{t:Bool}{regs:List (List Int)}{i:Ins}(hb:H b=some (.row ty 1 (GI regs)))(hN:regs.length=N)(hm:zFO (N:Int) i)(hz:zEV k L regs)(hk:k≤100000)(hL:L≤100000)
 (hq1: ∀x,doR i (regs.getD i.a.toNat []) (regs.getD i.b.toNat [])=some x→RB4 (k+3) x→x.length=L→Q (.tup [rI x,.bool true]) H)
 (hq2:doR i (regs.getD i.a.toNat []) (regs.getD i.b.toNat [])=none→Q (.tup [.seq 0 [] true,.bool false]) H):
 Run Tryz.prog 179 [zQP,.own b N 0 N t,zIk i] H Q:=by
 have hmb:=zLv hm
 have hma:=hm.2.2
 have h18:1≤i.op∧i.op≤8:=⟨hm.1,hm.2.1⟩
 obtain⟨a,ha⟩: ∃a:Nat,i.a=(a:Int):=⟨i.a.toNat,by omega⟩
 obtain⟨c,hc⟩: ∃c:Nat,i.b=(c:Int):=⟨i.b.toNat,by omega⟩
 have haN:a<regs.length:=by omega
 have hcN:c<regs.length:=by omega
 have ga:regs.getD i.a.toNat []=regs[a]:=by rw[ha,Int.toNat_natCast,List.getD_eq_getElem?_getD,List.getElem?_eq_getElem haN];rfl
 have gc:regs.getD i.b.toNat []=regs[c]:=by rw[hc,Int.toNat_natCast,List.getD_eq_getElem?_getD,List.getElem?_eq_getElem hcN];rfl
 rw[ga,gc]at hq1 hq2
 obtain⟨lx,bx⟩:=hz _ (List.getElem_mem haN)
 obtain⟨ly,by'⟩:=hz _ (List.getElem_mem hcN)
 have hl:(GI regs).length=N:=by rw[zFi,hN]
 have haN':a<N:=by omega
 have hcN':c<N:=by omega
 refine zSu (by simp) ?_
 simp(disch:=first|exact Xe|fail)only[zZH,zD9,↓Xa,Xb,Xc,↓reduceIte,Nat.reduceLT,Nat.reduceEqDiff,Nat.reduceBEq,Nat.reduceLeDiff,Nat.reduceAdd,Nat.reduceMul]
 refine zAD fun p1 n1=>?_
 have a1:=zAS hb n1
 simp(disch:=first|exact Xe|fail)only[zA6,↓Xa,Xb,Xc,↓reduceIte,Nat.reduceLT,Nat.reduceEqDiff,Nat.reduceBEq,Nat.reduceLeDiff,Nat.reduceAdd,Nat.reduceMul]
 refine zAD fun p2 hp2=>?_
 have n2:=(zAB.1 hp2).2
 have a2:=zAS hb n2
 have d21:=(zAB.1 hp2).1
 simp(disch:=first|exact Xe|fail)only[ha,hc,hb,zDh,hl,haN',hcN',zJw hN haN,zJw hN hcN,↓Xa,Xb,Xc,↓reduceIte,Nat.reduceLT,Nat.reduceEqDiff,Nat.reduceBEq,Nat.reduceLeDiff,Nat.reduceAdd,Nat.reduceMul]
 generalize regs[a]=x at*
 generalize regs[c]=y at*
 have fin: ∀{r:AV}{x1 x2:ABlk},Q r H→SetR Q r ((H.upd p1 (some x1)).upd p2 (some x2)):=fun h=>
  SetR.dropTo (((Le.refl H).updB n1).updB n2) (SetR.now h)
 have ok1: ∀{z:List Int},doR i x y=some z→RB4 (k+3) z→Q (.tup [rI z,.bool true]) H:=fun h hb=>hq1 _ h hb ((zKd (lx.trans ly.symm) h).trans lx)
 have e2': ∀n:Nat,i.op=(n:Int)→decide (i.op=((n:Nat):Int))=true:=fun n h=>decide_eq_true h
 have no: ∀n:Nat,i.op≠(n:Int)→decide (i.op=((n:Nat):Int))=false:=fun n h=>decide_eq_false h
 by_cases o2:i.op=2
 ·simp(disch:=first|exact Xe|fail)only[zAK,e2' 2 o2,↓Xa,Xb,Xc,↓reduceIte,Nat.reduceLT,Nat.reduceEqDiff,Nat.reduceBEq,Nat.reduceLeDiff,Nat.reduceAdd,Nat.reduceMul]
  refine(zX4 bx (by omega) (by omega)).call ?_
  simp(disch:=first|exact Xe|fail)only[zGa,↓Xa,Xb,Xc,↓reduceIte,Nat.reduceLT,Nat.reduceEqDiff,Nat.reduceBEq,Nat.reduceLeDiff,Nat.reduceAdd,Nat.reduceMul]
  exact fin (ok1 (by rw[doR,if_pos o2]) (bx.map fun z hz=>hz.neg.mono (by omega)))
 have e2:=no 2 o2
 by_cases o3:i.op=3
 ·simp(disch:=first|exact Xe|fail)only[zAK,e2,e2' 3 o3,↓Xa,Xb,Xc,↓reduceIte,Nat.reduceLT,Nat.reduceEqDiff,Nat.reduceBEq,Nat.reduceLeDiff,Nat.reduceAdd,Nat.reduceMul]
  refine(zSz bx by' (by omega) (lx.trans ly.symm) (by omega)).call ?_
  simp(disch:=first|exact Xe|fail)only[zGa,↓Xa,Xb,Xc,↓reduceIte,Nat.reduceLT,Nat.reduceEqDiff,Nat.reduceBEq,Nat.reduceLeDiff,Nat.reduceAdd,Nat.reduceMul]
  exact fin (ok1 (by rw[doR,if_neg o2,if_pos o3]) (bx.zip by' (lx.trans ly.symm) fun z w hz hw=>(hz.add hw).mono (by omega)))
 have e3:=no 3 o3
 by_cases o4:i.op=4
 ·simp(disch:=first|exact Xe|fail)only[zAK,e2,e3,e2' 4 o4,↓Xa,Xb,Xc,↓reduceIte,Nat.reduceLT,Nat.reduceEqDiff,Nat.reduceBEq,Nat.reduceLeDiff,Nat.reduceAdd,Nat.reduceMul]
  refine(zTI bx by' (by omega) (lx.trans ly.symm) (by omega)).call ?_
  simp(disch:=first|exact Xe|fail)only[zGa,↓Xa,Xb,Xc,↓reduceIte,Nat.reduceLT,Nat.reduceEqDiff,Nat.reduceBEq,Nat.reduceLeDiff,Nat.reduceAdd,Nat.reduceMul]
  exact fin (ok1 (by rw[doR,if_neg o2,if_neg o3,if_pos o4]) (bx.zip by' (lx.trans ly.symm) fun z w hz hw=>(hz.sub hw).mono (by omega)))
 have e4:=no 4 o4
 have hcst:=zZU hm
 have h3:=hm.2.2.2.2.2.2
 rw[if_neg (by omega)]at h3
 have hcm:5≤i.op→RB4 (k+3) (x.map (cst i* ·)):=fun h5=>bx.map fun z hz=>((zM5 hm h5).mul hz).mono (by omega)
 have hcd:RB4 (k+3) (x.map (· / cst i)):=bx.map fun z hz=>hz.ediv.mono (by omega)
 by_cases o5:i.op=5
 ·have hcs:cst i=i.c:=by unfold cst;rw[if_pos (.inl o5)]
  rw[if_pos (.inl o5)]at h3
  simp(disch:=first|exact Xe|fail)only[zAK,e2,e3,e4,e2' 5 o5,↓Xa,Xb,Xc,↓reduceIte,Nat.reduceLT,Nat.reduceEqDiff,Nat.reduceBEq,Nat.reduceLeDiff,Nat.reduceAdd,Nat.reduceMul]
  refine PFn.dcall (zGo (n:=i.c) (by omega)) ?_
  simp(disch:=first|exact Xe|fail)only[↓Xa,Xb,Xc,↓reduceIte,Nat.reduceLT,Nat.reduceEqDiff,Nat.reduceBEq,Nat.reduceLeDiff,Nat.reduceAdd,Nat.reduceMul]
  refine(zIx (k':=2) bx (Bd.i64 (n:=i.c) (by omega)) (by omega) (by omega)).call ?_
  rw[← hcs]
  simp(disch:=first|exact Xe|fail)only[zGa,↓Xa,Xb,Xc,↓reduceIte,Nat.reduceLT,Nat.reduceEqDiff,Nat.reduceBEq,Nat.reduceLeDiff,Nat.reduceAdd,Nat.reduceMul]
  exact fin (ok1 (by rw[doR,if_neg o2,if_neg o3,if_neg o4,if_pos (.inl o5)]) (hcm (by omega)))
 have e5:=no 5 o5
 by_cases o7:i.op=7
 ·have hcs:cst i=2^i.c.toNat:=by unfold cst;rw[if_neg (by omega)]
  rw[if_neg (by omega),if_pos (.inl o7)]at h3
  obtain⟨m,hmc⟩: ∃m:Nat,i.c=(m:Int):=⟨i.c.toNat,by omega⟩
  rw[hmc,Int.toNat_natCast]at hcs
  have hcb:=zM5 hm (by omega)
  rw[hcs]at hcb
  simp(disch:=first|exact Xe|fail)only[zAK,e2,e3,e4,e5,e2' 7 o7,hmc,↓Xa,Xb,Xc,↓reduceIte,Nat.reduceLT,Nat.reduceEqDiff,Nat.reduceBEq,Nat.reduceLeDiff,Nat.reduceAdd,Nat.reduceMul]
  refine PFn.dcall (zG2 (n:=m) (by omega)) ?_
  simp(disch:=first|exact Xe|fail)only[↓Xa,Xb,Xc,↓reduceIte,Nat.reduceLT,Nat.reduceEqDiff,Nat.reduceBEq,Nat.reduceLeDiff,Nat.reduceAdd,Nat.reduceMul]
  refine(zIx bx hcb (by omega) (by omega)).call ?_
  rw[← hcs]
  simp(disch:=first|exact Xe|fail)only[zGa,↓Xa,Xb,Xc,↓reduceIte,Nat.reduceLT,Nat.reduceEqDiff,Nat.reduceBEq,Nat.reduceLeDiff,Nat.reduceAdd,Nat.reduceMul]
  exact fin (ok1 (by rw[doR,if_neg o2,if_neg o3,if_neg o4,if_pos (.inr o7)]) (hcm (by omega)))
 have e7:=no 7 o7
 by_cases o6:i.op=6
 ·have hcs:cst i=i.c:=by unfold cst;rw[if_pos (.inr o6)]
  rw[if_pos (.inr o6)]at h3
  have hbc:Bd (k+3) i.c:=(Bd.i64 (n:=i.c) (by omega)).mono (by omega)
  have hdo:doR i x y=if ∀z,z∈x→z%i.c=0 then some (x.map (· / i.c))else none:=by rw[doR,if_neg o2,if_neg o3,if_neg o4,if_neg (by omega),if_pos (.inl o6),hcs]
  rw[hcs]at hcd
  simp(disch:=first|exact Xe|fail)only[zAK,e2,e3,e4,e5,e7,e2' 6 o6,↓Xa,Xb,Xc,↓reduceIte,Nat.reduceLT,Nat.reduceEqDiff,Nat.reduceBEq,Nat.reduceLeDiff,Nat.reduceAdd,Nat.reduceMul]
  refine PFn.dcall (zGo (n:=i.c) (by omega)) ?_
  simp(disch:=first|exact Xe|fail)only[↓Xa,Xb,Xc,↓reduceIte,Nat.reduceLT,Nat.reduceEqDiff,Nat.reduceBEq,Nat.reduceLeDiff,Nat.reduceAdd,Nat.reduceMul]
  by_cases hall: ∀z,z∈x→z%i.c=0
  ·refine PFn.dcall (zJg (bx.mono (by omega)) hbc (by omega) h3.2.1 (by omega) hall) ?_
   simp(disch:=first|exact Xe|fail)only[zGa,↓Xa,Xb,Xc,↓reduceIte,Nat.reduceLT,Nat.reduceEqDiff,Nat.reduceBEq,Nat.reduceLeDiff,Nat.reduceAdd,Nat.reduceMul]
   exact fin (ok1 (by rw[hdo,if_pos hall]) hcd)
  ·refine PFn.dcall (zMH (bx.mono (by omega)) hbc (by omega) h3.2.1 (by omega) hall) ?_
   simp(disch:=first|exact Xe|fail)only[zGa,↓Xa,Xb,Xc,↓reduceIte,Nat.reduceLT,Nat.reduceEqDiff,Nat.reduceBEq,Nat.reduceLeDiff,Nat.reduceAdd,Nat.reduceMul]
   exact fin (hq2 (by rw[hdo,if_neg hall]))
 have e6:=no 6 o6
 by_cases o8:i.op=8
 ·have hcs:cst i=2^i.c.toNat:=by unfold cst;rw[if_neg (by omega)]
  rw[if_neg (by omega),if_pos (.inr o8)]at h3
  obtain⟨m,hmc⟩: ∃m:Nat,i.c=(m:Int):=⟨i.c.toNat,by omega⟩
  rw[hmc,Int.toNat_natCast]at hcs
  have hcb:=zM5 hm (by omega)
  rw[hcs]at hcb hcst hcd
  have hdo:doR i x y=if ∀z,z∈x→z%2^m=0 then some (x.map (· / 2^m))else none:=by rw[doR,if_neg o2,if_neg o3,if_neg o4,if_neg (by omega),if_pos (.inr o8),hcs]
  simp(disch:=first|exact Xe|fail)only[zAK,e2,e3,e4,e5,e7,e6,e2' 8 o8,hmc,↓Xa,Xb,Xc,↓reduceIte,Nat.reduceLT,Nat.reduceEqDiff,Nat.reduceBEq,Nat.reduceLeDiff,Nat.reduceAdd,Nat.reduceMul]
  refine PFn.dcall (zG2 (n:=m) (by omega)) ?_
  simp(disch:=first|exact Xe|fail)only[↓Xa,Xb,Xc,↓reduceIte,Nat.reduceLT,Nat.reduceEqDiff,Nat.reduceBEq,Nat.reduceLeDiff,Nat.reduceAdd,Nat.reduceMul]
  by_cases hall: ∀z,z∈x→z%2^m=0
  ·refine PFn.dcall (zJg (k:=k+3) (bx.mono (by omega)) (hcb.mono (by omega)) (by omega) hcst (by omega) hall) ?_
   simp(disch:=first|exact Xe|fail)only[zGa,↓Xa,Xb,Xc,↓reduceIte,Nat.reduceLT,Nat.reduceEqDiff,Nat.reduceBEq,Nat.reduceLeDiff,Nat.reduceAdd,Nat.reduceMul]
   exact fin (ok1 (by rw[hdo,if_pos hall]) hcd)
  ·refine PFn.dcall (zMH (k:=k+3) (bx.mono (by omega)) (hcb.mono (by omega)) (by omega) hcst (by omega) hall) ?_
   simp(disch:=first|exact Xe|fail)only[zGa,↓Xa,Xb,Xc,↓reduceIte,Nat.reduceLT,Nat.reduceEqDiff,Nat.reduceBEq,Nat.reduceLeDiff,Nat.reduceAdd,Nat.reduceMul]
   exact fin (hq2 (by rw[hdo,if_neg hall]))
 have e8:=no 8 o8
 simp(disch:=first|exact Xe|fail)only[zAK,e2,e3,e4,e5,e7,e6,e8,zGa,↓Xa,Xb,Xc,↓reduceIte,Nat.reduceLT,Nat.reduceEqDiff,Nat.reduceBEq,Nat.reduceLeDiff,Nat.reduceAdd,Nat.reduceMul]
 exact fin (ok1 (by rw[doR,if_neg o2,if_neg o3,if_neg o4,if_neg (by omega),if_neg (by omega)]) (bx.mono (by omega)))
theorem zP5{H M2:AHeap}{b tyr esr ty n:Nat}{rc cells:List AV}{x x' y:AV}(hb:H b=none)(hg:zA7 (H.upd b (some (.row tyr esr rc))) ty 1 (n+1) (cells++[x]) y M2)(hx:Wk (zDw b esr rc x) x')(hc: ∀c,c∈cells→zDw b esr rc c=c):
 ∃M3,zA7 H ty 1 (n+1) (cells++[x']) y M3∧frz b esr rc y=y∧∀(K:St→Prop)(D:List Nat)(E:Env),E.map (Fw.frz b esr rc)=E→Settle K ⟨D,E,M3⟩→Settle K ⟨D,E,M2⟩:=by
 rcases hg with⟨_,h,_⟩|⟨_,hl,b2,hb2,rfl,rfl⟩
 ·simp at h
 ·obtain⟨ne0,hb2'⟩:=zAB.1 hb2
  have ne:b2≠b:=ne0
  refine⟨_,.inr ⟨by omega,by simpa using hl,b2,hb2',rfl,rfl⟩,by simp[frz,zIh,zDw,ne],fun K D E he h=>?_⟩
  refine Settle.frzC b2 b (cells++[x']) (by simp) (fun i h1 h2=>?_) (by rw[zAA _ _ (Ne.symm ne),zAC]) (zAC _ _ _) ne ?_
  ·by_cases hi:i<cells.length
   ·rw[List.getElem_append_left hi,List.getElem_append_left hi,hc _ (List.getElem_mem hi)]
    exact Wk.refl
   ·have hi':i=cells.length:=by simp at h1;omega
    subst hi'
    simpa using hx
  ·rw[he,zAq _ _ _ ne,zAR,zAR,zAZ _ hb]
   exact h
def zBu(n:Nat):List (List Int):=(List.range n).map fun i=>(List.replicate n 0).set i 1
theorem zSP{n:Nat}(hn:n≤8):PFn Tryz.prog 131 [.int .i64 (n:Int)] (.seq n (GI (zBu n)) false):=by
 refine PFn.frozen (ty:=29) (es:=1) (n:=n) (cells:=GI (zBu n)) fun H Q hq=>?_
 have hul:(zBu n).length=n:=by simp[zBu]
 refine zTQ (by simp) ?_
 simp(disch:=first|exact Xe|fail)only[zas,↓Xa,Xb,Xc,↓reduceIte,Nat.reduceLT,Nat.reduceEqDiff,Nat.reduceBEq,Nat.reduceLeDiff,Nat.reduceAdd,Nat.reduceMul]
 refine zAO (fun s:Nat×AV×AHeap=>⟨[],[(0,.int .i64 (n:Int)),(3,s.2.1),(6,.int .i64 (n:Int)),(7,.int .i64 s.1)],s.2.2⟩) (fun s=>s.1≤n∧zA7 H 29 1 s.1 (GI ((zBu n).take s.1)) s.2.1 s.2.2) (fun s=>n-s.1) (0,.seq 0 [] true,H) (Settle.now rfl) ⟨Nat.zero_le _,zAl⟩ ?_
 rintro⟨i,y,M⟩ ⟨h1,hg1⟩
 dsimp only at h1 hg1 ⊢
 by_cases hi:i<n
 ·have hiu:i<(zBu n).length:=by omega
  simp(disch:=first|exact Xe|fail)only[hi,zUI (show n≤100000 by omega),↓Xa,Xb,Xc,↓reduceIte,Nat.reduceLT,Nat.reduceEqDiff,Nat.reduceBEq,Nat.reduceLeDiff,Nat.reduceAdd,Nat.reduceMul]
  intro b hb
  refine(zGo (n:=1) (by omega)).call ?_
  have hll:(List.replicate n (0:Int)).length=n:=by simp
  simp(disch:=first|exact Xe|fail)only[hi,zAE,zMe hll hi,↓Xa,Xb,Xc,↓reduceIte,Nat.reduceLT,Nat.reduceEqDiff,Nat.reduceBEq,Nat.reduceLeDiff,Nat.reduceAdd,Nat.reduceMul]
  refine⟨by rw[zBQ,hll],?_⟩
  refine zFB (m:=1) (zCT hg1 hb) rfl rfl (by omega) (by omega) (by omega) fun y' M2 hg4=>?_
  have eu:(zBu n)[i]=(List.replicate n 0).set i 1:=by simp[zBu]
  have hlr:((List.replicate n (0:Int)).set i 1).length=n:=by simp
  obtain⟨M3,hg5,hf,hs⟩:=zP5 (x':=rI ((zBu n)[i])) (zCH hg1 hb) hg4 (by
   rw[eu]
   have e:zDw b 2 (IC ((List.replicate n 0).set i 1)) (.own b (n*2) 0 n true)=zBk ((List.replicate n 0).set i 1) true:=by
    simp only[zDw,zBk,hlr]
    rw[if_pos trivial,if_pos ⟨by rw[zBQ,hlr],.inr (by omega)⟩,List.drop_zero,List.take_of_length_le (by rw[zBQ,hlr];exact Nat.le_refl _)]
   rw[e];exact Wk.l0) (fun c hc=>by
   obtain⟨r,_,rfl⟩:=List.mem_map.1 hc;rfl)
  rw[← zK6 hiu]at hg5
  simp(disch:=first|exact Xe|fail)only[↓Xa,Xb,Xc,↓reduceIte,Nat.reduceLT,Nat.reduceEqDiff,Nat.reduceBEq,Nat.reduceLeDiff,Nat.reduceAdd,Nat.reduceMul]
  refine hs _ _ _ (by simp only[Env.map,List.map_cons,List.map_nil,hf];rfl) (Settle.now ⟨(i+1,y',M3),by dsimp only;omega,⟨by dsimp only;omega,hg5⟩,rfl⟩)
 ·obtain rfl:i=n:=by omega
  rw[List.take_of_length_le (by omega)]at hg1
  simp(disch:=first|exact Xe|fail)only[hi,↓Xa,Xb,Xc,↓reduceIte,Nat.reduceLT,Nat.reduceEqDiff,Nat.reduceBEq,Nat.reduceLeDiff,Nat.reduceAdd,Nat.reduceMul]
  refine Settle.now ?_
  simp(disch:=first|exact Xe|fail)only[zaj,↓Xa,Xb,Xc,↓reduceIte,Nat.reduceLT,Nat.reduceEqDiff,Nat.reduceBEq,Nat.reduceLeDiff,Nat.reduceAdd,Nat.reduceMul]
  exact SetR.now (hq _ _ hg1)
def zBc(to a c:Int):Ins:=
 if c=1 then⟨1,to,a,0,0⟩else if c= -1 then⟨2,to,a,0,0⟩else if c=2 then⟨7,to,a,0,1⟩else if c=4 then⟨7,to,a,0,2⟩else if c=8 then⟨7,to,a,0,3⟩else if c=16 then⟨7,to,a,0,4⟩else⟨5,to,a,0,c⟩
def zH0(code:List Ins)(i:Ins):List Ins:=if i.op=1∧i.to=i.a then code else code++[i]
def zFo(to c:Int):Nat→Int→List Ins→List Ins
 |0,_,code=>code
 |n+1,a,code=>zFo to c n to (zH0 code (zBc to a c))
def zIl(k:Nat)(to term A B:Int)(fr:Int)(j:Nat)(code:List Ins):List Ins:=
 if B=1∨(B= -1∧(k-1-j)%2=0)then zH0 (zH0 code (zBc to fr A)) ⟨3,to,to,j,0⟩
 else if B= -1 then zH0 (zH0 code (zBc to fr A)) ⟨4,to,to,j,0⟩
 else zH0 (zFo term B (k-1-j) j (zH0 code (zBc to fr A))) ⟨3,to,to,term,0⟩
def zHo(k:Nat)(to term A B:Int):Nat→Int→List Ins→List Ins
 |0,_,code=>code
 |j+1,fr,code=>zHo k to term A B j to (zIl k to term A B fr j code)
def zD0(k:Nat)(term to:Int)(A B:Int)(code:List Ins):List Ins:=
 if k=1 then code else if A=0∧B=0 then zH0 code ⟨4,to,0,0,0⟩else if A=0 then zFo to B (k-1) 0 code
 else if B=0 then zFo to A (k-1) ((k-1:Nat):Int) code else zHo k to term A B (k-1) ((k-1:Nat):Int) code
def zGp(k m:Nat):List Pt→Nat→List Ins→List Ins
 |[],_,code=>code
 |q::l,i,code=>zGp k m l (i+1) (zD0 k ((k+m:Nat):Int) ((k+i:Nat):Int) q.a q.b code)
def zJx(k i:Nat):Int:=if k=1 then 0 else((k+i:Nat):Int)
def zH9(k:Nat)(l:List Pt):PR:=⟨k,((k+l.length+1:Nat):Int),zGp k l.length l 0 [],(List.range l.length).map (zJx k)⟩
def Holds(xs R:List Int)(N:Nat):Prop:=R.length=N∧∀j,j<xs.length→R.getD j 0=xs.getD j 0
theorem Holds.set{xs R:List Int}{N t:Nat}{x:Int}(h:Holds xs R N)(ht:xs.length≤t):Holds xs (R.set t x) N:=by
 refine⟨by rw[List.length_set,h.1],fun j hj=>?_⟩
 rw[← h.2 j hj,List.getD_eq_getElem?_getD,List.getD_eq_getElem?_getD,List.getElem?_set_ne (by omega)]
def Same2(R R':List Int)(t u:Nat):Prop:=R'.length=R.length∧∀j,j≠t→j≠u→R'.getD j 0=R.getD j 0
theorem Same2.refl{R:List Int}{t u:Nat}:Same2 R R t u:=⟨rfl,fun _ _ _=>rfl⟩
theorem Same2.trans{R R' R'':List Int}{t u:Nat}(h:Same2 R R' t u)(k:Same2 R' R'' t u):Same2 R R'' t u:=⟨k.1.trans h.1,fun j h1 h2=>(k.2 j h1 h2).trans (h.2 j h1 h2)⟩
def zCh(xs:List Int)(q:Pt):Int:=zJR q.a q.b xs xs.length
def zF5(m:Nat)(i:Ins):Prop:=zFO (m:Int) i∧(i.op=5→ -16≤i.c∧i.c≤16)∧(i.op=7→i.c≤4)∧i.op≠6∧i.op≠8
theorem zFL{to a c:Int}{m:Nat}(h0:c≠0)(h1: -16≤c)(h2:c≤16)(ht:0≤to∧to<m)(ha:0≤a∧a<m):zF5 m (zBc to a c):=by
 unfold zBc
 repeat' split
 all_goals simp[zF5,zFO]
 all_goals omega
def Beyond(m n:Nat)(code code':List Ins):Prop:= ∃l,code'=code++l∧(∀i,i∈l→zF5 m i)∧l.length≤n
theorem Beyond.refl{m n:Nat}{code:List Ins}:Beyond m n code code:=⟨[],by simp,(fun _ h=>by cases h),Nat.zero_le _⟩
theorem Beyond.trans{m n n':Nat}{a b c:List Ins}(h:Beyond m n a b)(k:Beyond m n' b c):Beyond m (n+n') a c:=by
 obtain⟨l,rfl,h1,h2⟩:=h
 obtain⟨l',rfl,k1,k2⟩:=k
 refine⟨l++l',by simp,fun i hi=>?_,by simp;omega⟩
 rcases List.mem_append.1 hi with hi|hi
 ·exact h1 i hi
 ·exact k1 i hi
theorem Beyond.mono{m n n':Nat}{a b:List Ins}(h:Beyond m n a b)(hn:n≤n'):Beyond m n' a b:=let⟨l,e,h1,h2⟩:=h;⟨l,e,h1,by omega⟩
theorem zDq{m:Nat}{code:List Ins}{i:Ins}(h:zF5 m i):Beyond m 1 code (zH0 code i):=by
 unfold zH0
 split
 ·exact Beyond.refl
 ·exact⟨[i],rfl,fun j hj=>by rw[List.mem_singleton.1 hj];exact h,Nat.le_refl _⟩
theorem zEd{to c:Int}{m:Nat}(h0:c≠0)(h1: -16≤c)(h2:c≤16)(ht:0≤to∧to<m): ∀(n:Nat)(a:Int){code:List Ins},(0≤a∧a<m)→Beyond m n code (zFo to c n a code)
 |0,a,code,_=>Beyond.refl
 |n+1,a,code,ha=>((zDq (zFL h0 h1 h2 ht ha)).trans (zEd h0 h1 h2 ht n to ht)).mono (by omega)
theorem zEI{m:Nat}{op to a b:Int}(ho:op=3∨op=4)(ht:0≤to∧to<m)(ha:0≤a∧a<m)(hb:0≤b∧b<m):zF5 m ⟨op,to,a,b,0⟩:=by
 simp only[zF5,zFO]
 rcases ho with rfl|rfl<;>simp<;>omega
theorem zQn{k m j:Nat}{to term A B fr:Int}{code:List Ins}(hA:A≠0∧ -16≤A∧A≤16)(hB:B≠0∧ -16≤B∧B≤16)(hj:j+1<k)(hk:k≤m)(ht:0≤to∧to<m)(hT:0≤term∧term<m)(hf:0≤fr∧fr<m):Beyond m (k-1-j+2) code (zIl k to term A B fr j code):=by
 have b1:=zDq (code:=code) (zFL hA.1 hA.2.1 hA.2.2 ht hf)
 have hj':0≤(j:Int)∧(j:Int)<m:=by omega
 unfold zIl
 split
 ·exact(b1.trans (zDq (zEI (.inl rfl) ht ht hj'))).mono (by omega)
 ·split
  ·exact(b1.trans (zDq (zEI (.inr rfl) ht ht hj'))).mono (by omega)
  ·exact((b1.trans (zEd hB.1 hB.2.1 hB.2.2 hT _ _ hj')).trans (zDq (zEI (.inl rfl) ht ht hT))).mono (by omega)
theorem zJV{k m:Nat}{to term A B:Int}(hA:A≠0∧ -16≤A∧A≤16)(hB:B≠0∧ -16≤B∧B≤16)(hk:k≤m)(hk8:k≤8)(ht:0≤to∧to<m)(hT:0≤term∧term<m): ∀(j:Nat)(fr:Int){code:List Ins},j<k→(0≤fr∧fr<m)→Beyond m (j*(k+1)-j*(j-1) / 2) code (zHo k to term A B j fr code)
 |0,fr,code,_,_=>Beyond.refl
 |j+1,fr,code,hj,hf=>by
  refine((zQn (j:=j) hA hB (by omega) hk ht hT hf).trans (zJV hA hB hk hk8 ht hT j to (by omega) ht)).mono ?_
  have:k=0∨k=1∨k=2∨k=3∨k=4∨k=5∨k=6∨k=7∨k=8:=by omega
  have:j=0∨j=1∨j=2∨j=3∨j=4∨j=5∨j=6:=by omega
  rcases ‹k=0∨_› with rfl|rfl|rfl|rfl|rfl|rfl|rfl|rfl|rfl<;>rcases ‹j=0∨_› with rfl|rfl|rfl|rfl|rfl|rfl|rfl<;>first|omega|decide
theorem zNj{k m:Nat}{q:Pt}{to term:Int}{code:List Ins}(hin:zEs q.a q.b=true)(hk0:0<k)(hk8:k≤8)(hk:k≤m)(ht:0≤to∧to<m)(hT:0≤term∧term<m):Beyond m (k*(k+3) / 2) code (zD0 k term to q.a q.b code):=by
 obtain⟨A,B⟩:=q
 have hb: -16≤A∧A≤16∧ -16≤B∧B≤16:=of_decide_eq_true hin
 have c8:k=1∨k=2∨k=3∨k=4∨k=5∨k=6∨k=7∨k=8:=by omega
 have b1:1≤k*(k+3) / 2:=by rcases c8 with rfl|rfl|rfl|rfl|rfl|rfl|rfl|rfl<;>decide
 have b2:k-1≤k*(k+3) / 2:=by rcases c8 with rfl|rfl|rfl|rfl|rfl|rfl|rfl|rfl<;>decide
 have b3:(k-1)*(k+1)-(k-1)*(k-1-1) / 2≤k*(k+3) / 2:=by rcases c8 with rfl|rfl|rfl|rfl|rfl|rfl|rfl|rfl<;>decide
 unfold zD0
 dsimp only
 split
 ·exact Beyond.refl
 ·split
  ·exact(zDq (zEI (.inr rfl) ht (by omega) (by omega))).mono b1
  ·rename_i h2
   split
   ·rename_i hA
    exact(zEd (fun e=>h2 ⟨hA,e⟩) hb.2.2.1 hb.2.2.2 ht _ _ (by omega)).mono b2
   ·split
    ·exact(zEd ‹¬ A=0› hb.1 hb.2.1 ht _ _ (by omega)).mono b2
    ·exact(zJV ⟨‹¬ A=0›,hb.1,hb.2.1⟩ ⟨‹¬ B=0›,hb.2.2.1,hb.2.2.2⟩ hk hk8 ht hT _ _ (by omega) (by omega)).mono b3
theorem zKE{k m M:Nat}(hk0:0<k)(hk8:k≤8)(hM:M=k+m+1): ∀(l:List Pt)(i:Nat){code:List Ins},i+l.length=m→(∀q,q∈l→zEs q.a q.b=true)→Beyond M (l.length*(k*(k+3) / 2)) code (zGp k m l i code)
 |[],i,code,_,_=>Beyond.refl
 |q::l,i,code,hm,hin=>by
  simp only[List.length_cons]at hm ⊢
  have:=(zNj (m:=M) (to:=((k+i:Nat):Int)) (term:=((k+m:Nat):Int)) (code:=code) (hin q (by simp)) hk0 hk8 (by omega) (by omega) (by omega)).trans (zKE hk0 hk8 hM l (i+1) (by omega) fun p hp=>hin p (by simp[hp]))
  exact this.mono (by rw[Nat.add_mul];omega)
theorem zKL{k:Nat}{l:List Pt}(hk0:0<k)(hk8:k≤8)(hin: ∀q,q∈l→zEs q.a q.b=true):(∀i,i∈(zH9 k l).code→zF5 (k+l.length+1) i)∧(zH9 k l).code.length≤l.length*(k*(k+3) / 2):=by
 obtain⟨c,h,h1,h2⟩:=zKE hk0 hk8 (M:=k+l.length+1) rfl l 0 (code:=[]) (by omega) hin
 have e:(zH9 k l).code=c:=by show zGp k l.length l 0 []=c;rw[h];rfl
 rw[e];exact⟨h1,h2⟩
theorem zLA{k:Nat}{l:List Pt}(hk0:0<k)(hk8:k≤8)(hl0:0<l.length)(hl:l.length≤15)(hin: ∀q,q∈l→zEs q.a q.b=true):zBl (zH9 k l):=by
 obtain⟨h1,h2⟩:=zKL hk0 hk8 hin
 have h3:(zH9 k l).code.length≤1000:=by
  have e:k*(k+3) / 2≤44:=by
   have:k=1∨k=2∨k=3∨k=4∨k=5∨k=6∨k=7∨k=8:=by omega
   rcases this with rfl|rfl|rfl|rfl|rfl|rfl|rfl|rfl<;>decide
  have:=Nat.mul_le_mul hl e
  omega
 refine⟨?_,fun n hn=>?_,fun i hi=>(h1 i hi).1⟩
 ·unfold zET
  simp only[zH9,List.length_map,List.length_range]at h3 ⊢
  omega
 ·obtain⟨j,hj,rfl⟩:=List.mem_map.1 hn
  have:=List.mem_range.1 hj
  unfold zJx
  simp only[zH9]
  split<;>omega
section
variable {H:AHeap} {K:AV→Prop} {k:IntKind} {l:List Pt} {t:Bool} {i:Nat}
theorem zAb(h:l.length<9223372036854775808):zDr false (zBr l t) K=K (.int .i64 ((l.length:Nat):Int)):=zBE h
theorem zBX(h:i<l.length):zBg 2 (zBr l t) (.int k (i:Int)) K=K (.cptr ((l.flatMap ptC).drop (i*2))):=zHg (zCf (f:=ptC) (es:=2) (fun _=>rfl) l) h
theorem zBG(h:i<l.length):zA9 H (some 2) (.cptr ((l.flatMap ptC).drop (i*2))) K=K (PtV (l[i]).a (l[i]).b):=by
 rw[zEM (es:=2) (fun _=>rfl) l i h];simp[zA9,zA4,ptC,PtV]
theorem zNK(h:0<l.length):zA9 H (some 2) (.cptr (l.flatMap ptC)) K=K (PtV (l[0]).a (l[0]).b):=by
 have:=zBG (H:=H) (K:=K) h
 rwa[Nat.zero_mul,List.drop_zero]at this
end
def zOx(l:List Pt):Prop:= ∀q,q∈l→zEs q.a q.b=true
instance (l:List Pt):Decidable (zOx l):=by unfold zOx;infer_instance
def zDv(l:List Pt):Prop:=zOx l∧1≤l.length∧l.length≤15
instance (l:List Pt):Decidable (zDv l):=by unfold zDv;infer_instance
theorem zCl{l:List Pt}{t:Bool}(hl:l.length<9223372036854775808):PFn Tryz.prog 125 [zBr l t] (.bool (decide (zDv l))):=by
 intro H Q hq
 refine zUn (by simp) ?_
 simp(disch:=first|exact Xe|fail)only[zbm,zAb hl,↓Xa,Xb,Xc,↓reduceIte,Nat.reduceLT,Nat.reduceEqDiff,Nat.reduceBEq,Nat.reduceLeDiff,Nat.reduceAdd,Nat.reduceMul]
 refine zAO (fun s:Nat=>⟨[],[(0,zBr l t),(5,zBr l t),(6,.int .i64 l.length),(7,.int .i64 s)],H⟩) (fun s=>s≤l.length∧zOx (l.take s)) (fun s=>l.length-s) 0 (Settle.now rfl) ⟨Nat.zero_le _,fun q hq=>by simp at hq⟩ ?_
 rintro i ⟨h1,h2⟩
 by_cases hi:i<l.length
 ·simp(disch:=first|exact Xe|fail)only[hi,zBX hi,zBG hi,↓Xa,Xb,Xc,↓reduceIte,Nat.reduceLT,Nat.reduceEqDiff,Nat.reduceBEq,Nat.reduceLeDiff,Nat.reduceAdd,Nat.reduceMul]
  refine zAD fun p4 n4=>?_
  simp(disch:=first|exact Xe|fail)only[zA1,zBA,↓Xa,Xb,Xc,↓reduceIte,Nat.reduceLT,Nat.reduceEqDiff,Nat.reduceBEq,Nat.reduceLeDiff,Nat.reduceAdd,Nat.reduceMul]
  refine zFW.call ?_
  cases hin:zEs (l[i]).a (l[i]).b with
  |false=>
   have: ¬zDv l:=fun h=>by have:=h.1 _ (List.getElem_mem hi);rw[hin]at this;cases this
   rw[decide_eq_false this]at hq
   simp(disch:=first|exact Xe|fail)only[zOk,↓Xa,Xb,Xc,↓reduceIte,Nat.reduceLT,Nat.reduceEqDiff,Nat.reduceBEq,Nat.reduceLeDiff,Nat.reduceAdd,Nat.reduceMul]
   exact SetR.dropTo ((Le.refl H).updB n4) (SetR.now hq)
  |true=>
   simp(disch:=first|exact Xe|fail)only[↓Xa,Xb,Xc,↓reduceIte,Nat.reduceLT,Nat.reduceEqDiff,Nat.reduceBEq,Nat.reduceLeDiff,Nat.reduceAdd,Nat.reduceMul]
   refine Settle.dropTo ((Le.refl H).updB n4) (Settle.now ⟨i+1,by omega,⟨by omega,fun q hq=>?_⟩,rfl⟩)
   rw[List.take_succ_eq_append_getElem hi]at hq
   rcases List.mem_append.1 hq with hq|hq
   ·exact h2 q hq
   ·rw[List.mem_singleton.1 hq];exact hin
 ·obtain rfl:i=l.length:=by omega
  rw[List.take_length]at h2
  simp(disch:=first|exact Xe|fail)only[hi,↓Xa,Xb,Xc,↓reduceIte,Nat.reduceLT,Nat.reduceEqDiff,Nat.reduceBEq,Nat.reduceLeDiff,Nat.reduceAdd,Nat.reduceMul]
  refine Settle.now ?_
  by_cases g1:1≤l.length
  ·have e1:decide (((1:Nat):Int)≤((l.length:Nat):Int))=true:=decide_eq_true (by omega)
   by_cases g2:l.length≤15
   ·have e2:decide (((l.length:Nat):Int)≤((15:Nat):Int))=true:=decide_eq_true (by omega)
    rw[decide_eq_true (show zDv l from⟨h2,g1,g2⟩)]at hq
    simp(disch:=first|exact Xe|fail)only[zAb hl,zCx,zE0,e1,e2,zOk,↓Xa,Xb,Xc,↓reduceIte,Nat.reduceLT,Nat.reduceEqDiff,Nat.reduceBEq,Nat.reduceLeDiff,Nat.reduceAdd,Nat.reduceMul]
    exact SetR.now hq
   ·have e2:decide (((l.length:Nat):Int)≤((15:Nat):Int))=false:=decide_eq_false (by omega)
    rw[decide_eq_false (fun h=>g2 h.2.2)]at hq
    simp(disch:=first|exact Xe|fail)only[zAb hl,zCx,zE0,e1,e2,zOk,↓Xa,Xb,Xc,↓reduceIte,Nat.reduceLT,Nat.reduceEqDiff,Nat.reduceBEq,Nat.reduceLeDiff,Nat.reduceAdd,Nat.reduceMul]
    exact SetR.now hq
  ·have e1:decide (((1:Nat):Int)≤((l.length:Nat):Int))=false:=decide_eq_false (by omega)
   rw[decide_eq_false (fun h=>g1 h.2.1)]at hq
   simp(disch:=first|exact Xe|fail)only[zAb hl,zCx,zE0,e1,zOk,↓Xa,Xb,Xc,↓reduceIte,Nat.reduceLT,Nat.reduceEqDiff,Nat.reduceBEq,Nat.reduceLeDiff,Nat.reduceAdd,Nat.reduceMul]
   exact SetR.now hq
def zKe(n:Nat)(A B:Int):Prop:=1≤n∧n≤16∧zEs A B=true
instance (n:Nat)(A B:Int):Decidable (zKe n A B):=by unfold zKe;infer_instance
theorem zMm{A B:Int}{xs:List Int}{t:Bool}(hn:xs.length<9223372036854775808)(hno: ¬zKe xs.length A B):PFn Tryz.prog 71 [zBk xs t,PtV A B] (.tup [zAe 0,.int .i64 ((2:Nat):Int)]):=by
 intro H Q hq
 refine zQv (by simp) ?_
 simp(disch:=first|exact Xe|fail)only[ze0,zA1,↓Xa,Xb,Xc,↓reduceIte,Nat.reduceLT,Nat.reduceEqDiff,Nat.reduceBEq,Nat.reduceLeDiff,Nat.reduceAdd,Nat.reduceMul]
 refine zAD fun p3 n3=>?_
 simp(disch:=first|exact Xe|fail)only[↓Xa,Xb,Xc,↓reduceIte,Nat.reduceLT,Nat.reduceEqDiff,Nat.reduceBEq,Nat.reduceLeDiff,Nat.reduceAdd,Nat.reduceMul]
 refine zAD fun p4 n4=>?_
 obtain⟨a43,n4'⟩:=zAB.1 n4
 have ez:AV.agg [.bool false,.seq 0 [] true]=zAe 0:=by
  have:=zdM 1
  rw[show 1*2=2 from rfl,zGw]at this
  have h2:([.bool false,.seq 0 [] true]:List AV)=[zBO 0,zBU 0]:=this
  rw[h2];rfl
 have fin: ∀{x:ABlk},Le H ((H.upd p3 (some (.row 112 0 [.int .i64 A,.int .i64 B]))).upd p4 (some x)):=((Le.refl H).updB n3).updB n4'
 by_cases h1:1≤xs.length
 ·have d1:decide (((xs.length:Nat):Int)<((1:Nat):Int))=false:=decide_eq_false (by omega)
  by_cases h2:xs.length≤16
  ·have d2:decide (((16:Nat):Int)<((xs.length:Nat):Int))=false:=decide_eq_false (by omega)
   have hin:zEs A B=false:=by
    cases e:zEs A B with
    |false=>rfl
    |true=>exact absurd ⟨h1,h2,e⟩ hno
   simp(disch:=first|exact Xe|fail)only[zBE,hn,zAc,zAw,d1,d2,a43,a43.symm,zBA,↓Xa,Xb,Xc,↓reduceIte,Nat.reduceLT,Nat.reduceEqDiff,Nat.reduceBEq,Nat.reduceLeDiff,Nat.reduceAdd,Nat.reduceMul]
   refine zFW.call ?_
   simp(disch:=first|exact Xe|fail)only[hin,a43,a43.symm,ez,zAE,zAF,zaC,↓Xa,Xb,Xc,↓reduceIte,Nat.reduceLT,Nat.reduceEqDiff,Nat.reduceBEq,Nat.reduceLeDiff,Nat.reduceAdd,Nat.reduceMul]
   exact SetR.dropTo fin (SetR.now hq)
  ·have d2:decide (((16:Nat):Int)<((xs.length:Nat):Int))=true:=decide_eq_true (by omega)
   simp(disch:=first|exact Xe|fail)only[zBE,hn,zAc,zAw,d1,d2,a43,a43.symm,ez,zAE,zAF,zaC,↓Xa,Xb,Xc,↓reduceIte,Nat.reduceLT,Nat.reduceEqDiff,Nat.reduceBEq,Nat.reduceLeDiff,Nat.reduceAdd,Nat.reduceMul]
   exact SetR.dropTo fin (SetR.now hq)
 ·have d1:decide (((xs.length:Nat):Int)<((1:Nat):Int))=true:=decide_eq_true (by omega)
  simp(disch:=first|exact Xe|fail)only[zBE,hn,zAc,zAw,d1,a43,a43.symm,ez,zAE,zAF,zaC,↓Xa,Xb,Xc,↓reduceIte,Nat.reduceLT,Nat.reduceEqDiff,Nat.reduceBEq,Nat.reduceLeDiff,Nat.reduceAdd,Nat.reduceMul]
  exact SetR.dropTo fin (SetR.now hq)
def zEC(xs:List Int)(A B:Int):Int:=if zKe xs.length A B then zJR A B xs xs.length else 0
def zQU(xs:List Int)(A B:Int):Nat:=if zKe xs.length A B then 0 else 2
theorem zCK{A B:Int}{xs:List Int}{t:Bool}{k0:Nat}(hn:xs.length<9223372036854775808)(hx: ∀z,z∈xs→Bd k0 z)(hk:k0≤100000):PFn Tryz.prog 71 [zBk xs t,PtV A B] (.tup [zAe (zEC xs A B),.int .i64 ((zQU xs A B:Nat):Int)]):=by
 by_cases h:zKe xs.length A B
 ·have:=zTw (t:=t) hx hk h.1 h.2.1 h.2.2
  rw[zEC,zQU,if_pos h,if_pos h];exact this
 ·have:=zMm (t:=t) hn h
  rw[zEC,zQU,if_neg h,if_neg h];exact this
def zKg(xs:List Int)(l:List Pt):List Int:=if zDv l∧1≤xs.length∧xs.length≤16 then l.map (zCh xs)else[]
def zKx(xs:List Int)(l:List Pt):Nat:=if zDv l∧1≤xs.length∧xs.length≤16 then 0 else 2
theorem zKQ{xs:List Int}{q:Pt}(h1:1≤xs.length)(h2:xs.length≤16)(hin:zEs q.a q.b=true):zEC xs q.a q.b=zCh xs q∧zQU xs q.a q.b=0:=by
 rw[zEC,zQU,if_pos ⟨h1,h2,hin⟩,if_pos ⟨h1,h2,hin⟩];exact⟨rfl,rfl⟩
theorem zKU{xs:List Int}{l:List Pt}{t t':Bool}{k0:Nat}(hn:xs.length<9223372036854775808)(hl:l.length<9223372036854775808)(hx: ∀z,z∈xs→Bd k0 z)(hk:k0≤100000):PFn Tryz.prog 64 [zBk xs t,zBr l t'] (.tup [zBk (zKg xs l) false,.int .i64 ((zKx xs l:Nat):Int)]):=by
 by_cases hp:zDv l
 rotate_right
 ·intro H Q hq
  have e1:zKg xs l=[]:=if_neg fun h=>hp h.1
  have e2:zKx xs l=2:=if_neg fun h=>hp h.1
  rw[e1,e2]at hq
  refine zLJ (by simp) ?_
  simp(disch:=first|exact Xe|fail)only[zdL,↓Xa,Xb,Xc,↓reduceIte,Nat.reduceLT,Nat.reduceEqDiff,Nat.reduceBEq,Nat.reduceLeDiff,Nat.reduceAdd,Nat.reduceMul]
  refine(zCl hl).call ?_
  simp(disch:=first|exact Xe|fail)only[decide_eq_false hp,zdR,↓Xa,Xb,Xc,↓reduceIte,Nat.reduceLT,Nat.reduceEqDiff,Nat.reduceBEq,Nat.reduceLeDiff,Nat.reduceAdd,Nat.reduceMul]
  exact SetR.loose (SetR.now hq)
 by_cases hx1:1≤xs.length∧xs.length≤16
 ·have e1:zKg xs l=l.map (zCh xs):=if_pos ⟨hp,hx1⟩
  have e2:zKx xs l=0:=if_pos ⟨hp,hx1⟩
  have ll:(l.map (zCh xs)).length=l.length:=by simp
  rw[e1,e2]
  have er:zBk (l.map (zCh xs)) false=.seq l.length (IC (l.map (zCh xs))) false:=by rw[zBk,ll]
  rw[er]
  refine PFn.frozen1 (ty:=48) (es:=2) fun H Q hq=>?_
  refine zLJ (by simp) ?_
  simp(disch:=first|exact Xe|fail)only[zdL,↓Xa,Xb,Xc,↓reduceIte,Nat.reduceLT,Nat.reduceEqDiff,Nat.reduceBEq,Nat.reduceLeDiff,Nat.reduceAdd,Nat.reduceMul]
  refine(zCl hl).call ?_
  simp(disch:=first|exact Xe|fail)only[decide_eq_true hp,zAb hl,↓Xa,Xb,Xc,↓reduceIte,Nat.reduceLT,Nat.reduceEqDiff,Nat.reduceBEq,Nat.reduceLeDiff,Nat.reduceAdd,Nat.reduceMul]
  refine zAO (fun s:Nat×AV×AHeap=>⟨[],[(0,zBk xs t),(6,s.2.1),(14,zBr l t'),(15,.int .i64 l.length),(16,.int .i64 s.1)],s.2.2⟩) (fun s=>s.1≤l.length∧zA7 H 48 2 s.1 (IC ((l.map (zCh xs)).take s.1)) s.2.1 s.2.2) (fun s=>l.length-s.1) (0,.seq 0 [] true,H) (Settle.now rfl) ⟨Nat.zero_le _,zAl⟩ ?_
  rintro⟨i,y,M⟩ ⟨h1,hg⟩
  dsimp only at h1 hg ⊢
  by_cases hi:i<l.length
  ·obtain⟨w1,w2⟩:=zKQ hx1.1 hx1.2 (hp.1 _ (List.getElem_mem hi))
   simp(disch:=first|exact Xe|fail)only[hi,zBX hi,zBG hi,↓Xa,Xb,Xc,↓reduceIte,Nat.reduceLT,Nat.reduceEqDiff,Nat.reduceBEq,Nat.reduceLeDiff,Nat.reduceAdd,Nat.reduceMul]
   refine zAD fun p8 n8=>?_
   simp(disch:=first|exact Xe|fail)only[zA1,zBA,↓Xa,Xb,Xc,↓reduceIte,Nat.reduceLT,Nat.reduceEqDiff,Nat.reduceBEq,Nat.reduceLeDiff,Nat.reduceAdd,Nat.reduceMul]
   refine(zCK (t:=t) hn hx hk).call ?_
   rw[w1,w2]
   simp(disch:=first|exact Xe|fail)only[↓Xa,Xb,Xc,↓reduceIte,Nat.reduceLT,Nat.reduceEqDiff,Nat.reduceBEq,Nat.reduceLeDiff,Nat.reduceAdd,Nat.reduceMul]
   refine zAD fun p9 n9=>?_
   obtain⟨a98,n9'⟩:=zAB.1 n9
   have d0:decide (((0:Nat):Int)=((0:Nat):Int))=true:=rfl
   simp(disch:=first|exact Xe|fail)only[a98,a98.symm,zAE,zAU,d0,zAF,zGw,↓Xa,Xb,Xc,↓reduceIte,Nat.reduceLT,Nat.reduceEqDiff,Nat.reduceBEq,Nat.reduceLeDiff,Nat.reduceAdd,Nat.reduceMul]
   refine zFB (m:=1) (zCT (zCT hg n8) n9) rfl rfl (by omega) (by have:=hp.2.2;omega) (by have:=hp.2.2;omega) fun y' M2 hg4=>?_
   have hil:i<(l.map (zCh xs)).length:=by simpa using hi
   have et:IC ((l.map (zCh xs)).take i)++[zBO (zCh xs l[i]),zBU (zCh xs l[i])]=IC ((l.map (zCh xs)).take (i+1)):=by
    rw[zH6 hil,List.getElem_map]
   rw[et]at hg4
   obtain⟨M3,hg5,hl5⟩:=zBp hg4 (((Le.refl H).updB (zCH hg n8)).updB (zCH hg n9'))
   simp(disch:=first|exact Xe|fail)only[↓Xa,Xb,Xc,↓reduceIte,Nat.reduceLT,Nat.reduceEqDiff,Nat.reduceBEq,Nat.reduceLeDiff,Nat.reduceAdd,Nat.reduceMul]
   exact Settle.dropTo hl5 (Settle.now ⟨(i+1,y',M3),by dsimp only;omega,⟨by dsimp only;omega,hg5⟩,rfl⟩)
  ·obtain rfl:i=l.length:=by omega
   rw[List.take_of_length_le (by simp)]at hg
   simp(disch:=first|exact Xe|fail)only[hi,↓Xa,Xb,Xc,↓reduceIte,Nat.reduceLT,Nat.reduceEqDiff,Nat.reduceBEq,Nat.reduceLeDiff,Nat.reduceAdd,Nat.reduceMul]
   refine Settle.now ?_
   simp(disch:=first|exact Xe|fail)only[zdR,↓Xa,Xb,Xc,↓reduceIte,Nat.reduceLT,Nat.reduceEqDiff,Nat.reduceBEq,Nat.reduceLeDiff,Nat.reduceAdd,Nat.reduceMul]
   exact SetR.now (hq _ _ hg)
 ·have e1:zKg xs l=[]:=if_neg fun h=>hx1 h.2
  have e2:zKx xs l=2:=if_neg fun h=>hx1 h.2
  rw[e1,e2]
  intro H Q hq
  have hi:0<l.length:=hp.2.1
  have w: ¬zKe xs.length (l[0]).a (l[0]).b:=fun h=>hx1 ⟨h.1,h.2.1⟩
  refine zLJ (by simp) ?_
  simp(disch:=first|exact Xe|fail)only[zdL,↓Xa,Xb,Xc,↓reduceIte,Nat.reduceLT,Nat.reduceEqDiff,Nat.reduceBEq,Nat.reduceLeDiff,Nat.reduceAdd,Nat.reduceMul]
  refine(zCl hl).call ?_
  simp(disch:=first|exact Xe|fail)only[decide_eq_true hp,zAb hl,↓Xa,Xb,Xc,↓reduceIte,Nat.reduceLT,Nat.reduceEqDiff,Nat.reduceBEq,Nat.reduceLeDiff,Nat.reduceAdd,Nat.reduceMul]
  refine zAO (fun s:Nat=>⟨[],[(0,zBk xs t),(6,.seq 0 [] true),(14,zBr l t'),(15,.int .i64 l.length),(16,.int .i64 ((0:Nat):Int))],H⟩) (fun s=>s=0) (fun s=>s) 0 (Settle.now rfl) rfl ?_
  rintro i rfl
  simp(disch:=first|exact Xe|fail)only[hi,zBX hi,zNK hi,↓Xa,Xb,Xc,↓reduceIte,Nat.reduceLT,Nat.reduceEqDiff,Nat.reduceBEq,Nat.reduceLeDiff,Nat.reduceAdd,Nat.reduceMul]
  refine zAD fun p8 n8=>?_
  simp(disch:=first|exact Xe|fail)only[zA1,zBA,↓Xa,Xb,Xc,↓reduceIte,Nat.reduceLT,Nat.reduceEqDiff,Nat.reduceBEq,Nat.reduceLeDiff,Nat.reduceAdd,Nat.reduceMul]
  refine(zMm (t:=t) hn w).call ?_
  simp(disch:=first|exact Xe|fail)only[↓Xa,Xb,Xc,↓reduceIte,Nat.reduceLT,Nat.reduceEqDiff,Nat.reduceBEq,Nat.reduceLeDiff,Nat.reduceAdd,Nat.reduceMul]
  refine zAD fun p9 n9=>?_
  have d0:decide (((2:Nat):Int)=((0:Nat):Int))=false:=rfl
  simp(disch:=first|exact Xe|fail)only[zAE,zAU,d0,zdR,↓Xa,Xb,Xc,↓reduceIte,Nat.reduceLT,Nat.reduceEqDiff,Nat.reduceBEq,Nat.reduceLeDiff,Nat.reduceAdd,Nat.reduceMul]
  exact SetR.loose (SetR.dropTo (((Le.refl H).updB n8).updB (zAB.1 n9).2) (SetR.now hq))
theorem zUD{H C:AHeap}{cv ov:AV}{b N k0 L ty:Nat}{t:Bool}{p:PR}{f:AV}{regs0 S:List (List Int)}{A B:AHeap}{J:List (List Int)→AHeap→Prop}{Jx:AHeap→Prop}{Q:AV→AHeap→Prop}(hH:H=Un A B)
 (hS:S=(zFK doR [] p.code regs0).1) (hd:Dj A B) (hb:B b=some (.row ty 1 (GI regs0))) (hN:regs0.length=N) (hr: ∀i,i∈p.code→zFO (N:Int) i) (hz:zEV k0 L regs0) (hL:L≤100000) (hk:k0+3*p.code.length≤100000)
 (hJ:J [] A) (hcv:CodeV C cv p.code) (hov:ov.cell=true) (hCB:Le C B) (hCb:C b=none)
 (hf: ∀pre x rest A B,S=pre++x::rest→Dj A B→J pre A→zBn Tryz.prog f [.int .i64 ((pre.length:Nat):Int),rI x] (Un A B) fun r H'=> ∃A',Dj A' B∧H'=Un A' B∧((r=.bool true∧J (pre++[x]) A')∨(r=.bool false∧Jx A')))
 (hq: ∀r A' regs',regs'.length=N→zEV (k0+3*p.code.length) L regs'→Dj A' (B.upd b (some (.row ty 1 (GI regs'))))→((r= -1∧S.length=p.code.length∧J S A'∧regs'=(zFK doR [] p.code regs0).2)∨(r=(S.length:Int)∧S.length<p.code.length∧J S A')∨(r= -1∧Jx A'))→Q (.int .i64 r) (Un A' (B.upd b (some (.row ty 1 (GI regs')))))):
 Run Tryz.prog 110 [zQP,zS1 p cv ov,.own b N 0 N t,f] H Q:=by
 subst hH
 obtain⟨hcc,hcl,qf,hcq⟩:=hcv
 have lc:p.code.length<9223372036854775808:=by omega
 have hAb:A b=none:=zDG hd hb
 refine zS0 (by simp) ?_
 simp(disch:=first|exact Xe|fail)only[zc5,zD9,↓Xa,Xb,Xc,↓reduceIte,Nat.reduceLT,Nat.reduceEqDiff,Nat.reduceBEq,Nat.reduceLeDiff,Nat.reduceAdd,Nat.reduceMul]
 refine zAD fun p4 hp4=>?_
 obtain⟨a4,b4⟩:=zBv.1 hp4
 simp(disch:=first|exact Xe|fail)only[zKz hcc hov,↓Xa,Xb,Xc,↓reduceIte,Nat.reduceLT,Nat.reduceEqDiff,Nat.reduceBEq,Nat.reduceLeDiff,Nat.reduceAdd,Nat.reduceMul]
 refine zAD fun p5 hp5=>?_
 have d54:=(zAB.1 hp5).1
 obtain⟨a5,b5⟩:=zBv.1 (zAB.1 hp5).2
 have eb4:Ap p4 b:=zAS hb b4
 have eb5:Ap p5 b:=zAS hb b5
 simp(disch:=first|exact Xe|fail)only[hcl,↓Xa,Xb,Xc,↓reduceIte,Nat.reduceLT,Nat.reduceEqDiff,Nat.reduceBEq,Nat.reduceLeDiff,Nat.reduceAdd,Nat.reduceMul]
 generalize hwv:(ABlk.row 185 0 [.fn (.func 180) [] [],.fn (.func 181) [] [],.fn (.func 183) [] [],.fn (.func 185) [] [],.fn (.func 186) [] []])=wv
 have eB:B.upd b (some (.row ty 1 (GI regs0)))=B:=funext fun o=>by
  by_cases e:o=b
  ·subst e;rw[zAC,hb]
  ·rw[zAA _ _ e]
 have fin: ∀(M:AHeap)(A':AHeap)(regs':List (List Int))(r:Int),Le (Un A' (B.upd b (some (.row ty 1 (GI regs'))))) M→Q (.int .i64 r) (Un A' (B.upd b (some (.row ty 1 (GI regs')))))→SetR Q (.int .i64 r) M:=fun M A' regs' r hl h=>SetR.dropTo hl (SetR.now h)
 refine zAO (fun s:Nat×List (List Int)×AHeap=>⟨[],[(2,.own b N 0 N t),(3,f),(4,.ptr p4 5 0),(14,cv),(15,.int .i64 p.code.length),(16,.int .i64 s.1)],Un s.2.2 ((B.upd b (some (.row ty 1 (GI s.2.1)))).upd p4 (some wv))⟩)
  (fun s=>s.1≤p.code.length∧s.1≤S.length∧s.2.1.length=N∧Dj s.2.2 ((B.upd b (some (.row ty 1 (GI s.2.1)))).upd p4 (some wv))∧J (S.take s.1) s.2.2∧zFK doR [] (p.code.drop s.1) s.2.1=(S.drop s.1,(zFK doR [] p.code regs0).2)∧zEV (k0+3*s.1) L s.2.1) (fun s=>p.code.length-s.1) (0,regs0,A) ?_ ⟨Nat.zero_le _,Nat.zero_le _,hN,?_,by simpa using hJ,?_,by simpa using hz⟩ ?_
 ·dsimp only
  rw[eB]
  refine Settle.dropTo (Le.updB ?_ ?_) (Settle.now rfl)
  ·rw[zBd a4];exact Le.refl _
  ·rw[zBd a4];exact zAB.2 ⟨d54,zBv.2 ⟨a5,b5⟩⟩
 ·dsimp only
  rw[eB];exact zDc hd a4
 ·dsimp only
  rw[List.drop_zero,List.drop_zero,hS]
 rintro⟨j,regs,A'⟩ ⟨h1,h2,h3,h4,h5,h6,h7⟩
 dsimp only at h1 h2 h3 h4 h5 h6 h7 ⊢
 have gb4:b≠p4:=Ne.symm eb4
 have m4:Un A' ((B.upd b (some (.row ty 1 (GI regs)))).upd p4 (some wv)) p4=some wv:=by rw[zRJ (zDG h4 (zAC _ _ _)),zAC]
 have mb:Un A' ((B.upd b (some (.row ty 1 (GI regs)))).upd p4 (some wv)) b=some (.row ty 1 (GI regs)):=by
  have e:((B.upd b (some (.row ty 1 (GI regs)))).upd p4 (some wv)) b=some (.row ty 1 (GI regs)):=by rw[zAA _ _ gb4,zAC]
  rw[zRJ (zDG h4 e),e]
 have hA'4:A' p4=none:=zDG h4 (zAC _ _ _)
 have hA'b:A' b=none:=zDG h4 (show _=some (ABlk.row ty 1 (GI regs)) by rw[zAA _ _ gb4,zAC])
 generalize hM:Un A' ((B.upd b (some (.row ty 1 (GI regs)))).upd p4 (some wv))=M at*
 by_cases hj:j<p.code.length
 ·have hmi:=hr _ (List.getElem_mem hj)
  have hma:=hmi.2.2
  obtain⟨w,hw⟩: ∃w:Nat,(p.code[j]).to=(w:Int):=⟨(p.code[j]).to.toNat,by omega⟩
  have hCM:Le C M:=fun o x ho=>by
   have ob:o≠b:=by rintro rfl;rw[hCb]at ho;cases ho
   have o4:o≠p4:=by rintro rfl;rw[hCB.none b4]at ho;cases ho
   have e:((B.upd b (some (.row ty 1 (GI regs)))).upd p4 (some wv)) o=some x:=by rw[zAA _ _ o4,zAA _ _ ob];exact hCB o x ho
   rw[← hM];exact zcP h4 o x e
  have hix:=(((hcq M hCM).2 j hj).1)
  have hlx:=(((hcq M hCM).2 j hj).2)
  simp(disch:=first|exact Xe|fail)only[hj,hix,hlx,↓Xa,Xb,Xc,↓reduceIte,Nat.reduceLT,Nat.reduceEqDiff,Nat.reduceBEq,Nat.reduceLeDiff,Nat.reduceAdd,Nat.reduceMul]
  refine zAD fun q1 hq1=>?_
  have u1:=zAS mb hq1
  have u2:=zAS m4 hq1
  have m4':=m4
  rw[← hwv]at m4'
  simp(disch:=first|exact Xe|fail)only[zA6,zA0,m4',zHW,↓Xa,Xb,Xc,↓reduceIte,Nat.reduceLT,Nat.reduceEqDiff,Nat.reduceBEq,Nat.reduceLeDiff,Nat.reduceAdd,Nat.reduceMul]
  have hlM:Le (Un A' (B.upd b (some (.row ty 1 (GI regs))))) M:=hM▸zM8 ((Le.refl _).updB (zAB.2 ⟨eb4,b4⟩))
  have hdb:Dj A' (B.upd b (some (.row ty 1 (GI regs)))):=zSg h4 ((Le.refl _).updB (zAB.2 ⟨eb4,b4⟩))
  have hz':zEV (k0+3*p.code.length) L regs:=fun z hm=>⟨(h7 z hm).1,(h7 z hm).2.mono (by omega)⟩
  refine zAM (zYn (b:=b) (N:=N) (k:=k0+3*j) (L:=L) (ty:=ty) (regs:=regs) (by rw[zAA _ _ (Ne.symm u1)];exact mb) h3 hmi h7 (by omega) hL ?_ fun hno0=>?_)
  rotate_right
  ·have hno:=zYk hj regs hno0
   rw[h6]at hno
   have hS0:S.drop j=[]:=congrArg Prod.fst hno
   have hSl:S.length≤j:=by
    have:=congrArg List.length hS0
    simp at this;omega
   obtain rfl:j=S.length:=by omega
   rw[List.take_of_length_le (Nat.le_refl _)]at h5
   simp(disch:=first|exact Xe|fail)only[zNX,↓Xa,Xb,Xc,↓reduceIte,Nat.reduceLT,Nat.reduceEqDiff,Nat.reduceBEq,Nat.reduceLeDiff,Nat.reduceAdd,Nat.reduceMul]
   refine fin _ A' regs _ (hlM.updB (hlM.none hq1)) (hq _ A' regs h3 hz' hdb (.inr (.inl ⟨rfl,hj,h5⟩)))
  intro x hdo hbx hxl
  have hat:=zYi hj regs hdo
  rw[h6]at hat
  have hS1:S.drop j=x::(zFK doR [] (p.code.drop (j+1)) (regs.set (p.code[j]).to.toNat x)).1:=congrArg Prod.fst hat
  have hjS:j<S.length:=by
   have:=congrArg List.length hS1
   simp at this;omega
  have hSx:S=S.take j++x::S.drop (j+1):=by
   conv=>lhs;rw[← List.take_append_drop j S]
   rw[List.drop_eq_getElem_cons hjS]at hS1
   rw[List.drop_eq_getElem_cons hjS]
   injection hS1 with e1 e2
   rw[e1]
  have hS2:S.drop (j+1)=(zFK doR [] (p.code.drop (j+1)) (regs.set (p.code[j]).to.toNat x)).1:=by
   rw[List.drop_eq_getElem_cons hjS]at hS1
   injection hS1
  have hlt:(S.take j).length=j:=by rw[List.length_take];omega
  have hl2:(GI regs).length=N:=by rw[zFi,h3]
  have hwN:w<N:=by omega
  have hwr:w<regs.length:=by omega
  have eset:(GI regs).set w (rI x)=GI (regs.set w x):=by simp[GI,List.map_set]
  simp(disch:=first|exact Xe|fail)only[hw,mb,zDh,hl2,↓Xa,Xb,Xc,↓reduceIte,Nat.reduceLT,Nat.reduceEqDiff,Nat.reduceBEq,Nat.reduceLeDiff,Nat.reduceAdd,Nat.reduceMul]
  refine(zUU (x:=rI x) hl2 hwN).2 ?_
  rw[eset]
  generalize hX1:(some (ABlk.row 76 0 [.int .i64 (p.code[j]).op,.int .i64 (w:Int),.int .i64 (p.code[j]).a,.int .i64 (p.code[j]).b,.int .i64 (p.code[j]).c]))=X1 at*
  have qa1:A' q1=none:=(zBv.1 (hM▸hq1)).1
  have eH:(M.upd q1 X1).upd b (some (.row ty 1 (GI (regs.set w x))))=Un A' (((B.upd b (some (.row ty 1 (GI (regs.set w x))))).upd p4 (some wv)).upd q1 X1):=by
   rw[zBd qa1,zAq _ _ _ (show q1≠b from u1),← hM,← zBd hA'b,zAq _ _ _ (show p4≠b from eb4),zAR]
  rw[eH]
  have nb1:=(zAB.1 (zAB.1 (zBv.1 (hM▸hq1:Un A' _ q1=none)).2).2).2
  have hle1:Le (B.upd b (some (.row ty 1 (GI (regs.set w x))))) (((B.upd b (some (.row ty 1 (GI (regs.set w x))))).upd p4 (some wv)).upd q1 X1):=by
   rw[← hX1]
   exact((Le.refl _).updB (zAB.2 ⟨eb4,b4⟩)).updB (zAB.2 ⟨u1,nb1⟩)
  have hle2:Le ((B.upd b (some (.row ty 1 (GI (regs.set w x))))).upd p4 (some wv)) (((B.upd b (some (.row ty 1 (GI (regs.set w x))))).upd p4 (some wv)).upd q1 X1):=by
   rw[← hX1]
   exact(Le.refl _).updB (zAB.2 ⟨u2,zAB.2 ⟨u1,nb1⟩⟩)
  have hd2:Dj A' (((B.upd b (some (.row ty 1 (GI (regs.set w x))))).upd p4 (some wv)).upd q1 X1):=by
   refine zDc (zDc ?_ hA'4) qa1
   have h:=zDc (x:=some (.row ty 1 (GI (regs.set w x)))) hdb hA'b
   rwa[zAR]at h
  generalize hB2:(((B.upd b (some (.row ty 1 (GI (regs.set w x))))).upd p4 (some wv)).upd q1 X1)=B2 at*
  have hf':=hf (S.take j) x (S.drop (j+1)) A' B2 hSx hd2 h5
  rw[hlt]at hf'
  have hlen':(regs.set w x).length=N:=by rw[List.length_set,h3]
  have hbd':zEV (k0+3*(j+1)) L (regs.set w x):=fun z hm=>by
   rcases List.mem_or_eq_of_mem_set hm with hm|rfl
   ·exact⟨(h7 z hm).1,(h7 z hm).2.mono (by omega)⟩
   ·exact⟨hxl,hbx.mono (by omega)⟩
  simp(disch:=first|exact Xe|fail)only[↓Xa,Xb,Xc,↓reduceIte,Nat.reduceLT,Nat.reduceEqDiff,Nat.reduceBEq,Nat.reduceLeDiff,Nat.reduceAdd,Nat.reduceMul]
  refine zNo hf' ?_
  rintro r H' ⟨A'',hd3,rfl,⟨rfl,hJ'⟩|⟨rfl,hJ'⟩⟩
  ·simp(disch:=first|exact Xe|fail)only[↓Xa,Xb,Xc,↓reduceIte,Nat.reduceLT,Nat.reduceEqDiff,Nat.reduceBEq,Nat.reduceLeDiff,Nat.reduceAdd,Nat.reduceMul]
   have ew:(p.code[j]).to.toNat=w:=by omega
   rw[ew]at hat hS2
   refine Settle.dropTo (zM8 hle2) (Settle.now ⟨(j+1,regs.set w x,A''),by dsimp only;omega,⟨hj,hjS,hlen',zSg hd3 hle2,?_,?_,hbd'⟩,rfl⟩)
   ·dsimp only
    rw[List.take_succ_eq_append_getElem hjS]
    have e:S[j]=x:=by
     rw[List.drop_eq_getElem_cons hjS]at hS1
     injection hS1
    rw[e];exact hJ'
   ·dsimp only
    rw[hS2,congrArg Prod.snd hat]
  ·simp(disch:=first|exact Xe|fail)only[zNX,↓Xa,Xb,Xc,↓reduceIte,Nat.reduceLT,Nat.reduceEqDiff,Nat.reduceBEq,Nat.reduceLeDiff,Nat.reduceAdd,Nat.reduceMul]
   refine Settle.now ?_
   simp(disch:=first|exact Xe|fail)only[zNX,↓Xa,Xb,Xc,↓reduceIte,Nat.reduceLT,Nat.reduceEqDiff,Nat.reduceBEq,Nat.reduceLeDiff,Nat.reduceAdd,Nat.reduceMul]
   exact fin _ A'' _ _ (zM8 hle1) (hq _ A'' _ hlen' (fun z hm=>⟨(hbd' z hm).1,(hbd' z hm).2.mono (by omega)⟩) (zSg hd3 hle1) (.inr (.inr ⟨rfl,hJ'⟩)))
 ·obtain rfl:j=p.code.length:=by omega
  have hS0:S.drop p.code.length=[]∧(zFK doR [] p.code regs0).2=regs:=by
   rw[List.drop_of_length_le (Nat.le_refl _)]at h6
   exact⟨(congrArg Prod.fst h6).symm,(congrArg Prod.snd h6).symm⟩
  have hSl:S.length=p.code.length:=by
   have:=congrArg List.length hS0.1
   simp at this;omega
  have hlM:Le (Un A' (B.upd b (some (.row ty 1 (GI regs))))) M:=hM▸zM8 ((Le.refl _).updB (zAB.2 ⟨eb4,b4⟩))
  have hdb:Dj A' (B.upd b (some (.row ty 1 (GI regs)))):=zSg h4 ((Le.refl _).updB (zAB.2 ⟨eb4,b4⟩))
  rw[← hSl,List.take_of_length_le (Nat.le_refl _)]at h5
  simp(disch:=first|exact Xe|fail)only[hj,zNX,↓Xa,Xb,Xc,↓reduceIte,Nat.reduceLT,Nat.reduceEqDiff,Nat.reduceBEq,Nat.reduceLeDiff,Nat.reduceAdd,Nat.reduceMul]
  refine Settle.now ?_
  simp(disch:=first|exact Xe|fail)only[zNX,↓Xa,Xb,Xc,↓reduceIte,Nat.reduceLT,Nat.reduceEqDiff,Nat.reduceBEq,Nat.reduceLeDiff,Nat.reduceAdd,Nat.reduceMul]
  exact fin _ A' _ _ hlM (hq _ A' _ h3 h7 hdb (.inl ⟨rfl,hSl,h5,hS0.2.symm⟩))
def zDJ(p:PR)(g:List (List Int)):Nat:=if zBl p∧(g.length:Int)=p.ins then(if(∀r,r∈g→r.length=(g.getD 0 []).length)∧(g.getD 0 []).length≤4096 then 0 else 5)else zRw p g.length
abbrev GIA(g:List (List Int))(t:Bool):AV:=.seq g.length (GI g) t
def CI(R:List (List Int))(N j:Nat):List AV:=GI (R.take j)++List.replicate (N-j) (.seq 0 [] true)
theorem zOe{R:List (List Int)}{N j:Nat}(hR:R.length=N)(hj:j≤N):(CI R N j).length=N:=by simp[CI,GI];omega
theorem zaT{R:List (List Int)}{N j:Nat}(hR:R.length=N)(hj:j<N):(CI R N j).set j (rI (R[j]'(by omega)))=CI R N (j+1):=by
 unfold CI
 have h1:(GI (R.take j)).length=j:=by simp[GI];omega
 rw[zK6 (by omega),List.set_append_right _ _ (by omega),h1,Nat.sub_self,show N-j=(N-(j+1))+1 by omega,List.replicate_succ,List.set_cons_zero,List.append_assoc];rfl
theorem zZi{R:List (List Int)}{N j:Nat}: ∀x,x∈CI R N j→∃n c t,x=.seq n c t:=fun x hx=>by
 rcases List.mem_append.1 hx with hx|hx
 ·obtain⟨r,-,rfl⟩:=List.mem_map.1 hx;exact⟨_,_,_,rfl⟩
 ·rw[List.mem_replicate]at hx;exact⟨_,_,_,hx.2⟩
theorem zZy{R:List (List Int)}{N j b n:Nat}(hR:R.length=N)(hj:j<N)(hn:(R[j]'(by omega)).length=n){t:Bool}:
 ∀i(h:i<((CI R N j).set j (.own b (n*2) 0 n t)).length)(h':i<(CI R N (j+1)).length),Wk (zDw b 2 (IC (R[j]'(by omega))) (((CI R N j).set j (.own b (n*2) 0 n t))[i])) ((CI R N (j+1))[i]):=fun i h h'=>by
 have hCl:=zOe hR (Nat.le_of_lt hj)
 have e1: ∀zs:List Int,zs.length=n→zDw b 2 (IC zs) (.own b (n*2) 0 n t)=.seq n (IC zs) t:=fun zs hz=>by
  simp[zDw,zBQ,hz];rw[List.take_of_length_le (by rw[zBQ];omega)]
 simp only[← zaT hR hj,List.getElem_set]
 by_cases e:j=i
 ·rw[if_pos e,if_pos e,e1 _ hn]
  have:rI (R[j]'(by omega))=.seq n (IC (R[j]'(by omega))) false:=by rw[rI,zBk,hn]
  rw[this];exact Wk.l0
 ·rw[if_neg e,if_neg e]
  obtain⟨n',c',t',ex⟩:=zZi (R:=R) (N:=N) (j:=j) _ (List.getElem_mem (by rw[List.length_set]at h;exact h))
  rw[ex];exact Wk.refl
theorem zTE{H:AHeap}{Q:AV→AHeap→Prop}{p:PR}{grid:List (List Int)}{t:Bool}{L N:Nat}(hp:p.ok)(hN0:p.regs.toNat=N)(hLg:(grid.getD 0 []).length=L)(hL:L≤100000)(hgl:grid.length<9223372036854775808)(hgb: ∀r,r∈grid→r.length<9223372036854775808)
 (hbad:zDJ p grid≠0→Q (.tup [.seq 0 [] true,.int .i64 ((zDJ p grid:Nat):Int)]) H)
 (hok:zDJ p grid=0→∀b,H b=none→Q (.tup [.own b N 0 N true,.int .i64 ((0:Nat):Int)]) (H.upd b (some (.row 29 1 (GI (zBN p grid L)))))):
 Run Tryz.prog 109 [zEF p,GIA grid t] H Q:=by
 refine zSJ (by simp) ?_
 simp(disch:=first|exact Xe|fail)only[zdE,zBj,↓Xa,Xb,Xc,↓reduceIte,Nat.reduceLT,Nat.reduceEqDiff,Nat.reduceBEq,Nat.reduceLeDiff,Nat.reduceAdd,Nat.reduceMul]
 refine zAD fun p2 hp2=>?_
 simp(disch:=first|exact Xe|fail)only[zCM,zBE,↓Xa,Xb,Xc,↓reduceIte,Nat.reduceLT,Nat.reduceEqDiff,Nat.reduceBEq,Nat.reduceLeDiff,Nat.reduceAdd,Nat.reduceMul]
 refine(zOF p hp grid.length).call ?_
 have hle2: ∀{x:ABlk},Le H (H.upd p2 (some x)):=(Le.refl H).updB hp2
 by_cases hr:zBl p∧(grid.length:Int)=p.ins
 rotate_right
 ·have e0: ∃n:Nat,zRw p grid.length=n+1:=by
   unfold zRw
   split
   ·rw[if_neg (fun e=>hr ⟨‹_›,e⟩)];exact⟨_,rfl⟩
   ·exact⟨_,rfl⟩
  obtain⟨n,e0⟩:=e0
  have hd:decide (((n+1:Nat):Int)=((0:Nat):Int))=false:=decide_eq_false (by omega)
  have hge:zDJ p grid=n+1:=by unfold zDJ;rw[if_neg hr,e0]
  rw[e0]
  rw[hge]at hbad
  simp(disch:=first|exact Xe|fail)only[zAU,hd,zP3,↓Xa,Xb,Xc,↓reduceIte,Nat.reduceLT,Nat.reduceEqDiff,Nat.reduceBEq,Nat.reduceLeDiff,Nat.reduceAdd,Nat.reduceMul]
  exact SetR.dropTo hle2 (SetR.now (hbad (by omega)))
 have e0:zRw p grid.length=0:=by simp[zRw,hr.1,hr.2]
 have hge:zDJ p grid=if(∀r,r∈grid→r.length=L)∧L≤4096 then 0 else 5:=by unfold zDJ;rw[if_pos hr,hLg]
 rw[e0]
 obtain⟨hr1,hr2⟩:=hr
 have hh:=hr1.1
 unfold zET at hh
 have hN:p.regs=(N:Int):=by omega
 have hg0:0<grid.length:=by omega
 have hgN:grid.length≤N:=by omega
 have gl0:(grid[0]).length=L:=by rw[← hLg];simp[List.getD_eq_getElem?_getD,hg0]
 have hR0:(zBN p grid L).length=N:=by simp[zBN,hN];omega
 have hix: ∀{k:IntKind}{K:AV→Prop}{i:Nat}(h:i<grid.length),zBg 1 (GIA grid t) (.int k (i:Int)) K=K (.cptr ((GI grid).drop i)):=fun{k K i} h=>by
  have:=zQy (f:=rI) (t:=t) (k:=k) (K:=K) h
  rw[Nat.mul_one]at this;exact this
 have hld: ∀{M:AHeap}{K:AV→Prop}{i:Nat}(h:i<grid.length),zA9 M none (.cptr ((GI grid).drop i)) K=K (rI (grid[i])):=fun{M K i} h=>zMQ h
 have hld0: ∀{M:AHeap}{K:AV→Prop},zA9 M none (.cptr (GI grid)) K=K (rI (grid[0])):=fun{M K}=>hld (i:=0) hg0
 have gl0':(grid[0]).length<9223372036854775808:=by omega
 have e00:decide (((0:Nat):Int)=((0:Nat):Int))=true:=rfl
 simp(disch:=first|exact Xe|fail)only[zAU,e00,hix hg0,hld0,zBE,gl0',gl0,hN,↓Xa,Xb,Xc,↓reduceIte,Nat.reduceLT,Nat.reduceEqDiff,Nat.reduceBEq,Nat.reduceLeDiff,Nat.reduceAdd,Nat.reduceMul]
 rw[zeX (by omega)]
 intro b hb
 have hbp:=(zAB.1 hb).1
 have hbH:=(zAB.1 hb).2
 generalize hX:(ABlk.row 25 0 [.int .i64 p.ins,.int .i64 (N:Int),zBI p.code false,zAr p.outs false])=X at*
 have lN:N<9223372036854775808:=by omega
 simp(disch:=first|exact Xe|fail)only[zMa lN,↓Xa,Xb,Xc,↓reduceIte,Nat.reduceLT,Nat.reduceEqDiff,Nat.reduceBEq,Nat.reduceLeDiff,Nat.reduceAdd,Nat.reduceMul]
 refine zAO (fun s:Nat=>⟨[],[(1,GIA grid t),(7,.int .i64 L),(8,.own b N 0 N true),(25,.int .i64 N),(26,.int .i64 s)],(H.upd p2 (some X)).upd b (some (.row 29 1 (CI (zBN p grid L) N s)))⟩) (fun s=>s≤N∧∀i(h:i<grid.length),i<s→(grid[i]).length=L∧L≤4096) (fun s=>N-s) 0 (Settle.now ?_) ⟨Nat.zero_le _,fun i _ h=>absurd h (Nat.not_lt_zero i)⟩ ?_
 ·have e:CI (zBN p grid L) N 0=List.replicate N (.seq 0 [] true):=by simp[CI,GI]
  rw[e]
 rintro j ⟨h1,hall⟩
 have hCl:=zOe hR0 h1
 by_cases hj:j<N
 ·simp(disch:=first|exact Xe|fail)only[hj,↓Xa,Xb,Xc,↓reduceIte,Nat.reduceLT,Nat.reduceEqDiff,Nat.reduceBEq,Nat.reduceLeDiff,Nat.reduceAdd,Nat.reduceMul]
  rw[zUI (by omega)]
  intro b2 hb2
  have b2b:b2≠b:=(zAB.1 hb2).1
  have b2p:=(zAB.1 (zAB.1 hb2).2).1
  have b2H:=(zAB.1 (zAB.1 hb2).2).2
  have mb: ∀x y:ABlk,((H.upd p2 (some X)).upd b (some x)).upd b2 (some y)=(((H.upd p2 (some X)).upd b2 (some y)).upd b (some x)):=fun x y=>zAq _ _ _ (Ne.symm b2b)
  rw[mb]
  have hsame: ∀x:ABlk,(((H.upd p2 (some X)).upd b2 (some (.row 48 2 (IC (List.replicate L 0))))).upd b (some x)) b=some x:=fun x=>zAC _ _ _
  have hjR:j<(zBN p grid L).length:=by omega
  simp(disch:=first|exact Xe|fail)only[zDh,hsame,hCl,hj,↓Xa,Xb,Xc,↓reduceIte,Nat.reduceLT,Nat.reduceEqDiff,Nat.reduceBEq,Nat.reduceLeDiff,Nat.reduceAdd,Nat.reduceMul]
  refine(zUU (x:=.own b2 (L*2) 0 L true) hCl hj).2 ?_
  rw[zAR]
  have hCl2:((CI (zBN p grid L) N j).set j (.own b2 (L*2) 0 L true)).length=N:=by rw[List.length_set,hCl]
  have hgj:((CI (zBN p grid L) N j).set j (.own b2 (L*2) 0 L true))[j]? =some (.own b2 (L*2) 0 L true):=by
   rw[List.getElem?_set_self (by omega)]
  have fin: ∀{K:St→Prop},((zBN p grid L)[j]).length=L→K ⟨[],[(1,GIA grid t),(7,.int .i64 L),(8,.own b N 0 N true),(25,.int .i64 N),(26,.int .i64 ((j+1:Nat):Int))],(H.upd p2 (some X)).upd b (some (.row 29 1 (CI (zBN p grid L) N (j+1))))⟩→
   Settle K ⟨[],[(1,GIA grid t),(7,.int .i64 L),(8,.own b N 0 N true),(25,.int .i64 N),(26,.int .i64 ((j+1:Nat):Int))],((H.upd p2 (some X)).upd b2 (some (.row 48 2 (IC ((zBN p grid L)[j]))))).upd b (some (.row 29 1 ((CI (zBN p grid L) N j).set j (.own b2 (L*2) 0 L true))))⟩:=fun{K} hlR hk=>by
   refine Settle.frzC b b2 (CI (zBN p grid L) N (j+1)) (by rw[zOe hR0 (by omega),hCl2]) (zZy hR0 hj hlR) (by rw[zAA _ _ b2b,zAC]) (zAC _ _ _) (Ne.symm b2b) (Settle.now ?_)
   have hA:(H.upd p2 (some X)) b2=none:=zAB.2 ⟨b2p,b2H⟩
   rw[zAq ((H.upd p2 (some X)).upd b2 _) _ _ (Ne.symm b2b),zAR,zAR,zAZ _ hA]
   have eE:Env.map (Fw.frz b2 2 (IC ((zBN p grid L)[j]))) [(1,GIA grid t),(7,.int .i64 L),(8,.own b N 0 N true),(25,.int .i64 N),(26,.int .i64 ((j+1:Nat):Int))]=[(1,GIA grid t),(7,.int .i64 L),(8,.own b N 0 N true),(25,.int .i64 N),(26,.int .i64 ((j+1:Nat):Int))]:=by
    simp[Env.map,Fw.frz,zIh,zDw,Ne.symm b2b]
   rw[eE];exact hk
  by_cases hjg:j<grid.length
  ·have eR:(zBN p grid L)[j]=grid[j]:=by simp only[zBN];rw[List.getElem_append_left hjg]
   have gj:(grid[j]).length<9223372036854775808:=hgb _ (List.getElem_mem hjg)
   have bad: ¬((grid[j]).length=L∧L≤4096)→SetR Q (.tup [.seq 0 [] true,.int .i64 ((5:Nat):Int)]) (((H.upd p2 (some X)).upd b2 (some (.row 48 2 (IC (List.replicate L 0))))).upd b (some (.row 29 1 ((CI (zBN p grid L) N j).set j (.own b2 (L*2) 0 L true))))):=fun h=>by
    have hg:zDJ p grid=5:=by rw[hge];exact if_neg fun hh=>h ⟨hh.1 _ (List.getElem_mem hjg),hh.2⟩
    rw[hg]at hbad
    exact SetR.dropTo ((hle2.updB b2H).updB hbH) (SetR.now (hbad (by decide)))
   by_cases hjl:(grid[j]).length=L
   ·have d1:(!decide ((grid[j]).length=L))=false:=by simp[hjl]
    by_cases h4:L≤4096
    ·have d2:decide (((4096:Nat):Int)<(L:Int))=false:=decide_eq_false (by omega)
     simp(disch:=first|exact Xe|fail)only[hjg,hix hjg,hld hjg,zBE,gj,zAU,Int.natCast_inj,d1,zAw,d2,zct hCl2 hj hgj,↓Xa,Xb,Xc,↓reduceIte,Nat.reduceLT,Nat.reduceEqDiff,Nat.reduceBEq,Nat.reduceLeDiff,Nat.reduceAdd,Nat.reduceMul]
     refine zXy (ty:=48) (o:=List.replicate L 0) (by rw[zAA _ _ b2b,zAC]) (by simp) (by omega) ?_
     rw[zAq _ _ _ (Ne.symm b2b),zAR]
     have ed:grid[j]++List.drop (grid[j]).length (List.replicate L 0)=(zBN p grid L)[j]:=by rw[eR];simp[hjl]
     rw[ed]
     simp(disch:=first|exact Xe|fail)only[↓Xa,Xb,Xc,↓reduceIte,Nat.reduceLT,Nat.reduceEqDiff,Nat.reduceBEq,Nat.reduceLeDiff,Nat.reduceAdd,Nat.reduceMul]
     refine fin (by rw[eR];exact hjl) ⟨j+1,by omega,⟨by omega,fun i h hi=>?_⟩,rfl⟩
     by_cases e:i=j
     ·subst e;exact⟨hjl,h4⟩
     ·exact hall i h (by omega)
    ·have d2:decide (((4096:Nat):Int)<(L:Int))=true:=decide_eq_true (by omega)
     simp(disch:=first|exact Xe|fail)only[hjg,hix hjg,hld hjg,zBE,gj,zAU,Int.natCast_inj,d1,zAw,d2,zP3,↓Xa,Xb,Xc,↓reduceIte,Nat.reduceLT,Nat.reduceEqDiff,Nat.reduceBEq,Nat.reduceLeDiff,Nat.reduceAdd,Nat.reduceMul]
     exact bad fun hh=>h4 hh.2
   ·have d1:(!decide ((grid[j]).length=L))=true:=by simp[hjl]
    simp(disch:=first|exact Xe|fail)only[hjg,hix hjg,hld hjg,zBE,gj,zAU,Int.natCast_inj,d1,zP3,↓Xa,Xb,Xc,↓reduceIte,Nat.reduceLT,Nat.reduceEqDiff,Nat.reduceBEq,Nat.reduceLeDiff,Nat.reduceAdd,Nat.reduceMul]
    exact bad fun hh=>hjl hh.1
  ·have eR:(zBN p grid L)[j]=List.replicate L 0:=by simp only[zBN];rw[List.getElem_append_right (by omega)];simp
   simp(disch:=first|exact Xe|fail)only[hjg,zBE,↓Xa,Xb,Xc,↓reduceIte,Nat.reduceLT,Nat.reduceEqDiff,Nat.reduceBEq,Nat.reduceLeDiff,Nat.reduceAdd,Nat.reduceMul]
   have eI:IC (List.replicate L 0)=IC ((zBN p grid L)[j]):=by rw[eR]
   rw[eI]
   have hlR:((zBN p grid L)[j]).length=L:=by rw[eR];simp
   refine fin hlR ⟨j+1,by omega,⟨by omega,fun i h hi=>?_⟩,rfl⟩
   by_cases e:i=j
   ·subst e;exact absurd h hjg
   ·exact hall i h (by omega)
 ·obtain rfl:j=N:=by omega
  have eC:CI (zBN p grid L) j j=GI (zBN p grid L):=by
   simp only[CI,Nat.sub_self,List.replicate_zero,List.append_nil];rw[List.take_of_length_le (by omega)]
  have hg:zDJ p grid=0:=by
   rw[hge]
   refine if_pos ⟨fun r hm=>?_,?_⟩
   ·obtain⟨i,hi,rfl⟩:=List.getElem_of_mem hm
    exact(hall i hi (by omega)).1
   ·exact(hall 0 hg0 (by omega)).2
  simp(disch:=first|exact Xe|fail)only[hj,↓Xa,Xb,Xc,↓reduceIte,Nat.reduceLT,Nat.reduceEqDiff,Nat.reduceBEq,Nat.reduceLeDiff,Nat.reduceAdd,Nat.reduceMul]
  refine Settle.now ?_
  simp(disch:=first|exact Xe|fail)only[zP3,↓Xa,Xb,Xc,↓reduceIte,Nat.reduceLT,Nat.reduceEqDiff,Nat.reduceBEq,Nat.reduceLeDiff,Nat.reduceAdd,Nat.reduceMul]
  rw[eC]
  exact SetR.dropTo hle2.both (SetR.now (hok hg b hbH))
theorem zUc{g t:Bool}{K:AV→Prop}:zOR g (zBk [] t) K↔(K (.bool true)∧K (.bool false)):=by simp[zOR]
theorem zUe{g t:Bool}{zs:List Int}{K:AV→Prop}(h:0<zs.length):zOR g (zBk zs t) K↔K (.bool g):=by
 cases zs with
 |nil=>simp at h
 |cons x l=>simp[zOR]
theorem zSH(zs:List Int):(IC zs).all AV.cell=true:=by
 induction zs with
 |nil=>rfl
 |cons z zs ih=>simp only[IC,List.flatMap_cons,List.all_append]at *; rw[ih];rfl
theorem zOK{zs:List Int}{t:Bool}(hbig:zs.length≤1000000){H:AHeap}{Q:AV→AHeap→Prop}(hq: ∀y M,zA7 H 48 2 zs.length (IC zs) y M→Q y M):Run Tryz.prog 101 [zBk zs t] H Q:=by
 refine zUt (by simp) ?_
 rcases Nat.eq_zero_or_pos zs.length with h0|h0
 ·obtain rfl:=List.length_eq_zero_iff.1 h0
  simp(disch:=first|exact Xe|fail)only[zXh,zUc,↓Xa,Xb,Xc,↓reduceIte,Nat.reduceLT,Nat.reduceEqDiff,Nat.reduceBEq,Nat.reduceLeDiff,Nat.reduceAdd,Nat.reduceMul]
  refine⟨?_,?_⟩
  ·simp(disch:=first|exact Xe|fail)only[zR5,↓Xa,Xb,Xc,↓reduceIte,Nat.reduceLT,Nat.reduceEqDiff,Nat.reduceBEq,Nat.reduceLeDiff,Nat.reduceAdd,Nat.reduceMul]
   exact SetR.now (hq _ _ zAl)
  ·refine .inl ⟨rfl,rfl,?_⟩
   refine⟨rfl,rfl,by simp,by simp,fun _=>?_,fun e=>absurd e (by simp)⟩
   simp(disch:=first|exact Xe|fail)only[zR5,↓Xa,Xb,Xc,↓reduceIte,Nat.reduceLT,Nat.reduceEqDiff,Nat.reduceBEq,Nat.reduceLeDiff,Nat.reduceAdd,Nat.reduceMul]
   exact SetR.now (hq _ _ zAl)
 ·simp(disch:=first|exact Xe|fail)only[zXh,zUe h0,↓Xa,Xb,Xc,↓reduceIte,Nat.reduceLT,Nat.reduceEqDiff,Nat.reduceBEq,Nat.reduceLeDiff,Nat.reduceAdd,Nat.reduceMul]
  refine zFB (n:=0) (m:=zs.length) zAl (zBQ zs) (zSH zs) h0 (by omega) (by omega) fun y M hg=>?_
  rw[Nat.zero_add,List.nil_append]at hg
  simp(disch:=first|exact Xe|fail)only[zR5,↓Xa,Xb,Xc,↓reduceIte,Nat.reduceLT,Nat.reduceEqDiff,Nat.reduceBEq,Nat.reduceLeDiff,Nat.reduceAdd,Nat.reduceMul]
  exact SetR.now (hq y M hg)
theorem zPQ{zs:List Int}{t:Bool}(hbig:zs.length≤1000000):PFn Tryz.prog 101 [zBk zs t] (rI zs):=PFn.frozen fun _ _ hq=>zOK hbig hq
theorem zNn{n:Int}{x:List Int}:PFn Tryz.prog 112 [.int .i64 n,rI x] (.bool true):=by
 intro H Q hq
 refine zSF (by simp) ?_
 simp(disch:=first|exact Xe|fail)only[zZR,zcL,↓Xa,Xb,Xc,↓reduceIte,Nat.reduceLT,Nat.reduceEqDiff,Nat.reduceBEq,Nat.reduceLeDiff,Nat.reduceAdd,Nat.reduceMul]
 exact SetR.now hq
def zR1(p:PR)(g:List (List Int)):List (List Int)×Nat×Nat:=
 if zDJ p g=0 then(if(zFl p g (g.getD 0 []).length).length<p.code.length then([],(zFl p g (g.getD 0 []).length).length,20)else(zEq p g (g.getD 0 []).length,0,0))else([],0,zDJ p g)
theorem zXB{p:PR}{g:List (List Int)}(h:zDJ p g=0):zBl p∧(g.length:Int)=p.ins∧(∀r,r∈g→r.length=(g.getD 0 []).length)∧(g.getD 0 []).length≤4096:=by
 unfold zDJ at h
 split at h
 ·rename_i hr
  split at h
  ·rename_i hh;exact⟨hr.1,hr.2,hh.1,hh.2⟩
  ·cases h
 ·rename_i hr
  unfold zRw at h
  split at h
  ·split at h
   ·rename_i h1 h2;exact absurd ⟨h1,h2⟩ hr
   ·cases h
  ·cases h
theorem zKJ{H:AHeap}{Q:AV→AHeap→Prop}{p:PR}{grid:List (List Int)}{t:Bool}{k0:Nat}(hp:p.ok)(hL:(grid.getD 0 []).length≤100000)(hz: ∀r,r∈grid→RB4 k0 r)(hgl:grid.length<9223372036854775808)(hk:zBl p→k0+3*p.code.length≤100000)
 (hq: ∀y M,zA7 H 29 1 (zR1 p grid).1.length (GI (zR1 p grid).1) y M→Q (.tup [y,.int .i64 (((zR1 p grid).2.1:Nat):Int),.int .i64 (((zR1 p grid).2.2:Nat):Int)]) M):
 Run Tryz.prog 48 [zEF p,GIA grid t] H Q:=by
 have hgb: ∀r,r∈grid→r.length<9223372036854775808:=fun r hm=>by have:=(hz r hm).2;omega
 refine zXC (by simp) ?_
 simp(disch:=first|exact Xe|fail)only[zgB,zBj,↓Xa,Xb,Xc,↓reduceIte,Nat.reduceLT,Nat.reduceEqDiff,Nat.reduceBEq,Nat.reduceLeDiff,Nat.reduceAdd,Nat.reduceMul]
 refine zAD fun p2 hp2=>?_
 simp(disch:=first|exact Xe|fail)only[zCM,↓Xa,Xb,Xc,↓reduceIte,Nat.reduceLT,Nat.reduceEqDiff,Nat.reduceBEq,Nat.reduceLeDiff,Nat.reduceAdd,Nat.reduceMul]
 have hle2: ∀{x:ABlk},Le H (H.upd p2 (some x)):=(Le.refl H).updB hp2
 refine zAM (zTE hp rfl rfl hL hgl hgb (fun hbad=>?_) fun hok b hb=>?_)
 ·have e:zR1 p grid=([],0,zDJ p grid):=by rw[zR1,if_neg hbad]
  rw[e]at hq
  have hd:decide (((zDJ p grid:Nat):Int)=((0:Nat):Int))=false:=decide_eq_false (by omega)
  simp(disch:=first|exact Xe|fail)only[zAU,hd,zdN,↓Xa,Xb,Xc,↓reduceIte,Nat.reduceLT,Nat.reduceEqDiff,Nat.reduceBEq,Nat.reduceLeDiff,Nat.reduceAdd,Nat.reduceMul]
  exact SetR.dropTo hle2 (SetR.now (hq _ _ zAl))
 obtain⟨hr1,hr2,hlen,h4⟩:=zXB hok
 have hh:=hr1.1
 unfold zET at hh
 obtain⟨N,hN⟩: ∃N:Nat,p.regs=(N:Int):=⟨p.regs.toNat,by omega⟩
 have hbp:=(zAB.1 hb).1
 have hbH:=(zAB.1 hb).2
 have e00:decide (((0:Nat):Int)=((0:Nat):Int))=true:=rfl
 generalize hL0:(grid.getD 0 []).length=L at*
 have hg0:0<grid.length:=by omega
 have hR0:(zBN p grid L).length=N:=by simp[zBN,hN];omega
 have hRg:zEV k0 L (zBN p grid L):=fun r hm=>by
  rcases List.mem_append.1 hm with hm|hm
  ·exact⟨hlen r hm,hz r hm⟩
  ·rw[List.mem_replicate]at hm;rw[hm.2]
   exact⟨by simp,fun z hz=>by rw[List.mem_replicate]at hz;rw[hz.2];exact Bd.zero _,by simp;omega⟩
 have hans:zR1 p grid=(if(zFl p grid L).length<p.code.length then([],(zFl p grid L).length,20)else(zEq p grid L,0,0)):=by rw[zR1,if_pos hok,hL0]
 have hN1:p.regs.toNat=N:=by omega
 rw[hN1]
 simp(disch:=first|exact Xe|fail)only[zAU,e00,hN,↓Xa,Xb,Xc,↓reduceIte,Nat.reduceLT,Nat.reduceEqDiff,Nat.reduceBEq,Nat.reduceLeDiff,Nat.reduceAdd,Nat.reduceMul]
 refine PFn.dcall zXK ?_
 have hb2:(H.upd p2 (some (.row 25 0 [.int .i64 p.ins,.int .i64 (N:Int),zBI p.code false,zAr p.outs false]))) b=none:=zAB.2 ⟨hbp,hbH⟩
 have lc:p.code.length<9223372036854775808:=by omega
 have lo:p.outs.length<9223372036854775808:=by omega
 have eP:AV.agg [.int .i64 p.ins,.int .i64 (N:Int),zBI p.code false,zAr p.outs false]=zS1 p (zBI p.code false) (zAr p.outs false):=by rw[zS1,hN]
 simp(disch:=first|exact Xe|fail)only[eP,↓Xa,Xb,Xc,↓reduceIte,Nat.reduceLT,Nat.reduceEqDiff,Nat.reduceBEq,Nat.reduceLeDiff,Nat.reduceAdd,Nat.reduceMul]
 refine zAM (zUD (C:=zRG) (A:=zRG) (k0:=k0) (L:=L) (S:=zFl p grid L) (J:=fun _ A=>A=zRG) (Jx:=fun _=>False) zGk.symm rfl zPl (zAC _ _ _) hR0 (fun i hi=>by rw[← hN];exact hr1.2.2 i hi) hRg (by omega) (hk hr1) rfl (CodeV.seq lc) rfl (fun o x ho=>by cases ho) rfl ?_ ?_)
 ·rintro pre x rest A B-hd rfl
  exact zNn.call ⟨zRG,hd,rfl,.inl ⟨rfl,rfl⟩⟩
 intro r A' regs' hl' hbd hdj hcase
 have gm1:decide (((0:Nat):Int)≤ -1)=false:=by decide
 rcases hcase with⟨rfl,hSl,rfl,hre⟩|⟨rfl,hSl,rfl⟩|⟨_,h⟩
 ·rw[zGk,zAR]
  rw[hans,if_neg (by omega)]at hq
  have hou:zEq p grid L=p.outs.map fun r=>regs'.getD r.toNat []:=by rw[hre];rfl
  have hol:(zEq p grid L).length=p.outs.length:=by simp[zEq]
  have m2:((H.upd p2 (some (.row 25 0 [.int .i64 p.ins,.int .i64 (N:Int),zBI p.code false,zAr p.outs false]))).upd b (some (.row 29 1 (GI regs')))) p2=some (.row 25 0 [.int .i64 p.ins,.int .i64 (N:Int),zBI p.code false,zAr p.outs false]):=by rw[zAA _ _ (Ne.symm hbp),zAC]
  simp(disch:=first|exact Xe|fail)only[zCx,gm1,m2,zAm lo,↓Xa,Xb,Xc,↓reduceIte,Nat.reduceLT,Nat.reduceEqDiff,Nat.reduceBEq,Nat.reduceLeDiff,Nat.reduceAdd,Nat.reduceMul]
  have hlG:Le H ((H.upd p2 (some (.row 25 0 [.int .i64 p.ins,.int .i64 (N:Int),zBI p.code false,zAr p.outs false]))).upd b (some (.row 29 1 (GI regs')))):=((Le.refl H).updB hp2).updB hbH
  generalize hG:((H.upd p2 (some (.row 25 0 [.int .i64 p.ins,.int .i64 (N:Int),zBI p.code false,zAr p.outs false]))).upd b (some (.row 29 1 (GI regs'))))=G at*
  have hGb:G b=some (.row 29 1 (GI regs')):=by rw[← hG,zAC]
  refine zAO (fun s:Nat×AV×AHeap=>⟨[],[(7,.own b N 0 N true),(10,s.2.1),(30,zAr p.outs false),(31,.int .i64 p.outs.length),(32,.int .i64 s.1)],s.2.2⟩)
   (fun s=>s.1≤p.outs.length∧zA7 G 29 1 s.1 (GI ((zEq p grid L).take s.1)) s.2.1 s.2.2) (fun s=>p.outs.length-s.1) (0,.seq 0 [] true,G) (Settle.now rfl) ⟨Nat.zero_le _,zAl⟩ ?_
  rintro⟨j,z,M⟩ ⟨h1,hg⟩
  dsimp only at h1 hg ⊢
  by_cases hj:j<p.outs.length
  ·have hjo:=hr1.2.1 _ (List.getElem_mem hj)
   obtain⟨w,hw⟩: ∃w:Nat,p.outs[j]=(w:Int):=⟨(p.outs[j]).toNat,by omega⟩
   have hwN:w<N:=by omega
   have hwr:w<regs'.length:=by omega
   have mb:M b=some (.row 29 1 (GI regs')):=zGS hg hGb
   have hlN:(GI regs').length=N:=by rw[zFi,hl']
   have hwb:=(hbd _ (List.getElem_mem hwr)).1
   simp(disch:=first|exact Xe|fail)only[hj,zBq,zBb,hw,mb,zDh,hlN,hwN,zJw hl' hwr,↓Xa,Xb,Xc,↓reduceIte,Nat.reduceLT,Nat.reduceEqDiff,Nat.reduceBEq,Nat.reduceLeDiff,Nat.reduceAdd,Nat.reduceMul]
   refine(zPQ (by omega)).call ?_
   simp(disch:=first|exact Xe|fail)only[↓Xa,Xb,Xc,↓reduceIte,Nat.reduceLT,Nat.reduceEqDiff,Nat.reduceBEq,Nat.reduceLeDiff,Nat.reduceAdd,Nat.reduceMul]
   refine zFB (m:=1) hg rfl zcY (by omega) (by omega) (by omega) fun y' M2 hg4=>?_
   have et:(zEq p grid L)[j]'(by omega)=regs'[w]:=by
    simp only[hou,List.getElem_map,hw]
    simp[List.getD_eq_getElem?_getD,List.getElem?_eq_getElem hwr]
   rw[← et,← zK6 (by omega)]at hg4
   simp(disch:=first|exact Xe|fail)only[↓Xa,Xb,Xc,↓reduceIte,Nat.reduceLT,Nat.reduceEqDiff,Nat.reduceBEq,Nat.reduceLeDiff,Nat.reduceAdd,Nat.reduceMul]
   exact Settle.now ⟨(j+1,y',M2),by dsimp only;omega,⟨by dsimp only;omega,hg4⟩,rfl⟩
  ·obtain rfl:j=p.outs.length:=by omega
   rw[List.take_of_length_le (by omega)]at hg
   simp(disch:=first|exact Xe|fail)only[hj,↓Xa,Xb,Xc,↓reduceIte,Nat.reduceLT,Nat.reduceEqDiff,Nat.reduceBEq,Nat.reduceLeDiff,Nat.reduceAdd,Nat.reduceMul]
   refine Settle.now ?_
   simp(disch:=first|exact Xe|fail)only[zdN,↓Xa,Xb,Xc,↓reduceIte,Nat.reduceLT,Nat.reduceEqDiff,Nat.reduceBEq,Nat.reduceLeDiff,Nat.reduceAdd,Nat.reduceMul]
   obtain⟨M2,hg2,hl3⟩:=zBp hg hlG
   exact SetR.dropTo hl3 (SetR.now (hq _ _ (by rw[hol];exact hg2)))
 ·rw[zGk,zAR]
  rw[hans,if_pos hSl]at hq
  have hge:decide (((0:Nat):Int)≤(((zFl p grid L).length:Nat):Int))=true:=decide_eq_true (by omega)
  simp(disch:=first|exact Xe|fail)only[zCx,hge,zdN,↓Xa,Xb,Xc,↓reduceIte,Nat.reduceLT,Nat.reduceEqDiff,Nat.reduceBEq,Nat.reduceLeDiff,Nat.reduceAdd,Nat.reduceMul]
  exact SetR.dropTo (((Le.refl H).updB hp2).updB hbH) (SetR.now (hq _ _ zAl))
 ·exact h.elim
def zTC(b:Nat)(cells:List AV):AV→AV
 |.cptr l=>.cptr (l.map (frzP b cells))
 |x=>zGv b cells x
def frzPP(b:Nat)(cells:List AV):AV→AV
 |.fn f first caps=>.fn f first (caps.map (zTC b cells))
 |x=>zGv b cells x
theorem zQt{c:Ctx}(hok:Ok c){b:Nat}{ty:TypeId}{es:Nat}{cells:List AV}(hH:c.H b=some (.row ty es cells))(x:AV)(v:Value)(h:Enc c x v):Enc (c.drop b) (zTC b cells x) v:=by
 unfold zTC
 split
 ·rename_i l
  cases h with
  |cptr _ k off cv hm hk hcell hc=>
   have hl:=(c.drop_later b).toLater0
   exact .cptr _ k off cv (hl.keep k hk hm).2 hk (fun i hi=>hcell i (by simpa using hi)) fun i hi=>by
    rw[List.getElem_map];exact zMv hok hH _ _ (hc i (by simpa using hi))
 ·exact zEY hok hH _ _ h
theorem zPh{c:Ctx}(hok:Ok c){b:Nat}{ty:TypeId}{es:Nat}{cells:List AV}(hH:c.H b=some (.row ty es cells))(x:AV)(v:Value)(h:Enc c x v):Enc (c.drop b) (frzPP b cells x) v:=by
 unfold frzPP
 split
 ·cases h with
  |fn f first caps fv cv hf hcs h1 h2=>exact .fn _ _ _ _ _ hf (by simpa using hcs) (fun i hi hi'=>(h1 i hi hi').later (c.drop_later b)) (Enc.list_map (zQt hok hH) h2)
 ·exact zEY hok hH _ _ h
theorem SetR.frzPP{Q:AV→AHeap→Prop}{r:AV}{H:AHeap}(b:Nat){ty:TypeId}{es:Nat}{cells:List AV}(hb:H b=some (.row ty es cells))(h:SetR Q (Fw.frzPP b cells r) (H.upd b none)):SetR Q r H:=
 SetR.join fun c v hH hok he=>⟨c.drop b,_,rfl,Ctx.drop_ok hok b,c.drop_later b,zPh hok (hH▸hb) _ _ he,by show SetR Q _ (c.H.upd b none);rw[hH];exact h⟩
def FnAns(f:AV)(args:List AV)(r:AV):Prop:= ∀(H:AHeap)(K:AV→AHeap→Prop),K r H→zBn Tryz.prog f args H K
theorem FnAns.of{f:FuncId}{args:List AV}{r:AV}(h:PFn Tryz.prog f args r):FnAns (.fn (.func f) [] []) args r:=fun _ _ hk=>h.call hk
theorem FnAns.caps{f:FuncId}{args caps:List AV}{r:AV}(h:PFn Tryz.prog f (args++caps) r):FnAns (.fn (.func f) [] caps) args r:=fun H K hk=>zFc (h H K hk)
theorem zYD{H:AHeap}{x:AV}{K:AV→Prop}:zA9 H none (.cptr [x]) K=K x:=by simp[zA9,zA4]
theorem zIS{H:AHeap}{i:Ins}{K:AV→Prop}:zA9 H none (.cptr ((zDM i).drop 4)) K=K (.int .i64 i.c):=by simp[zA9,zA4,zDM]
theorem zCn{f:AV}(hf:f.cells=some [f]):PFn Tryz.prog 166 [f] (.fn (.func 167) [] [.cptr [f]]):=by
 intro H Q hq
 refine zUB (by simp) ?_
 simp(disch:=first|exact Xe|fail)only[zZw,hf,↓Xa,Xb,Xc,↓reduceIte,Nat.reduceLT,Nat.reduceEqDiff,Nat.reduceBEq,Nat.reduceLeDiff,Nat.reduceAdd,Nat.reduceMul]
 refine zAD fun p1 hp1=>?_
 have n1:=hp1
 simp(disch:=first|exact Xe|fail)only[zaE,↓Xa,Xb,Xc,↓reduceIte,Nat.reduceLT,Nat.reduceEqDiff,Nat.reduceBEq,Nat.reduceLeDiff,Nat.reduceAdd,Nat.reduceMul]
 refine SetR.frzP p1 (zAC _ _ _) ?_
 rw[zAR,zAZ _ n1]
 have e:frzP p1 [f] (.fn (.func 167) [] [.ptr p1 1 0])=.fn (.func 167) [] [.cptr [f]]:=by simp[frzP,zGv]
 rw[e];exact SetR.now hq
theorem zCJ{f:AV}{a b r:Int}(h:FnAns f [zAe a,zAe b] (zAe r)):FnAns (.fn (.func 167) [] [.cptr [f]]) [zAe a,zAe b] (.tup [zAe r,.bool true]):=by
 refine FnAns.caps ?_
 intro H Q hq
 refine zSn (by simp) ?_
 simp(disch:=first|exact Xe|fail)only[za4,zAE,↓Xa,Xb,Xc,↓reduceIte,Nat.reduceLT,Nat.reduceEqDiff,Nat.reduceBEq,Nat.reduceLeDiff,Nat.reduceAdd,Nat.reduceMul]
 refine zAD fun p1 hp1=>?_
 have n1:=hp1
 simp(disch:=first|exact Xe|fail)only[zAE,↓Xa,Xb,Xc,↓reduceIte,Nat.reduceLT,Nat.reduceEqDiff,Nat.reduceBEq,Nat.reduceLeDiff,Nat.reduceAdd,Nat.reduceMul]
 refine zAD fun p2 hp2=>?_
 have n2:=hp2
 simp only[zAB]at n2
 obtain⟨_,n2⟩:=n2
 simp(disch:=first|exact Xe|fail)only[↓Xa,Xb,Xc,↓reduceIte,Nat.reduceLT,Nat.reduceEqDiff,Nat.reduceBEq,Nat.reduceLeDiff,Nat.reduceAdd,Nat.reduceMul]
 refine zAD fun p3 hp3=>?_
 have n3:=hp3
 simp only[zAB]at n3
 obtain⟨_,_,n3⟩:=n3
 simp(disch:=first|exact Xe|fail)only[zYD,zAF,↓Xa,Xb,Xc,↓reduceIte,Nat.reduceLT,Nat.reduceEqDiff,Nat.reduceBEq,Nat.reduceLeDiff,Nat.reduceAdd,Nat.reduceMul]
 refine h _ _ ?_
 simp(disch:=first|exact Xe|fail)only[zAE,zAF,zaW,↓Xa,Xb,Xc,↓reduceIte,Nat.reduceLT,Nat.reduceEqDiff,Nat.reduceBEq,Nat.reduceLeDiff,Nat.reduceAdd,Nat.reduceMul]
 exact SetR.dropTo ((((Le.refl H).updB n1).updB n2).updB n3) (SetR.now hq)
theorem zXv{a b:Int}{k:Nat}(ha:Bd k a)(hk:k≤1000000):PFn Tryz.prog 168 [zAe a,zAe b] (zAe (-a)):=by
 intro H Q hq
 refine zTc (by simp) ?_
 simp(disch:=first|exact Xe|fail)only[zcR,zAE,↓Xa,Xb,Xc,↓reduceIte,Nat.reduceLT,Nat.reduceEqDiff,Nat.reduceBEq,Nat.reduceLeDiff,Nat.reduceAdd,Nat.reduceMul]
 refine zAD fun p1 hp1=>?_
 have n1:=hp1
 simp(disch:=first|exact Xe|fail)only[zAE,↓Xa,Xb,Xc,↓reduceIte,Nat.reduceLT,Nat.reduceEqDiff,Nat.reduceBEq,Nat.reduceLeDiff,Nat.reduceAdd,Nat.reduceMul]
 refine zAD fun p2 hp2=>?_
 have n2:=hp2
 simp only[zAB]at n2
 obtain⟨_,n2⟩:=n2
 simp(disch:=first|exact Xe|fail)only[↓Xa,Xb,Xc,↓reduceIte,Nat.reduceLT,Nat.reduceEqDiff,Nat.reduceBEq,Nat.reduceLeDiff,Nat.reduceAdd,Nat.reduceMul]
 refine zAD fun p3 hp3=>?_
 have n3:=hp3
 simp only[zAB]at n3
 obtain⟨_,_,n3⟩:=n3
 simp(disch:=first|exact Xe|fail)only[zAF,↓Xa,Xb,Xc,↓reduceIte,Nat.reduceLT,Nat.reduceEqDiff,Nat.reduceBEq,Nat.reduceLeDiff,Nat.reduceAdd,Nat.reduceMul]
 refine(zQr ha (by omega)).call ?_
 simp(disch:=first|exact Xe|fail)only[zAE,zAF,zZq,↓Xa,Xb,Xc,↓reduceIte,Nat.reduceLT,Nat.reduceEqDiff,Nat.reduceBEq,Nat.reduceLeDiff,Nat.reduceAdd,Nat.reduceMul]
 exact SetR.dropTo ((((Le.refl H).updB n1).updB n2).updB n3) (SetR.now hq)
theorem zXP{a b:Int}:PFn Tryz.prog 177 [zAe a,zAe b] (zAe a):=by
 intro H Q hq
 refine zUi (by simp) ?_
 simp(disch:=first|exact Xe|fail)only[zb7,zAE,↓Xa,Xb,Xc,↓reduceIte,Nat.reduceLT,Nat.reduceEqDiff,Nat.reduceBEq,Nat.reduceLeDiff,Nat.reduceAdd,Nat.reduceMul]
 refine zAD fun p1 hp1=>?_
 have n1:=hp1
 simp(disch:=first|exact Xe|fail)only[zAE,↓Xa,Xb,Xc,↓reduceIte,Nat.reduceLT,Nat.reduceEqDiff,Nat.reduceBEq,Nat.reduceLeDiff,Nat.reduceAdd,Nat.reduceMul]
 refine zAD fun p2 hp2=>?_
 have n2:=hp2
 simp only[zAB]at n2
 obtain⟨_,n2⟩:=n2
 simp(disch:=first|exact Xe|fail)only[↓Xa,Xb,Xc,↓reduceIte,Nat.reduceLT,Nat.reduceEqDiff,Nat.reduceBEq,Nat.reduceLeDiff,Nat.reduceAdd,Nat.reduceMul]
 refine zAD fun p3 hp3=>?_
 have n3:=hp3
 simp only[zAB]at n3
 obtain⟨_,_,n3⟩:=n3
 simp(disch:=first|exact Xe|fail)only[zAE,zAF,zbe,↓Xa,Xb,Xc,↓reduceIte,Nat.reduceLT,Nat.reduceEqDiff,Nat.reduceBEq,Nat.reduceLeDiff,Nat.reduceAdd,Nat.reduceMul]
 exact SetR.dropTo ((((Le.refl H).updB n1).updB n2).updB n3) (SetR.now hq)
theorem zYO{a b:Int}{i:Ins}{k:Nat}(ha:Bd k a)(hk:k≤1000000)(hc:I64 i.c):PFn Tryz.prog 169 [zAe a,zAe b,.cptr (zDM i)] (zAe (a*i.c)):=by
 unfold I64 at hc
 intro H Q hq
 refine zS8 (by simp) ?_
 simp(disch:=first|exact Xe|fail)only[za2,zAE,↓Xa,Xb,Xc,↓reduceIte,Nat.reduceLT,Nat.reduceEqDiff,Nat.reduceBEq,Nat.reduceLeDiff,Nat.reduceAdd,Nat.reduceMul]
 refine zAD fun p1 hp1=>?_
 have n1:=hp1
 simp(disch:=first|exact Xe|fail)only[zAE,↓Xa,Xb,Xc,↓reduceIte,Nat.reduceLT,Nat.reduceEqDiff,Nat.reduceBEq,Nat.reduceLeDiff,Nat.reduceAdd,Nat.reduceMul]
 refine zAD fun p2 hp2=>?_
 have n2:=hp2
 simp only[zAB]at n2
 obtain⟨_,n2⟩:=n2
 simp(disch:=first|exact Xe|fail)only[↓Xa,Xb,Xc,↓reduceIte,Nat.reduceLT,Nat.reduceEqDiff,Nat.reduceBEq,Nat.reduceLeDiff,Nat.reduceAdd,Nat.reduceMul]
 refine zAD fun p3 hp3=>?_
 have n3:=hp3
 simp only[zAB]at n3
 obtain⟨_,_,n3⟩:=n3
 simp(disch:=first|exact Xe|fail)only[zIS,zAF,↓Xa,Xb,Xc,↓reduceIte,Nat.reduceLT,Nat.reduceEqDiff,Nat.reduceBEq,Nat.reduceLeDiff,Nat.reduceAdd,Nat.reduceMul]
 refine(zGR (k:=k) ha (by omega) (by omega)).call ?_
 simp(disch:=first|exact Xe|fail)only[zAE,zAF,zcH,↓Xa,Xb,Xc,↓reduceIte,Nat.reduceLT,Nat.reduceEqDiff,Nat.reduceBEq,Nat.reduceLeDiff,Nat.reduceAdd,Nat.reduceMul]
 exact SetR.dropTo ((((Le.refl H).updB n1).updB n2).updB n3) (SetR.now hq)
theorem zXL{a b:Int}{i:Ins}{k n:Nat}(ha:Bd k a)(hk:k≤1000000)(hc:i.c=(n:Int))(hn:n≤65536):PFn Tryz.prog 173 [zAe a,zAe b,.cptr (zDM i)] (zAe (a*2^n)):=by
 intro H Q hq
 refine zTp (by simp) ?_
 simp(disch:=first|exact Xe|fail)only[zak,zAE,↓Xa,Xb,Xc,↓reduceIte,Nat.reduceLT,Nat.reduceEqDiff,Nat.reduceBEq,Nat.reduceLeDiff,Nat.reduceAdd,Nat.reduceMul]
 refine zAD fun p1 hp1=>?_
 have n1:=hp1
 simp(disch:=first|exact Xe|fail)only[zAE,↓Xa,Xb,Xc,↓reduceIte,Nat.reduceLT,Nat.reduceEqDiff,Nat.reduceBEq,Nat.reduceLeDiff,Nat.reduceAdd,Nat.reduceMul]
 refine zAD fun p2 hp2=>?_
 have n2:=hp2
 simp only[zAB]at n2
 obtain⟨_,n2⟩:=n2
 simp(disch:=first|exact Xe|fail)only[↓Xa,Xb,Xc,↓reduceIte,Nat.reduceLT,Nat.reduceEqDiff,Nat.reduceBEq,Nat.reduceLeDiff,Nat.reduceAdd,Nat.reduceMul]
 refine zAD fun p3 hp3=>?_
 have n3:=hp3
 simp only[zAB]at n3
 obtain⟨_,_,n3⟩:=n3
 simp(disch:=first|exact Xe|fail)only[zIS,hc,zAF,↓Xa,Xb,Xc,↓reduceIte,Nat.reduceLT,Nat.reduceEqDiff,Nat.reduceBEq,Nat.reduceLeDiff,Nat.reduceAdd,Nat.reduceMul]
 refine(zO8 ha hk hn).call ?_
 simp(disch:=first|exact Xe|fail)only[↓Xa,Xb,Xc,↓reduceIte,Nat.reduceLT,Nat.reduceEqDiff,Nat.reduceBEq,Nat.reduceLeDiff,Nat.reduceAdd,Nat.reduceMul]
 refine zAD fun p4 hp4=>?_
 have n4:=hp4
 simp only[zAB]at n4
 obtain⟨_,_,_,n4⟩:=n4
 simp(disch:=first|exact Xe|fail)only[zAE,zAF,zZG,↓Xa,Xb,Xc,↓reduceIte,Nat.reduceLT,Nat.reduceEqDiff,Nat.reduceBEq,Nat.reduceLeDiff,Nat.reduceAdd,Nat.reduceMul]
 exact SetR.dropTo (((((Le.refl H).updB n1).updB n2).updB n3).updB n4) (SetR.now hq)
theorem zY0{a b:Int}{i:Ins}{k:Nat}(ha:Bd k a)(hk:k≤1000000)(hc:I64 i.c)(h0:i.c≠0):PFn Tryz.prog 171 [zAe a,zAe b,.cptr (zDM i)] (.tup [zAe (if a%i.c=0 then a / i.c else 0),.bool (decide (a%i.c=0))]):=by
 unfold I64 at hc
 intro H Q hq
 have ho:=zTb (k:=k) ha (by omega) (by omega) h0
 refine zUw (by simp) ?_
 simp(disch:=first|exact Xe|fail)only[zbX,zAE,↓Xa,Xb,Xc,↓reduceIte,Nat.reduceLT,Nat.reduceEqDiff,Nat.reduceBEq,Nat.reduceLeDiff,Nat.reduceAdd,Nat.reduceMul]
 refine zAD fun p1 hp1=>?_
 have n1:=hp1
 simp(disch:=first|exact Xe|fail)only[zAE,↓Xa,Xb,Xc,↓reduceIte,Nat.reduceLT,Nat.reduceEqDiff,Nat.reduceBEq,Nat.reduceLeDiff,Nat.reduceAdd,Nat.reduceMul]
 refine zAD fun p2 hp2=>?_
 have n2:=hp2
 simp only[zAB]at n2
 obtain⟨_,n2⟩:=n2
 simp(disch:=first|exact Xe|fail)only[↓Xa,Xb,Xc,↓reduceIte,Nat.reduceLT,Nat.reduceEqDiff,Nat.reduceBEq,Nat.reduceLeDiff,Nat.reduceAdd,Nat.reduceMul]
 refine zAD fun p3 hp3=>?_
 have n3:=hp3
 simp only[zAB]at n3
 obtain⟨_,_,n3⟩:=n3
 simp(disch:=first|exact Xe|fail)only[zIS,zAF,↓Xa,Xb,Xc,↓reduceIte,Nat.reduceLT,Nat.reduceEqDiff,Nat.reduceBEq,Nat.reduceLeDiff,Nat.reduceAdd,Nat.reduceMul]
 refine ho.call ?_
 by_cases h:a%i.c=0
 ·rw[if_pos h,decide_eq_true h]at hq
  have e0:decide (((0:Nat):Int)=((0:Nat):Int))=true:=rfl
  rw[if_pos h]
  simp(disch:=first|exact Xe|fail)only[↓Xa,Xb,Xc,↓reduceIte,Nat.reduceLT,Nat.reduceEqDiff,Nat.reduceBEq,Nat.reduceLeDiff,Nat.reduceAdd,Nat.reduceMul]
  refine zAD fun p4 hp4=>?_
  have n4:=hp4
  simp only[zAB]at n4
  obtain⟨_,_,_,n4⟩:=n4
  simp(disch:=first|exact Xe|fail)only[zAE,zAF,zAK,e0,zX6,↓Xa,Xb,Xc,↓reduceIte,Nat.reduceLT,Nat.reduceEqDiff,Nat.reduceBEq,Nat.reduceLeDiff,Nat.reduceAdd,Nat.reduceMul]
  exact SetR.dropTo (((((Le.refl H).updB n1).updB n2).updB n3).updB n4) (SetR.now hq)
 ·rw[if_neg h,decide_eq_false h]at hq
  have e0:decide (((20:Nat):Int)=((0:Nat):Int))=false:=rfl
  rw[if_neg h]
  simp(disch:=first|exact Xe|fail)only[↓Xa,Xb,Xc,↓reduceIte,Nat.reduceLT,Nat.reduceEqDiff,Nat.reduceBEq,Nat.reduceLeDiff,Nat.reduceAdd,Nat.reduceMul]
  refine zAD fun p4 hp4=>?_
  have n4:=hp4
  simp only[zAB]at n4
  obtain⟨_,_,_,n4⟩:=n4
  simp(disch:=first|exact Xe|fail)only[zAE,zAF,zAK,e0,zX6,↓Xa,Xb,Xc,↓reduceIte,Nat.reduceLT,Nat.reduceEqDiff,Nat.reduceBEq,Nat.reduceLeDiff,Nat.reduceAdd,Nat.reduceMul]
  exact SetR.dropTo (((((Le.refl H).updB n1).updB n2).updB n3).updB n4) (SetR.now hq)
theorem zSA{H:AHeap}{Q:AV→AHeap→Prop}{a b:Int}{i:Ins}{k n:Nat}(hH:TzH H)(ha:Bd k a)(hk:k≤1000000)(hc:i.c=(n:Int))(hn:n≤65536)
 (hq:Q (.tup [zAe (if a%2^n=0 then a / 2^n else 0),.bool (decide (a%2^n=0))]) H):Run Tryz.prog 175 [zAe a,zAe b,.cptr (zDM i)] H Q:=by
 have hs: ∃e:Nat,zdT a n=.tup [zAe (if a%2^n=0 then a / 2^n else 0),.int .i64 ((e:Nat):Int)]∧(e=0↔a%2^n=0):=by
  have hp:(2:Int)^n≠0:=Int.ne_of_gt (Int.pow_pos (by omega))
  unfold zdT
  rw[if_neg (by omega)]
  by_cases h0:a=0
  ·subst h0
   exact⟨0,by simp,by simp⟩
  ·rw[if_neg h0]
   have ed:(a%2^n=0)↔n≤tz a.natAbs:=(Int.dvd_iff_emod_eq_zero).symm.trans (zVm h0)
   have et:twV a=((tz a.natAbs:Nat):Int):=by rw[twV,if_neg h0]
   rw[et,Int.toNat_natCast]
   by_cases h:n≤tz a.natAbs
   ·rw[if_neg (by omega),if_pos (ed.2 h)];exact⟨0,rfl,by simp[ed.2 h]⟩
   ·rw[if_pos (by omega),if_neg (fun e=>h (ed.1 e))];exact⟨20,rfl,by simp;exact fun e=>h (ed.1 e)⟩
 obtain⟨e,hs1,hs2⟩:=hs
 refine zS4 (by simp) ?_
 simp(disch:=first|exact Xe|fail)only[zaU,zAE,↓Xa,Xb,Xc,↓reduceIte,Nat.reduceLT,Nat.reduceEqDiff,Nat.reduceBEq,Nat.reduceLeDiff,Nat.reduceAdd,Nat.reduceMul]
 refine zAD fun p1 hp1=>?_
 have n1:=hp1
 simp(disch:=first|exact Xe|fail)only[zAE,↓Xa,Xb,Xc,↓reduceIte,Nat.reduceLT,Nat.reduceEqDiff,Nat.reduceBEq,Nat.reduceLeDiff,Nat.reduceAdd,Nat.reduceMul]
 refine zAD fun p2 hp2=>?_
 have n2:=hp2
 simp only[zAB]at n2
 obtain⟨_,n2⟩:=n2
 simp(disch:=first|exact Xe|fail)only[↓Xa,Xb,Xc,↓reduceIte,Nat.reduceLT,Nat.reduceEqDiff,Nat.reduceBEq,Nat.reduceLeDiff,Nat.reduceAdd,Nat.reduceMul]
 refine zAD fun p3 hp3=>?_
 have n3:=hp3
 simp only[zAB]at n3
 obtain⟨_,_,n3⟩:=n3
 simp(disch:=first|exact Xe|fail)only[zIS,hc,zAF,↓Xa,Xb,Xc,↓reduceIte,Nat.reduceLT,Nat.reduceEqDiff,Nat.reduceBEq,Nat.reduceLeDiff,Nat.reduceAdd,Nat.reduceMul]
 refine zAM (zTz (k:=k) ?_ ha (by omega) (by omega) ?_)
 ·exact((((Le.refl H).updB n1).updB n2).updB n3) _ _ hH
 rw[hs1]
 simp(disch:=first|exact Xe|fail)only[↓Xa,Xb,Xc,↓reduceIte,Nat.reduceLT,Nat.reduceEqDiff,Nat.reduceBEq,Nat.reduceLeDiff,Nat.reduceAdd,Nat.reduceMul]
 refine zAD fun p4 hp4=>?_
 have n4:=hp4
 simp only[zAB]at n4
 obtain⟨_,_,_,n4⟩:=n4
 have e0:decide (((e:Nat):Int)=((0:Nat):Int))=decide (a%2^n=0):=decide_eq_decide.2 (by omega)
 simp(disch:=first|exact Xe|fail)only[zAE,zAF,zAK,e0,zZT,↓Xa,Xb,Xc,↓reduceIte,Nat.reduceLT,Nat.reduceEqDiff,Nat.reduceBEq,Nat.reduceLeDiff,Nat.reduceAdd,Nat.reduceMul]
 exact SetR.dropTo (((((Le.refl H).updB n1).updB n2).updB n3).updB n4) (SetR.now hq)
def vmF(i:Ins):AV:=
 if i.op=2 then .fn (.func 167) [] [.cptr [.fn (.func 168) [] []]]
 else if i.op=3 then .fn (.func 167) [] [.cptr [.fn (.func 138) [] []]]
 else if i.op=4 then .fn (.func 167) [] [.cptr [.fn (.func 150) [] []]]
 else if i.op=5 then .fn (.func 167) [] [.cptr [.fn (.func 169) [] [.cptr (zDM i)]]]
 else if i.op=6 then .fn (.func 171) [] [.cptr (zDM i)]
 else if i.op=7 then .fn (.func 167) [] [.cptr [.fn (.func 173) [] [.cptr (zDM i)]]]
 else if i.op=8 then .fn (.func 175) [] [.cptr (zDM i)]
 else .fn (.func 167) [] [.cptr [.fn (.func 177) [] []]]
theorem zYy{i:Ins}:PFn Tryz.prog 102 [zIk i] (vmF i):=by
 intro H Q hq
 have yes: ∀n:Nat,i.op=(n:Int)→decide (i.op=((n:Nat):Int))=true:=fun n h=>decide_eq_true h
 have no: ∀n:Nat,i.op≠(n:Int)→decide (i.op=((n:Nat):Int))=false:=fun n h=>decide_eq_false h
 refine zTU (by simp) ?_
 simp(disch:=first|exact Xe|fail)only[zax,zA6,↓Xa,Xb,Xc,↓reduceIte,Nat.reduceLT,Nat.reduceEqDiff,Nat.reduceBEq,Nat.reduceLeDiff,Nat.reduceAdd,Nat.reduceMul]
 refine zAD fun p1 hp1=>?_
 have n1:=hp1
 have hle: ∀{x:ABlk},Le H (H.upd p1 (some x)):=(Le.refl H).updB n1
 simp(disch:=first|exact Xe|fail)only[↓Xa,Xb,Xc,↓reduceIte,Nat.reduceLT,Nat.reduceEqDiff,Nat.reduceBEq,Nat.reduceLeDiff,Nat.reduceAdd,Nat.reduceMul]
 unfold vmF at hq
 by_cases o2:i.op=2
 ·rw[if_pos o2]at hq
  simp(disch:=first|exact Xe|fail)only[zAK,yes 2 o2,↓Xa,Xb,Xc,↓reduceIte,Nat.reduceLT,Nat.reduceEqDiff,Nat.reduceBEq,Nat.reduceLeDiff,Nat.reduceAdd,Nat.reduceMul]
  refine(zCn rfl).call ?_
  simp(disch:=first|exact Xe|fail)only[zH2,↓Xa,Xb,Xc,↓reduceIte,Nat.reduceLT,Nat.reduceEqDiff,Nat.reduceBEq,Nat.reduceLeDiff,Nat.reduceAdd,Nat.reduceMul]
  exact SetR.dropTo hle (SetR.now hq)
 rw[if_neg o2]at hq
 have e2:=no 2 o2
 by_cases o3:i.op=3
 ·rw[if_pos o3]at hq
  simp(disch:=first|exact Xe|fail)only[zAK,e2,yes 3 o3,↓Xa,Xb,Xc,↓reduceIte,Nat.reduceLT,Nat.reduceEqDiff,Nat.reduceBEq,Nat.reduceLeDiff,Nat.reduceAdd,Nat.reduceMul]
  refine(zCn rfl).call ?_
  simp(disch:=first|exact Xe|fail)only[zH2,↓Xa,Xb,Xc,↓reduceIte,Nat.reduceLT,Nat.reduceEqDiff,Nat.reduceBEq,Nat.reduceLeDiff,Nat.reduceAdd,Nat.reduceMul]
  exact SetR.dropTo hle (SetR.now hq)
 rw[if_neg o3]at hq
 have e3:=no 3 o3
 by_cases o4:i.op=4
 ·rw[if_pos o4]at hq
  simp(disch:=first|exact Xe|fail)only[zAK,e2,e3,yes 4 o4,↓Xa,Xb,Xc,↓reduceIte,Nat.reduceLT,Nat.reduceEqDiff,Nat.reduceBEq,Nat.reduceLeDiff,Nat.reduceAdd,Nat.reduceMul]
  refine(zCn rfl).call ?_
  simp(disch:=first|exact Xe|fail)only[zH2,↓Xa,Xb,Xc,↓reduceIte,Nat.reduceLT,Nat.reduceEqDiff,Nat.reduceBEq,Nat.reduceLeDiff,Nat.reduceAdd,Nat.reduceMul]
  exact SetR.dropTo hle (SetR.now hq)
 rw[if_neg o4]at hq
 have e4:=no 4 o4
 have zDw: ∀(g:FuncId),SetR Q (.fn (.func 167) [] [.cptr [.fn (.func g) [] [.cptr (zDM i)]]]) H→SetR Q (.fn (.func 167) [] [.cptr [.fn (.func g) [] [.ptr p1 5 0]]]) (H.upd p1 (some (.row 76 0 (zDM i)))):=fun g h=>by
  refine SetR.frzPP p1 (zAC _ _ _) ?_
  rw[zAR,zAZ _ n1]
  have e:Fw.frzPP p1 (zDM i) (.fn (.func 167) [] [.cptr [.fn (.func g) [] [.ptr p1 5 0]]])=.fn (.func 167) [] [.cptr [.fn (.func g) [] [.cptr (zDM i)]]]:=by simp[Fw.frzPP,zTC,frzP,zGv,zDs]
  rw[e];exact h
 have frz0: ∀(g:FuncId),SetR Q (.fn (.func g) [] [.cptr (zDM i)]) H→SetR Q (.fn (.func g) [] [.ptr p1 5 0]) (H.upd p1 (some (.row 76 0 (zDM i)))):=fun g h=>by
  refine SetR.frzP p1 (zAC _ _ _) ?_
  rw[zAR,zAZ _ n1]
  have e:Fw.frzP p1 (zDM i) (.fn (.func g) [] [.ptr p1 5 0])=.fn (.func g) [] [.cptr (zDM i)]:=by simp[Fw.frzP,zGv,zDs]
  rw[e];exact h
 by_cases o5:i.op=5
 ·rw[if_pos o5]at hq
  simp(disch:=first|exact Xe|fail)only[zAK,e2,e3,e4,yes 5 o5,↓Xa,Xb,Xc,↓reduceIte,Nat.reduceLT,Nat.reduceEqDiff,Nat.reduceBEq,Nat.reduceLeDiff,Nat.reduceAdd,Nat.reduceMul]
  refine(zCn rfl).call ?_
  simp(disch:=first|exact Xe|fail)only[zH2,↓Xa,Xb,Xc,↓reduceIte,Nat.reduceLT,Nat.reduceEqDiff,Nat.reduceBEq,Nat.reduceLeDiff,Nat.reduceAdd,Nat.reduceMul]
  exact zDw _ (SetR.now hq)
 rw[if_neg o5]at hq
 have e5:=no 5 o5
 by_cases o6:i.op=6
 ·rw[if_pos o6]at hq
  simp(disch:=first|exact Xe|fail)only[zAK,e2,e3,e4,e5,yes 6 o6,zH2,↓Xa,Xb,Xc,↓reduceIte,Nat.reduceLT,Nat.reduceEqDiff,Nat.reduceBEq,Nat.reduceLeDiff,Nat.reduceAdd,Nat.reduceMul]
  exact frz0 _ (SetR.now hq)
 rw[if_neg o6]at hq
 have e6:=no 6 o6
 by_cases o7:i.op=7
 ·rw[if_pos o7]at hq
  simp(disch:=first|exact Xe|fail)only[zAK,e2,e3,e4,e5,e6,yes 7 o7,↓Xa,Xb,Xc,↓reduceIte,Nat.reduceLT,Nat.reduceEqDiff,Nat.reduceBEq,Nat.reduceLeDiff,Nat.reduceAdd,Nat.reduceMul]
  refine(zCn rfl).call ?_
  simp(disch:=first|exact Xe|fail)only[zH2,↓Xa,Xb,Xc,↓reduceIte,Nat.reduceLT,Nat.reduceEqDiff,Nat.reduceBEq,Nat.reduceLeDiff,Nat.reduceAdd,Nat.reduceMul]
  exact zDw _ (SetR.now hq)
 rw[if_neg o7]at hq
 have e7:=no 7 o7
 by_cases o8:i.op=8
 ·rw[if_pos o8]at hq
  simp(disch:=first|exact Xe|fail)only[zAK,e2,e3,e4,e5,e6,e7,yes 8 o8,zH2,↓Xa,Xb,Xc,↓reduceIte,Nat.reduceLT,Nat.reduceEqDiff,Nat.reduceBEq,Nat.reduceLeDiff,Nat.reduceAdd,Nat.reduceMul]
  exact frz0 _ (SetR.now hq)
 rw[if_neg o8]at hq
 have e8:=no 8 o8
 simp(disch:=first|exact Xe|fail)only[zAK,e2,e3,e4,e5,e6,e7,e8,↓Xa,Xb,Xc,↓reduceIte,Nat.reduceLT,Nat.reduceEqDiff,Nat.reduceBEq,Nat.reduceLeDiff,Nat.reduceAdd,Nat.reduceMul]
 refine(zCn rfl).call ?_
 simp(disch:=first|exact Xe|fail)only[zH2,↓Xa,Xb,Xc,↓reduceIte,Nat.reduceLT,Nat.reduceEqDiff,Nat.reduceBEq,Nat.reduceLeDiff,Nat.reduceAdd,Nat.reduceMul]
 exact SetR.dropTo hle (SetR.now hq)
theorem zU2{i:Ins}{N:Int}(hm:zFO N i){a b:Int}{k:Nat}(ha:Bd k a)(hb:Bd k b)(hk:k≤100000): ∃(x:Int)(ok:Bool),Bd (k+3) x∧(ok=true→doZ i a b=some x)∧(ok=false→doZ i a b=none)∧
 ∀(H:AHeap)(K:AV→AHeap→Prop),(i.op=8→TzH H)→K (.tup [zAe x,.bool ok]) H→zBn Tryz.prog (vmF i) [zAe a,zAe b] H K:=by
 have hbd: ∀{x:Int},doZ i a b=some x→Bd (k+3) x:=fun h=>zVb hm ha hb h
 have h3:=hm.2.2.2.2.2.2
 unfold vmF
 by_cases o2:i.op=2
 ·have hz:doZ i a b=some (-a):=by unfold doZ;rw[if_pos o2]
  rw[if_pos o2]
  exact⟨_,true,hbd hz,fun _=>hz,fun e=>absurd e (by simp),fun H K _ hk'=>zCJ (FnAns.of (zXv ha (by omega))) H K hk'⟩
 rw[if_neg o2]
 by_cases o3:i.op=3
 ·have hz:doZ i a b=some (a+b):=by unfold doZ;rw[if_neg o2,if_pos o3]
  rw[if_pos o3]
  exact⟨_,true,hbd hz,fun _=>hz,fun e=>absurd e (by simp),fun H K _ hk'=>zCJ (FnAns.of (zFp ha (by omega) hb (by omega))) H K hk'⟩
 rw[if_neg o3]
 by_cases o4:i.op=4
 ·have hz:doZ i a b=some (a-b):=by unfold doZ;rw[if_neg o2,if_neg o3,if_pos o4]
  rw[if_pos o4]
  exact⟨_,true,hbd hz,fun _=>hz,fun e=>absurd e (by simp),fun H K _ hk'=>zCJ (FnAns.of (zLC ha (by omega) hb (by omega))) H K hk'⟩
 rw[if_neg o4]
 rw[if_neg (by omega)]at h3
 by_cases o5:i.op=5
 ·have hcs:cst i=i.c:=by unfold cst;rw[if_pos (.inl o5)]
  have hz:doZ i a b=some (a*i.c):=by unfold doZ;rw[if_neg o2,if_neg o3,if_neg o4,if_pos (.inl o5),hcs,Int.mul_comm]
  rw[if_pos (.inl o5)]at h3
  rw[if_pos o5]
  exact⟨_,true,hbd hz,fun _=>hz,fun e=>absurd e (by simp),fun H K _ hk'=>zCJ (FnAns.caps (args:=[zAe a,zAe b]) (zYO ha (by omega) (by unfold I64;omega))) H K hk'⟩
 rw[if_neg o5]
 by_cases o6:i.op=6
 ·have hcs:cst i=i.c:=by unfold cst;rw[if_pos (.inr o6)]
  have hz:doZ i a b=if a%i.c=0 then some (a / i.c)else none:=by unfold doZ;rw[if_neg o2,if_neg o3,if_neg o4,if_neg (by omega),if_pos (.inl o6),hcs]
  rw[if_pos (.inr o6)]at h3
  rw[if_pos o6]
  refine⟨if a%i.c=0 then a / i.c else 0,decide (a%i.c=0),?_,fun e=>?_,fun e=>?_,fun H K _ hk'=>FnAns.caps (args:=[zAe a,zAe b]) (zY0 ha (by omega) (by unfold I64;omega) h3.2.1) H K hk'⟩
  ·split
   ·exact ha.ediv.mono (by omega)
   ·exact Bd.zero _
  ·have:=of_decide_eq_true e;rw[hz,if_pos this,if_pos this]
  ·have:=of_decide_eq_false e;rw[hz,if_neg this]
 rw[if_neg o6]
 by_cases o7:i.op=7
 ·rw[if_neg (by omega),if_pos (.inl o7)]at h3
  obtain⟨m,hmc⟩: ∃m:Nat,i.c=(m:Int):=⟨i.c.toNat,by omega⟩
  have hcs:cst i=2^m:=by unfold cst;rw[if_neg (by omega),hmc];rfl
  have hz:doZ i a b=some (a*2^m):=by unfold doZ;rw[if_neg o2,if_neg o3,if_neg o4,if_pos (.inr o7),hcs,Int.mul_comm]
  rw[if_pos o7]
  exact⟨_,true,hbd hz,fun _=>hz,fun e=>absurd e (by simp),fun H K _ hk'=>zCJ (FnAns.caps (args:=[zAe a,zAe b]) (zXL ha (by omega) hmc (by omega))) H K hk'⟩
 rw[if_neg o7]
 by_cases o8:i.op=8
 ·rw[if_neg (by omega),if_pos (.inr o8)]at h3
  obtain⟨m,hmc⟩: ∃m:Nat,i.c=(m:Int):=⟨i.c.toNat,by omega⟩
  have hcs:cst i=2^m:=by unfold cst;rw[if_neg (by omega),hmc];rfl
  have hz:doZ i a b=if a%2^m=0 then some (a / 2^m)else none:=by unfold doZ;rw[if_neg o2,if_neg o3,if_neg o4,if_neg (by omega),if_pos (.inr o8),hcs]
  rw[if_pos o8]
  refine⟨if a%2^m=0 then a / 2^m else 0,decide (a%2^m=0),?_,fun e=>?_,fun e=>?_,fun H K hT hk'=>zFc (zSA (hT o8) ha (by omega) hmc (by omega) hk')⟩
  ·split
   ·exact ha.ediv.mono (by omega)
   ·exact Bd.zero _
  ·have:=of_decide_eq_true e;rw[hz,if_pos this,if_pos this]
  ·have:=of_decide_eq_false e;rw[hz,if_neg this]
 rw[if_neg o8]
 have hz:doZ i a b=some a:=by unfold doZ;rw[if_neg o2,if_neg o3,if_neg o4,if_neg (by omega),if_neg (by omega)]
 exact⟨_,true,hbd hz,fun _=>hz,fun e=>absurd e (by simp),fun H K _ hk'=>zCJ (FnAns.of zXP) H K hk'⟩
theorem SetR.frzC{Q:AV→AHeap→Prop}{v:AV}{H:AHeap}(r b:Nat){ty es ty' es':Nat}{cells cs:List AV}(cs':List AV)(hl:cs'.length=cs.length)(hw: ∀i(h:i<cs.length)(h':i<cs'.length),Wk (zDw b es cells (cs[i])) (cs'[i]))(hb:H b=some (.row ty es cells))(hr:H r=some (.row ty' es' cs))(hne:r≠b)
 (h:SetR Q (Fw.frz b es cells v) ((H.upd b none).upd r (some (.row ty' es' cs')))):SetR Q v H:=by
 refine SetR.join fun c u hc hok he=>?_
 have hb':c.H b=some (.row ty es cells):=hc▸hb
 have ok1:=Ctx.drop_ok hok b
 have hH1:(c.drop b).H r=some (.row ty' es' cs):=by
  show(c.H.upd b none) r=_
  rw[zAA _ _ hne,hc];exact hr
 obtain⟨arr,k1,k2,k3⟩:=hok.blk r _ (hc▸hr)
 have l2:Later (c.drop b) ((c.drop b).put r (.row ty' es' cs') arr):=Ctx.put_later ok1 hH1 k1 (by omega) rfl
 have ok2:Ok ((c.drop b).put r (.row ty' es' cs') arr):=Ctx.put_ok ok1 hH1 k1 (by omega) rfl (by omega) fun i hi hi'=>hw i (by omega) hi _ _ (zFV hok hb' _ _ (k3 i (by omega) hi'))
 have hw2:((c.drop b).put r (.row ty' es' cs') arr).w=c.w:=setRow_self _ _ _ _ _ k1
 refine⟨_,_,hw2,ok2,(c.drop_later b).trans l2,(zIc hok hb' _ _ he).later l2,?_⟩
 show SetR Q _ ((c.H.upd b none).upd r _)
 rw[hc];exact h
def zWy(p:PR)(y:AV)(n:Nat):List AV:=[.int .i64 p.ins,.int .i64 p.regs,zBI p.code false,zAr p.outs false,y,.int .i64 n]
theorem zZJ{i:Ins}{a b x:List Int}(h:a.length=b.length)(hx:x.length=a.length)(hd: ∀j,j<a.length→doZ i (a.getD j 0) (b.getD j 0)=some (x.getD j 0)):doR i a b=some x:=by
 cases e:doR i a b with
 |none=>
  obtain⟨k,hk,hn⟩:=zZI e
  have:=hd k hk
  rw[hn]at this;cases this
 |some r=>
  have hl:=zKd h e
  congr 1
  refine List.ext_getElem (by omega) fun j h1 h2=>?_
  have h3:=zOg h e (k:=j) (by omega)
  rw[hd j (by omega)]at h3
  injection h3 with h3
  simp only[List.getD_eq_getElem?_getD,List.getElem?_eq_getElem h1,List.getElem?_eq_getElem h2,Option.getD_some]at h3
  exact h3.symm
theorem zS6{i:Ins}{a b:List Int}(h:a.length=b.length){j:Nat}(hj:j<a.length)(hd:doZ i (a.getD j 0) (b.getD j 0)=none):doR i a b=none:=by
 cases e:doR i a b with
 |none=>rfl
 |some r=>have:=zOg h e hj;rw[hd]at this;cases this
theorem zWb{P:Program}{H:AHeap}{K:AV→List Nat→Option (Nat×ABlk)→Prop}{fv:AV}{args:List AV}{r:AV}(rd:List Nat)(h: ∀(H':AHeap)(K':AV→AHeap→Prop),(∀q,q∈rd→H' q=H q)→K' r H'→zBn P fv args H' K')(k:K r rd none){o:Bool}:dcall o P fv args H K:=
 .inl ⟨r,rd,fun H' e=>h H' _ e ⟨rfl,rfl⟩,k⟩
theorem zT6{H:AHeap}{Q:AV→AHeap→Prop}{mb br N n k L:Nat}{tm:Bool}{p:PR}{regs:List (List Int)}(hm:H mb=some (.row 161 0 (zWy p (.own br N 0 N tm) n)))(hb:H br=some (.row 29 1 (GI regs)))(hne:mb≠br)(hN:regs.length=N)(hpN:p.regs=(N:Int))(hr:zBl p)
 (hz:zEV k L regs) (hk:k≤90000) (hL:L≤100000) (hn:n≤p.code.length) (hT: ∀i,i∈p.code→i.op=8→TzH H)
 (hq0:n=p.code.length→Q (.int .i64 ((4:Nat):Int)) H)
 (hq1: ∀h:n<p.code.length,∀x,doR p.code[n] (regs.getD (p.code[n]).a.toNat []) (regs.getD (p.code[n]).b.toNat [])=some x→RB4 (k+3) x→x.length=L→Q (.int .i64 ((0:Nat):Int)) ((H.upd br (some (.row 29 1 (GI (regs.set (p.code[n]).to.toNat x))))).upd mb (some (.row 161 0 (zWy p (.own br N 0 N tm) (n+1))))))
 (hq2: ∀h:n<p.code.length,doR p.code[n] (regs.getD (p.code[n]).a.toNat []) (regs.getD (p.code[n]).b.toNat [])=none→Q (.int .i64 ((20:Nat):Int)) H):
 Run Tryz.prog 33 [.ptr mb 6 0] H Q:=by
 have hh:=hr.1
 unfold zET at hh
 have lc:p.code.length<9223372036854775808:=by omega
 have hm':H mb=some (.row 161 0 [.int .i64 p.ins,.int .i64 p.regs,zBI p.code false,zAr p.outs false,.own br N 0 N tm,.int .i64 n]):=hm
 refine zW8 (by simp) ?_
 by_cases hnc:n=p.code.length
 ·have d1:decide (n=p.code.length)=true:=decide_eq_true hnc
  simp(disch:=first|exact Xe|fail)only[zey,hm',zPK lc,zAK,Int.natCast_inj,d1,zdI,↓Xa,Xb,Xc,↓reduceIte,Nat.reduceLT,Nat.reduceEqDiff,Nat.reduceBEq,Nat.reduceLeDiff,Nat.reduceAdd,Nat.reduceMul]
  exact SetR.now (hq0 hnc)
 have hn':n<p.code.length:=by omega
 have d1:decide (n=p.code.length)=false:=decide_eq_false hnc
 simp(disch:=first|exact Xe|fail)only[zey,hm',zPK lc,zAK,Int.natCast_inj,d1,zDb hn',zCw hn',↓Xa,Xb,Xc,↓reduceIte,Nat.reduceLT,Nat.reduceEqDiff,Nat.reduceBEq,Nat.reduceLeDiff,Nat.reduceAdd,Nat.reduceMul]
 refine zCd fun p3 n3=>?_
 have m3:=zAS hm n3
 have b3:=zAS hb n3
 simp(disch:=first|exact Xe|fail)only[zA6,zA0,↓Xa,Xb,Xc,↓reduceIte,Nat.reduceLT,Nat.reduceEqDiff,Nat.reduceBEq,Nat.reduceLeDiff,Nat.reduceAdd,Nat.reduceMul]
 have hmi:zFO (N:Int) p.code[n]:=by rw[← hpN];exact hr.2.2 _ (List.getElem_mem hn')
 have hq1':=hq1 hn'
 have hq2':=hq2 hn'
 have hT':=hT _ (List.getElem_mem hn')
 generalize p.code[n]=i at*
 refine zYy.call ?_
 have hmb:=zLv hmi
 have hma:=hmi.2.2
 obtain⟨a,ha⟩: ∃a:Nat,i.a=(a:Int):=⟨i.a.toNat,by omega⟩
 obtain⟨c,hc⟩: ∃c:Nat,i.b=(c:Int):=⟨i.b.toNat,by omega⟩
 obtain⟨w,hw⟩: ∃w:Nat,i.to=(w:Int):=⟨i.to.toNat,by omega⟩
 have haN:a<regs.length:=by omega
 have hcN:c<regs.length:=by omega
 have haN':a<N:=by omega
 have hcN':c<N:=by omega
 have hwN:w<N:=by omega
 have ga:regs.getD i.a.toNat []=regs[a]:=by rw[ha,Int.toNat_natCast,List.getD_eq_getElem?_getD,List.getElem?_eq_getElem haN];rfl
 have gc:regs.getD i.b.toNat []=regs[c]:=by rw[hc,Int.toNat_natCast,List.getD_eq_getElem?_getD,List.getElem?_eq_getElem hcN];rfl
 have gw:i.to.toNat=w:=by omega
 rw[ga,gc]at hq1' hq2'
 rw[gw]at hq1'
 obtain⟨lx,bx⟩:=hz _ (List.getElem_mem haN)
 obtain⟨ly,by'⟩:=hz _ (List.getElem_mem hcN)
 have hl:(GI regs).length=N:=by rw[zFi,hN]
 have lx9:(regs[a]).length<9223372036854775808:=by omega
 simp(disch:=first|exact Xe|fail)only[ha,hc,hm',hb,m3,b3,zDh,hl,haN',hcN',zJw hN haN,zJw hN hcN,zBE,lx9,lx,↓Xa,Xb,Xc,↓reduceIte,Nat.reduceLT,Nat.reduceEqDiff,Nat.reduceBEq,Nat.reduceLeDiff,Nat.reduceAdd,Nat.reduceMul]
 generalize regs[a]=x at*
 generalize regs[c]=y at*
 rw[zUI (by omega)]
 intro o ho
 have o3:=(zAB.1 ho).1
 have oH:=(zAB.1 ho).2
 have om:=zAS hm oH
 have ob:=zAS hb oH
 generalize hX:(ABlk.row 76 0 [.int .i64 i.op,.int .i64 i.to,.int .i64 (a:Int),.int .i64 (c:Int),.int .i64 i.c])=X at*
 have hX':X=.row 76 0 [.int .i64 i.op,.int .i64 (w:Int),.int .i64 (a:Int),.int .i64 (c:Int),.int .i64 i.c]:=by rw[← hX,hw]
 have lL:L<9223372036854775808:=by omega
 simp(disch:=first|exact Xe|fail)only[zMa lL,↓Xa,Xb,Xc,↓reduceIte,Nat.reduceLT,Nat.reduceEqDiff,Nat.reduceBEq,Nat.reduceLeDiff,Nat.reduceAdd,Nat.reduceMul]
 refine zAO (fun s:Nat×List Int=>⟨[],[(0,.ptr mb 6 0),(3,.ptr p3 5 0),(4,vmF i),(5,rI x),(6,rI y),(7,.own o (L*2) 0 L true),(59,.int .i64 L),(60,.int .i64 s.1)],(H.upd p3 (some X)).upd o (some (.row 48 2 (IC (s.2++List.replicate (L-s.1) 0))))⟩)
  (fun s=>s.1≤L∧s.2.length=s.1∧(∀z,z∈s.2→Bd (k+3) z)∧∀j,j<s.1→doZ i (x.getD j 0) (y.getD j 0)=some (s.2.getD j 0)) (fun s=>L-s.1) (0,[]) (Settle.now (by simp)) ⟨Nat.zero_le _,rfl,fun z h=>by simp at h,fun j h=>absurd h (Nat.not_lt_zero j)⟩ ?_
 rintro⟨j,xs⟩ ⟨h1,h2,h3,h4⟩
 dsimp only at h1 h2 h3 h4 ⊢
 have hcell:(xs++List.replicate (L-j) 0).length=L:=by simp;omega
 by_cases hj:j<L
 ·have hjx:j<x.length:=by omega
  have hjy:j<y.length:=by omega
  have ex:x.getD j 0=x[j]:=by rw[List.getD_eq_getElem?_getD,List.getElem?_eq_getElem hjx];rfl
  have ey:y.getD j 0=y[j]:=by rw[List.getD_eq_getElem?_getD,List.getElem?_eq_getElem hjy];rfl
  obtain⟨z,ok,hbz,hz1,hz2,hcall⟩:=zU2 hmi (bx.at hjx) (by'.at hjy) (by omega)
  have hdn:=h4
  obtain⟨qd,vq,hqd,hcall2⟩: ∃qd vq,H qd=some vq∧∀(H':AHeap)(K:AV→AHeap→Prop),H' qd=H qd→K (.tup [zAe z,.bool ok]) H'→zBn Tryz.prog (vmF i) [zAe x[j],zAe y[j]] H' K:=by
   by_cases o8:i.op=8
   ·exact⟨_,_,hT' o8,fun H' K he hk=>hcall H' K (fun _=>he.trans (hT' o8)) hk⟩
   ·exact⟨mb,_,hm,fun H' K _ hk=>hcall H' K (fun e=>absurd e o8) hk⟩
  have q3:=zAS hqd n3
  have qo:=zAS hqd oH
  simp(disch:=first|exact Xe|fail)only[hj,zDy hjx,zCi hjx,zDy hjy,zCi hjy,↓Xa,Xb,Xc,↓reduceIte,Nat.reduceLT,Nat.reduceEqDiff,Nat.reduceBEq,Nat.reduceLeDiff,Nat.reduceAdd,Nat.reduceMul]
  refine zWb [qd] (fun H' K he hk=>hcall2 H' K ((he qd (by simp)).trans (by rw[zAA _ _ (Ne.symm qo),zAA _ _ (Ne.symm q3)])) hk) ?_
  simp(disch:=first|exact Xe|fail)only[↓Xa,Xb,Xc,↓reduceIte,Nat.reduceLT,Nat.reduceEqDiff,Nat.reduceBEq,Nat.reduceLeDiff,Nat.reduceAdd,Nat.reduceMul]
  refine zCd fun q9 hq9=>?_
  have q93:=(zAB.1 (zAB.1 hq9).2).1
  have q9H:=(zAB.1 (zAB.1 hq9).2).2
  have q9o:=(zAB.1 hq9).1
  have q9d:=zAS hqd q9H
  simp(disch:=first|exact Xe|fail)only[zAE,↓Xa,Xb,Xc,↓reduceIte,Nat.reduceLT,Nat.reduceEqDiff,Nat.reduceBEq,Nat.reduceLeDiff,Nat.reduceAdd,Nat.reduceMul]
  cases ok with
  |false=>
   simp(disch:=first|exact Xe|fail)only[zdI,↓Xa,Xb,Xc,↓reduceIte,Nat.reduceLT,Nat.reduceEqDiff,Nat.reduceBEq,Nat.reduceLeDiff,Nat.reduceAdd,Nat.reduceMul]
   refine SetR.dropTo ((((Le.refl H).updB n3).updB oH).updB q9H) (SetR.now (hq2' (zS6 (j:=j) (by omega) hjx ?_)))
   rw[ex,ey];exact hz2 rfl
  |true=>
   have hdz:=hz1 rfl
   have eset:(xs++List.replicate (L-j) 0).set j z=(xs++[z])++List.replicate (L-(j+1)) 0:=by
    rw[List.set_append_right _ _ (by omega),h2,Nat.sub_self,show L-j=(L-(j+1))+1 by omega,List.replicate_succ,List.set_cons_zero,List.append_assoc];rfl
   have mo: ∀v w:ABlk,(((H.upd p3 (some X)).upd o (some v)).upd q9 (some w)) o=some v:=fun v w=>by rw[zAA _ _ (Ne.symm q9o),zAC]
   have hlo:(IC (xs++List.replicate (L-j) 0)).length=L*2:=by rw[zBQ,hcell]
   simp(disch:=first|exact Xe|fail)only[zAE,zAF,mo,zRV,hlo,hj,↓Xa,Xb,Xc,↓reduceIte,Nat.reduceLT,Nat.reduceEqDiff,Nat.reduceBEq,Nat.reduceLeDiff,Nat.reduceAdd,Nat.reduceMul]
   refine(zMe hcell hj).2 ?_
   rw[eset,zAq _ _ _ (show q9≠o from q9o),zAR]
   simp(disch:=first|exact Xe|fail)only[↓Xa,Xb,Xc,↓reduceIte,Nat.reduceLT,Nat.reduceEqDiff,Nat.reduceBEq,Nat.reduceLeDiff,Nat.reduceAdd,Nat.reduceMul]
   refine Settle.dropTo ((Le.refl _).updB (zAB.2 ⟨q9o,zAB.2 ⟨q93,q9H⟩⟩)) (Settle.now ⟨(j+1,xs++[z]),by dsimp only;omega,⟨by dsimp only;omega,by dsimp only;simp[h2],fun u hu=>?_,fun i2 hi2=>?_⟩,rfl⟩)
   ·rcases List.mem_append.1 hu with hu|hu
    ·exact h3 u hu
    ·simp at hu;rw[hu];exact hbz
   ·dsimp only at hi2 ⊢
    by_cases e:i2=j
    ·subst e
     have e2:(xs++[z]).getD i2 0=z:=by rw[List.getD_eq_getElem?_getD,List.getElem?_append_right (by omega),h2,Nat.sub_self];rfl
     rw[e2,ex,ey];exact hdz
    ·have e2:(xs++[z]).getD i2 0=xs.getD i2 0:=by rw[List.getD_eq_getElem?_getD,List.getElem?_append_left (by omega),List.getD_eq_getElem?_getD]
     rw[e2];exact h4 i2 (by omega)
 ·obtain rfl:j=L:=by omega
  have hdo:doR i x y=some xs:=zZJ (by omega) (by omega) fun i2 hi2=>h4 i2 (by omega)
  have hlen0:xs.length<4611686018427387904:=by omega
  have eI:IC (xs++List.replicate (j-j) 0)=IC xs:=by simp
  rw[eI]
  simp(disch:=first|exact Xe|fail)only[hj,↓Xa,Xb,Xc,↓reduceIte,Nat.reduceLT,Nat.reduceEqDiff,Nat.reduceBEq,Nat.reduceLeDiff,Nat.reduceAdd,Nat.reduceMul]
  refine Settle.now ?_
  have w3: ∀v:ABlk,((H.upd p3 (some X)).upd o (some v)) p3=some (.row 76 0 [.int .i64 i.op,.int .i64 (w:Int),.int .i64 (a:Int),.int .i64 (c:Int),.int .i64 i.c]):=fun v=>by rw[zAA _ _ (Ne.symm o3),zAC,hX']
  have wm: ∀v:ABlk,((H.upd p3 (some X)).upd o (some v)) mb=some (.row 161 0 [.int .i64 p.ins,.int .i64 p.regs,zBI p.code false,zAr p.outs false,.own br N 0 N tm,.int .i64 n]):=fun v=>by rw[zAA _ _ (Ne.symm om),zAA _ _ (Ne.symm m3)];exact hm'
  have wb: ∀v:ABlk,((H.upd p3 (some X)).upd o (some v)) br=some (.row 29 1 (GI regs)):=fun v=>by rw[zAA _ _ (Ne.symm ob),zAA _ _ (Ne.symm b3)];exact hb
  simp(disch:=first|exact Xe|fail)only[w3,wm,wb,zDh,hl,hwN,↓Xa,Xb,Xc,↓reduceIte,Nat.reduceLT,Nat.reduceEqDiff,Nat.reduceBEq,Nat.reduceLeDiff,Nat.reduceAdd,Nat.reduceMul]
  refine(zUU (x:=.own o (j*2) 0 j true) hl hwN).2 ?_
  have wm2: ∀v u:ABlk,(((H.upd p3 (some X)).upd o (some v)).upd br (some u)) mb=some (.row 161 0 [.int .i64 p.ins,.int .i64 p.regs,zBI p.code false,zAr p.outs false,.own br N 0 N tm,.int .i64 n]):=fun v u=>by rw[zAA _ _ hne];exact wm v
  simp(disch:=first|exact Xe|fail)only[wm2,zdI,↓Xa,Xb,Xc,↓reduceIte,Nat.reduceLT,Nat.reduceEqDiff,Nat.reduceBEq,Nat.reduceLeDiff,Nat.reduceAdd,Nat.reduceMul]
  have hgl:(GI (regs.set w xs)).length=((GI regs).set w (.own o (j*2) 0 j true)).length:=by rw[zFi,List.length_set,List.length_set,zFi]
  have hHf: ∀(u v:ABlk),((((H.upd p3 (some X)).upd o (some (.row 48 2 (IC xs)))).upd br (some u)).upd mb (some v)) o=some (.row 48 2 (IC xs)):=fun u v=>by rw[zAA _ _ om,zAA _ _ ob,zAC]
  have hHb: ∀(u v:ABlk),((((H.upd p3 (some X)).upd o (some (.row 48 2 (IC xs)))).upd br (some u)).upd mb (some v)) br=some u:=fun u v=>by rw[zAA _ _ (Ne.symm hne),zAC]
  refine SetR.frzC br o (GI (regs.set w xs)) hgl (fun i2 q1 q2=>?_) (hHf _ _) (hHb _ _) (Ne.symm ob) ?_
  ·simp only[GI,List.map_set,List.getElem_set]
   by_cases e:w=i2
   ·rw[if_pos e,if_pos e]
    have e1:zDw o 2 (IC xs) (.own o (j*2) 0 j true)=.seq j (IC xs) true:=by
     simp[zDw,zBQ,h2];rw[List.take_of_length_le (by rw[zBQ];omega)]
    have e2:rI xs=.seq j (IC xs) false:=by rw[rI,zBk,h2]
    rw[e1,e2];exact Wk.l0
   ·rw[if_neg e,if_neg e]
    simp only[List.getElem_map]
    exact Wk.refl
  ·have e1:Fw.frz o 2 (IC xs) (.int .i64 ((0:Nat):Int))=.int .i64 ((0:Nat):Int):=rfl
   rw[e1]
   refine SetR.dropTo ?_ (SetR.now (hq1' xs hdo ⟨h3,hlen0⟩ (by omega)))
   intro q v hq
   by_cases eb:q=br
   ·subst eb
    rw[zAA _ _ (Ne.symm hne),zAC]at hq
    rw[zAC];exact hq
   by_cases em:q=mb
   ·subst em
    rw[zAC]at hq
    rw[zAA _ _ eb,zAA _ _ (Ne.symm om),zAC];exact hq
   ·rw[zAA _ _ em,zAA _ _ eb]at hq
    have eo:q≠o:=by rintro rfl;rw[oH]at hq;cases hq
    have e3:q≠p3:=by rintro rfl;rw[n3]at hq;cases hq
    rw[zAA _ _ eb,zAA _ _ eo,zAA _ _ em,zAA _ _ eb,zAA _ _ eo,zAA _ _ e3];exact hq
def zGq:List Nat:=[0,1,56,2,57,49,28,3,61,58,42,50,38,29,17,4,62,47,59,36,45,43,51,22,53,39,33,30,24,18,12,5,63,55,48,27,60,41,37,16,46,35,44,21,52,32,23,11,54,26,40,15,34,20,31,10,25,14,19,9,13,8,7,6]
def zDI:List AV:=zGq.map fun(n:Nat)=>AV.int .u8 (n:Int)
def Tz64H(H:AHeap):Prop:=H 1=some (.glob 1 zDI)
theorem Tz64H.le{H H':AHeap}(h:Tz64H H)(hl:Le H H'):Tz64H H':=hl _ _ h
theorem zRM{i:Nat}(h:i<64):(zDI.drop i).take 1=[.int .u8 ((zGq.getD i 0:Nat):Int)]:=by
 have hl:zDI.length=64:=rfl
 rw[List.drop_eq_getElem_cons (by omega),List.take_succ_cons,List.take_zero]
 simp only[zDI,List.getElem_map]
 rw[List.getD_eq_getElem?_getD,List.getElem?_eq_getElem (show i<zGq.length from h),Option.getD_some]
theorem zFY{H:AHeap}{x v n:Nat}{K:AV→AHeap→Prop}(hH:Tz64H H)(h0:0<x)(hx:x<65536)(ha:x &&& (18446744073709551616-x)=x)(hv:x*285870213051353865%18446744073709551616=v)(hi:v / 288230376151711744<64)(ht:zGq.getD (v / 288230376151711744) 0=n)(hn:n<256)(k:K (.int .i64 ((n:Nat):Int)) H):
 Run Tryz.prog 226 [.int .u64 (x:Int)] H K:=by
 refine zTX (by simp) ?_
 have hH':H 1=some (.glob 1 zDI):=hH
 have hne: ¬x=0:=by omega
 have c1: ∀K,unW .neg (.int .u64 (x:Int)) K↔K (.int .u64 ((18446744073709551616-x:Nat):Int)):=fun K=>by
  simp only[unW,zBy];rw[show(0-(x:Int))%18446744073709551616=((18446744073709551616-x:Nat):Int) by omega]
 have c2: ∀K,zAv .and (.int .u64 (x:Int)) (.int .u64 ((18446744073709551616-x:Nat):Int)) K↔K (.int .u64 ((x:Nat):Int)):=fun K=>by
  rw[zGf .u64 (by simp[IntKind.bits];omega) (by simp[IntKind.bits];omega),ha,zDV (by omega)]
 have c3: ∀K,zAv .mul (.int .u64 (x:Int)) (.int .u64 ((285870213051353865:Nat):Int)) K↔K (.int .u64 ((v:Nat):Int)):=fun K=>by
  simp only[zAv,zAi,zBy]
  rw[show(x:Int)*((285870213051353865:Nat):Int)%18446744073709551616=((v:Nat):Int) by rw[← hv];omega]
  simp
 simp(disch:=first|exact Xe|fail)only[zcW,hne,c1,c2,c3,hH',zVq,zMf,↓Xa,Xb,Xc,↓reduceIte,Nat.reduceLT,Nat.reduceEqDiff,Nat.reduceBEq,Nat.reduceLeDiff,Nat.reduceAdd,Nat.reduceMul]
 have e58:(2:Nat)^58=288230376151711744:=by decide
 rw[e58]
 have hl:zDI.length=64:=rfl
 refine⟨by omega,?_⟩
 rw[zRM hi,ht]
 have hw:IntKind.i64.wrap ((n:Nat):Int)=((n:Nat):Int):=zCD (by omega) (by omega)
 simp(disch:=first|exact Xe|fail)only[hw,zch,↓Xa,Xb,Xc,↓reduceIte,Nat.reduceLT,Nat.reduceEqDiff,Nat.reduceBEq,Nat.reduceLeDiff,Nat.reduceAdd,Nat.reduceMul]
 exact SetR.now k
def zfO(c:Int)(n:Nat):Prop:=(c=2∧n=1)∨(c=4∧n=2)∨(c=8∧n=3)∨(c=16∧n=4)
theorem zbp{H:AHeap}{c:Int}{n:Nat}{K:AV→AHeap→Prop}(hH:Tz64H H)(hc:zfO c n)(k:K (.int .i64 ((n:Nat):Int)) H):Run Tryz.prog 195 [.int .u64 c] H K:=by
 refine zTn (by simp) ?_
 simp(disch:=first|exact Xe|fail)only[zcQ,↓Xa,Xb,Xc,↓reduceIte,Nat.reduceLT,Nat.reduceEqDiff,Nat.reduceBEq,Nat.reduceLeDiff,Nat.reduceAdd,Nat.reduceMul]
 rcases hc with⟨rfl,rfl⟩|⟨rfl,rfl⟩|⟨rfl,rfl⟩|⟨rfl,rfl⟩
 ·refine zAM (zFY (x:=2) (n:=1) hH (by decide) (by decide) (by decide) rfl (by decide) (by decide) (by decide) ?_)
  simp(disch:=first|exact Xe|fail)only[zQV,↓Xa,Xb,Xc,↓reduceIte,Nat.reduceLT,Nat.reduceEqDiff,Nat.reduceBEq,Nat.reduceLeDiff,Nat.reduceAdd,Nat.reduceMul]
  exact SetR.now k
 ·refine zAM (zFY (x:=4) (n:=2) hH (by decide) (by decide) (by decide) rfl (by decide) (by decide) (by decide) ?_)
  simp(disch:=first|exact Xe|fail)only[zQV,↓Xa,Xb,Xc,↓reduceIte,Nat.reduceLT,Nat.reduceEqDiff,Nat.reduceBEq,Nat.reduceLeDiff,Nat.reduceAdd,Nat.reduceMul]
  exact SetR.now k
 ·refine zAM (zFY (x:=8) (n:=3) hH (by decide) (by decide) (by decide) rfl (by decide) (by decide) (by decide) ?_)
  simp(disch:=first|exact Xe|fail)only[zQV,↓Xa,Xb,Xc,↓reduceIte,Nat.reduceLT,Nat.reduceEqDiff,Nat.reduceBEq,Nat.reduceLeDiff,Nat.reduceAdd,Nat.reduceMul]
  exact SetR.now k
 ·refine zAM (zFY (x:=16) (n:=4) hH (by decide) (by decide) (by decide) rfl (by decide) (by decide) (by decide) ?_)
  simp(disch:=first|exact Xe|fail)only[zQV,↓Xa,Xb,Xc,↓reduceIte,Nat.reduceLT,Nat.reduceEqDiff,Nat.reduceBEq,Nat.reduceLeDiff,Nat.reduceAdd,Nat.reduceMul]
  exact SetR.now k
def zZD(c:Int):Int:=IntKind.i64.wrap (BitVec.ofInt 64 c &&& BitVec.ofInt 64 (c-1)).toNat
theorem zXS{c:Int}{n:Nat}(hc:zfO c n):zZD c=0:=by
 rcases hc with⟨rfl,rfl⟩|⟨rfl,rfl⟩|⟨rfl,rfl⟩|⟨rfl,rfl⟩<;>decide
theorem zW7{c:Int}(h1:3≤c)(h2:c≤15)(h4:c≠4)(h8:c≠8):zZD c≠0:=by
 have:c=3∨c=5∨c=6∨c=7∨c=9∨c=10∨c=11∨c=12∨c=13∨c=14∨c=15:=by omega
 rcases this with rfl|rfl|rfl|rfl|rfl|rfl|rfl|rfl|rfl|rfl|rfl<;>decide
theorem zPy{c:Int}{K:AV→Prop}:zAv .and (.int .i64 c) (.int .i64 (c-1)) K↔K (.int .i64 (zZD c)):=by
 simp only[zAv,zAi,zZD,IntKind.bits,true_and]
 exact Iff.rfl
theorem zLf{c:Int}{K:AV→Prop}(h1: -16≤c)(h2:c≤1000):zAv .sub (.int .i64 c) (.int .i64 ((1:Nat):Int)) K↔K (.int .i64 (c-1)):=by
 simp only[zAv,zAi,true_and]
 rw[show c-((1:Nat):Int)=c-1 from rfl,zCD (by omega) (by omega)]
theorem zKs{H:AHeap}{Q:AV→AHeap→Prop}{to a c:Int}(hT:Tz64H H)(h0:c≠0)(h1: -16≤c)(h2:c≤16)(hq:Q (zIk (zBc to a c)) H):Run Tryz.prog 128 [.int .i64 to,.int .i64 a,.int .i64 c] H Q:=by
 refine zST (by simp) ?_
 simp(disch:=first|exact Xe|fail)only[zca,↓Xa,Xb,Xc,↓reduceIte,Nat.reduceLT,Nat.reduceEqDiff,Nat.reduceBEq,Nat.reduceLeDiff,Nat.reduceAdd,Nat.reduceMul]
 refine zAD fun p6 n6=>?_
 have hle: ∀{x:ABlk},Le H (H.upd p6 (some x)):=(Le.refl H).updB n6
 have t0: ∀{b:Bool},b=true→b=true:=fun h=>h
 by_cases c1:c=1
 ·have e1:decide (c=((1:Nat):Int))=true:=decide_eq_true (by omega)
  have e:zIk (zBc to a c)=.agg [.int .i64 ((1:Nat):Int),.int .i64 to,.int .i64 a,.int .i64 ((0:Nat):Int),.int .i64 ((0:Nat):Int)]:=by rw[zBc,if_pos c1];rfl
  rw[e]at hq
  simp(disch:=first|exact Xe|fail)only[zAK,e1,AV.cells,zNu,↓Xa,Xb,Xc,↓reduceIte,Nat.reduceLT,Nat.reduceEqDiff,Nat.reduceBEq,Nat.reduceLeDiff,Nat.reduceAdd,Nat.reduceMul]
  exact SetR.dropTo hle (SetR.now hq)
 have d1:decide (c=((1:Nat):Int))=false:=decide_eq_false (by omega)
 by_cases c2:c= -1
 ·have e1:decide (c= -1)=true:=decide_eq_true (by omega)
  have e:zIk (zBc to a c)=.agg [.int .i64 ((2:Nat):Int),.int .i64 to,.int .i64 a,.int .i64 ((0:Nat):Int),.int .i64 ((0:Nat):Int)]:=by rw[zBc,if_neg c1,if_pos c2];rfl
  rw[e]at hq
  simp(disch:=first|exact Xe|fail)only[zAK,d1,e1,AV.cells,zNu,↓Xa,Xb,Xc,↓reduceIte,Nat.reduceLT,Nat.reduceEqDiff,Nat.reduceBEq,Nat.reduceLeDiff,Nat.reduceAdd,Nat.reduceMul]
  exact SetR.dropTo hle (SetR.now hq)
 have d2:decide (c= -1)=false:=decide_eq_false (by omega)
 by_cases hp: ∃n,zfO c n
 ·obtain⟨n,hp⟩:=hp
  have h0:0<c:=by rcases hp with⟨rfl,_⟩|⟨rfl,_⟩|⟨rfl,_⟩|⟨rfl,_⟩<;>decide
  have e0:decide (((0:Nat):Int)<c)=true:=decide_eq_true (by omega)
  have ea:decide (zZD c=((0:Nat):Int))=true:=decide_eq_true (zXS hp)
  have e:zIk (zBc to a c)=.agg [.int .i64 ((7:Nat):Int),.int .i64 to,.int .i64 a,.int .i64 ((0:Nat):Int),.int .i64 ((n:Nat):Int)]:=by
   rcases hp with⟨rfl,rfl⟩|⟨rfl,rfl⟩|⟨rfl,rfl⟩|⟨rfl,rfl⟩<;>rfl
  rw[e]at hq
  have ec: ∀{K:AV→Prop},zEr .u64 (.int .i64 c) K↔K (.int .u64 c):=fun{K}=>by
   simp only[zEr,zBy];rw[Int.emod_eq_of_lt (by omega) (by omega)]
  simp(disch:=first|exact Xe|fail)only[zAK,zAw,d1,d2,e0,zLf h1 (show c≤1000 by omega),zPy,ea,ec,↓Xa,Xb,Xc,↓reduceIte,Nat.reduceLT,Nat.reduceEqDiff,Nat.reduceBEq,Nat.reduceLeDiff,Nat.reduceAdd,Nat.reduceMul]
  refine zAM (zbp (hT.le hle) hp ?_)
  simp(disch:=first|exact Xe|fail)only[AV.cells,zNu,↓Xa,Xb,Xc,↓reduceIte,Nat.reduceLT,Nat.reduceEqDiff,Nat.reduceBEq,Nat.reduceLeDiff,Nat.reduceAdd,Nat.reduceMul]
  exact SetR.dropTo hle (SetR.now hq)
 ·have e:zIk (zBc to a c)=.agg [.int .i64 ((5:Nat):Int),.int .i64 to,.int .i64 a,.int .i64 ((0:Nat):Int),.int .i64 c]:=by
   rw[zBc,if_neg c1,if_neg c2,if_neg (fun h=>hp ⟨1,.inl ⟨h,rfl⟩⟩),if_neg (fun h=>hp ⟨2,.inr (.inl ⟨h,rfl⟩)⟩),if_neg (fun h=>hp ⟨3,.inr (.inr (.inl ⟨h,rfl⟩))⟩),if_neg (fun h=>hp ⟨4,.inr (.inr (.inr ⟨h,rfl⟩))⟩)];rfl
  rw[e]at hq
  by_cases h0:0<c
  ·have e0:decide (((0:Nat):Int)<c)=true:=decide_eq_true (by omega)
   have hn:=zW7 (c:=c) (by
    have n2:c≠2:=fun h=>hp ⟨1,.inl ⟨h,rfl⟩⟩
    omega) (by
    have n16:c≠16:=fun h=>hp ⟨4,.inr (.inr (.inr ⟨h,rfl⟩))⟩
    omega) (fun h=>hp ⟨2,.inr (.inl ⟨h,rfl⟩)⟩) (fun h=>hp ⟨3,.inr (.inr (.inl ⟨h,rfl⟩))⟩)
   have ea:decide (zZD c=((0:Nat):Int))=false:=decide_eq_false hn
   simp(disch:=first|exact Xe|fail)only[zAK,zAw,d1,d2,e0,zLf h1 (show c≤1000 by omega),zPy,ea,AV.cells,zNu,↓Xa,Xb,Xc,↓reduceIte,Nat.reduceLT,Nat.reduceEqDiff,Nat.reduceBEq,Nat.reduceLeDiff,Nat.reduceAdd,Nat.reduceMul]
   exact SetR.dropTo hle (SetR.now hq)
  ·have e0:decide (((0:Nat):Int)<c)=false:=decide_eq_false (by omega)
   simp(disch:=first|exact Xe|fail)only[zAK,zAw,d1,d2,e0,AV.cells,zNu,↓Xa,Xb,Xc,↓reduceIte,Nat.reduceLT,Nat.reduceEqDiff,Nat.reduceBEq,Nat.reduceLeDiff,Nat.reduceAdd,Nat.reduceMul]
   exact SetR.dropTo hle (SetR.now hq)
end Go.Proofs.YtmndejlpfmmaiaaGreatDoor.Fw
