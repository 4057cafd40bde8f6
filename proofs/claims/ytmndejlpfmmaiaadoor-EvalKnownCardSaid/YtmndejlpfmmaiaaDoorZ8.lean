/- The texts Lay156 Kj Kh Kk Kl Km Ko Kp Kq Kr Ks Kt Ku Kv Kw Ee Ef Gn Go Eg Eh Ei Gp Gq Ej Kx Ek El Em Er Gs Gt Gv Es Et Gb Gc Gx Gy, joined. -/
import Derived.Test.YtmndejlpfmmaiaaDoorZ7
import Derived.Shelf.Strings.OnBuilder
import Derived.Test.YtmndejlpfmmaiaaDoorProg
import Derived.Lib.SmallJoins
set_option linter.unusedSimpArgs false
set_option linter.unusedVariables false
namespace Go.Proofs.YtmndejlpfmmaiaaDoor.Fw
open Go Go.Shelf Go.Proofs
end Go.Proofs.YtmndejlpfmmaiaaDoor.Fw
namespace Go.Proofs.YtmndejlpfmmaiaaDoor.Fw
open Go Go.Proofs.YtmndejlpfmmaiaaDoor.Ma Go.Shelf
set_option maxRecDepth 20000
end Go.Proofs.YtmndejlpfmmaiaaDoor.Fw
namespace Go.Proofs.YtmndejlpfmmaiaaDoor.Fw
open Go Go.Proofs.YtmndejlpfmmaiaaDoor.Ma
set_option maxRecDepth 20000
theorem load_map{α:Type}{f:α→AV}{l:List α}{H:AHeap}{K:AV→Prop}{i:Nat}(h:i<l.length):loadW H none (.cptr ((l.map f).drop i)) K=K (f (l[i])):=by
 have hi:i<(l.map f).length:=by simpa using h
 simp only[loadW,cellsAt,List.drop_eq_getElem_cons hi]
 simp
theorem idx_map{α:Type}{f:α→AV}{l:List α}{t:Bool}{k:IntKind}{K:AV→Prop}{i:Nat}(h:i<l.length):idxAW 1 (.seq l.length (l.map f) t) (.int k (i:Int)) K=K (.cptr ((l.map f).drop (i*1))):=idx_rw (by simp) h
def sumN:List Nat→Nat
 |[]=>0
 |a::l=>a+sumN l
section
variable {K:AV→Prop} {H:AHeap} {k:IntKind} {t:Bool} {l:List NumV} {i:Nat}
end
theorem PFn.loose1{P:Program}{f:FuncId}{x:AV}{rest:List AV}{r:AV}(h:PFn P f (loose x::rest) r):PFn P f (x::rest) r:=fun H Q hq=>
 ⟨(h H Q hq).1,fun c vs hH hok hs he=>(h H Q hq).2 c vs hH hok (by simpa using hs) fun i hi hi'=>by
  match i,hi with
  |0,_=>exact enc_loose _ _ (he 0 (by simp) hi')
  |i+1,hi=>exact he (i+1) (by simpa using hi) hi'⟩
theorem rowover_run{H:AHeap}{Q:AV→AHeap→Prop}{zs:List Int}{t:Bool}{c:Int}{k:Nat}(hz:RB4 k zs)(hc:Bd k c)(hk:k≤1000000)(hc0:c≠0)(hbig:zs.length≤1000000)
 (hq:(∀z,z∈zs→z%c=0)→∀y M,growC H 34 2 zs.length (IC (zs.map (· / c))) y M→Q (.tup [y,.int .i64 ((0:Nat):Int)]) M)
 (hn:(∃z,z∈zs∧z%c≠0)→Q (.tup [.seq 0 [] true,.int .i64 ((20:Nat):Int)]) H):Run Tryd.prog 121 [RowA zs t,IntA c] H Q:=by
 have nz:zs.length<9223372036854775808:=by omega
 have hs:decide (sgnI c=((0:Nat):Int))=false:=decide_eq_false (by unfold sgnI;rw[if_neg hc0];split<;>omega)
 refine enter121 (by simp) ?_
 simp(disch:=first|exact Xe|fail)only[ac121,cells_IntA,↓Xa,Xb,Xc,↓reduceIte,Nat.reduceLT,Nat.reduceEqDiff,Nat.reduceBEq,Nat.reduceLeDiff,Nat.reduceAdd,Nat.reduceMul]
 refine alloc_i fun p1 hp1=>?_
 have n1:=hp1
 simp(disch:=first|exact Xe|fail)only[fold_IntA,↓Xa,Xb,Xc,↓reduceIte,Nat.reduceLT,Nat.reduceEqDiff,Nat.reduceBEq,Nat.reduceLeDiff,Nat.reduceAdd,Nat.reduceMul]
 refine(sign_fn hc (by omega)).call ?_
 simp(disch:=first|exact Xe|fail)only[eql_int,hs,len_rw,↓Xa,Xb,Xc,↓reduceIte,Nat.reduceLT,Nat.reduceEqDiff,Nat.reduceBEq,Nat.reduceLeDiff,Nat.reduceAdd,Nat.reduceMul]
 refine W_loop (fun s:Nat×AV×AHeap=>⟨[],[(3,.ptr p1 2 0),(6,s.2.1),(15,RowA zs t),(16,.int .i64 (zs.length:Int)),(17,.int .i64 s.1)],s.2.2⟩)
  (fun s=>s.1≤zs.length∧(∀z,z∈zs.take s.1→z%c=0)∧growC (H.upd p1 (some (.row 34 0 [IntB c,IntD c]))) 34 2 s.1 (IC ((zs.map (· / c)).take s.1)) s.2.1 s.2.2) (fun s=>zs.length-s.1) (0,.seq 0 [] true,_) (Settle.now rfl) ⟨Nat.zero_le _,by simp,growC_nil⟩ ?_
 rintro⟨i,y,M⟩ ⟨h3,hall,hg⟩
 dsimp only at h3 hall hg ⊢
 have m1:M p1=some (.row 34 0 [IntB c,IntD c]):=growC_old hg (upd_same _ _ _)
 by_cases hi:i<zs.length
 ·have hi2:i<(zs.map (· / c)).length:=by simpa using hi
  simp(disch:=first|exact Xe|fail)only[hi,idx_IC,load_IC,↓Xa,Xb,Xc,↓reduceIte,Nat.reduceLT,Nat.reduceEqDiff,Nat.reduceBEq,Nat.reduceLeDiff,Nat.reduceAdd,Nat.reduceMul]
  refine alloc_i fun q1 hq1=>?_
  have a1:=ne_of_some m1 hq1
  simp(disch:=first|exact Xe|fail)only[cells_IntA,fold_IntA,m1,↓Xa,Xb,Xc,↓reduceIte,Nat.reduceLT,Nat.reduceEqDiff,Nat.reduceBEq,Nat.reduceLeDiff,Nat.reduceAdd,Nat.reduceMul]
  have hg1:=growC_upd (r:=.row 34 0 [IntB (zs[i]),IntD (zs[i])]) hg hq1
  refine(idivmod_fn (hz.at hi) (by omega) hc (by omega) hc0).call ?_
  simp(disch:=first|exact Xe|fail)only[↓Xa,Xb,Xc,↓reduceIte,Nat.reduceLT,Nat.reduceEqDiff,Nat.reduceBEq,Nat.reduceLeDiff,Nat.reduceAdd,Nat.reduceMul]
  refine alloc_i fun q2 hq2=>?_
  have a2:=ne_of_some m1 (upd_none.1 hq2).2
  simp(disch:=first|exact Xe|fail)only[↓Xa,Xb,Xc,↓reduceIte,Nat.reduceLT,Nat.reduceEqDiff,Nat.reduceBEq,Nat.reduceLeDiff,Nat.reduceAdd,Nat.reduceMul]
  refine alloc_i fun q3 hq3=>?_
  have a3:=ne_of_some m1 (upd_none.1 (upd_none.1 hq3).2).2
  have a32:=(upd_none.1 hq3).1
  simp(disch:=first|exact Xe|fail)only[cells_IntA,fold_IntA,↓Xa,Xb,Xc,↓reduceIte,Nat.reduceLT,Nat.reduceEqDiff,Nat.reduceBEq,Nat.reduceLeDiff,Nat.reduceAdd,Nat.reduceMul]
  have hg2:=growC_upd (r:=.row 34 0 [IntB (zs[i] / c),IntD (zs[i] / c)]) hg1 hq2
  have hq3':((M.upd q1 (some (.row 34 0 [IntB (zs[i]),IntD (zs[i])]))).upd q2 (some (.row 34 0 [IntB (zs[i] / c),IntD (zs[i] / c)]))) q3=none:=upd_none.2 ⟨a32,(upd_none.1 hq3).2⟩
  have hg3:=growC_upd (r:=.row 34 0 [IntB (zs[i]%c),IntD (zs[i]%c)]) hg2 hq3'
  have br:Bd k (zs[i]%c):=by
   have h1:=Int.emod_lt (zs[i]) hc0
   have h2:=Int.emod_nonneg (zs[i]) hc0
   unfold Bd at hc ⊢; omega
  refine(sign_fn br (by omega)).call ?_
  by_cases h0:zs[i]%c=0
  ·simp(disch:=first|exact Xe|fail)only[sgn_neq0,h0,repI1,cells_IntA,fold_IntA,↓Xa,Xb,Xc,↓reduceIte,Nat.reduceLT,Nat.reduceEqDiff,Nat.reduceBEq,Nat.reduceLeDiff,Nat.reduceAdd,Nat.reduceMul]
   rw[h0]at hg3
   refine app_C (m:=1) hg3 rfl cellI (by omega) (by omega) (by omega) fun y' M2 hg4=>?_
   have et:(zs.map (· / c))[i]=zs[i] / c:=by simp
   rw[← et,← IC_take hi2]at hg4
   have hle:Le (H.upd p1 (some (.row 34 0 [IntB c,IntD c]))) ((((H.upd p1 (some (.row 34 0 [IntB c,IntD c]))).upd q1 (some (.row 34 0 [IntB (zs[i]),IntD (zs[i])]))).upd q2 (some (.row 34 0 [IntB ((zs.map (· / c))[i]),IntD ((zs.map (· / c))[i])]))).upd q3 (some (.row 34 0 [IntB 0,IntD 0]))):=
    (((Le.refl _).updB (growC_none hg hq1)).updB (growC_none hg (upd_none.1 hq2).2)).updB (growC_none hg (upd_none.1 (upd_none.1 hq3).2).2)
   obtain⟨M3,hg5,hl5⟩:=growC_le2 hg4 hle
   simp(disch:=first|exact Xe|fail)only[↓Xa,Xb,Xc,↓reduceIte,Nat.reduceLT,Nat.reduceEqDiff,Nat.reduceBEq,Nat.reduceLeDiff,Nat.reduceAdd,Nat.reduceMul]
   refine Settle.dropTo hl5 (Settle.now ⟨(i+1,y',M3),by dsimp only;omega,⟨by dsimp only;omega,fun z hm=>?_,hg5⟩,rfl⟩)
   dsimp only at hm
   rw[List.take_add_one,List.getElem?_eq_getElem hi,Option.toList_some]at hm
   rcases List.mem_append.1 hm with hm|hm
   ·exact hall z hm
   ·rw[List.mem_singleton.1 hm];exact h0
  ·simp(disch:=first|exact Xe|fail)only[sgn_neq0,h0,rs121,↓Xa,Xb,Xc,↓reduceIte,Nat.reduceLT,Nat.reduceEqDiff,Nat.reduceBEq,Nat.reduceLeDiff,Nat.reduceAdd,Nat.reduceMul]
   refine SetR.dropTo ?_ (SetR.now (hn ⟨_,List.getElem_mem hi,h0⟩))
   have hH:Le H M:=fun o x ho=>growC_le hg o x (((Le.refl H).updB n1) o x ho)
   exact((hH.upd hq1).upd hq2).upd hq3'
 ·obtain rfl:i=zs.length:=by omega
  rw[List.take_of_length_le (by omega)]at hall
  rw[List.take_of_length_le (by simp)]at hg
  simp(disch:=first|exact Xe|fail)only[hi,↓Xa,Xb,Xc,↓reduceIte,Nat.reduceLT,Nat.reduceEqDiff,Nat.reduceBEq,Nat.reduceLeDiff,Nat.reduceAdd,Nat.reduceMul]
  refine Settle.now ?_
  simp(disch:=first|exact Xe|fail)only[rs121,↓Xa,Xb,Xc,↓reduceIte,Nat.reduceLT,Nat.reduceEqDiff,Nat.reduceBEq,Nat.reduceLeDiff,Nat.reduceAdd,Nat.reduceMul]
  obtain⟨M3,hg5,hl5⟩:=growC_le2 hg ((Le.refl H).updB n1)
  exact SetR.dropTo hl5 (SetR.now (hq hall y M3 hg5))
theorem RB4.map{k k':Nat}{zs:List Int}{f:Int→Int}(h:RB4 k zs)(hf: ∀z,Bd k z→Bd k' (f z)):RB4 k' (zs.map f):=
 ⟨fun z hz=>by obtain⟨y,hy,rfl⟩:=List.mem_map.1 hz;exact hf y (h.1 y hy),by rw[List.length_map];exact h.2⟩
theorem RB4.zip{k k1 k2:Nat}{zs ws:List Int}{f:Int→Int→Int}(h:RB4 k1 zs)(h2:RB4 k2 ws)(hl:zs.length=ws.length)(hf: ∀z w,Bd k1 z→Bd k2 w→Bd k (f z w)):RB4 k (zipI f zs ws):=
 ⟨fun z hz=>by
  obtain⟨i,hi,rfl⟩:=List.getElem_of_mem hz
  have hi2:i<zs.length:=by rw[zip_len hl]at hi;exact hi
  rw[zip_at hl hi2]
  exact hf _ _ (h.at hi2) (h2.at (by omega)),by rw[zip_len hl];exact h.2⟩
theorem RB4.mono{k k':Nat}{zs:List Int}(h:RB4 k zs)(hk:k≤k'):RB4 k' zs:=⟨fun z hz=>(h.1 z hz).mono hk,h.2⟩
section
variable {zs ws:List Int} {t t':Bool} {k:Nat}
end
theorem stP_row{H:AHeap}{n b L off ty es:Nat}{cells l:List AV}{K:AV→AHeap→Prop}(hL:cells.length=L)(hl:l.length=n)(ho:off+n≤L):stP H n b L off K (some l) (some (.row ty es cells))↔K .bot (H.upd b (some (.row ty es (splice cells off l)))):=by
 simp[stP,hL,hl,ho]
def RowO(M:AHeap)(y:AV)(zs:List Int):Prop:=(zs=[]∧y=.seq 0 [] true)∨(0<zs.length∧∃b,y=.own b (zs.length*2) 0 zs.length false∧M b=some (.row 34 2 (IC zs)))
theorem RowO.of{H M:AHeap}{n:Nat}{y:AV}{zs:List Int}(h:growC H 34 2 n (IC zs) y M)(hn:zs.length=n):RowO M y zs:=by
 subst hn
 rcases h with⟨h1,_,rfl,rfl⟩|⟨hn,_,b,hb,rfl,rfl⟩
 ·exact .inl ⟨List.length_eq_zero_iff.1 h1,rfl⟩
 ·exact .inr ⟨hn,b,rfl,upd_same _ _ _⟩
theorem RowO.le{M M':AHeap}{y:AV}{zs:List Int}(h:RowO M y zs)(hl:Le M M'):RowO M' y zs:=by
 rcases h with h|⟨hn,b,e,hb⟩
 ·exact .inl h
 ·exact .inr ⟨hn,b,e,hl _ _ hb⟩
theorem RowO.len{M:AHeap}{y:AV}{zs:List Int}(h:RowO M y zs)(hn:zs.length<9223372036854775808){K:AV→Prop}:lenW false y K=K (.int .i64 ((zs.length:Nat):Int)):=by
 rcases h with⟨rfl,rfl⟩|⟨h0,b,rfl,hb⟩<;>simp[lenW,hn]
section
variable {zs ws:List Int} {t t':Bool} {k:Nat}
end
theorem IC_app(a b:List Int):IC (a++b)=IC a++IC b:=by simp[IC,List.flatMap_append]
theorem repI(n:Nat):repA [.bool false,.seq 0 [] true] (n*2)=IC (List.replicate n 0):=by
 induction n with
 |zero=>simp[repA,IC]
 |succ n ih=>
  have e1:n*2%2=0:=by omega
  have e2:(n*2+1)%2=1:=by omega
  rw[List.replicate_succ',IC_snoc,← ih,show(n+1)*2=n*2+1+1 by omega]
  simp only[repA,List.range_succ,List.map_append,List.map_cons,List.map_nil,List.length_cons,List.length_nil,e1,e2]
  simp[IntB,IntD,digs_zero,LS,U,e1,e2]
theorem mks_I{H:AHeap}{ty n:Nat}{K:AV→AHeap→Prop}(h:n≤100000):mksW H ty 2 32 [.bool false,.seq 0 [] true] (.int .i64 (n:Int)) (.int .i64 (n:Int)) K↔∀b,H b=none→K (.own b (n*2) 0 n true) (H.upd b (some (.row ty 2 (IC (List.replicate n 0))))):=by
 have h1:(32:Int)*n≤281474976710656:=by omega
 have h2:(n:Int)<9223372036854775808:=by omega
 simp[mksW,h1,h2,repI]
theorem IC_tk{zs:List Int}{k:Nat}(h:k≤zs.length):(IC zs).take (k*2)=IC (zs.take k):=by
 conv=>lhs;rw[← List.take_append_drop k zs,IC_app]
 exact List.take_left' (by rw[IC_len,List.length_take];omega)
theorem IC_dp{zs:List Int}{k:Nat}(h:k≤zs.length):(IC zs).drop (k*2)=IC (zs.drop k):=by
 conv=>lhs;rw[← List.take_append_drop k zs,IC_app]
 exact List.drop_left' (by rw[IC_len,List.length_take];omega)
theorem IC_set{zs:List Int}{k:Nat}{v:Int}(h:k<zs.length):(IC zs).take (k*2)++[IntB v,IntD v]++(IC zs).drop (k*2+2)=IC (zs.set k v):=by
 rw[IC_tk (by omega),show k*2+2=(k+1)*2 by omega,IC_dp (by omega),List.set_eq_take_append_cons_drop,if_pos h,IC_app]
 simp[IC]
theorem idx_own2{G:AHeap}{b m i ty:Nat}{t:Bool}{cells:List AV}(hG:G b=some (.row ty 2 cells))(hl:cells.length=m*2)(hi:i<m){k:IntKind}{K:AV→Prop}:(liveS G (.own b (m*2) 0 m t)∧idxAW 2 (.own b (m*2) 0 m t) (.int k (i:Int)) K)↔K (.ptr b (m*2) (i*2)):=by simp[liveS,idxAW,hG,hl,hi]
theorem ldP_IC{ty m j:Nat}{zs:List Int}{K:AV→Prop}(hl:zs.length=m)(hj:j<zs.length):ldP (some 2) (m*2) (j*2) K (some (.row ty 2 (IC zs)))↔K (IntA (zs[j])):=by
 have h1:(IC zs).length=m*2:=by rw[IC_len,hl]
 have h2:j*2+2≤m*2:=by omega
 simp[ldP,ldC,h1,h2,IC_drop zs j hj,IntA_eq]
def minB(M:AHeap)(y:AV):AHeap:=fun o=>if o∈blkOf y then none else M o
theorem RowO.blk{M:AHeap}{y:AV}{zs:List Int}(h:RowO M y zs){b:Nat}(hb:b∈blkOf y):M b≠none:=by
 rcases h with⟨_,rfl⟩|⟨_,c,rfl,hc⟩
 ·simp[blkOf]at hb
 ·rw[List.mem_singleton.1 hb,hc];simp
theorem RowO.min{M:AHeap}{y z:AV}{zs:List Int}(h:RowO M y zs)(ha: ∀b,b∈blkOf z→b∉blkOf y):RowO (minB M z) y zs:=by
 rcases h with h|⟨hn,b,rfl,hb⟩
 ·exact .inl h
 ·refine .inr ⟨hn,b,rfl,?_⟩
  unfold minB
  rw[if_neg fun hz=>ha b hz (by simp[blkOf])];exact hb
def rgtE(p:PR)(n:Int):Nat:=if rightP p then(if n=p.ins then 0 else 5)else 80
theorem right10_fn(p:PR)(hp:p.ok)(n:Int):PFn Tryd.prog 67 [ProgA p,.int .i64 n] (.int .i64 ((rgtE p n:Nat):Int)):=by
 intro H Q hq
 obtain⟨k,hf⟩:=check_fn p hp
 refine enter67 (by simp) ?_
 simp(disch:=first|exact Xe|fail)only[ac67,cells_ProgA,↓Xa,Xb,Xc,↓reduceIte,Nat.reduceLT,Nat.reduceEqDiff,Nat.reduceBEq,Nat.reduceLeDiff,Nat.reduceAdd,Nat.reduceMul]
 refine alloc_i fun p1 hp1=>?_
 have n1:=hp1
 simp(disch:=first|exact Xe|fail)only[fold_ProgA,↓Xa,Xb,Xc,↓reduceIte,Nat.reduceLT,Nat.reduceEqDiff,Nat.reduceBEq,Nat.reduceLeDiff,Nat.reduceAdd,Nat.reduceMul]
 refine hf.call ?_
 unfold rgtE at hq
 by_cases h:rightP p
 ·rw[if_pos h]at hq ⊢
  have e0:decide (((0:Nat):Int)=((0:Nat):Int))=true:=rfl
  by_cases hn:n=p.ins
  ·rw[if_pos hn]at hq
   simp(disch:=first|exact Xe|fail)only[neq_int,e0,decide_eq_true hn,Bool.not_true,rs67,↓Xa,Xb,Xc,↓reduceIte,Nat.reduceLT,Nat.reduceEqDiff,Nat.reduceBEq,Nat.reduceLeDiff,Nat.reduceAdd,Nat.reduceMul]
   exact SetR.dropTo ((Le.refl H).updB n1) (SetR.now hq)
  ·rw[if_neg hn]at hq
   simp(disch:=first|exact Xe|fail)only[neq_int,e0,decide_eq_false hn,Bool.not_true,Bool.not_false,rs67,↓Xa,Xb,Xc,↓reduceIte,Nat.reduceLT,Nat.reduceEqDiff,Nat.reduceBEq,Nat.reduceLeDiff,Nat.reduceAdd,Nat.reduceMul]
   exact SetR.dropTo ((Le.refl H).updB n1) (SetR.now hq)
 ·rw[if_neg h]at hq ⊢
  have e0:decide (((80:Nat):Int)=((0:Nat):Int))=false:=rfl
  simp(disch:=first|exact Xe|fail)only[neq_int,e0,Bool.not_false,rs67,↓Xa,Xb,Xc,↓reduceIte,Nat.reduceLT,Nat.reduceEqDiff,Nat.reduceBEq,Nat.reduceLeDiff,Nat.reduceAdd,Nat.reduceMul]
  exact SetR.dropTo ((Le.refl H).updB n1) (SetR.now hq)
theorem power10_fn{n:Nat}(hn:n≤65536):PFn Tryd.prog 143 [.int .i64 (n:Int)] (IntA (2^n)):=by
 intro H Q hq
 refine enter143 (by simp) ?_
 simp(disch:=first|exact Xe|fail)only[ac143,↓Xa,Xb,Xc,↓reduceIte,Nat.reduceLT,Nat.reduceEqDiff,Nat.reduceBEq,Nat.reduceLeDiff,Nat.reduceAdd,Nat.reduceMul]
 refine alloc_i fun p1 hp1=>?_
 have n1:=hp1
 simp(disch:=first|exact Xe|fail)only[↓Xa,Xb,Xc,↓reduceIte,Nat.reduceLT,Nat.reduceEqDiff,Nat.reduceBEq,Nat.reduceLeDiff,Nat.reduceAdd,Nat.reduceMul]
 refine(of_fn (n:=((1:Nat):Int)) (by omega)).call ?_
 simp(disch:=first|exact Xe|fail)only[↓Xa,Xb,Xc,↓reduceIte,Nat.reduceLT,Nat.reduceEqDiff,Nat.reduceBEq,Nat.reduceLeDiff,Nat.reduceAdd,Nat.reduceMul]
 refine(ishl_fn (Bd.i64 (n:=((1:Nat):Int)) (by omega)) (by omega) hn).call ?_
 rw[show((1:Nat):Int)*2^n=2^n from Int.one_mul _]
 simp(disch:=first|exact Xe|fail)only[↓Xa,Xb,Xc,↓reduceIte,Nat.reduceLT,Nat.reduceEqDiff,Nat.reduceBEq,Nat.reduceLeDiff,Nat.reduceAdd,Nat.reduceMul]
 refine alloc_i fun p2 hp2=>?_
 have n2:=hp2
 simp only[upd_none]at n2
 obtain⟨_,n2⟩:=n2
 simp(disch:=first|exact Xe|fail)only[cells_IntA,fold_IntA,rs143,↓Xa,Xb,Xc,↓reduceIte,Nat.reduceLT,Nat.reduceEqDiff,Nat.reduceBEq,Nat.reduceLeDiff,Nat.reduceAdd,Nat.reduceMul]
 exact SetR.dropTo (((Le.refl H).updB n1).updB n2) (SetR.now hq)
theorem idx_own2'{G:AHeap}{b m i ty:Nat}{t:Bool}{cells:List AV}(hG:G b=some (.row ty 2 cells))(hl:cells.length=m*2)(hi:i<m){k:IntKind}{K:AV→Prop}:(liveS G (.own b (m*2) 0 m t)∧idxAW 2 (.own b (m*2) 0 m t) (.int k (i:Int)) K)↔K (.ptr b (m*2) (i*2)):=idx_own2 hG hl hi
theorem un_atR{A B:AHeap}{b:Nat}(h:A b=none):Un A B b=B b:=by simp[Un,h]
theorem le_unR{A B B':AHeap}(h:Le B B'):Le (Un A B) (Un A B'):=fun o x ho=>by
 unfold Un at ho ⊢
 cases e:A o with
 |some y=>rw[e]at ho;exact ho
 |none=>rw[e]at ho;exact h o x ho
theorem dj_le{A B B':AHeap}(h:Dj A B')(hl:Le B B'):Dj A B:=fun i=>by
 rcases h i with h|h
 ·exact .inl h
 ·right
  cases e:B i with
  |none=>rfl
  |some x=>have:=hl i x e;rw[h]at this;cases this
theorem callW_mono{P:Program}{f:AV}{args:List AV}{H:AHeap}{K K':AV→AHeap→Prop}(h:callW P f args H K)(hk: ∀r H',K r H'→K' r H'):callW P f args H K':=by
 unfold callW at h ⊢
 split at h
 ·exact Run.mono h hk
 ·exact YieldW.mono h hk
 ·exact h.elim
theorem stP_IC{H:AHeap}{b N w ty:Nat}{x:Int}{regs:List Int}{K:AV→AHeap→Prop}(hN:regs.length=N)(hw:w<N):stP H 2 b (N*2) (w*2) K (some [IntB x,IntD x]) (some (.row ty 2 (IC regs)))↔K .bot (H.upd b (some (.row ty 2 (IC (regs.set w x))))):=by
 rw[stP_row (n:=2) (l:=[IntB x,IntD x]) (by rw[IC_len,hN]) rfl (by omega)]
 have e:splice (IC regs) (w*2) [IntB x,IntD x]=IC (regs.set w x):=IC_set (by omega)
 rw[e]
def CodeV(C:AHeap)(v:AV)(l:List Ins):Prop:=v.cell=true∧(∀K,lenW false v K=K (.int .i64 ((l.length:Nat):Int)))∧∃qf:Nat→AV,∀G,Le C G→Lent G v (CodeA l false)∧∀i(h:i<l.length),(∀k K,(liveS G v∧idxAW 5 v (.int k (i:Int)) K)↔K (qf i))∧∀K,loadW G (some 5) (qf i) K↔K (InsA (l[i]))
def OutsV(C:AHeap)(v:AV)(l:List Int):Prop:=v.cell=true∧(∀K,lenW false v K=K (.int .i64 ((l.length:Nat):Int)))∧∃qf:Nat→AV,∀G,Le C G→Lent G v (OutsA l false)∧∀i(h:i<l.length),(∀k K,(liveS G v∧idxAW 1 v (.int k (i:Int)) K)↔K (qf i))∧∀K,loadW G none (qf i) K↔K (.int .i64 (l[i]))
theorem Lent.loose{G:AHeap}{n:Nat}{cells:List AV}{t:Bool}:Lent G (.seq n cells t) (.seq n cells false):=fun c _ _ _ h=>enc_loose _ _ (h.later (c.dropTo_later le_nil))
theorem CodeV.seq{C:AHeap}{l:List Ins}{t:Bool}(hl:l.length<9223372036854775808):CodeV C (CodeA l t) l:=⟨rfl,fun K=>len_CodeA hl,fun i=>.cptr ((l.flatMap insC).drop (i*5)),fun G _=>⟨Lent.loose,fun i h=>⟨fun k K=>by rw[idx_CodeA h];simp[liveS],fun K=>by rw[load_CodeA h]⟩⟩⟩
theorem OutsV.seq{C:AHeap}{l:List Int}{t:Bool}(hl:l.length<9223372036854775808):OutsV C (OutsA l t) l:=⟨rfl,fun K=>len_OutsA hl,fun i=>.cptr ((l.map fun n=>AV.int .i64 n).drop i),fun G _=>⟨Lent.loose,fun i h=>⟨fun k K=>by rw[idx_OutsA h];simp[liveS],fun K=>by rw[load_OutsA h]⟩⟩⟩
theorem lenW_own{b L n:Nat}{t:Bool}(hn:n<9223372036854775808){K:AV→Prop}:lenW false (.own b L 0 n t) K=K (.int .i64 ((n:Nat):Int)):=by simp[lenW,hn]
def ProgO(p:PR)(cv ov:AV):AV:=.agg [.int .i64 p.ins,.int .i64 p.regs,cv,ov]
theorem cells_ProgO{p:PR}{cv ov:AV}(h1:cv.cell=true)(h2:ov.cell=true):(ProgO p cv ov).cells=some [.int .i64 p.ins,.int .i64 p.regs,cv,ov]:=by
 have e:([.int .i64 p.ins,.int .i64 p.regs,cv,ov]:List AV).all AV.cell=true:=by
  rw[List.all_cons,List.all_cons,List.all_cons,List.all_cons,h1,h2];rfl
 show(if([.int .i64 p.ins,.int .i64 p.regs,cv,ov]:List AV).all AV.cell=true then _ else _)=_
 rw[if_pos e]
theorem le_unB{A B:AHeap}(h:Dj A B):Le B (Un A B):=fun o x ho=>by rw[un_atR (dj_atR h ho),ho]
def PtV(A B:Int):AV:=.agg [.int .i64 A,.int .i64 B]
theorem cells_PtV{A B:Int}:(PtV A B).cells=some [.int .i64 A,.int .i64 B]:=rfl
def inPt(A B:Int):Bool:=decide (-16≤A∧A≤16∧ -16≤B∧B≤16)
theorem within11_fn{n:Int}:PFn Tryd.prog 76 [.int .i64 n] (.bool (decide (-16≤n∧n≤16))):=by
 intro H Q hq
 refine enter76 (by simp) ?_
 by_cases h1: -16≤n
 ·by_cases h2:n≤16
  ·rw[decide_eq_true ⟨h1,h2⟩]at hq
   have e1:decide (-16≤n)=true:=decide_eq_true h1
   have e2:decide (n≤((16:Nat):Int))=true:=decide_eq_true h2
   simp(disch:=first|exact Xe|fail)only[ac76,geqI,leqI,e1,e2,rs76,↓Xa,Xb,Xc,↓reduceIte,Nat.reduceLT,Nat.reduceEqDiff,Nat.reduceBEq,Nat.reduceLeDiff,Nat.reduceAdd,Nat.reduceMul]
   exact SetR.now hq
  ·rw[decide_eq_false (by omega)]at hq
   have e1:decide (-16≤n)=true:=decide_eq_true h1
   have e2:decide (n≤((16:Nat):Int))=false:=decide_eq_false h2
   simp(disch:=first|exact Xe|fail)only[ac76,geqI,leqI,e1,e2,rs76,↓Xa,Xb,Xc,↓reduceIte,Nat.reduceLT,Nat.reduceEqDiff,Nat.reduceBEq,Nat.reduceLeDiff,Nat.reduceAdd,Nat.reduceMul]
   exact SetR.now hq
 ·rw[decide_eq_false (by omega)]at hq
  have e1:decide (-16≤n)=false:=decide_eq_false h1
  simp(disch:=first|exact Xe|fail)only[ac76,geqI,leqI,e1,rs76,↓Xa,Xb,Xc,↓reduceIte,Nat.reduceLT,Nat.reduceEqDiff,Nat.reduceBEq,Nat.reduceLeDiff,Nat.reduceAdd,Nat.reduceMul]
  exact SetR.now hq
theorem pin11_fn{A B:Int}:PFn Tryd.prog 37 [PtV A B] (.bool (inPt A B)):=by
 intro H Q hq
 refine enter37 (by simp) ?_
 simp(disch:=first|exact Xe|fail)only[ac37,cells_PtV,↓Xa,Xb,Xc,↓reduceIte,Nat.reduceLT,Nat.reduceEqDiff,Nat.reduceBEq,Nat.reduceLeDiff,Nat.reduceAdd,Nat.reduceMul]
 refine alloc_i fun p1 hp1=>?_
 have n1:=hp1
 simp(disch:=first|exact Xe|fail)only[↓Xa,Xb,Xc,↓reduceIte,Nat.reduceLT,Nat.reduceEqDiff,Nat.reduceBEq,Nat.reduceLeDiff,Nat.reduceAdd,Nat.reduceMul]
 refine within11_fn.call ?_
 by_cases h1: -16≤A∧A≤16
 ·rw[decide_eq_true h1]
  simp(disch:=first|exact Xe|fail)only[↓Xa,Xb,Xc,↓reduceIte,Nat.reduceLT,Nat.reduceEqDiff,Nat.reduceBEq,Nat.reduceLeDiff,Nat.reduceAdd,Nat.reduceMul]
  refine within11_fn.call ?_
  have e:decide (-16≤B∧B≤16)=inPt A B:=by unfold inPt;congr 1;simp[h1.1,h1.2]
  rw[e]
  simp(disch:=first|exact Xe|fail)only[rs37,↓Xa,Xb,Xc,↓reduceIte,Nat.reduceLT,Nat.reduceEqDiff,Nat.reduceBEq,Nat.reduceLeDiff,Nat.reduceAdd,Nat.reduceMul]
  exact SetR.dropTo ((Le.refl H).updB n1) (SetR.now hq)
 ·rw[decide_eq_false h1]
  have e:inPt A B=false:=decide_eq_false (by omega)
  rw[e]at hq
  simp(disch:=first|exact Xe|fail)only[rs37,↓Xa,Xb,Xc,↓reduceIte,Nat.reduceLT,Nat.reduceEqDiff,Nat.reduceBEq,Nat.reduceLeDiff,Nat.reduceAdd,Nat.reduceMul]
  exact SetR.dropTo ((Le.refl H).updB n1) (SetR.now hq)
theorem fold_PtV{A B:Int}:AV.agg [.int .i64 A,.int .i64 B]=PtV A B:=rfl
theorem powBd{A:Int}{i:Nat}(hi:i≤16)(h1: -16≤A)(h2:A≤16):Bd 3 (A^i):=by
 unfold Bd
 rw[Int.natAbs_pow]
 have e1:A.natAbs^i≤16^i:=Nat.pow_le_pow_left (by omega) i
 have e2:(16:Nat)^i≤16^16:=Nat.pow_le_pow_right (by omega) hi
 have e3:(16:Nat)^16<4294967296^3:=by decide
 omega
def pows2(A B:Int)(n k:Nat):List Int:=(List.range n).map fun i=>if i<k then A^i else A^i*B^(n-1-i)
def powsP(A B:Int)(n:Nat):List Int:=(List.range n).map fun i=>A^i*B^(n-1-i)
theorem powers_fn{A B:Int}{n:Nat}(hn:n≤16)(hin:inPt A B=true):PFn Tryd.prog 78 [PtV A B,.int .i64 (n:Int)] (.tup [RowA (powsP A B n) true,.int .i64 ((0:Nat):Int)]):=by
 intro H Q hq
 refine enter78 (by simp) ?_
 simp(disch:=first|exact Xe|fail)only[ac78,cells_PtV,↓Xa,Xb,Xc,↓reduceIte,Nat.reduceLT,Nat.reduceEqDiff,Nat.reduceBEq,Nat.reduceLeDiff,Nat.reduceAdd,Nat.reduceMul]
 refine alloc_i fun p2 n2=>?_
 simp(disch:=first|exact Xe|fail)only[fold_PtV,↓Xa,Xb,Xc,↓reduceIte,Nat.reduceLT,Nat.reduceEqDiff,Nat.reduceBEq,Nat.reduceLeDiff,Nat.reduceAdd,Nat.reduceMul]
 refine pin11_fn.call ?_
 have d1:decide (((n:Nat):Int)<((0:Nat):Int))=false:=decide_eq_false (by omega)
 have d2:decide (((16:Nat):Int)<((n:Nat):Int))=false:=decide_eq_false (by omega)
 simp(disch:=first|exact Xe|fail)only[hin,lss_int,gtr_int,d1,d2,mks_I,↓Xa,Xb,Xc,↓reduceIte,Nat.reduceLT,Nat.reduceEqDiff,Nat.reduceBEq,Nat.reduceLeDiff,Nat.reduceAdd,Nat.reduceMul]
 intro b hb
 have hbp:Ap b p2:=(upd_none.1 hb).1
 refine(of_fn (n:=1) (by omega)).call ?_
 simp(disch:=first|exact Xe|fail)only[↓Xa,Xb,Xc,↓reduceIte,Nat.reduceLT,Nat.reduceEqDiff,Nat.reduceBEq,Nat.reduceLeDiff,Nat.reduceAdd,Nat.reduceMul]
 refine(of_fn (n:=1) (by omega)).call ?_
 simp(disch:=first|exact Xe|fail)only[↓Xa,Xb,Xc,↓reduceIte,Nat.reduceLT,Nat.reduceEqDiff,Nat.reduceBEq,Nat.reduceLeDiff,Nat.reduceAdd,Nat.reduceMul]
 refine alloc_i fun q7 hq7=>?_
 simp(disch:=first|exact Xe|fail)only[↓Xa,Xb,Xc,↓reduceIte,Nat.reduceLT,Nat.reduceEqDiff,Nat.reduceBEq,Nat.reduceLeDiff,Nat.reduceAdd,Nat.reduceMul]
 refine alloc_i fun q8 hq8=>?_
 obtain⟨a87,hq8'⟩:=upd_none.1 hq8
 obtain⟨a8b,hq8''⟩:=upd_none.1 hq8'
 obtain⟨a8p,hq8h⟩:=upd_none.1 hq8''
 obtain⟨a7b,hq7'⟩:=upd_none.1 hq7
 obtain⟨a7p,hq7h⟩:=upd_none.1 hq7'
 simp(disch:=first|exact Xe|fail)only[cells_IntA,a87,a8b,a8p,a7b,a7p,a87.symm,a8b.symm,a8p.symm,a7b.symm,a7p.symm,hbp,hbp.symm,↓Xa,Xb,Xc,↓reduceIte,Nat.reduceLT,Nat.reduceEqDiff,Nat.reduceBEq,Nat.reduceLeDiff,Nat.reduceAdd,Nat.reduceMul]
 have hln:(n:Int)<9223372036854775808:=by omega
 have hA: -16≤A∧A≤16∧ -16≤B∧B≤16:=of_decide_eq_true hin
 let F:=fun(M:AHeap) (l:List Int) (x y:Int)=>M p2=some (.row 73 0 [.int .i64 A,.int .i64 B])∧M b=some (.row 34 2 (IC l))∧M q7=some (.row 34 0 [IntB x,IntD x])∧M q8=some (.row 34 0 [IntB y,IntD y])∧∀o,Ap o b→Ap o p2→Ap o q7→Ap o q8→M o=H o
 have F0:F ((((H.upd p2 (some (.row 73 0 [.int .i64 A,.int .i64 B]))).upd b (some (.row 34 2 (IC (List.replicate n 0))))).upd q7 (some (.row 34 0 [IntB 1,IntD 1]))).upd q8 (some (.row 34 0 [IntB 1,IntD 1]))) (List.replicate n 0) 1 1:=by
  refine⟨?_,?_,?_,?_,fun o o1 o2 o3 o4=>?_⟩
  ·rw[upd_other _ _ a8p.symm,upd_other _ _ a7p.symm,upd_other _ _ hbp.symm,upd_same]
  ·rw[upd_other _ _ a8b.symm,upd_other _ _ a7b.symm,upd_same]
  ·rw[upd_other _ _ a87.symm,upd_same]
  ·rw[upd_same]
  ·rw[upd_other _ _ o4,upd_other _ _ o3,upd_other _ _ o1,upd_other _ _ o2]
 generalize((((H.upd p2 (some (.row 73 0 [.int .i64 A,.int .i64 B]))).upd b (some (.row 34 2 (IC (List.replicate n 0))))).upd q7 (some (.row 34 0 [IntB 1,IntD 1]))).upd q8 (some (.row 34 0 [IntB 1,IntD 1])))=M0 at*
 refine W_loop (fun s:Nat×AHeap=>⟨[],[(1,.int .i64 (n:Int)),(2,.ptr p2 2 0),(6,.own b (n*2) 0 n true),(7,.ptr q7 2 0),(8,.ptr q8 2 0),(27,.int .i64 (n:Int)),(28,.int .i64 s.1)],s.2⟩)
  (fun s=>s.1≤n∧F s.2 ((List.range s.1).map (fun i=>A^i)++List.replicate (n-s.1) 0) (A^s.1) 1) (fun s=>n-s.1) (0,M0) (Settle.now rfl) ⟨Nat.zero_le _,by simpa using F0⟩ ?_
 rintro⟨i,M⟩ ⟨hi0,f1,f2,f3,f4,f5⟩
 dsimp only at hi0 f1 f2 f3 f4 f5 ⊢
 by_cases hi:i<n
 ·generalize hl:((List.range i).map (fun i=>A^i)++List.replicate (n-i) 0)=l at*
  have hll:l.length=n:=by rw[← hl];simp;omega
  have hil:i<l.length:=by omega
  simp(disch:=first|exact Xe|fail)only[hi,f1,f2,f3,f4,fold_IntA,cells_IntA,stP_IC hll hi,a7b,a7b.symm,a87,a87.symm,a8b,hbp,hbp.symm,a7p,a7p.symm,↓Xa,Xb,Xc,↓reduceIte,Nat.reduceLT,Nat.reduceEqDiff,Nat.reduceBEq,Nat.reduceLeDiff,Nat.reduceAdd,Nat.reduceMul]
  refine⟨by rw[IC_len,hll],?_⟩
  have bA:=powBd (by omega:i≤16) hA.1 hA.2.1
  refine(timesi_fn bA (by omega) (by omega)).call ?_
  simp(disch:=first|exact Xe|fail)only[f1,f3,f4,cells_IntA,a7b,a7b.symm,a87,a87.symm,a8b,hbp,hbp.symm,a7p,a7p.symm,↓Xa,Xb,Xc,↓reduceIte,Nat.reduceLT,Nat.reduceEqDiff,Nat.reduceBEq,Nat.reduceLeDiff,Nat.reduceAdd,Nat.reduceMul]
  refine Settle.now ⟨(i+1,(M.upd b (some (.row 34 2 (IC (l.set i (A^i)))))).upd q7 (some (.row 34 0 [IntB (A^i*A),IntD (A^i*A)]))),by dsimp only;omega,⟨by dsimp only;omega,?_,?_,?_,?_,fun o o1 o2 o3 o4=>?_⟩,rfl⟩
  ·dsimp only
   rw[upd_other _ _ a7p.symm,upd_other _ _ hbp.symm,f1]
  ·dsimp only
   rw[upd_other _ _ a7b.symm,upd_same]
   have e:l.set i (A^i)=(List.range (i+1)).map (fun i=>A^i)++List.replicate (n-(i+1)) 0:=by
    rw[← hl,List.set_append_right _ _ (by simp),show i-((List.range i).map fun i=>A^i).length=0 by simp,show n-i=(n-(i+1))+1 by omega,List.replicate_succ,List.set_cons_zero,List.range_succ,List.map_append,List.append_assoc]
    rfl
   rw[e]
  ·dsimp only
   rw[upd_same,Int.pow_succ]
  ·dsimp only
   rw[upd_other _ _ a87,upd_other _ _ a8b,f4]
  ·dsimp only
   rw[upd_other _ _ o3,upd_other _ _ o1];exact f5 o o1 o2 o3 o4
 ·obtain rfl:i=n:=by omega
  have eL:(List.range i).map (fun i=>A^i)++List.replicate (i-i) 0=pows2 A B i i:=by
   rw[Nat.sub_self,List.replicate_zero,List.append_nil]
   exact List.map_congr_left fun j hj=>by rw[if_pos (List.mem_range.1 hj)]
  rw[eL]at f2
  simp(disch:=first|exact Xe|fail)only[hi,f1,f2,f3,f4,bin_dec (show i<9223372036854775808 by omega),↓Xa,Xb,Xc,↓reduceIte,Nat.reduceLT,Nat.reduceEqDiff,Nat.reduceBEq,Nat.reduceLeDiff,Nat.reduceAdd,Nat.reduceMul]
  refine Settle.now ?_
  simp(disch:=first|exact Xe|fail)only[bin_dec (show i<9223372036854775808 by omega),↓Xa,Xb,Xc,↓reduceIte,Nat.reduceLT,Nat.reduceEqDiff,Nat.reduceBEq,Nat.reduceLeDiff,Nat.reduceAdd,Nat.reduceMul]
  refine W_loop (fun s:Nat×AHeap=>⟨[],[(2,.ptr p2 2 0),(6,.own b (i*2) 0 i true),(8,.ptr q8 2 0),(10,.int .i64 (dn s.1))],s.2⟩)
   (fun s=>s.1≤i∧s.2 p2=some (.row 73 0 [.int .i64 A,.int .i64 B])∧s.2 b=some (.row 34 2 (IC (pows2 A B i s.1)))∧s.2 q8=some (.row 34 0 [IntB (B^(i-s.1)),IntD (B^(i-s.1))])∧∀o,Ap o b→Ap o p2→Ap o q7→Ap o q8→s.2 o=H o) (fun s=>s.1) (i,M) (Settle.now rfl) ⟨Nat.le_refl _,f1,f2,by rw[Nat.sub_self,Int.pow_zero];exact f4,f5⟩ ?_
  rintro⟨k,M2⟩ ⟨hk0,g1,g2,g4,g5⟩
  dsimp only at hk0 g1 g2 g4 g5 ⊢
  cases k with
  |zero=>
   have dz:decide (((0:Nat):Int)≤ -1)=false:=by decide
   simp(disch:=first|exact Xe|fail)only[dn_zero,geqI,dz,↓Xa,Xb,Xc,↓reduceIte,Nat.reduceLT,Nat.reduceEqDiff,Nat.reduceBEq,Nat.reduceLeDiff,Nat.reduceAdd,Nat.reduceMul]
   refine Settle.now ?_
   simp(disch:=first|exact Xe|fail)only[rs78,↓Xa,Xb,Xc,↓reduceIte,Nat.reduceLT,Nat.reduceEqDiff,Nat.reduceBEq,Nat.reduceLeDiff,Nat.reduceAdd,Nat.reduceMul]
   refine SetR.frz b g2 ?_
   have e0:pows2 A B i 0=powsP A B i:=by simp[pows2,powsP]
   have el:(IC (powsP A B i)).length=i*2:=by rw[IC_len];simp[powsP]
   have ell:(powsP A B i).length=i:=by simp[powsP]
   rw[e0]
   have e:frz b 2 (IC (powsP A B i)) (.tup [.own b (i*2) 0 i true,.int .i64 ((0:Nat):Int)])=.tup [RowA (powsP A B i) true,.int .i64 ((0:Nat):Int)]:=by simp[frz,frz2,frz1,el,ell,RowA,List.take_of_length_le]
   rw[e]
   refine SetR.dropTo (fun o x ho=>?_) (SetR.now hq)
   have o1:Ap o b:=by rintro rfl;rw[(upd_none.1 hb).2]at ho;cases ho
   rw[upd_other _ _ o1,g5 o o1 (by rintro rfl;rw[n2]at ho;cases ho) (by rintro rfl;rw[hq7h]at ho;cases ho) (by rintro rfl;rw[hq8h]at ho;cases ho)]
   exact ho
  |succ k=>
   have dz:decide (((0:Nat):Int)≤(k:Int))=true:=decide_eq_true (by omega)
   have hki:k<i:=by omega
   have hpl:(pows2 A B i (k+1)).length=i:=by simp[pows2]
   have hkl:k<(pows2 A B i (k+1)).length:=by omega
   have ek:(pows2 A B i (k+1))[k]=A^k:=by simp[pows2]
   generalize hl:pows2 A B i (k+1)=l at*
   simp(disch:=first|exact Xe|fail)only[dn_succ,geqI,dz,hki,g1,g2,g4,ldP_IC hpl hkl,ek,fold_IntA,cells_IntA,↓Xa,Xb,Xc,↓reduceIte,Nat.reduceLT,Nat.reduceEqDiff,Nat.reduceBEq,Nat.reduceLeDiff,Nat.reduceAdd,Nat.reduceMul]
   have bA:=powBd (show k≤16 by omega) hA.1 hA.2.1
   have bB:=powBd (show i-(k+1)≤16 by omega) hA.2.2.1 hA.2.2.2
   refine⟨by rw[IC_len,hpl],?_⟩
   refine PFn.dcall (muli_fn bA (by omega) bB (by omega)) ?_
   simp(disch:=first|exact Xe|fail)only[hki,g1,g2,g4,fold_IntA,cells_IntA,stP_IC hpl hki,a8b,a8b.symm,hbp,hbp.symm,a8p,a8p.symm,↓Xa,Xb,Xc,↓reduceIte,Nat.reduceLT,Nat.reduceEqDiff,Nat.reduceBEq,Nat.reduceLeDiff,Nat.reduceAdd,Nat.reduceMul]
   refine⟨by rw[IC_len,hpl],?_⟩
   refine(timesi_fn bB (by omega) (by omega)).call ?_
   simp(disch:=first|exact Xe|fail)only[bin_dec (show k<9223372036854775808 by omega),g1,g2,g4,cells_IntA,a8b,a8b.symm,hbp,hbp.symm,a8p,a8p.symm,↓Xa,Xb,Xc,↓reduceIte,Nat.reduceLT,Nat.reduceEqDiff,Nat.reduceBEq,Nat.reduceLeDiff,Nat.reduceAdd,Nat.reduceMul]
   refine Settle.now ⟨(k,(M2.upd b (some (.row 34 2 (IC (l.set k (A^k*B^(i-(k+1)))))))).upd q8 (some (.row 34 0 [IntB (B^(i-(k+1))*B),IntD (B^(i-(k+1))*B)]))),by dsimp only;omega,⟨by dsimp only;omega,?_,?_,?_,fun o o1 o2 o3 o4=>?_⟩,rfl⟩
   ·dsimp only
    rw[upd_other _ _ a8p.symm,upd_other _ _ hbp.symm,g1]
   ·dsimp only
    rw[upd_other _ _ a8b.symm,upd_same]
    have e:l.set k (A^k*B^(i-(k+1)))=pows2 A B i k:=by
     rw[← hl]
     refine List.ext_getElem (by simp[pows2]) fun j hj1 hj2=>?_
     rw[List.getElem_set]
     by_cases ej:k=j
     ·subst ej
      rw[if_pos rfl]
      simp only[pows2,List.getElem_map,List.getElem_range]
      rw[if_neg (Nat.lt_irrefl k),show i-1-k=i-(k+1) by omega]
     ·rw[if_neg ej]
      simp only[pows2,List.getElem_map,List.getElem_range]
      by_cases hjk:j<k
      ·rw[if_pos hjk,if_pos (by omega)]
      ·rw[if_neg hjk,if_neg (by omega)]
    rw[e]
   ·dsimp only
    rw[upd_same,← Int.pow_succ,show(i-(k+1)).succ=i-k by omega]
   ·dsimp only
    rw[upd_other _ _ o4,upd_other _ _ o1];exact g5 o o1 o2 o3 o4
def valN(A B:Int)(xs:List Int):Nat→Int
 |0=>0
 |k+1=>valN A B xs k+xs.getD k 0*(A^k*B^(xs.length-1-k))
theorem valN_bd{A B:Int}{xs:List Int}{k0:Nat}(hx: ∀z,z∈xs→Bd k0 z)(hA: -16≤A∧A≤16∧ -16≤B∧B≤16)(hl:xs.length≤16): ∀k,k≤xs.length→Bd (k0+6+k) (valN A B xs k)
 |0,_=>Bd.zero _
 |k+1,h=>by
  have ih:=valN_bd hx hA hl k (by omega)
  have e:xs.getD k 0=xs[k]'(by omega):=by rw[List.getD_eq_getElem?_getD,List.getElem?_eq_getElem (by omega)];rfl
  have b1:=hx _ (List.getElem_mem (show k<xs.length by omega))
  have b2:=(b1.mul ((powBd (A:=A) (show k≤16 by omega) hA.1 hA.2.1).mul (powBd (A:=B) (show xs.length-1-k≤16 by omega) hA.2.2.1 hA.2.2.2)))
  rw[valN,e]
  exact(ih.add (b2.mono (by omega))).mono (by omega)
theorem value_fn{A B:Int}{xs:List Int}{t:Bool}{k0:Nat}(hx: ∀z,z∈xs→Bd k0 z)(hk:k0≤100000)(hl0:1≤xs.length)(hl:xs.length≤16)(hin:inPt A B=true):PFn Tryd.prog 40 [RowA xs t,PtV A B] (.tup [IntA (valN A B xs xs.length),.int .i64 ((0:Nat):Int)]):=by
 intro H Q hq
 have hA: -16≤A∧A≤16∧ -16≤B∧B≤16:=of_decide_eq_true hin
 have hn:xs.length<9223372036854775808:=by omega
 refine enter40 (by simp) ?_
 simp(disch:=first|exact Xe|fail)only[ac40,cells_PtV,↓Xa,Xb,Xc,↓reduceIte,Nat.reduceLT,Nat.reduceEqDiff,Nat.reduceBEq,Nat.reduceLeDiff,Nat.reduceAdd,Nat.reduceMul]
 refine alloc_i fun p3 n3=>?_
 simp(disch:=first|exact Xe|fail)only[↓Xa,Xb,Xc,↓reduceIte,Nat.reduceLT,Nat.reduceEqDiff,Nat.reduceBEq,Nat.reduceLeDiff,Nat.reduceAdd,Nat.reduceMul]
 refine alloc_i fun p4 n4=>?_
 obtain⟨a43,n4'⟩:=upd_none.1 n4
 have d1:decide (((xs.length:Nat):Int)<((1:Nat):Int))=false:=decide_eq_false (by omega)
 have d2:decide (((16:Nat):Int)<((xs.length:Nat):Int))=false:=decide_eq_false (by omega)
 simp(disch:=first|exact Xe|fail)only[len_rw,hn,lss_int,gtr_int,d1,d2,a43,a43.symm,fold_PtV,↓Xa,Xb,Xc,↓reduceIte,Nat.reduceLT,Nat.reduceEqDiff,Nat.reduceBEq,Nat.reduceLeDiff,Nat.reduceAdd,Nat.reduceMul]
 refine pin11_fn.call ?_
 simp(disch:=first|exact Xe|fail)only[hin,a43,a43.symm,fold_PtV,len_rw,hn,↓Xa,Xb,Xc,↓reduceIte,Nat.reduceLT,Nat.reduceEqDiff,Nat.reduceBEq,Nat.reduceLeDiff,Nat.reduceAdd,Nat.reduceMul]
 refine(powers_fn hl hin).call ?_
 have d0:decide (((0:Nat):Int)=((0:Nat):Int))=true:=rfl
 simp(disch:=first|exact Xe|fail)only[neq_int,d0,↓Xa,Xb,Xc,↓reduceIte,Nat.reduceLT,Nat.reduceEqDiff,Nat.reduceBEq,Nat.reduceLeDiff,Nat.reduceAdd,Nat.reduceMul]
 refine alloc_i fun p8 n8=>?_
 simp(disch:=first|exact Xe|fail)only[len_rw,hn,↓Xa,Xb,Xc,↓reduceIte,Nat.reduceLT,Nat.reduceEqDiff,Nat.reduceBEq,Nat.reduceLeDiff,Nat.reduceAdd,Nat.reduceMul]
 obtain⟨a84,n8'⟩:=upd_none.1 n8
 have hz0:(ABlk.row 34 0 [.bool false,.seq 0 [] true])=.row 34 0 [IntB 0,IntD 0]:=by
  have:=repI 1
  rw[show 1*2=2 from rfl,repI1]at this
  rw[this];rfl
 generalize hG:(H.upd p3 (some (.row 73 0 [.int .i64 A,.int .i64 B]))).upd p4 (some (.row 34 0 [.bool false,.seq 0 [] true]))=G at*
 have hHG:Le H G:=hG▸(((Le.refl H).updB n3).updB n4')
 have g4:G p4=some (.row 34 0 [.bool false,.seq 0 [] true]):=by rw[← hG,upd_same]
 refine W_loop (fun s:Nat=>⟨[],[(4,.ptr p4 2 0),(6,RowA (powsP A B xs.length) true),(8,.ptr p8 2 0),(36,RowA xs t),(37,.int .i64 (xs.length:Int)),(38,.int .i64 s)],G.upd p8 (some (.row 34 0 [IntB (valN A B xs s),IntD (valN A B xs s)]))⟩) (fun s=>s≤xs.length) (fun s=>xs.length-s) 0 (Settle.now (by rw[hz0];rfl)) (Nat.zero_le _) ?_
 intro i hi0
 by_cases hi:i<xs.length
 ·have hip:i<(powsP A B xs.length).length:=by simpa[powsP]using hi
  have epi:(powsP A B xs.length)[i]=A^i*B^(xs.length-1-i):=by simp[powsP]
  have lpp:(powsP A B xs.length).length=xs.length:=by simp[powsP]
  simp(disch:=first|exact Xe|fail)only[hi,idx_IC,load_IC,↓Xa,Xb,Xc,↓reduceIte,Nat.reduceLT,Nat.reduceEqDiff,Nat.reduceBEq,Nat.reduceLeDiff,Nat.reduceAdd,Nat.reduceMul]
  refine alloc_i fun p10 n10=>?_
  obtain⟨a10,n10'⟩:=upd_none.1 n10
  simp(disch:=first|exact Xe|fail)only[hi,hip,a10,a10.symm,cells_IntA,fold_IntA,idx_IC,load_IC,epi,↓Xa,Xb,Xc,↓reduceIte,Nat.reduceLT,Nat.reduceEqDiff,Nat.reduceBEq,Nat.reduceLeDiff,Nat.reduceAdd,Nat.reduceMul]
  have b1:=hx _ (List.getElem_mem hi)
  have b2:=(powBd (A:=A) (show i≤16 by omega) hA.1 hA.2.1).mul (powBd (A:=B) (show xs.length-1-i≤16 by omega) hA.2.2.1 hA.2.2.2)
  have b3:=valN_bd hx hA hl i (by omega)
  refine PFn.dcall (muli_fn b1 (by omega) b2 (by omega)) ?_
  simp(disch:=first|exact Xe|fail)only[↓Xa,Xb,Xc,↓reduceIte,Nat.reduceLT,Nat.reduceEqDiff,Nat.reduceBEq,Nat.reduceLeDiff,Nat.reduceAdd,Nat.reduceMul]
  refine(addi_fn b3 (by omega) (b1.mul b2) (by omega)).call ?_
  have ev:valN A B xs (i+1)=valN A B xs i+xs[i]*(A^i*B^(xs.length-1-i)):=by
   rw[valN,List.getD_eq_getElem?_getD,List.getElem?_eq_getElem hi];rfl
  simp(disch:=first|exact Xe|fail)only[a10,a10.symm,cells_IntA,↓Xa,Xb,Xc,↓reduceIte,Nat.reduceLT,Nat.reduceEqDiff,Nat.reduceBEq,Nat.reduceLeDiff,Nat.reduceAdd,Nat.reduceMul]
  rw[← ev]
  exact Settle.dropTo ((Le.refl _).updB (upd_none.2 ⟨a10,n10'⟩)) (Settle.now ⟨i+1,by omega,by omega,rfl⟩)
 ·obtain rfl:i=xs.length:=by omega
  simp(disch:=first|exact Xe|fail)only[hi,↓Xa,Xb,Xc,↓reduceIte,Nat.reduceLT,Nat.reduceEqDiff,Nat.reduceBEq,Nat.reduceLeDiff,Nat.reduceAdd,Nat.reduceMul]
  refine Settle.now ?_
  simp(disch:=first|exact Xe|fail)only[fold_IntA,a84,a84.symm,g4,cells_IntA,rs40,↓Xa,Xb,Xc,↓reduceIte,Nat.reduceLT,Nat.reduceEqDiff,Nat.reduceBEq,Nat.reduceLeDiff,Nat.reduceAdd,Nat.reduceMul]
  exact SetR.dropTo ((hHG.updB (upd_none.1 n8').2).updB n4') (SetR.now hq)
theorem Lent.agg{H:AHeap}{xs ys:List AV}(h:LentL H xs ys):Lent H (.agg xs) (.agg ys):=by
 intro c hc hok v he
 cases he with
 |agg _ vs hlen hcs=>exact .agg _ _ (hlen.trans h.len.symm) fun i hi hi'=>h.get i (by have:=h.len;omega) hi c hc hok _ (hcs i (by have:=h.len;omega) hi')
theorem CodeV.le{C C':AHeap}{v:AV}{l:List Ins}(h:CodeV C v l)(hl:Le C C'):CodeV C' v l:=⟨h.1,h.2.1,h.2.2.choose,fun G hG=>h.2.2.choose_spec G (hl.trans hG)⟩
theorem OutsV.le{C C':AHeap}{v:AV}{l:List Int}(h:OutsV C v l)(hl:Le C C'):OutsV C' v l:=⟨h.1,h.2.1,h.2.2.choose,fun G hG=>h.2.2.choose_spec G (hl.trans hG)⟩
theorem cpy_ICf{H:AHeap}{b ty N:Nat}{t t':Bool}{o xs:List Int}{K:AV→AHeap→Prop}(hH:H b=some (.row ty 2 (IC o)))(ho:o.length=N)(h:xs.length≤N)(k:K (.int .i64 ((xs.length:Nat):Int)) (H.upd b (some (.row ty 2 (IC (xs++o.drop xs.length)))))):
 cpyW H 2 (.own b (N*2) 0 N t) (RowA xs t') K:=by
 have hlo:(IC o).length=N*2:=by rw[IC_len,ho]
 simp[cpyW,srcW,hH,hlo,IC_len]
 have em:xs.length.min N=xs.length:=Nat.min_eq_left h
 have et:List.take (xs.length*2) (IC xs)=IC xs:=List.take_of_length_le (by rw[IC_len];omega)
 have es:splice (IC o) 0 (IC xs)=IC (xs++o.drop xs.length):=by
  unfold splice
  rw[List.take_zero,List.nil_append,Nat.zero_add,IC_len,IC_app,IC_dp (by omega)]
 rw[em,et,es]
 refine⟨fun x hx=>?_,k⟩
 simp only[IC,List.mem_flatMap]at hx
 obtain⟨z,-,hx⟩:=hx
 exact List.all_eq_true.1 (cellI (z:=z)) x hx
def RowV(M:AHeap)(y:AV)(zs:List Int):Prop:=RowO M y zs∨∃t,y=RowA zs t
theorem RowV.le{M M':AHeap}{y:AV}{zs:List Int}(h:RowV M y zs)(hl:Le M M'):RowV M' y zs:=h.imp (·.le hl) id
theorem RowV.len{M:AHeap}{y:AV}{zs:List Int}(h:RowV M y zs)(hn:zs.length<9223372036854775808){K:AV→Prop}:lenW false y K=K (.int .i64 ((zs.length:Nat):Int)):=by
 rcases h with h|⟨t,rfl⟩
 ·exact h.len hn
 ·exact len_rw hn
theorem list11_fn{l:List Int}{t:Bool}(hl:l.length≤1000000)(hI: ∀n,n∈l→I64 n):PFn Tryd.prog 38 [OutsA l t] (RowA l false):=by
 refine PFn.frozen (ty:=34) (es:=2) (n:=l.length) (cells:=IC l) fun H Q hq=>?_
 have hlen:l.length<9223372036854775808:=by omega
 refine enter38 (by simp) ?_
 simp(disch:=first|exact Xe|fail)only[ac38,len_OutsA hlen,↓Xa,Xb,Xc,↓reduceIte,Nat.reduceLT,Nat.reduceEqDiff,Nat.reduceBEq,Nat.reduceLeDiff,Nat.reduceAdd,Nat.reduceMul]
 refine W_loop (fun s:Nat×AV×AHeap=>⟨[],[(3,s.2.1),(6,OutsA l t),(7,.int .i64 l.length),(8,.int .i64 s.1)],s.2.2⟩) (fun s=>s.1≤l.length∧growC H 34 2 s.1 (IC (l.take s.1)) s.2.1 s.2.2) (fun s=>l.length-s.1) (0,.seq 0 [] true,H) (Settle.now rfl) ⟨Nat.zero_le _,growC_nil⟩ ?_
 rintro⟨i,y,M⟩ ⟨h1,hg1⟩
 dsimp only at h1 hg1 ⊢
 by_cases hi:i<l.length
 ·have hij:=hI _ (List.getElem_mem hi)
  unfold I64 at hij
  simp(disch:=first|exact Xe|fail)only[hi,idx_OutsA hi,load_OutsA hi,↓Xa,Xb,Xc,↓reduceIte,Nat.reduceLT,Nat.reduceEqDiff,Nat.reduceBEq,Nat.reduceLeDiff,Nat.reduceAdd,Nat.reduceMul]
  refine(of_fn (n:=l[i]) (by omega)).call ?_
  simp(disch:=first|exact Xe|fail)only[repI1,cells_IntA,↓Xa,Xb,Xc,↓reduceIte,Nat.reduceLT,Nat.reduceEqDiff,Nat.reduceBEq,Nat.reduceLeDiff,Nat.reduceAdd,Nat.reduceMul]
  refine app_C (m:=1) hg1 rfl rfl (by omega) (by omega) (by omega) fun y' M2 hg4=>?_
  rw[← IC_take hi]at hg4
  simp(disch:=first|exact Xe|fail)only[↓Xa,Xb,Xc,↓reduceIte,Nat.reduceLT,Nat.reduceEqDiff,Nat.reduceBEq,Nat.reduceLeDiff,Nat.reduceAdd,Nat.reduceMul]
  exact Settle.now ⟨(i+1,y',M2),by dsimp only;omega,⟨by dsimp only;omega,hg4⟩,rfl⟩
 ·obtain rfl:i=l.length:=by omega
  rw[List.take_of_length_le (by omega)]at hg1
  simp(disch:=first|exact Xe|fail)only[hi,↓Xa,Xb,Xc,↓reduceIte,Nat.reduceLT,Nat.reduceEqDiff,Nat.reduceBEq,Nat.reduceLeDiff,Nat.reduceAdd,Nat.reduceMul]
  refine Settle.now ?_
  simp(disch:=first|exact Xe|fail)only[rs38,↓Xa,Xb,Xc,↓reduceIte,Nat.reduceLT,Nat.reduceEqDiff,Nat.reduceBEq,Nat.reduceLeDiff,Nat.reduceAdd,Nat.reduceMul]
  exact SetR.now (hq _ _ hg1)
def pairsP(l:List Int):List Pt:=(List.range (l.length / 2)).map fun i=>⟨l.getD (2*i) 0,l.getD (2*i+1) 0⟩
theorem points11_fn{l:List Int}{t:Bool}(hl:l.length≤1000):PFn Tryd.prog 43 [OutsA l t] (PtsA (pairsP l) false):=by
 have hpl:(pairsP l).length=l.length / 2:=by simp[pairsP]
 refine PFn.frozen (ty:=73) (es:=2) (n:=(pairsP l).length) (cells:=(pairsP l).flatMap ptC) fun H Q hq=>?_
 have hlen:l.length<9223372036854775808:=by omega
 refine enter43 (by simp) ?_
 simp(disch:=first|exact Xe|fail)only[ac43,↓Xa,Xb,Xc,↓reduceIte,Nat.reduceLT,Nat.reduceEqDiff,Nat.reduceBEq,Nat.reduceLeDiff,Nat.reduceAdd,Nat.reduceMul]
 refine W_loop (fun s:Nat×AV×AHeap=>⟨[],[(0,OutsA l t),(3,s.2.1),(4,.int .i64 ((2*s.1:Nat):Int))],s.2.2⟩) (fun s=>s.1≤(pairsP l).length∧growC H 73 2 s.1 (((pairsP l).take s.1).flatMap ptC) s.2.1 s.2.2) (fun s=>(pairsP l).length-s.1) (0,.seq 0 [] true,H) (Settle.now rfl) ⟨Nat.zero_le _,growC_nil⟩ ?_
 rintro⟨i,y,M⟩ ⟨h1,hg1⟩
 dsimp only at h1 hg1 ⊢
 by_cases hi:i<(pairsP l).length
 ·have j1:2*i<l.length:=by omega
  have j2:2*i+1<l.length:=by omega
  have d1:decide (((2*i+1:Nat):Int)<((l.length:Nat):Int))=true:=decide_eq_true (by omega)
  simp(disch:=first|exact Xe|fail)only[len_OutsA hlen,lss_int,d1,idx_OutsA j1,load_OutsA j1,idx_OutsA j2,load_OutsA j2,fold_PtV,cells_PtV,repI1,↓Xa,Xb,Xc,↓reduceIte,Nat.reduceLT,Nat.reduceEqDiff,Nat.reduceBEq,Nat.reduceLeDiff,Nat.reduceAdd,Nat.reduceMul]
  refine app_C (m:=1) hg1 rfl rfl (by omega) (by omega) (by omega) fun y' M2 hg4=>?_
  have ep:(pairsP l)[i]=⟨l[2*i],l[2*i+1]⟩:=by simp[pairsP,List.getD_eq_getElem?_getD,j1,j2]
  have et:((pairsP l).take i).flatMap ptC++[.int .i64 (l[2*i]),.int .i64 (l[2*i+1])]=((pairsP l).take (i+1)).flatMap ptC:=by
   rw[List.take_succ_eq_append_getElem hi,List.flatMap_append,ep];rfl
  rw[et]at hg4
  simp(disch:=first|exact Xe|fail)only[↓Xa,Xb,Xc,↓reduceIte,Nat.reduceLT,Nat.reduceEqDiff,Nat.reduceBEq,Nat.reduceLeDiff,Nat.reduceAdd,Nat.reduceMul]
  exact Settle.now ⟨(i+1,y',M2),by dsimp only;omega,⟨by dsimp only;omega,hg4⟩,rfl⟩
 ·obtain rfl:i=(pairsP l).length:=by omega
  rw[List.take_of_length_le (by omega)]at hg1
  have d1:decide (((2*(pairsP l).length+1:Nat):Int)<((l.length:Nat):Int))=false:=decide_eq_false (by omega)
  simp(disch:=first|exact Xe|fail)only[len_OutsA hlen,lss_int,d1,↓Xa,Xb,Xc,↓reduceIte,Nat.reduceLT,Nat.reduceEqDiff,Nat.reduceBEq,Nat.reduceLeDiff,Nat.reduceAdd,Nat.reduceMul]
  refine Settle.now ?_
  simp(disch:=first|exact Xe|fail)only[rs43,↓Xa,Xb,Xc,↓reduceIte,Nat.reduceLT,Nat.reduceEqDiff,Nat.reduceBEq,Nat.reduceLeDiff,Nat.reduceAdd,Nat.reduceMul]
  exact SetR.now (hq _ _ hg1)
def gridN(g:List (List Int)):Nat:=sumN (g.map fun l=>1+l.length)
def shN(l:List Ins):Nat:=sumN (l.map fun i=>if i.op=7 then 1 else 0)
def longP(p:PR)(g:List (List Int))(n:Nat):Prop:=400<n+gridN g∨60<p.code.length∨128<p.outs.length∨12<shN p.code
instance (p:PR)(g:List (List Int))(n:Nat):Decidable (longP p g n):=by unfold longP;infer_instance
theorem dlen_rw{n:Nat}{c:List AV}{t:Bool}{KD:AV→List Nat→Option (Nat×ABlk)→Prop}(h:n<9223372036854775808):dlen KD false (.seq n c t)↔KD (.int .i64 ((n:Nat):Int)) [] none:=by simp[dlen,h]
theorem idx_ownR{G:AHeap}{b m i ty:Nat}{t:Bool}{cells:List AV}(hG:G b=some (.row ty 1 cells))(hl:cells.length=m)(hi:i<m){k:IntKind}{K:AV→Prop}:(liveS G (.own b m 0 m t)∧idxAW 1 (.own b m 0 m t) (.int k (i:Int)) K)↔K (.ptr b m i):=by simp[liveS,idxAW,hG,hl,hi]
def GoodG(k L:Nat)(g:List (List Int)):Prop:= ∀r,r∈g→r.length=L∧RB4 k r
theorem Run.weak{P:Program}{f:FuncId}{args:List AV}{H:AHeap}{Q Q':AV→AHeap→Prop}(h:Run P f args H Q)(hq: ∀r H',Q r H'→∃r',Wk r r'∧Q' r' H'):Run P f args H Q':=
 ⟨h.1,fun c vs hH hok hs he=>(h.2 c vs hH hok hs he).mono fun _ _ ⟨c',v,r,a1,a2,a3,a4,a5,a6⟩=>let⟨r',hw,q⟩:=hq _ _ a6;⟨c',v,r',a1,a2,a3,a4,hw c' v a5,q⟩⟩
theorem PFn.weak{P:Program}{f:FuncId}{args:List AV}{r r':AV}(h:PFn P f args r)(hw:Wk r r'):PFn P f args r':=fun H Q hq=>
 Run.weak (h H (fun x H'=>x=r∧H'=H) ⟨rfl,rfl⟩) fun x H' ⟨e1,e2⟩=>⟨r',e1▸hw,e2▸hq⟩
theorem Wk.cells{n:Nat}{a b:List AV}{t:Bool}(hl:a.length=b.length)(h: ∀i(h1:i<a.length)(h2:i<b.length),Wk (a[i]) (b[i])):Wk (.seq n a t) (.seq n b false):=fun c v he=>by
 cases he with
 |seq _ _ _ base cap cv hlen hcap hmax ht hb hn hce=>
  exact .seq n b false base cap cv (fun e=>List.length_eq_zero_iff.1 (by rw[← hl,hlen e];rfl)) hcap hmax (fun e=>by cases e) (fun hp=>by rw[← hl]at hp ⊢; exact hb hp) hn fun i hi=>h i (by omega) hi c _ (hce i (by omega))
theorem Wk.l0{n:Nat}{cells:List AV}{t:Bool}:Wk (.seq n cells t) (.seq n cells false):=fun _ _ h=>enc_loose _ _ h
def regsR(p:PR)(grid:List (List Int))(L:Nat):List (List Int):=grid++List.replicate (p.regs.toNat-grid.length) (List.replicate L 0)
def stepsR(p:PR)(grid:List (List Int))(L:Nat):List (List Int):=(runX doR [] p.code (regsR p grid L)).1
def outsR(p:PR)(grid:List (List Int))(L:Nat):List (List Int):=p.outs.map fun r=>(runX doR [] p.code (regsR p grid L)).2.getD r.toNat []
theorem mks_R{H:AHeap}{ty n:Nat}{K:AV→AHeap→Prop}(h:n≤100000):mksW H ty 1 24 [.seq 0 [] true] (.int .i64 (n:Int)) (.int .i64 (n:Int)) K↔∀b,H b=none→K (.own b n 0 n true) (H.upd b (some (.row ty 1 (List.replicate n (.seq 0 [] true))))):=by
 have h1:(24:Int)*n≤281474976710656:=by omega
 have h2:(n:Int)<9223372036854775808:=by omega
 have e:repA [.seq 0 [] true] n=List.replicate n (.seq 0 [] true):=by
  have e0:(fun i:Nat=>[AV.seq 0 [] true].getD (i%1) .bot)=fun _=>AV.seq 0 [] true:=funext fun i=>by rw[Nat.mod_one];rfl
  unfold repA
  have e1:n*[AV.seq 0 [] true].length=n:=by simp
  simp only[e1,List.length_cons,List.length_nil,Nat.zero_add]
  rw[e0,List.map_const',List.length_range]
 simp[mksW,h1,h2,e]
theorem splice1{l:List AV}{i:Nat}{x:AV}(h:i<l.length):splice l i [x]=l.set i x:=by
 unfold splice
 rw[List.set_eq_take_append_cons_drop,if_pos h];simp
theorem stP_1{H:AHeap}{b N j ty:Nat}{x:AV}{cells:List AV}{K:AV→AHeap→Prop}(hN:cells.length=N)(hj:j<N):stP H 1 b N j K (some [x]) (some (.row ty 1 cells))↔K .bot (H.upd b (some (.row ty 1 (cells.set j x)))):=by
 rw[stP_row (n:=1) (l:=[x]) hN rfl (by omega),splice1 (by omega)]
theorem Settle.frzC{K:St→Prop}{D:List Nat}{E:Env}{H:AHeap}(r b:Nat){ty es ty' es':Nat}{cells cs:List AV}(cs':List AV)(hl:cs'.length=cs.length)(hw: ∀i(h:i<cs.length)(h':i<cs'.length),Wk (frz1 b es cells (cs[i])) (cs'[i]))(hb:H b=some (.row ty es cells))(hr:H r=some (.row ty' es' cs))(hne:r≠b)(h:Settle K ⟨D,E.map (Fw.frz b es cells),(H.upd b none).upd r (some (.row ty' es' cs'))⟩):Settle K ⟨D,E,H⟩:=by
 refine Settle.join ?_
 intro N c a hc hok hr2
 have hc:c.H=H:=hc
 have hb':c.H b=some (.row ty es cells):=hc▸hb
 have ok1:=Ctx.drop_ok hok b
 have hH1:(c.drop b).H r=some (.row ty' es' cs):=by
  show(c.H.upd b none) r=_
  rw[upd_other _ _ hne,hc];exact hr
 obtain⟨arr,k1,k2,k3⟩:=hok.blk r _ (hc▸hr)
 have l2:Later (c.drop b) ((c.drop b).put r (.row ty' es' cs') arr):=Ctx.put_later ok1 hH1 k1 (by omega) rfl
 have ok2:Ok ((c.drop b).put r (.row ty' es' cs') arr):=Ctx.put_ok ok1 hH1 k1 (by omega) rfl (by omega) fun i hi hi'=>hw i (by omega) hi _ _ (enc_frz1 hok hb' _ _ (k3 i (by omega) hi'))
 have hw2:((c.drop b).put r (.row ty' es' cs') arr).w=c.w:=setRow_self _ _ _ _ _ k1
 refine⟨_,⟨D,E.map (Fw.frz b es cells),_⟩,?_,hw2,ok2,?_,(c.drop_later b).trans l2,h⟩
 ·show(c.H.upd b none).upd r _=_
  rw[hc]
 ·have hr':=hr2.later ((c.drop_later b).trans l2)
  refine⟨hr'.size,fun u=>?_,hr'.dlen,hr'.dmark⟩
  rw[Env.get_map _ rfl]
  exact(enc_frz hok hb' _ _ (hr2.tmp u)).later l2
abbrev rI(r:List Int):AV:=RowA r false
def GI(g:List (List Int)):List AV:=g.map rI
theorem GI_len(g:List (List Int)):(GI g).length=g.length:=by simp[GI]
theorem ldP_1{ty m j:Nat}{cells:List AV}{x:AV}{K:AV→Prop}(hl:cells.length=m)(hj:j<m)(hx:cells[j]? =some x):ldP none m j K (some (.row ty 1 cells))↔K x:=by
 have hj':j<cells.length:=by omega
 have e:(cells.drop j).take 1=[x]:=by
  rw[List.drop_eq_getElem_cons hj']
  rw[List.getElem?_eq_getElem hj']at hx;injection hx with hx
  simp[hx]
 have h2:j+1≤m:=by omega
 simp only[ldP,hl,h2,true_and,Option.getD_none,e]
 rfl
theorem ldP_GI{ty m j:Nat}{g:List (List Int)}{K:AV→Prop}(hl:g.length=m)(hj:j<g.length):ldP none m j K (some (.row ty 1 (GI g)))↔K (rI (g[j])):=ldP_1 (by rw[GI_len,hl]) (by omega) (by simp[GI,hj])
theorem GI_take{g:List (List Int)}{i:Nat}(h:i<g.length):GI (g.take (i+1))=GI (g.take i)++[rI (g[i])]:=by
 unfold GI;rw[List.take_succ_eq_append_getElem h,List.map_append];rfl
theorem cellGI{r:List Int}:[rI r].all AV.cell=true:=rfl
section
variable {zs ws:List Int} {t t':Bool} {k:Nat}
theorem rown_fn(hz:RB4 k zs)(hk:k≤1000000)(hbig:zs.length≤1000000):PFn Tryd.prog 114 [RowA zs t] (rI (zs.map (- ·))):=by
 have h:=PFn.frozen (P:=Tryd.prog) (f:=114) (args:=[RowA zs t]) fun H Q hq=>rown_run hz hk hbig hq
 have e:rI (zs.map (- ·))=.seq zs.length (IC (zs.map (- ·))) false:=by simp
 rw[e];exact h
theorem rowscI_fn{c:Int}{k':Nat}(hz:RB4 k zs)(hc:Bd k' c)(hk:k+k'≤1000000)(hbig:zs.length≤1000000):PFn Tryd.prog 119 [RowA zs t,IntA c] (rI (zs.map (c* ·))):=by
 have h:=PFn.frozen (P:=Tryd.prog) (f:=119) (args:=[RowA zs t,IntA c]) fun H Q hq=>rowsc_run hz hc hk hbig hq
 have e:rI (zs.map (c* ·))=.seq zs.length (IC (zs.map (c* ·))) false:=by simp
 rw[e];exact h
theorem ways1_fn(hz:RB4 k zs)(hw:RB4 k ws)(hk:k≤1000000)(hl:zs.length=ws.length)(hbig:zs.length≤1000000):PFn Tryd.prog 115 [RowA zs t,RowA ws t'] (rI (zipI (· + ·) zs ws)):=by
 have h:=PFn.frozen1 (P:=Tryd.prog) (f:=116) (args:=[RowA zs t,RowA ws t']) fun H Q hq=>rowadd_run hz hw hk hl hbig hq
 have e:rI (zipI (· + ·) zs ws)=.seq zs.length (IC (zipI (· + ·) zs ws)) false:=by rw[rI,RowA,zip_len hl]
 intro H Q hq
 refine enter115 (by simp) ?_
 simp(disch:=first|exact Xe|fail)only[ac115,↓Xa,Xb,Xc,↓reduceIte,Nat.reduceLT,Nat.reduceEqDiff,Nat.reduceBEq,Nat.reduceLeDiff,Nat.reduceAdd,Nat.reduceMul]
 refine h.call ?_
 rw[e]at hq
 simp(disch:=first|exact Xe|fail)only[rs115,↓Xa,Xb,Xc,↓reduceIte,Nat.reduceLT,Nat.reduceEqDiff,Nat.reduceBEq,Nat.reduceLeDiff,Nat.reduceAdd,Nat.reduceMul]
 exact SetR.now hq
theorem ways2_fn(hz:RB4 k zs)(hw:RB4 k ws)(hk:k≤1000000)(hl:zs.length=ws.length)(hbig:zs.length≤1000000):PFn Tryd.prog 117 [RowA zs t,RowA ws t'] (rI (zipI (· - ·) zs ws)):=by
 have h:=PFn.frozen1 (P:=Tryd.prog) (f:=118) (args:=[RowA zs t,RowA ws t']) fun H Q hq=>rowsub_run hz hw hk hl hbig hq
 have e:rI (zipI (· - ·) zs ws)=.seq zs.length (IC (zipI (· - ·) zs ws)) false:=by rw[rI,RowA,zip_len hl]
 intro H Q hq
 refine enter117 (by simp) ?_
 simp(disch:=first|exact Xe|fail)only[ac117,↓Xa,Xb,Xc,↓reduceIte,Nat.reduceLT,Nat.reduceEqDiff,Nat.reduceBEq,Nat.reduceLeDiff,Nat.reduceAdd,Nat.reduceMul]
 refine h.call ?_
 rw[e]at hq
 simp(disch:=first|exact Xe|fail)only[rs117,↓Xa,Xb,Xc,↓reduceIte,Nat.reduceLT,Nat.reduceEqDiff,Nat.reduceBEq,Nat.reduceLeDiff,Nat.reduceAdd,Nat.reduceMul]
 exact SetR.now hq
theorem ways3_run{H:AHeap}{Q:AV→AHeap→Prop}{c:Int}(hz:RB4 k zs)(hc:Bd k c)(hk:k≤1000000)(hc0:c≠0)(hbig:zs.length≤1000000)
 (hq:(∀z,z∈zs→z%c=0)→Q (.tup [rI (zs.map (· / c)),.bool true]) H) (hn:(∃z,z∈zs∧z%c≠0)→Q (.tup [.seq 0 [] true,.bool false]) H):Run Tryd.prog 120 [RowA zs t,IntA c] H Q:=by
 refine enter120 (by simp) ?_
 simp(disch:=first|exact Xe|fail)only[ac120,cells_IntA,↓Xa,Xb,Xc,↓reduceIte,Nat.reduceLT,Nat.reduceEqDiff,Nat.reduceBEq,Nat.reduceLeDiff,Nat.reduceAdd,Nat.reduceMul]
 refine alloc_i fun p1 hp1=>?_
 have n1:=hp1
 simp(disch:=first|exact Xe|fail)only[fold_IntA,↓Xa,Xb,Xc,↓reduceIte,Nat.reduceLT,Nat.reduceEqDiff,Nat.reduceBEq,Nat.reduceLeDiff,Nat.reduceAdd,Nat.reduceMul]
 have hle: ∀{x:ABlk},Le H (H.upd p1 (some x)):=(Le.refl H).updB n1
 have e0:decide (((0:Nat):Int)=((0:Nat):Int))=true:=rfl
 have e20:decide (((20:Nat):Int)=((0:Nat):Int))=false:=rfl
 refine run_call (rowover_run hz hc hk hc0 hbig (fun h y M hg=>?_) fun h=>?_)
 ·simp(disch:=first|exact Xe|fail)only[eql_int,e0,rs120,↓Xa,Xb,Xc,↓reduceIte,Nat.reduceLT,Nat.reduceEqDiff,Nat.reduceBEq,Nat.reduceLeDiff,Nat.reduceAdd,Nat.reduceMul]
  obtain⟨M2,hg2,hl⟩:=growC_le2 hg hle
  refine SetR.dropTo hl ?_
  have e:rI (zs.map (· / c))=.seq zs.length (IC (zs.map (· / c))) false:=by simp
  have hq':=hq h
  rw[e]at hq'
  generalize IC (zs.map (· / c))=cells at*
  rcases hg2 with⟨h0,h1,rfl,rfl⟩|⟨h0,hln,b,hb,rfl,rfl⟩
  ·rw[h0,h1]at hq'
   exact SetR.loose (SetR.now hq')
  ·refine SetR.frz b (upd_same _ _ _) ?_
   rw[upd_upd,upd_back _ hb]
   have e:Fw.frz b 2 cells (.tup [.own b (zs.length*2) 0 zs.length false,.bool true])=.tup [.seq zs.length cells false,.bool true]:=by simp[frz,frz2,frz1,hln,List.take_of_length_le]
   rw[e];exact SetR.now hq'
 ·simp(disch:=first|exact Xe|fail)only[eql_int,e20,rs120,↓Xa,Xb,Xc,↓reduceIte,Nat.reduceLT,Nat.reduceEqDiff,Nat.reduceBEq,Nat.reduceLeDiff,Nat.reduceAdd,Nat.reduceMul]
  exact SetR.dropTo hle (SetR.now (hn h))
end
theorem ways3_yes{zs:List Int}{t:Bool}{k:Nat}{c:Int}(hz:RB4 k zs)(hc:Bd k c)(hk:k≤1000000)(hc0:c≠0)(hbig:zs.length≤1000000)(h: ∀z,z∈zs→z%c=0):PFn Tryd.prog 120 [RowA zs t,IntA c] (.tup [rI (zs.map (· / c)),.bool true]):=
 fun H Q hq=>ways3_run hz hc hk hc0 hbig (fun _=>hq) fun⟨z,hm,hne⟩=>absurd (h z hm) hne
theorem ways3_no{zs:List Int}{t:Bool}{k:Nat}{c:Int}(hz:RB4 k zs)(hc:Bd k c)(hk:k≤1000000)(hc0:c≠0)(hbig:zs.length≤1000000)(h: ¬ ∀z,z∈zs→z%c=0):PFn Tryd.prog 120 [RowA zs t,IntA c] (.tup [.seq 0 [] true,.bool false]):=
 fun H Q hq=>ways3_run hz hc hk hc0 hbig (fun hh=>absurd hh h) fun _=>hq
def WayL:List AV:=[.fn (.func 114) [] [],.fn (.func 115) [] [],.fn (.func 117) [] [],.fn (.func 119) [] [],.fn (.func 120) [] []]
def WaysR:AV:=.agg WayL
theorem cells_WaysR:WaysR.cells=some [.fn (.func 114) [] [],.fn (.func 115) [] [],.fn (.func 117) [] [],.fn (.func 119) [] [],.fn (.func 120) [] []]:=id rfl
theorem fold_WaysR:AV.agg [.fn (.func 114) [] [],.fn (.func 115) [] [],.fn (.func 117) [] [],.fn (.func 119) [] [],.fn (.func 120) [] []]=WaysR:=id rfl
theorem wayR_fn:PFn Tryd.prog 73 [] WaysR:=by
 intro H Q hq
 refine enter73 (by simp) ?_
 simp(disch:=first|exact Xe|fail)only[ac73,↓Xa,Xb,Xc,↓reduceIte,Nat.reduceLT,Nat.reduceEqDiff,Nat.reduceBEq,Nat.reduceLeDiff,Nat.reduceAdd,Nat.reduceMul]
 refine alloc_i fun p1 hp1=>?_
 have n1:=hp1
 simp(disch:=first|exact Xe|fail)only[fn_cells,↓Xa,Xb,Xc,↓reduceIte,Nat.reduceLT,Nat.reduceEqDiff,Nat.reduceBEq,Nat.reduceLeDiff,Nat.reduceAdd,Nat.reduceMul]
 simp(disch:=first|exact Xe|fail)only[cells_WaysR,fold_WaysR,rs73,↓Xa,Xb,Xc,↓reduceIte,Nat.reduceLT,Nat.reduceEqDiff,Nat.reduceBEq,Nat.reduceLeDiff,Nat.reduceAdd,Nat.reduceMul]
 exact SetR.dropTo ((Le.refl H).updB n1) (SetR.now hq)
theorem doI_run{H:AHeap}{Q:AV→AHeap→Prop}{b N k L ty:Nat}{t:Bool}{regs:List (List Int)}{i:Ins}(hb:H b=some (.row ty 1 (GI regs)))(hN:regs.length=N)(hm:mayI (N:Int) i)(hz:GoodG k L regs)(hk:k≤100000)(hL:L≤100000)
 (hq1: ∀x,doR i (regs.getD i.a.toNat []) (regs.getD i.b.toNat [])=some x→RB4 (k+3) x→x.length=L→Q (.tup [rI x,.bool true]) H)
 (hq2:doR i (regs.getD i.a.toNat []) (regs.getD i.b.toNat [])=none→Q (.tup [.seq 0 [] true,.bool false]) H):
 Run Tryd.prog 113 [WaysR,.own b N 0 N t,InsA i] H Q:=by
 have hmb:=mayI_b hm
 have hma:=hm.2.2
 have h18:1≤i.op∧i.op≤8:=⟨hm.1,hm.2.1⟩
 obtain⟨a,ha⟩: ∃a:Nat,i.a=(a:Int):=⟨i.a.toNat,by omega⟩
 obtain⟨c,hc⟩: ∃c:Nat,i.b=(c:Int):=⟨i.b.toNat,by omega⟩
 have haN:a<regs.length:=by omega
 have hcN:c<regs.length:=by omega
 have ga:regs.getD i.a.toNat []=regs[a]:=by rw[ha,Int.toNat_natCast,List.getD_eq_getElem?_getD,List.getElem?_eq_getElem haN];rfl
 have gc:regs.getD i.b.toNat []=regs[c]:=by rw[hc,Int.toNat_natCast,List.getD_eq_getElem?_getD,List.getElem?_eq_getElem hcN];rfl
 rw[ga,gc]at hq1 hq2
 obtain⟨lx,bx⟩:=hz _ (List.getElem_mem haN)
 obtain⟨ly,by'⟩:=hz _ (List.getElem_mem hcN)
 have hl:(GI regs).length=N:=by rw[GI_len,hN]
 have haN':a<N:=by omega
 have hcN':c<N:=by omega
 refine enter113 (by simp) ?_
 simp(disch:=first|exact Xe|fail)only[ac113,cells_WaysR,↓Xa,Xb,Xc,↓reduceIte,Nat.reduceLT,Nat.reduceEqDiff,Nat.reduceBEq,Nat.reduceLeDiff,Nat.reduceAdd,Nat.reduceMul]
 refine alloc_i fun p1 n1=>?_
 have a1:=ne_of_some hb n1
 simp(disch:=first|exact Xe|fail)only[cells_InsA,↓Xa,Xb,Xc,↓reduceIte,Nat.reduceLT,Nat.reduceEqDiff,Nat.reduceBEq,Nat.reduceLeDiff,Nat.reduceAdd,Nat.reduceMul]
 refine alloc_i fun p2 hp2=>?_
 have n2:=(upd_none.1 hp2).2
 have a2:=ne_of_some hb n2
 have d21:=(upd_none.1 hp2).1
 simp(disch:=first|exact Xe|fail)only[ha,hc,hb,idx_ownR,hl,haN',hcN',ldP_GI hN haN,ldP_GI hN hcN,↓Xa,Xb,Xc,↓reduceIte,Nat.reduceLT,Nat.reduceEqDiff,Nat.reduceBEq,Nat.reduceLeDiff,Nat.reduceAdd,Nat.reduceMul]
 generalize regs[a]=x at*
 generalize regs[c]=y at*
 have fin: ∀{r:AV}{x1 x2:ABlk},Q r H→SetR Q r ((H.upd p1 (some x1)).upd p2 (some x2)):=fun h=>
  SetR.dropTo (((Le.refl H).updB n1).updB n2) (SetR.now h)
 have ok1: ∀{z:List Int},doR i x y=some z→RB4 (k+3) z→Q (.tup [rI z,.bool true]) H:=fun h hb=>hq1 _ h hb ((doR_len (lx.trans ly.symm) h).trans lx)
 have e2': ∀n:Nat,i.op=(n:Int)→decide (i.op=((n:Nat):Int))=true:=fun n h=>decide_eq_true h
 have no: ∀n:Nat,i.op≠(n:Int)→decide (i.op=((n:Nat):Int))=false:=fun n h=>decide_eq_false h
 by_cases o2:i.op=2
 ·simp(disch:=first|exact Xe|fail)only[eql_int,e2' 2 o2,↓Xa,Xb,Xc,↓reduceIte,Nat.reduceLT,Nat.reduceEqDiff,Nat.reduceBEq,Nat.reduceLeDiff,Nat.reduceAdd,Nat.reduceMul]
  refine(rown_fn bx (by omega) (by omega)).call ?_
  simp(disch:=first|exact Xe|fail)only[rs113,↓Xa,Xb,Xc,↓reduceIte,Nat.reduceLT,Nat.reduceEqDiff,Nat.reduceBEq,Nat.reduceLeDiff,Nat.reduceAdd,Nat.reduceMul]
  exact fin (ok1 (by rw[doR,if_pos o2]) (bx.map fun z hz=>hz.neg.mono (by omega)))
 have e2:=no 2 o2
 by_cases o3:i.op=3
 ·simp(disch:=first|exact Xe|fail)only[eql_int,e2,e2' 3 o3,↓Xa,Xb,Xc,↓reduceIte,Nat.reduceLT,Nat.reduceEqDiff,Nat.reduceBEq,Nat.reduceLeDiff,Nat.reduceAdd,Nat.reduceMul]
  refine(ways1_fn bx by' (by omega) (lx.trans ly.symm) (by omega)).call ?_
  simp(disch:=first|exact Xe|fail)only[rs113,↓Xa,Xb,Xc,↓reduceIte,Nat.reduceLT,Nat.reduceEqDiff,Nat.reduceBEq,Nat.reduceLeDiff,Nat.reduceAdd,Nat.reduceMul]
  exact fin (ok1 (by rw[doR,if_neg o2,if_pos o3]) (bx.zip by' (lx.trans ly.symm) fun z w hz hw=>(hz.add hw).mono (by omega)))
 have e3:=no 3 o3
 by_cases o4:i.op=4
 ·simp(disch:=first|exact Xe|fail)only[eql_int,e2,e3,e2' 4 o4,↓Xa,Xb,Xc,↓reduceIte,Nat.reduceLT,Nat.reduceEqDiff,Nat.reduceBEq,Nat.reduceLeDiff,Nat.reduceAdd,Nat.reduceMul]
  refine(ways2_fn bx by' (by omega) (lx.trans ly.symm) (by omega)).call ?_
  simp(disch:=first|exact Xe|fail)only[rs113,↓Xa,Xb,Xc,↓reduceIte,Nat.reduceLT,Nat.reduceEqDiff,Nat.reduceBEq,Nat.reduceLeDiff,Nat.reduceAdd,Nat.reduceMul]
  exact fin (ok1 (by rw[doR,if_neg o2,if_neg o3,if_pos o4]) (bx.zip by' (lx.trans ly.symm) fun z w hz hw=>(hz.sub hw).mono (by omega)))
 have e4:=no 4 o4
 have hcst:=cst_ne hm
 have h3:=hm.2.2.2.2.2.2
 rw[if_neg (by omega)]at h3
 have hcm:5≤i.op→RB4 (k+3) (x.map (cst i* ·)):=fun h5=>bx.map fun z hz=>((cst_bd hm h5).mul hz).mono (by omega)
 have hcd:RB4 (k+3) (x.map (· / cst i)):=bx.map fun z hz=>hz.ediv.mono (by omega)
 by_cases o5:i.op=5
 ·have hcs:cst i=i.c:=by unfold cst;rw[if_pos (.inl o5)]
  rw[if_pos (.inl o5)]at h3
  simp(disch:=first|exact Xe|fail)only[eql_int,e2,e3,e4,e2' 5 o5,↓Xa,Xb,Xc,↓reduceIte,Nat.reduceLT,Nat.reduceEqDiff,Nat.reduceBEq,Nat.reduceLeDiff,Nat.reduceAdd,Nat.reduceMul]
  refine PFn.dcall (of_fn (n:=i.c) (by omega)) ?_
  simp(disch:=first|exact Xe|fail)only[↓Xa,Xb,Xc,↓reduceIte,Nat.reduceLT,Nat.reduceEqDiff,Nat.reduceBEq,Nat.reduceLeDiff,Nat.reduceAdd,Nat.reduceMul]
  refine(rowscI_fn (k':=2) bx (Bd.i64 (n:=i.c) (by omega)) (by omega) (by omega)).call ?_
  rw[← hcs]
  simp(disch:=first|exact Xe|fail)only[rs113,↓Xa,Xb,Xc,↓reduceIte,Nat.reduceLT,Nat.reduceEqDiff,Nat.reduceBEq,Nat.reduceLeDiff,Nat.reduceAdd,Nat.reduceMul]
  exact fin (ok1 (by rw[doR,if_neg o2,if_neg o3,if_neg o4,if_pos (.inl o5)]) (hcm (by omega)))
 have e5:=no 5 o5
 by_cases o7:i.op=7
 ·have hcs:cst i=2^i.c.toNat:=by unfold cst;rw[if_neg (by omega)]
  rw[if_neg (by omega),if_pos (.inl o7)]at h3
  obtain⟨m,hmc⟩: ∃m:Nat,i.c=(m:Int):=⟨i.c.toNat,by omega⟩
  rw[hmc,Int.toNat_natCast]at hcs
  have hcb:=cst_bd hm (by omega)
  rw[hcs]at hcb
  simp(disch:=first|exact Xe|fail)only[eql_int,e2,e3,e4,e5,e2' 7 o7,hmc,↓Xa,Xb,Xc,↓reduceIte,Nat.reduceLT,Nat.reduceEqDiff,Nat.reduceBEq,Nat.reduceLeDiff,Nat.reduceAdd,Nat.reduceMul]
  refine PFn.dcall (power10_fn (n:=m) (by omega)) ?_
  simp(disch:=first|exact Xe|fail)only[↓Xa,Xb,Xc,↓reduceIte,Nat.reduceLT,Nat.reduceEqDiff,Nat.reduceBEq,Nat.reduceLeDiff,Nat.reduceAdd,Nat.reduceMul]
  refine(rowscI_fn bx hcb (by omega) (by omega)).call ?_
  rw[← hcs]
  simp(disch:=first|exact Xe|fail)only[rs113,↓Xa,Xb,Xc,↓reduceIte,Nat.reduceLT,Nat.reduceEqDiff,Nat.reduceBEq,Nat.reduceLeDiff,Nat.reduceAdd,Nat.reduceMul]
  exact fin (ok1 (by rw[doR,if_neg o2,if_neg o3,if_neg o4,if_pos (.inr o7)]) (hcm (by omega)))
 have e7:=no 7 o7
 by_cases o6:i.op=6
 ·have hcs:cst i=i.c:=by unfold cst;rw[if_pos (.inr o6)]
  rw[if_pos (.inr o6)]at h3
  have hbc:Bd (k+3) i.c:=(Bd.i64 (n:=i.c) (by omega)).mono (by omega)
  have hdo:doR i x y=if ∀z,z∈x→z%i.c=0 then some (x.map (· / i.c))else none:=by rw[doR,if_neg o2,if_neg o3,if_neg o4,if_neg (by omega),if_pos (.inl o6),hcs]
  rw[hcs]at hcd
  simp(disch:=first|exact Xe|fail)only[eql_int,e2,e3,e4,e5,e7,e2' 6 o6,↓Xa,Xb,Xc,↓reduceIte,Nat.reduceLT,Nat.reduceEqDiff,Nat.reduceBEq,Nat.reduceLeDiff,Nat.reduceAdd,Nat.reduceMul]
  refine PFn.dcall (of_fn (n:=i.c) (by omega)) ?_
  simp(disch:=first|exact Xe|fail)only[↓Xa,Xb,Xc,↓reduceIte,Nat.reduceLT,Nat.reduceEqDiff,Nat.reduceBEq,Nat.reduceLeDiff,Nat.reduceAdd,Nat.reduceMul]
  by_cases hall: ∀z,z∈x→z%i.c=0
  ·refine PFn.dcall (ways3_yes (bx.mono (by omega)) hbc (by omega) h3.2.1 (by omega) hall) ?_
   simp(disch:=first|exact Xe|fail)only[rs113,↓Xa,Xb,Xc,↓reduceIte,Nat.reduceLT,Nat.reduceEqDiff,Nat.reduceBEq,Nat.reduceLeDiff,Nat.reduceAdd,Nat.reduceMul]
   exact fin (ok1 (by rw[hdo,if_pos hall]) hcd)
  ·refine PFn.dcall (ways3_no (bx.mono (by omega)) hbc (by omega) h3.2.1 (by omega) hall) ?_
   simp(disch:=first|exact Xe|fail)only[rs113,↓Xa,Xb,Xc,↓reduceIte,Nat.reduceLT,Nat.reduceEqDiff,Nat.reduceBEq,Nat.reduceLeDiff,Nat.reduceAdd,Nat.reduceMul]
   exact fin (hq2 (by rw[hdo,if_neg hall]))
 have e6:=no 6 o6
 by_cases o8:i.op=8
 ·have hcs:cst i=2^i.c.toNat:=by unfold cst;rw[if_neg (by omega)]
  rw[if_neg (by omega),if_pos (.inr o8)]at h3
  obtain⟨m,hmc⟩: ∃m:Nat,i.c=(m:Int):=⟨i.c.toNat,by omega⟩
  rw[hmc,Int.toNat_natCast]at hcs
  have hcb:=cst_bd hm (by omega)
  rw[hcs]at hcb hcst hcd
  have hdo:doR i x y=if ∀z,z∈x→z%2^m=0 then some (x.map (· / 2^m))else none:=by rw[doR,if_neg o2,if_neg o3,if_neg o4,if_neg (by omega),if_pos (.inr o8),hcs]
  simp(disch:=first|exact Xe|fail)only[eql_int,e2,e3,e4,e5,e7,e6,e2' 8 o8,hmc,↓Xa,Xb,Xc,↓reduceIte,Nat.reduceLT,Nat.reduceEqDiff,Nat.reduceBEq,Nat.reduceLeDiff,Nat.reduceAdd,Nat.reduceMul]
  refine PFn.dcall (power10_fn (n:=m) (by omega)) ?_
  simp(disch:=first|exact Xe|fail)only[↓Xa,Xb,Xc,↓reduceIte,Nat.reduceLT,Nat.reduceEqDiff,Nat.reduceBEq,Nat.reduceLeDiff,Nat.reduceAdd,Nat.reduceMul]
  by_cases hall: ∀z,z∈x→z%2^m=0
  ·refine PFn.dcall (ways3_yes (k:=k+3) (bx.mono (by omega)) (hcb.mono (by omega)) (by omega) hcst (by omega) hall) ?_
   simp(disch:=first|exact Xe|fail)only[rs113,↓Xa,Xb,Xc,↓reduceIte,Nat.reduceLT,Nat.reduceEqDiff,Nat.reduceBEq,Nat.reduceLeDiff,Nat.reduceAdd,Nat.reduceMul]
   exact fin (ok1 (by rw[hdo,if_pos hall]) hcd)
  ·refine PFn.dcall (ways3_no (k:=k+3) (bx.mono (by omega)) (hcb.mono (by omega)) (by omega) hcst (by omega) hall) ?_
   simp(disch:=first|exact Xe|fail)only[rs113,↓Xa,Xb,Xc,↓reduceIte,Nat.reduceLT,Nat.reduceEqDiff,Nat.reduceBEq,Nat.reduceLeDiff,Nat.reduceAdd,Nat.reduceMul]
   exact fin (hq2 (by rw[hdo,if_neg hall]))
 have e8:=no 8 o8
 simp(disch:=first|exact Xe|fail)only[eql_int,e2,e3,e4,e5,e7,e6,e8,rs113,↓Xa,Xb,Xc,↓reduceIte,Nat.reduceLT,Nat.reduceEqDiff,Nat.reduceBEq,Nat.reduceLeDiff,Nat.reduceAdd,Nat.reduceMul]
 exact fin (ok1 (by rw[doR,if_neg o2,if_neg o3,if_neg o4,if_neg (by omega),if_neg (by omega)]) (bx.mono (by omega)))
theorem growC_frz{H M2:AHeap}{b tyr esr ty n:Nat}{rc cells:List AV}{x x' y:AV}(hb:H b=none)(hg:growC (H.upd b (some (.row tyr esr rc))) ty 1 (n+1) (cells++[x]) y M2)(hx:Wk (frz1 b esr rc x) x')(hc: ∀c,c∈cells→frz1 b esr rc c=c):
 ∃M3,growC H ty 1 (n+1) (cells++[x']) y M3∧frz b esr rc y=y∧∀(K:St→Prop)(D:List Nat)(E:Env),E.map (Fw.frz b esr rc)=E→Settle K ⟨D,E,M3⟩→Settle K ⟨D,E,M2⟩:=by
 rcases hg with⟨_,h,_⟩|⟨_,hl,b2,hb2,rfl,rfl⟩
 ·simp at h
 ·obtain⟨ne0,hb2'⟩:=upd_none.1 hb2
  have ne:b2≠b:=ne0
  refine⟨_,.inr ⟨by omega,by simpa using hl,b2,hb2',rfl,rfl⟩,by simp[frz,frz2,frz1,ne],fun K D E he h=>?_⟩
  refine Settle.frzC b2 b (cells++[x']) (by simp) (fun i h1 h2=>?_) (by rw[upd_other _ _ (Ne.symm ne),upd_same]) (upd_same _ _ _) ne ?_
  ·by_cases hi:i<cells.length
   ·rw[List.getElem_append_left hi,List.getElem_append_left hi,hc _ (List.getElem_mem hi)]
    exact Wk.refl
   ·have hi':i=cells.length:=by simp at h1;omega
    subst hi'
    simpa using hx
  ·rw[he,upd_comm _ _ _ ne,upd_upd,upd_upd,upd_back _ hb]
   exact h
def unitG(n:Nat):List (List Int):=(List.range n).map fun i=>(List.replicate n 0).set i 1
theorem units_fn{n:Nat}(hn:n≤8):PFn Tryd.prog 81 [.int .i64 (n:Int)] (.seq n (GI (unitG n)) false):=by
 refine PFn.frozen (ty:=31) (es:=1) (n:=n) (cells:=GI (unitG n)) fun H Q hq=>?_
 have hul:(unitG n).length=n:=by simp[unitG]
 refine enter81 (by simp) ?_
 simp(disch:=first|exact Xe|fail)only[ac81,↓Xa,Xb,Xc,↓reduceIte,Nat.reduceLT,Nat.reduceEqDiff,Nat.reduceBEq,Nat.reduceLeDiff,Nat.reduceAdd,Nat.reduceMul]
 refine W_loop (fun s:Nat×AV×AHeap=>⟨[],[(0,.int .i64 (n:Int)),(3,s.2.1),(6,.int .i64 (n:Int)),(7,.int .i64 s.1)],s.2.2⟩) (fun s=>s.1≤n∧growC H 31 1 s.1 (GI ((unitG n).take s.1)) s.2.1 s.2.2) (fun s=>n-s.1) (0,.seq 0 [] true,H) (Settle.now rfl) ⟨Nat.zero_le _,growC_nil⟩ ?_
 rintro⟨i,y,M⟩ ⟨h1,hg1⟩
 dsimp only at h1 hg1 ⊢
 by_cases hi:i<n
 ·have hiu:i<(unitG n).length:=by omega
  simp(disch:=first|exact Xe|fail)only[hi,mks_I (show n≤100000 by omega),↓Xa,Xb,Xc,↓reduceIte,Nat.reduceLT,Nat.reduceEqDiff,Nat.reduceBEq,Nat.reduceLeDiff,Nat.reduceAdd,Nat.reduceMul]
  intro b hb
  refine(of_fn (n:=1) (by omega)).call ?_
  have hll:(List.replicate n (0:Int)).length=n:=by simp
  simp(disch:=first|exact Xe|fail)only[hi,cells_IntA,stP_IC hll hi,↓Xa,Xb,Xc,↓reduceIte,Nat.reduceLT,Nat.reduceEqDiff,Nat.reduceBEq,Nat.reduceLeDiff,Nat.reduceAdd,Nat.reduceMul]
  refine⟨by rw[IC_len,hll],?_⟩
  refine app_C (m:=1) (growC_upd hg1 hb) rfl rfl (by omega) (by omega) (by omega) fun y' M2 hg4=>?_
  have eu:(unitG n)[i]=(List.replicate n 0).set i 1:=by simp[unitG]
  have hlr:((List.replicate n (0:Int)).set i 1).length=n:=by simp
  obtain⟨M3,hg5,hf,hs⟩:=growC_frz (x':=rI ((unitG n)[i])) (growC_none hg1 hb) hg4 (by
   rw[eu]
   have e:frz1 b 2 (IC ((List.replicate n 0).set i 1)) (.own b (n*2) 0 n true)=RowA ((List.replicate n 0).set i 1) true:=by
    simp only[frz1,RowA,hlr]
    rw[if_pos trivial,if_pos ⟨by rw[IC_len,hlr],.inr (by omega)⟩,List.drop_zero,List.take_of_length_le (by rw[IC_len,hlr];exact Nat.le_refl _)]
   rw[e];exact Wk.l0) (fun c hc=>by
   obtain⟨r,_,rfl⟩:=List.mem_map.1 hc;rfl)
  rw[← GI_take hiu]at hg5
  simp(disch:=first|exact Xe|fail)only[↓Xa,Xb,Xc,↓reduceIte,Nat.reduceLT,Nat.reduceEqDiff,Nat.reduceBEq,Nat.reduceLeDiff,Nat.reduceAdd,Nat.reduceMul]
  refine hs _ _ _ (by simp only[Env.map,List.map_cons,List.map_nil,hf];rfl) (Settle.now ⟨(i+1,y',M3),by dsimp only;omega,⟨by dsimp only;omega,hg5⟩,rfl⟩)
 ·obtain rfl:i=n:=by omega
  rw[List.take_of_length_le (by omega)]at hg1
  simp(disch:=first|exact Xe|fail)only[hi,↓Xa,Xb,Xc,↓reduceIte,Nat.reduceLT,Nat.reduceEqDiff,Nat.reduceBEq,Nat.reduceLeDiff,Nat.reduceAdd,Nat.reduceMul]
  refine Settle.now ?_
  simp(disch:=first|exact Xe|fail)only[rs81,↓Xa,Xb,Xc,↓reduceIte,Nat.reduceLT,Nat.reduceEqDiff,Nat.reduceBEq,Nat.reduceLeDiff,Nat.reduceAdd,Nat.reduceMul]
  exact SetR.now (hq _ _ hg1)
def timesI(to a c:Int):Ins:=
 if c=1 then⟨1,to,a,0,0⟩else if c= -1 then⟨2,to,a,0,0⟩else if c=2 then⟨7,to,a,0,1⟩else if c=4 then⟨7,to,a,0,2⟩else if c=8 then⟨7,to,a,0,3⟩else if c=16 then⟨7,to,a,0,4⟩else⟨5,to,a,0,c⟩
def addI(code:List Ins)(i:Ins):List Ins:=if i.op=1∧i.to=i.a then code else code++[i]
def scalI(to c:Int):Nat→Int→List Ins→List Ins
 |0,_,code=>code
 |n+1,a,code=>scalI to c n to (addI code (timesI to a c))
def stepI(k:Nat)(to term A B:Int)(fr:Int)(j:Nat)(code:List Ins):List Ins:=
 if B=1∨(B= -1∧(k-1-j)%2=0)then addI (addI code (timesI to fr A)) ⟨3,to,to,j,0⟩
 else if B= -1 then addI (addI code (timesI to fr A)) ⟨4,to,to,j,0⟩
 else addI (scalI term B (k-1-j) j (addI code (timesI to fr A))) ⟨3,to,to,term,0⟩
def downI(k:Nat)(to term A B:Int):Nat→Int→List Ins→List Ins
 |0,_,code=>code
 |j+1,fr,code=>downI k to term A B j to (stepI k to term A B fr j code)
def pointI(k:Nat)(term to:Int)(A B:Int)(code:List Ins):List Ins:=
 if k=1 then code else if A=0∧B=0 then addI code ⟨4,to,0,0,0⟩else if A=0 then scalI to B (k-1) 0 code
 else if B=0 then scalI to A (k-1) ((k-1:Nat):Int) code else downI k to term A B (k-1) ((k-1:Nat):Int) code
def codeI(k m:Nat):List Pt→Nat→List Ins→List Ins
 |[],_,code=>code
 |q::l,i,code=>codeI k m l (i+1) (pointI k ((k+m:Nat):Int) ((k+i:Nat):Int) q.a q.b code)
def outI(k i:Nat):Int:=if k=1 then 0 else((k+i:Nat):Int)
def progP(k:Nat)(l:List Pt):PR:=⟨k,((k+l.length+1:Nat):Int),codeI k l.length l 0 [],(List.range l.length).map (outI k)⟩
def Holds(xs R:List Int)(N:Nat):Prop:=R.length=N∧∀j,j<xs.length→R.getD j 0=xs.getD j 0
theorem Holds.set{xs R:List Int}{N t:Nat}{x:Int}(h:Holds xs R N)(ht:xs.length≤t):Holds xs (R.set t x) N:=by
 refine⟨by rw[List.length_set,h.1],fun j hj=>?_⟩
 rw[← h.2 j hj,List.getD_eq_getElem?_getD,List.getD_eq_getElem?_getD,List.getElem?_set_ne (by omega)]
def Same2(R R':List Int)(t u:Nat):Prop:=R'.length=R.length∧∀j,j≠t→j≠u→R'.getD j 0=R.getD j 0
theorem Same2.refl{R:List Int}{t u:Nat}:Same2 R R t u:=⟨rfl,fun _ _ _=>rfl⟩
theorem Same2.trans{R R' R'':List Int}{t u:Nat}(h:Same2 R R' t u)(k:Same2 R' R'' t u):Same2 R R'' t u:=⟨k.1.trans h.1,fun j h1 h2=>(k.2 j h1 h2).trans (h.2 j h1 h2)⟩
def ptVal(xs:List Int)(q:Pt):Int:=valN q.a q.b xs xs.length
def smallI(m:Nat)(i:Ins):Prop:=mayI (m:Int) i∧(i.op=5→ -16≤i.c∧i.c≤16)∧(i.op=7→i.c≤4)∧i.op≠6∧i.op≠8
theorem timesI_small{to a c:Int}{m:Nat}(h0:c≠0)(h1: -16≤c)(h2:c≤16)(ht:0≤to∧to<m)(ha:0≤a∧a<m):smallI m (timesI to a c):=by
 unfold timesI
 repeat' split
 all_goals simp[smallI,mayI]
 all_goals omega
def Beyond(m n:Nat)(code code':List Ins):Prop:= ∃l,code'=code++l∧(∀i,i∈l→smallI m i)∧l.length≤n
theorem Beyond.refl{m n:Nat}{code:List Ins}:Beyond m n code code:=⟨[],by simp,(fun _ h=>by cases h),Nat.zero_le _⟩
theorem Beyond.trans{m n n':Nat}{a b c:List Ins}(h:Beyond m n a b)(k:Beyond m n' b c):Beyond m (n+n') a c:=by
 obtain⟨l,rfl,h1,h2⟩:=h
 obtain⟨l',rfl,k1,k2⟩:=k
 refine⟨l++l',by simp,fun i hi=>?_,by simp;omega⟩
 rcases List.mem_append.1 hi with hi|hi
 ·exact h1 i hi
 ·exact k1 i hi
theorem Beyond.mono{m n n':Nat}{a b:List Ins}(h:Beyond m n a b)(hn:n≤n'):Beyond m n' a b:=let⟨l,e,h1,h2⟩:=h;⟨l,e,h1,by omega⟩
theorem addI_bey{m:Nat}{code:List Ins}{i:Ins}(h:smallI m i):Beyond m 1 code (addI code i):=by
 unfold addI
 split
 ·exact Beyond.refl
 ·exact⟨[i],rfl,fun j hj=>by rw[List.mem_singleton.1 hj];exact h,Nat.le_refl _⟩
theorem scalI_bey{to c:Int}{m:Nat}(h0:c≠0)(h1: -16≤c)(h2:c≤16)(ht:0≤to∧to<m): ∀(n:Nat)(a:Int){code:List Ins},(0≤a∧a<m)→Beyond m n code (scalI to c n a code)
 |0,a,code,_=>Beyond.refl
 |n+1,a,code,ha=>((addI_bey (timesI_small h0 h1 h2 ht ha)).trans (scalI_bey h0 h1 h2 ht n to ht)).mono (by omega)
theorem small_two{m:Nat}{op to a b:Int}(ho:op=3∨op=4)(ht:0≤to∧to<m)(ha:0≤a∧a<m)(hb:0≤b∧b<m):smallI m ⟨op,to,a,b,0⟩:=by
 simp only[smallI,mayI]
 rcases ho with rfl|rfl<;>simp<;>omega
theorem stepI_bey{k m j:Nat}{to term A B fr:Int}{code:List Ins}(hA:A≠0∧ -16≤A∧A≤16)(hB:B≠0∧ -16≤B∧B≤16)(hj:j+1<k)(hk:k≤m)(ht:0≤to∧to<m)(hT:0≤term∧term<m)(hf:0≤fr∧fr<m):Beyond m (k-1-j+2) code (stepI k to term A B fr j code):=by
 have b1:=addI_bey (code:=code) (timesI_small hA.1 hA.2.1 hA.2.2 ht hf)
 have hj':0≤(j:Int)∧(j:Int)<m:=by omega
 unfold stepI
 split
 ·exact(b1.trans (addI_bey (small_two (.inl rfl) ht ht hj'))).mono (by omega)
 ·split
  ·exact(b1.trans (addI_bey (small_two (.inr rfl) ht ht hj'))).mono (by omega)
  ·exact((b1.trans (scalI_bey hB.1 hB.2.1 hB.2.2 hT _ _ hj')).trans (addI_bey (small_two (.inl rfl) ht ht hT))).mono (by omega)
theorem downI_bey{k m:Nat}{to term A B:Int}(hA:A≠0∧ -16≤A∧A≤16)(hB:B≠0∧ -16≤B∧B≤16)(hk:k≤m)(hk8:k≤8)(ht:0≤to∧to<m)(hT:0≤term∧term<m): ∀(j:Nat)(fr:Int){code:List Ins},j<k→(0≤fr∧fr<m)→Beyond m (j*(k+1)-j*(j-1) / 2) code (downI k to term A B j fr code)
 |0,fr,code,_,_=>Beyond.refl
 |j+1,fr,code,hj,hf=>by
  refine((stepI_bey (j:=j) hA hB (by omega) hk ht hT hf).trans (downI_bey hA hB hk hk8 ht hT j to (by omega) ht)).mono ?_
  have:k=0∨k=1∨k=2∨k=3∨k=4∨k=5∨k=6∨k=7∨k=8:=by omega
  have:j=0∨j=1∨j=2∨j=3∨j=4∨j=5∨j=6:=by omega
  rcases ‹k=0∨_› with rfl|rfl|rfl|rfl|rfl|rfl|rfl|rfl|rfl<;>rcases ‹j=0∨_› with rfl|rfl|rfl|rfl|rfl|rfl|rfl<;>first|omega|decide
theorem pointI_bey{k m:Nat}{q:Pt}{to term:Int}{code:List Ins}(hin:inPt q.a q.b=true)(hk0:0<k)(hk8:k≤8)(hk:k≤m)(ht:0≤to∧to<m)(hT:0≤term∧term<m):Beyond m (k*(k+3) / 2) code (pointI k term to q.a q.b code):=by
 obtain⟨A,B⟩:=q
 have hb: -16≤A∧A≤16∧ -16≤B∧B≤16:=of_decide_eq_true hin
 have c8:k=1∨k=2∨k=3∨k=4∨k=5∨k=6∨k=7∨k=8:=by omega
 have b1:1≤k*(k+3) / 2:=by rcases c8 with rfl|rfl|rfl|rfl|rfl|rfl|rfl|rfl<;>decide
 have b2:k-1≤k*(k+3) / 2:=by rcases c8 with rfl|rfl|rfl|rfl|rfl|rfl|rfl|rfl<;>decide
 have b3:(k-1)*(k+1)-(k-1)*(k-1-1) / 2≤k*(k+3) / 2:=by rcases c8 with rfl|rfl|rfl|rfl|rfl|rfl|rfl|rfl<;>decide
 unfold pointI
 dsimp only
 split
 ·exact Beyond.refl
 ·split
  ·exact(addI_bey (small_two (.inr rfl) ht (by omega) (by omega))).mono b1
  ·rename_i h2
   split
   ·rename_i hA
    exact(scalI_bey (fun e=>h2 ⟨hA,e⟩) hb.2.2.1 hb.2.2.2 ht _ _ (by omega)).mono b2
   ·split
    ·exact(scalI_bey ‹¬ A=0› hb.1 hb.2.1 ht _ _ (by omega)).mono b2
    ·exact(downI_bey ⟨‹¬ A=0›,hb.1,hb.2.1⟩ ⟨‹¬ B=0›,hb.2.2.1,hb.2.2.2⟩ hk hk8 ht hT _ _ (by omega) (by omega)).mono b3
theorem codeI_bey{k m M:Nat}(hk0:0<k)(hk8:k≤8)(hM:M=k+m+1): ∀(l:List Pt)(i:Nat){code:List Ins},i+l.length=m→(∀q,q∈l→inPt q.a q.b=true)→Beyond M (l.length*(k*(k+3) / 2)) code (codeI k m l i code)
 |[],i,code,_,_=>Beyond.refl
 |q::l,i,code,hm,hin=>by
  simp only[List.length_cons]at hm ⊢
  have:=(pointI_bey (m:=M) (to:=((k+i:Nat):Int)) (term:=((k+m:Nat):Int)) (code:=code) (hin q (by simp)) hk0 hk8 (by omega) (by omega) (by omega)).trans (codeI_bey hk0 hk8 hM l (i+1) (by omega) fun p hp=>hin p (by simp[hp]))
  exact this.mono (by rw[Nat.add_mul];omega)
theorem progP_small{k:Nat}{l:List Pt}(hk0:0<k)(hk8:k≤8)(hin: ∀q,q∈l→inPt q.a q.b=true):(∀i,i∈(progP k l).code→smallI (k+l.length+1) i)∧(progP k l).code.length≤l.length*(k*(k+3) / 2):=by
 obtain⟨c,h,h1,h2⟩:=codeI_bey hk0 hk8 (M:=k+l.length+1) rfl l 0 (code:=[]) (by omega) hin
 have e:(progP k l).code=c:=by show codeI k l.length l 0 []=c;rw[h];rfl
 rw[e];exact⟨h1,h2⟩
theorem progP_right{k:Nat}{l:List Pt}(hk0:0<k)(hk8:k≤8)(hl0:0<l.length)(hl:l.length≤15)(hin: ∀q,q∈l→inPt q.a q.b=true):rightP (progP k l):=by
 obtain⟨h1,h2⟩:=progP_small hk0 hk8 hin
 have h3:(progP k l).code.length≤1000:=by
  have e:k*(k+3) / 2≤44:=by
   have:k=1∨k=2∨k=3∨k=4∨k=5∨k=6∨k=7∨k=8:=by omega
   rcases this with rfl|rfl|rfl|rfl|rfl|rfl|rfl|rfl<;>decide
  have:=Nat.mul_le_mul hl e
  omega
 refine⟨?_,fun n hn=>?_,fun i hi=>(h1 i hi).1⟩
 ·unfold headP
  simp only[progP,List.length_map,List.length_range]at h3 ⊢
  omega
 ·obtain⟨j,hj,rfl⟩:=List.mem_map.1 hn
  have:=List.mem_range.1 hj
  unfold outI
  simp only[progP]
  split<;>omega
section
variable {H:AHeap} {K:AV→Prop} {k:IntKind} {l:List Pt} {t:Bool} {i:Nat}
theorem len_PtsA(h:l.length<9223372036854775808):lenW false (PtsA l t) K=K (.int .i64 ((l.length:Nat):Int)):=len_rw h
theorem idx_PtsA(h:i<l.length):idxAW 2 (PtsA l t) (.int k (i:Int)) K=K (.cptr ((l.flatMap ptC).drop (i*2))):=idx_rw (flat_len (f:=ptC) (es:=2) (fun _=>rfl) l) h
theorem load_PtsA(h:i<l.length):loadW H (some 2) (.cptr ((l.flatMap ptC).drop (i*2))) K=K (PtV (l[i]).a (l[i]).b):=by
 rw[flat_drop (es:=2) (fun _=>rfl) l i h];simp[loadW,cellsAt,ptC,PtV]
theorem load_PtsA0(h:0<l.length):loadW H (some 2) (.cptr (l.flatMap ptC)) K=K (PtV (l[0]).a (l[0]).b):=by
 have:=load_PtsA (H:=H) (K:=K) h
 rwa[Nat.zero_mul,List.drop_zero]at this
end
def allIn(l:List Pt):Prop:= ∀q,q∈l→inPt q.a q.b=true
instance (l:List Pt):Decidable (allIn l):=by unfold allIn;infer_instance
def ptsOK(l:List Pt):Prop:=allIn l∧1≤l.length∧l.length≤15
instance (l:List Pt):Decidable (ptsOK l):=by unfold ptsOK;infer_instance
theorem points_fn{l:List Pt}{t:Bool}(hl:l.length<9223372036854775808):PFn Tryd.prog 80 [PtsA l t] (.bool (decide (ptsOK l))):=by
 intro H Q hq
 refine enter80 (by simp) ?_
 simp(disch:=first|exact Xe|fail)only[ac80,len_PtsA hl,↓Xa,Xb,Xc,↓reduceIte,Nat.reduceLT,Nat.reduceEqDiff,Nat.reduceBEq,Nat.reduceLeDiff,Nat.reduceAdd,Nat.reduceMul]
 refine W_loop (fun s:Nat=>⟨[],[(0,PtsA l t),(5,PtsA l t),(6,.int .i64 l.length),(7,.int .i64 s)],H⟩) (fun s=>s≤l.length∧allIn (l.take s)) (fun s=>l.length-s) 0 (Settle.now rfl) ⟨Nat.zero_le _,fun q hq=>by simp at hq⟩ ?_
 rintro i ⟨h1,h2⟩
 by_cases hi:i<l.length
 ·simp(disch:=first|exact Xe|fail)only[hi,idx_PtsA hi,load_PtsA hi,↓Xa,Xb,Xc,↓reduceIte,Nat.reduceLT,Nat.reduceEqDiff,Nat.reduceBEq,Nat.reduceLeDiff,Nat.reduceAdd,Nat.reduceMul]
  refine alloc_i fun p4 n4=>?_
  simp(disch:=first|exact Xe|fail)only[cells_PtV,fold_PtV,↓Xa,Xb,Xc,↓reduceIte,Nat.reduceLT,Nat.reduceEqDiff,Nat.reduceBEq,Nat.reduceLeDiff,Nat.reduceAdd,Nat.reduceMul]
  refine pin11_fn.call ?_
  cases hin:inPt (l[i]).a (l[i]).b with
  |false=>
   have: ¬ptsOK l:=fun h=>by have:=h.1 _ (List.getElem_mem hi);rw[hin]at this;cases this
   rw[decide_eq_false this]at hq
   simp(disch:=first|exact Xe|fail)only[rs80,↓Xa,Xb,Xc,↓reduceIte,Nat.reduceLT,Nat.reduceEqDiff,Nat.reduceBEq,Nat.reduceLeDiff,Nat.reduceAdd,Nat.reduceMul]
   exact SetR.dropTo ((Le.refl H).updB n4) (SetR.now hq)
  |true=>
   simp(disch:=first|exact Xe|fail)only[↓Xa,Xb,Xc,↓reduceIte,Nat.reduceLT,Nat.reduceEqDiff,Nat.reduceBEq,Nat.reduceLeDiff,Nat.reduceAdd,Nat.reduceMul]
   refine Settle.dropTo ((Le.refl H).updB n4) (Settle.now ⟨i+1,by omega,⟨by omega,fun q hq=>?_⟩,rfl⟩)
   rw[List.take_succ_eq_append_getElem hi]at hq
   rcases List.mem_append.1 hq with hq|hq
   ·exact h2 q hq
   ·rw[List.mem_singleton.1 hq];exact hin
 ·obtain rfl:i=l.length:=by omega
  rw[List.take_length]at h2
  simp(disch:=first|exact Xe|fail)only[hi,↓Xa,Xb,Xc,↓reduceIte,Nat.reduceLT,Nat.reduceEqDiff,Nat.reduceBEq,Nat.reduceLeDiff,Nat.reduceAdd,Nat.reduceMul]
  refine Settle.now ?_
  by_cases g1:1≤l.length
  ·have e1:decide (((1:Nat):Int)≤((l.length:Nat):Int))=true:=decide_eq_true (by omega)
   by_cases g2:l.length≤15
   ·have e2:decide (((l.length:Nat):Int)≤((15:Nat):Int))=true:=decide_eq_true (by omega)
    rw[decide_eq_true (show ptsOK l from⟨h2,g1,g2⟩)]at hq
    simp(disch:=first|exact Xe|fail)only[len_PtsA hl,geqI,leqI,e1,e2,rs80,↓Xa,Xb,Xc,↓reduceIte,Nat.reduceLT,Nat.reduceEqDiff,Nat.reduceBEq,Nat.reduceLeDiff,Nat.reduceAdd,Nat.reduceMul]
    exact SetR.now hq
   ·have e2:decide (((l.length:Nat):Int)≤((15:Nat):Int))=false:=decide_eq_false (by omega)
    rw[decide_eq_false (fun h=>g2 h.2.2)]at hq
    simp(disch:=first|exact Xe|fail)only[len_PtsA hl,geqI,leqI,e1,e2,rs80,↓Xa,Xb,Xc,↓reduceIte,Nat.reduceLT,Nat.reduceEqDiff,Nat.reduceBEq,Nat.reduceLeDiff,Nat.reduceAdd,Nat.reduceMul]
    exact SetR.now hq
  ·have e1:decide (((1:Nat):Int)≤((l.length:Nat):Int))=false:=decide_eq_false (by omega)
   rw[decide_eq_false (fun h=>g1 h.2.1)]at hq
   simp(disch:=first|exact Xe|fail)only[len_PtsA hl,geqI,leqI,e1,rs80,↓Xa,Xb,Xc,↓reduceIte,Nat.reduceLT,Nat.reduceEqDiff,Nat.reduceBEq,Nat.reduceLeDiff,Nat.reduceAdd,Nat.reduceMul]
   exact SetR.now hq
def valOK(n:Nat)(A B:Int):Prop:=1≤n∧n≤16∧inPt A B=true
instance (n:Nat)(A B:Int):Decidable (valOK n A B):=by unfold valOK;infer_instance
theorem value_no{A B:Int}{xs:List Int}{t:Bool}(hn:xs.length<9223372036854775808)(hno: ¬valOK xs.length A B):PFn Tryd.prog 40 [RowA xs t,PtV A B] (.tup [IntA 0,.int .i64 ((2:Nat):Int)]):=by
 intro H Q hq
 refine enter40 (by simp) ?_
 simp(disch:=first|exact Xe|fail)only[ac40,cells_PtV,↓Xa,Xb,Xc,↓reduceIte,Nat.reduceLT,Nat.reduceEqDiff,Nat.reduceBEq,Nat.reduceLeDiff,Nat.reduceAdd,Nat.reduceMul]
 refine alloc_i fun p3 n3=>?_
 simp(disch:=first|exact Xe|fail)only[↓Xa,Xb,Xc,↓reduceIte,Nat.reduceLT,Nat.reduceEqDiff,Nat.reduceBEq,Nat.reduceLeDiff,Nat.reduceAdd,Nat.reduceMul]
 refine alloc_i fun p4 n4=>?_
 obtain⟨a43,n4'⟩:=upd_none.1 n4
 have ez:AV.agg [.bool false,.seq 0 [] true]=IntA 0:=by
  have:=repI 1
  rw[show 1*2=2 from rfl,repI1]at this
  have h2:([.bool false,.seq 0 [] true]:List AV)=[IntB 0,IntD 0]:=this
  rw[h2];rfl
 have fin: ∀{x:ABlk},Le H ((H.upd p3 (some (.row 73 0 [.int .i64 A,.int .i64 B]))).upd p4 (some x)):=((Le.refl H).updB n3).updB n4'
 by_cases h1:1≤xs.length
 ·have d1:decide (((xs.length:Nat):Int)<((1:Nat):Int))=false:=decide_eq_false (by omega)
  by_cases h2:xs.length≤16
  ·have d2:decide (((16:Nat):Int)<((xs.length:Nat):Int))=false:=decide_eq_false (by omega)
   have hin:inPt A B=false:=by
    cases e:inPt A B with
    |false=>rfl
    |true=>exact absurd ⟨h1,h2,e⟩ hno
   simp(disch:=first|exact Xe|fail)only[len_rw,hn,lss_int,gtr_int,d1,d2,a43,a43.symm,fold_PtV,↓Xa,Xb,Xc,↓reduceIte,Nat.reduceLT,Nat.reduceEqDiff,Nat.reduceBEq,Nat.reduceLeDiff,Nat.reduceAdd,Nat.reduceMul]
   refine pin11_fn.call ?_
   simp(disch:=first|exact Xe|fail)only[hin,a43,a43.symm,ez,cells_IntA,fold_IntA,rs40,↓Xa,Xb,Xc,↓reduceIte,Nat.reduceLT,Nat.reduceEqDiff,Nat.reduceBEq,Nat.reduceLeDiff,Nat.reduceAdd,Nat.reduceMul]
   exact SetR.dropTo fin (SetR.now hq)
  ·have d2:decide (((16:Nat):Int)<((xs.length:Nat):Int))=true:=decide_eq_true (by omega)
   simp(disch:=first|exact Xe|fail)only[len_rw,hn,lss_int,gtr_int,d1,d2,a43,a43.symm,ez,cells_IntA,fold_IntA,rs40,↓Xa,Xb,Xc,↓reduceIte,Nat.reduceLT,Nat.reduceEqDiff,Nat.reduceBEq,Nat.reduceLeDiff,Nat.reduceAdd,Nat.reduceMul]
   exact SetR.dropTo fin (SetR.now hq)
 ·have d1:decide (((xs.length:Nat):Int)<((1:Nat):Int))=true:=decide_eq_true (by omega)
  simp(disch:=first|exact Xe|fail)only[len_rw,hn,lss_int,gtr_int,d1,a43,a43.symm,ez,cells_IntA,fold_IntA,rs40,↓Xa,Xb,Xc,↓reduceIte,Nat.reduceLT,Nat.reduceEqDiff,Nat.reduceBEq,Nat.reduceLeDiff,Nat.reduceAdd,Nat.reduceMul]
  exact SetR.dropTo fin (SetR.now hq)
def valA(xs:List Int)(A B:Int):Int:=if valOK xs.length A B then valN A B xs xs.length else 0
def valE(xs:List Int)(A B:Int):Nat:=if valOK xs.length A B then 0 else 2
theorem value11_fn{A B:Int}{xs:List Int}{t:Bool}{k0:Nat}(hn:xs.length<9223372036854775808)(hx: ∀z,z∈xs→Bd k0 z)(hk:k0≤100000):PFn Tryd.prog 40 [RowA xs t,PtV A B] (.tup [IntA (valA xs A B),.int .i64 ((valE xs A B:Nat):Int)]):=by
 by_cases h:valOK xs.length A B
 ·have:=value_fn (t:=t) hx hk h.1 h.2.1 h.2.2
  rw[valA,valE,if_pos h,if_pos h];exact this
 ·have:=value_no (t:=t) hn h
  rw[valA,valE,if_neg h,if_neg h];exact this
def valsL(xs:List Int)(l:List Pt):List Int:=if ptsOK l∧1≤xs.length∧xs.length≤16 then l.map (ptVal xs)else[]
def valsE(xs:List Int)(l:List Pt):Nat:=if ptsOK l∧1≤xs.length∧xs.length≤16 then 0 else 2
theorem valA_in{xs:List Int}{q:Pt}(h1:1≤xs.length)(h2:xs.length≤16)(hin:inPt q.a q.b=true):valA xs q.a q.b=ptVal xs q∧valE xs q.a q.b=0:=by
 rw[valA,valE,if_pos ⟨h1,h2,hin⟩,if_pos ⟨h1,h2,hin⟩];exact⟨rfl,rfl⟩
theorem values11_fn{xs:List Int}{l:List Pt}{t t':Bool}{k0:Nat}(hn:xs.length<9223372036854775808)(hl:l.length<9223372036854775808)(hx: ∀z,z∈xs→Bd k0 z)(hk:k0≤100000):PFn Tryd.prog 42 [RowA xs t,PtsA l t'] (.tup [RowA (valsL xs l) false,.int .i64 ((valsE xs l:Nat):Int)]):=by
 by_cases hp:ptsOK l
 rotate_right
 ·intro H Q hq
  have e1:valsL xs l=[]:=if_neg fun h=>hp h.1
  have e2:valsE xs l=2:=if_neg fun h=>hp h.1
  rw[e1,e2]at hq
  refine enter42 (by simp) ?_
  simp(disch:=first|exact Xe|fail)only[ac42,↓Xa,Xb,Xc,↓reduceIte,Nat.reduceLT,Nat.reduceEqDiff,Nat.reduceBEq,Nat.reduceLeDiff,Nat.reduceAdd,Nat.reduceMul]
  refine(points_fn hl).call ?_
  simp(disch:=first|exact Xe|fail)only[decide_eq_false hp,rs42,↓Xa,Xb,Xc,↓reduceIte,Nat.reduceLT,Nat.reduceEqDiff,Nat.reduceBEq,Nat.reduceLeDiff,Nat.reduceAdd,Nat.reduceMul]
  exact SetR.loose (SetR.now hq)
 by_cases hx1:1≤xs.length∧xs.length≤16
 ·have e1:valsL xs l=l.map (ptVal xs):=if_pos ⟨hp,hx1⟩
  have e2:valsE xs l=0:=if_pos ⟨hp,hx1⟩
  have ll:(l.map (ptVal xs)).length=l.length:=by simp
  rw[e1,e2]
  have er:RowA (l.map (ptVal xs)) false=.seq l.length (IC (l.map (ptVal xs))) false:=by rw[RowA,ll]
  rw[er]
  refine PFn.frozen1 (ty:=34) (es:=2) fun H Q hq=>?_
  refine enter42 (by simp) ?_
  simp(disch:=first|exact Xe|fail)only[ac42,↓Xa,Xb,Xc,↓reduceIte,Nat.reduceLT,Nat.reduceEqDiff,Nat.reduceBEq,Nat.reduceLeDiff,Nat.reduceAdd,Nat.reduceMul]
  refine(points_fn hl).call ?_
  simp(disch:=first|exact Xe|fail)only[decide_eq_true hp,len_PtsA hl,↓Xa,Xb,Xc,↓reduceIte,Nat.reduceLT,Nat.reduceEqDiff,Nat.reduceBEq,Nat.reduceLeDiff,Nat.reduceAdd,Nat.reduceMul]
  refine W_loop (fun s:Nat×AV×AHeap=>⟨[],[(0,RowA xs t),(6,s.2.1),(14,PtsA l t'),(15,.int .i64 l.length),(16,.int .i64 s.1)],s.2.2⟩) (fun s=>s.1≤l.length∧growC H 34 2 s.1 (IC ((l.map (ptVal xs)).take s.1)) s.2.1 s.2.2) (fun s=>l.length-s.1) (0,.seq 0 [] true,H) (Settle.now rfl) ⟨Nat.zero_le _,growC_nil⟩ ?_
  rintro⟨i,y,M⟩ ⟨h1,hg⟩
  dsimp only at h1 hg ⊢
  by_cases hi:i<l.length
  ·obtain⟨w1,w2⟩:=valA_in hx1.1 hx1.2 (hp.1 _ (List.getElem_mem hi))
   simp(disch:=first|exact Xe|fail)only[hi,idx_PtsA hi,load_PtsA hi,↓Xa,Xb,Xc,↓reduceIte,Nat.reduceLT,Nat.reduceEqDiff,Nat.reduceBEq,Nat.reduceLeDiff,Nat.reduceAdd,Nat.reduceMul]
   refine alloc_i fun p8 n8=>?_
   simp(disch:=first|exact Xe|fail)only[cells_PtV,fold_PtV,↓Xa,Xb,Xc,↓reduceIte,Nat.reduceLT,Nat.reduceEqDiff,Nat.reduceBEq,Nat.reduceLeDiff,Nat.reduceAdd,Nat.reduceMul]
   refine(value11_fn (t:=t) hn hx hk).call ?_
   rw[w1,w2]
   simp(disch:=first|exact Xe|fail)only[↓Xa,Xb,Xc,↓reduceIte,Nat.reduceLT,Nat.reduceEqDiff,Nat.reduceBEq,Nat.reduceLeDiff,Nat.reduceAdd,Nat.reduceMul]
   refine alloc_i fun p9 n9=>?_
   obtain⟨a98,n9'⟩:=upd_none.1 n9
   have d0:decide (((0:Nat):Int)=((0:Nat):Int))=true:=rfl
   simp(disch:=first|exact Xe|fail)only[a98,a98.symm,cells_IntA,neq_int,d0,fold_IntA,repI1,↓Xa,Xb,Xc,↓reduceIte,Nat.reduceLT,Nat.reduceEqDiff,Nat.reduceBEq,Nat.reduceLeDiff,Nat.reduceAdd,Nat.reduceMul]
   refine app_C (m:=1) (growC_upd (growC_upd hg n8) n9) rfl rfl (by omega) (by have:=hp.2.2;omega) (by have:=hp.2.2;omega) fun y' M2 hg4=>?_
   have hil:i<(l.map (ptVal xs)).length:=by simpa using hi
   have et:IC ((l.map (ptVal xs)).take i)++[IntB (ptVal xs l[i]),IntD (ptVal xs l[i])]=IC ((l.map (ptVal xs)).take (i+1)):=by
    rw[IC_take hil,List.getElem_map]
   rw[et]at hg4
   obtain⟨M3,hg5,hl5⟩:=growC_le2 hg4 (((Le.refl H).updB (growC_none hg n8)).updB (growC_none hg n9'))
   simp(disch:=first|exact Xe|fail)only[↓Xa,Xb,Xc,↓reduceIte,Nat.reduceLT,Nat.reduceEqDiff,Nat.reduceBEq,Nat.reduceLeDiff,Nat.reduceAdd,Nat.reduceMul]
   exact Settle.dropTo hl5 (Settle.now ⟨(i+1,y',M3),by dsimp only;omega,⟨by dsimp only;omega,hg5⟩,rfl⟩)
  ·obtain rfl:i=l.length:=by omega
   rw[List.take_of_length_le (by simp)]at hg
   simp(disch:=first|exact Xe|fail)only[hi,↓Xa,Xb,Xc,↓reduceIte,Nat.reduceLT,Nat.reduceEqDiff,Nat.reduceBEq,Nat.reduceLeDiff,Nat.reduceAdd,Nat.reduceMul]
   refine Settle.now ?_
   simp(disch:=first|exact Xe|fail)only[rs42,↓Xa,Xb,Xc,↓reduceIte,Nat.reduceLT,Nat.reduceEqDiff,Nat.reduceBEq,Nat.reduceLeDiff,Nat.reduceAdd,Nat.reduceMul]
   exact SetR.now (hq _ _ hg)
 ·have e1:valsL xs l=[]:=if_neg fun h=>hx1 h.2
  have e2:valsE xs l=2:=if_neg fun h=>hx1 h.2
  rw[e1,e2]
  intro H Q hq
  have hi:0<l.length:=hp.2.1
  have w: ¬valOK xs.length (l[0]).a (l[0]).b:=fun h=>hx1 ⟨h.1,h.2.1⟩
  refine enter42 (by simp) ?_
  simp(disch:=first|exact Xe|fail)only[ac42,↓Xa,Xb,Xc,↓reduceIte,Nat.reduceLT,Nat.reduceEqDiff,Nat.reduceBEq,Nat.reduceLeDiff,Nat.reduceAdd,Nat.reduceMul]
  refine(points_fn hl).call ?_
  simp(disch:=first|exact Xe|fail)only[decide_eq_true hp,len_PtsA hl,↓Xa,Xb,Xc,↓reduceIte,Nat.reduceLT,Nat.reduceEqDiff,Nat.reduceBEq,Nat.reduceLeDiff,Nat.reduceAdd,Nat.reduceMul]
  refine W_loop (fun s:Nat=>⟨[],[(0,RowA xs t),(6,.seq 0 [] true),(14,PtsA l t'),(15,.int .i64 l.length),(16,.int .i64 ((0:Nat):Int))],H⟩) (fun s=>s=0) (fun s=>s) 0 (Settle.now rfl) rfl ?_
  rintro i rfl
  simp(disch:=first|exact Xe|fail)only[hi,idx_PtsA hi,load_PtsA0 hi,↓Xa,Xb,Xc,↓reduceIte,Nat.reduceLT,Nat.reduceEqDiff,Nat.reduceBEq,Nat.reduceLeDiff,Nat.reduceAdd,Nat.reduceMul]
  refine alloc_i fun p8 n8=>?_
  simp(disch:=first|exact Xe|fail)only[cells_PtV,fold_PtV,↓Xa,Xb,Xc,↓reduceIte,Nat.reduceLT,Nat.reduceEqDiff,Nat.reduceBEq,Nat.reduceLeDiff,Nat.reduceAdd,Nat.reduceMul]
  refine(value_no (t:=t) hn w).call ?_
  simp(disch:=first|exact Xe|fail)only[↓Xa,Xb,Xc,↓reduceIte,Nat.reduceLT,Nat.reduceEqDiff,Nat.reduceBEq,Nat.reduceLeDiff,Nat.reduceAdd,Nat.reduceMul]
  refine alloc_i fun p9 n9=>?_
  have d0:decide (((2:Nat):Int)=((0:Nat):Int))=false:=rfl
  simp(disch:=first|exact Xe|fail)only[cells_IntA,neq_int,d0,rs42,↓Xa,Xb,Xc,↓reduceIte,Nat.reduceLT,Nat.reduceEqDiff,Nat.reduceBEq,Nat.reduceLeDiff,Nat.reduceAdd,Nat.reduceMul]
  exact SetR.loose (SetR.dropTo (((Le.refl H).updB n8).updB (upd_none.1 n9).2) (SetR.now hq))
theorem runR_run{H C:AHeap}{cv ov:AV}{b N k0 L ty:Nat}{t:Bool}{p:PR}{f:AV}{regs0 S:List (List Int)}{A B:AHeap}{J:List (List Int)→AHeap→Prop}{Jx:AHeap→Prop}{Q:AV→AHeap→Prop}(hH:H=Un A B)
 (hS:S=(runX doR [] p.code regs0).1) (hd:Dj A B) (hb:B b=some (.row ty 1 (GI regs0))) (hN:regs0.length=N) (hr: ∀i,i∈p.code→mayI (N:Int) i) (hz:GoodG k0 L regs0) (hL:L≤100000) (hk:k0+3*p.code.length≤100000)
 (hJ:J [] A) (hcv:CodeV C cv p.code) (hov:ov.cell=true) (hCB:Le C B) (hCb:C b=none)
 (hf: ∀pre x rest A B,S=pre++x::rest→Dj A B→J pre A→callW Tryd.prog f [.int .i64 ((pre.length:Nat):Int),rI x] (Un A B) fun r H'=> ∃A',Dj A' B∧H'=Un A' B∧((r=.bool true∧J (pre++[x]) A')∨(r=.bool false∧Jx A')))
 (hq: ∀r A' regs',regs'.length=N→GoodG (k0+3*p.code.length) L regs'→Dj A' (B.upd b (some (.row ty 1 (GI regs'))))→((r= -1∧S.length=p.code.length∧J S A'∧regs'=(runX doR [] p.code regs0).2)∨(r=(S.length:Int)∧S.length<p.code.length∧J S A')∨(r= -1∧Jx A'))→Q (.int .i64 r) (Un A' (B.upd b (some (.row ty 1 (GI regs')))))):
 Run Tryd.prog 72 [WaysR,ProgO p cv ov,.own b N 0 N t,f] H Q:=by
 subst hH
 obtain⟨hcc,hcl,qf,hcq⟩:=hcv
 have lc:p.code.length<9223372036854775808:=by omega
 have hAb:A b=none:=dj_atR hd hb
 refine enter72 (by simp) ?_
 simp(disch:=first|exact Xe|fail)only[ac72,cells_WaysR,↓Xa,Xb,Xc,↓reduceIte,Nat.reduceLT,Nat.reduceEqDiff,Nat.reduceBEq,Nat.reduceLeDiff,Nat.reduceAdd,Nat.reduceMul]
 refine alloc_i fun p4 hp4=>?_
 obtain⟨a4,b4⟩:=un_none.1 hp4
 simp(disch:=first|exact Xe|fail)only[cells_ProgO hcc hov,↓Xa,Xb,Xc,↓reduceIte,Nat.reduceLT,Nat.reduceEqDiff,Nat.reduceBEq,Nat.reduceLeDiff,Nat.reduceAdd,Nat.reduceMul]
 refine alloc_i fun p5 hp5=>?_
 have d54:=(upd_none.1 hp5).1
 obtain⟨a5,b5⟩:=un_none.1 (upd_none.1 hp5).2
 have eb4:Ap p4 b:=ne_of_some hb b4
 have eb5:Ap p5 b:=ne_of_some hb b5
 simp(disch:=first|exact Xe|fail)only[hcl,↓Xa,Xb,Xc,↓reduceIte,Nat.reduceLT,Nat.reduceEqDiff,Nat.reduceBEq,Nat.reduceLeDiff,Nat.reduceAdd,Nat.reduceMul]
 generalize hwv:(ABlk.row 133 0 [.fn (.func 114) [] [],.fn (.func 115) [] [],.fn (.func 117) [] [],.fn (.func 119) [] [],.fn (.func 120) [] []])=wv
 have eB:B.upd b (some (.row ty 1 (GI regs0)))=B:=funext fun o=>by
  by_cases e:o=b
  ·subst e;rw[upd_same,hb]
  ·rw[upd_other _ _ e]
 have fin: ∀(M:AHeap)(A':AHeap)(regs':List (List Int))(r:Int),Le (Un A' (B.upd b (some (.row ty 1 (GI regs'))))) M→Q (.int .i64 r) (Un A' (B.upd b (some (.row ty 1 (GI regs')))))→SetR Q (.int .i64 r) M:=fun M A' regs' r hl h=>SetR.dropTo hl (SetR.now h)
 refine W_loop (fun s:Nat×List (List Int)×AHeap=>⟨[],[(2,.own b N 0 N t),(3,f),(4,.ptr p4 5 0),(14,cv),(15,.int .i64 p.code.length),(16,.int .i64 s.1)],Un s.2.2 ((B.upd b (some (.row ty 1 (GI s.2.1)))).upd p4 (some wv))⟩)
  (fun s=>s.1≤p.code.length∧s.1≤S.length∧s.2.1.length=N∧Dj s.2.2 ((B.upd b (some (.row ty 1 (GI s.2.1)))).upd p4 (some wv))∧J (S.take s.1) s.2.2∧runX doR [] (p.code.drop s.1) s.2.1=(S.drop s.1,(runX doR [] p.code regs0).2)∧GoodG (k0+3*s.1) L s.2.1) (fun s=>p.code.length-s.1) (0,regs0,A) ?_ ⟨Nat.zero_le _,Nat.zero_le _,hN,?_,by simpa using hJ,?_,by simpa using hz⟩ ?_
 ·dsimp only
  rw[eB]
  refine Settle.dropTo (Le.updB ?_ ?_) (Settle.now rfl)
  ·rw[un_updR a4];exact Le.refl _
  ·rw[un_updR a4];exact upd_none.2 ⟨d54,un_none.2 ⟨a5,b5⟩⟩
 ·dsimp only
  rw[eB];exact dj_updR hd a4
 ·dsimp only
  rw[List.drop_zero,List.drop_zero,hS]
 rintro⟨j,regs,A'⟩ ⟨h1,h2,h3,h4,h5,h6,h7⟩
 dsimp only at h1 h2 h3 h4 h5 h6 h7 ⊢
 have gb4:b≠p4:=Ne.symm eb4
 have m4:Un A' ((B.upd b (some (.row ty 1 (GI regs)))).upd p4 (some wv)) p4=some wv:=by rw[un_atR (dj_atR h4 (upd_same _ _ _)),upd_same]
 have mb:Un A' ((B.upd b (some (.row ty 1 (GI regs)))).upd p4 (some wv)) b=some (.row ty 1 (GI regs)):=by
  have e:((B.upd b (some (.row ty 1 (GI regs)))).upd p4 (some wv)) b=some (.row ty 1 (GI regs)):=by rw[upd_other _ _ gb4,upd_same]
  rw[un_atR (dj_atR h4 e),e]
 have hA'4:A' p4=none:=dj_atR h4 (upd_same _ _ _)
 have hA'b:A' b=none:=dj_atR h4 (show _=some (ABlk.row ty 1 (GI regs)) by rw[upd_other _ _ gb4,upd_same])
 generalize hM:Un A' ((B.upd b (some (.row ty 1 (GI regs)))).upd p4 (some wv))=M at*
 by_cases hj:j<p.code.length
 ·have hmi:=hr _ (List.getElem_mem hj)
  have hma:=hmi.2.2
  obtain⟨w,hw⟩: ∃w:Nat,(p.code[j]).to=(w:Int):=⟨(p.code[j]).to.toNat,by omega⟩
  have hCM:Le C M:=fun o x ho=>by
   have ob:o≠b:=by rintro rfl;rw[hCb]at ho;cases ho
   have o4:o≠p4:=by rintro rfl;rw[hCB.none b4]at ho;cases ho
   have e:((B.upd b (some (.row ty 1 (GI regs)))).upd p4 (some wv)) o=some x:=by rw[upd_other _ _ o4,upd_other _ _ ob];exact hCB o x ho
   rw[← hM];exact le_unB h4 o x e
  have hix:=(((hcq M hCM).2 j hj).1)
  have hlx:=(((hcq M hCM).2 j hj).2)
  simp(disch:=first|exact Xe|fail)only[hj,hix,hlx,↓Xa,Xb,Xc,↓reduceIte,Nat.reduceLT,Nat.reduceEqDiff,Nat.reduceBEq,Nat.reduceLeDiff,Nat.reduceAdd,Nat.reduceMul]
  refine alloc_i fun q1 hq1=>?_
  have u1:=ne_of_some mb hq1
  have u2:=ne_of_some m4 hq1
  have m4':=m4
  rw[← hwv]at m4'
  simp(disch:=first|exact Xe|fail)only[cells_InsA,fold_InsA,m4',fold_WaysR,↓Xa,Xb,Xc,↓reduceIte,Nat.reduceLT,Nat.reduceEqDiff,Nat.reduceBEq,Nat.reduceLeDiff,Nat.reduceAdd,Nat.reduceMul]
  have hlM:Le (Un A' (B.upd b (some (.row ty 1 (GI regs))))) M:=hM▸le_unR ((Le.refl _).updB (upd_none.2 ⟨eb4,b4⟩))
  have hdb:Dj A' (B.upd b (some (.row ty 1 (GI regs)))):=dj_le h4 ((Le.refl _).updB (upd_none.2 ⟨eb4,b4⟩))
  have hz':GoodG (k0+3*p.code.length) L regs:=fun z hm=>⟨(h7 z hm).1,(h7 z hm).2.mono (by omega)⟩
  refine run_call (doI_run (b:=b) (N:=N) (k:=k0+3*j) (L:=L) (ty:=ty) (regs:=regs) (by rw[upd_other _ _ (Ne.symm u1)];exact mb) h3 hmi h7 (by omega) hL ?_ fun hno0=>?_)
  rotate_right
  ·have hno:=runX_no hj regs hno0
   rw[h6]at hno
   have hS0:S.drop j=[]:=congrArg Prod.fst hno
   have hSl:S.length≤j:=by
    have:=congrArg List.length hS0
    simp at this;omega
   obtain rfl:j=S.length:=by omega
   rw[List.take_of_length_le (Nat.le_refl _)]at h5
   simp(disch:=first|exact Xe|fail)only[rs72,↓Xa,Xb,Xc,↓reduceIte,Nat.reduceLT,Nat.reduceEqDiff,Nat.reduceBEq,Nat.reduceLeDiff,Nat.reduceAdd,Nat.reduceMul]
   refine fin _ A' regs _ (hlM.updB (hlM.none hq1)) (hq _ A' regs h3 hz' hdb (.inr (.inl ⟨rfl,hj,h5⟩)))
  intro x hdo hbx hxl
  have hat:=runX_at hj regs hdo
  rw[h6]at hat
  have hS1:S.drop j=x::(runX doR [] (p.code.drop (j+1)) (regs.set (p.code[j]).to.toNat x)).1:=congrArg Prod.fst hat
  have hjS:j<S.length:=by
   have:=congrArg List.length hS1
   simp at this;omega
  have hSx:S=S.take j++x::S.drop (j+1):=by
   conv=>lhs;rw[← List.take_append_drop j S]
   rw[List.drop_eq_getElem_cons hjS]at hS1
   rw[List.drop_eq_getElem_cons hjS]
   injection hS1 with e1 e2
   rw[e1]
  have hS2:S.drop (j+1)=(runX doR [] (p.code.drop (j+1)) (regs.set (p.code[j]).to.toNat x)).1:=by
   rw[List.drop_eq_getElem_cons hjS]at hS1
   injection hS1
  have hlt:(S.take j).length=j:=by rw[List.length_take];omega
  have hl2:(GI regs).length=N:=by rw[GI_len,h3]
  have hwN:w<N:=by omega
  have hwr:w<regs.length:=by omega
  have eset:(GI regs).set w (rI x)=GI (regs.set w x):=by simp[GI,List.map_set]
  simp(disch:=first|exact Xe|fail)only[hw,mb,idx_ownR,hl2,↓Xa,Xb,Xc,↓reduceIte,Nat.reduceLT,Nat.reduceEqDiff,Nat.reduceBEq,Nat.reduceLeDiff,Nat.reduceAdd,Nat.reduceMul]
  refine(stP_1 (x:=rI x) hl2 hwN).2 ?_
  rw[eset]
  generalize hX1:(some (ABlk.row 88 0 [.int .i64 (p.code[j]).op,.int .i64 (w:Int),.int .i64 (p.code[j]).a,.int .i64 (p.code[j]).b,.int .i64 (p.code[j]).c]))=X1 at*
  have qa1:A' q1=none:=(un_none.1 (hM▸hq1)).1
  have eH:(M.upd q1 X1).upd b (some (.row ty 1 (GI (regs.set w x))))=Un A' (((B.upd b (some (.row ty 1 (GI (regs.set w x))))).upd p4 (some wv)).upd q1 X1):=by
   rw[un_updR qa1,upd_comm _ _ _ (show q1≠b from u1),← hM,← un_updR hA'b,upd_comm _ _ _ (show p4≠b from eb4),upd_upd]
  rw[eH]
  have nb1:=(upd_none.1 (upd_none.1 (un_none.1 (hM▸hq1:Un A' _ q1=none)).2).2).2
  have hle1:Le (B.upd b (some (.row ty 1 (GI (regs.set w x))))) (((B.upd b (some (.row ty 1 (GI (regs.set w x))))).upd p4 (some wv)).upd q1 X1):=by
   rw[← hX1]
   exact((Le.refl _).updB (upd_none.2 ⟨eb4,b4⟩)).updB (upd_none.2 ⟨u1,nb1⟩)
  have hle2:Le ((B.upd b (some (.row ty 1 (GI (regs.set w x))))).upd p4 (some wv)) (((B.upd b (some (.row ty 1 (GI (regs.set w x))))).upd p4 (some wv)).upd q1 X1):=by
   rw[← hX1]
   exact(Le.refl _).updB (upd_none.2 ⟨u2,upd_none.2 ⟨u1,nb1⟩⟩)
  have hd2:Dj A' (((B.upd b (some (.row ty 1 (GI (regs.set w x))))).upd p4 (some wv)).upd q1 X1):=by
   refine dj_updR (dj_updR ?_ hA'4) qa1
   have h:=dj_updR (x:=some (.row ty 1 (GI (regs.set w x)))) hdb hA'b
   rwa[upd_upd]at h
  generalize hB2:(((B.upd b (some (.row ty 1 (GI (regs.set w x))))).upd p4 (some wv)).upd q1 X1)=B2 at*
  have hf':=hf (S.take j) x (S.drop (j+1)) A' B2 hSx hd2 h5
  rw[hlt]at hf'
  have hlen':(regs.set w x).length=N:=by rw[List.length_set,h3]
  have hbd':GoodG (k0+3*(j+1)) L (regs.set w x):=fun z hm=>by
   rcases List.mem_or_eq_of_mem_set hm with hm|rfl
   ·exact⟨(h7 z hm).1,(h7 z hm).2.mono (by omega)⟩
   ·exact⟨hxl,hbx.mono (by omega)⟩
  simp(disch:=first|exact Xe|fail)only[↓Xa,Xb,Xc,↓reduceIte,Nat.reduceLT,Nat.reduceEqDiff,Nat.reduceBEq,Nat.reduceLeDiff,Nat.reduceAdd,Nat.reduceMul]
  refine callW_mono hf' ?_
  rintro r H' ⟨A'',hd3,rfl,⟨rfl,hJ'⟩|⟨rfl,hJ'⟩⟩
  ·simp(disch:=first|exact Xe|fail)only[↓Xa,Xb,Xc,↓reduceIte,Nat.reduceLT,Nat.reduceEqDiff,Nat.reduceBEq,Nat.reduceLeDiff,Nat.reduceAdd,Nat.reduceMul]
   have ew:(p.code[j]).to.toNat=w:=by omega
   rw[ew]at hat hS2
   refine Settle.dropTo (le_unR hle2) (Settle.now ⟨(j+1,regs.set w x,A''),by dsimp only;omega,⟨hj,hjS,hlen',dj_le hd3 hle2,?_,?_,hbd'⟩,rfl⟩)
   ·dsimp only
    rw[List.take_succ_eq_append_getElem hjS]
    have e:S[j]=x:=by
     rw[List.drop_eq_getElem_cons hjS]at hS1
     injection hS1
    rw[e];exact hJ'
   ·dsimp only
    rw[hS2,congrArg Prod.snd hat]
  ·simp(disch:=first|exact Xe|fail)only[rs72,↓Xa,Xb,Xc,↓reduceIte,Nat.reduceLT,Nat.reduceEqDiff,Nat.reduceBEq,Nat.reduceLeDiff,Nat.reduceAdd,Nat.reduceMul]
   refine Settle.now ?_
   simp(disch:=first|exact Xe|fail)only[rs72,↓Xa,Xb,Xc,↓reduceIte,Nat.reduceLT,Nat.reduceEqDiff,Nat.reduceBEq,Nat.reduceLeDiff,Nat.reduceAdd,Nat.reduceMul]
   exact fin _ A'' _ _ (le_unR hle1) (hq _ A'' _ hlen' (fun z hm=>⟨(hbd' z hm).1,(hbd' z hm).2.mono (by omega)⟩) (dj_le hd3 hle1) (.inr (.inr ⟨rfl,hJ'⟩)))
 ·obtain rfl:j=p.code.length:=by omega
  have hS0:S.drop p.code.length=[]∧(runX doR [] p.code regs0).2=regs:=by
   rw[List.drop_of_length_le (Nat.le_refl _)]at h6
   exact⟨(congrArg Prod.fst h6).symm,(congrArg Prod.snd h6).symm⟩
  have hSl:S.length=p.code.length:=by
   have:=congrArg List.length hS0.1
   simp at this;omega
  have hlM:Le (Un A' (B.upd b (some (.row ty 1 (GI regs))))) M:=hM▸le_unR ((Le.refl _).updB (upd_none.2 ⟨eb4,b4⟩))
  have hdb:Dj A' (B.upd b (some (.row ty 1 (GI regs)))):=dj_le h4 ((Le.refl _).updB (upd_none.2 ⟨eb4,b4⟩))
  rw[← hSl,List.take_of_length_le (Nat.le_refl _)]at h5
  simp(disch:=first|exact Xe|fail)only[hj,rs72,↓Xa,Xb,Xc,↓reduceIte,Nat.reduceLT,Nat.reduceEqDiff,Nat.reduceBEq,Nat.reduceLeDiff,Nat.reduceAdd,Nat.reduceMul]
  refine Settle.now ?_
  simp(disch:=first|exact Xe|fail)only[rs72,↓Xa,Xb,Xc,↓reduceIte,Nat.reduceLT,Nat.reduceEqDiff,Nat.reduceBEq,Nat.reduceLeDiff,Nat.reduceAdd,Nat.reduceMul]
  exact fin _ A' _ _ hlM (hq _ A' _ h3 h7 hdb (.inl ⟨rfl,hSl,h5,hS0.2.symm⟩))
def gridE(p:PR)(g:List (List Int)):Nat:=if rightP p∧(g.length:Int)=p.ins then(if(∀r,r∈g→r.length=(g.getD 0 []).length)∧(g.getD 0 []).length≤4096 then 0 else 5)else rgtE p g.length
abbrev GIA(g:List (List Int))(t:Bool):AV:=.seq g.length (GI g) t
def CI(R:List (List Int))(N j:Nat):List AV:=GI (R.take j)++List.replicate (N-j) (.seq 0 [] true)
theorem CI_len{R:List (List Int)}{N j:Nat}(hR:R.length=N)(hj:j≤N):(CI R N j).length=N:=by simp[CI,GI];omega
theorem CI_set{R:List (List Int)}{N j:Nat}(hR:R.length=N)(hj:j<N):(CI R N j).set j (rI (R[j]'(by omega)))=CI R N (j+1):=by
 unfold CI
 have h1:(GI (R.take j)).length=j:=by simp[GI];omega
 rw[GI_take (by omega),List.set_append_right _ _ (by omega),h1,Nat.sub_self,show N-j=(N-(j+1))+1 by omega,List.replicate_succ,List.set_cons_zero,List.append_assoc];rfl
theorem CI_seq{R:List (List Int)}{N j:Nat}: ∀x,x∈CI R N j→∃n c t,x=.seq n c t:=fun x hx=>by
 rcases List.mem_append.1 hx with hx|hx
 ·obtain⟨r,-,rfl⟩:=List.mem_map.1 hx;exact⟨_,_,_,rfl⟩
 ·rw[List.mem_replicate]at hx;exact⟨_,_,_,hx.2⟩
theorem CI_frz{R:List (List Int)}{N j b n:Nat}(hR:R.length=N)(hj:j<N)(hn:(R[j]'(by omega)).length=n){t:Bool}:
 ∀i(h:i<((CI R N j).set j (.own b (n*2) 0 n t)).length)(h':i<(CI R N (j+1)).length),Wk (frz1 b 2 (IC (R[j]'(by omega))) (((CI R N j).set j (.own b (n*2) 0 n t))[i])) ((CI R N (j+1))[i]):=fun i h h'=>by
 have hCl:=CI_len hR (Nat.le_of_lt hj)
 have e1: ∀zs:List Int,zs.length=n→frz1 b 2 (IC zs) (.own b (n*2) 0 n t)=.seq n (IC zs) t:=fun zs hz=>by
  simp[frz1,IC_len,hz];rw[List.take_of_length_le (by rw[IC_len];omega)]
 simp only[← CI_set hR hj,List.getElem_set]
 by_cases e:j=i
 ·rw[if_pos e,if_pos e,e1 _ hn]
  have:rI (R[j]'(by omega))=.seq n (IC (R[j]'(by omega))) false:=by rw[rI,RowA,hn]
  rw[this];exact Wk.l0
 ·rw[if_neg e,if_neg e]
  obtain⟨n',c',t',ex⟩:=CI_seq (R:=R) (N:=N) (j:=j) _ (List.getElem_mem (by rw[List.length_set]at h;exact h))
  rw[ex];exact Wk.refl
theorem laid_run{H:AHeap}{Q:AV→AHeap→Prop}{p:PR}{grid:List (List Int)}{t:Bool}{L N:Nat}(hp:p.ok)(hN0:p.regs.toNat=N)(hLg:(grid.getD 0 []).length=L)(hL:L≤100000)(hgl:grid.length<9223372036854775808)(hgb: ∀r,r∈grid→r.length<9223372036854775808)
 (hbad:gridE p grid≠0→Q (.tup [.seq 0 [] true,.int .i64 ((gridE p grid:Nat):Int)]) H)
 (hok:gridE p grid=0→∀b,H b=none→Q (.tup [.own b N 0 N true,.int .i64 ((0:Nat):Int)]) (H.upd b (some (.row 31 1 (GI (regsR p grid L)))))):
 Run Tryd.prog 71 [ProgA p,GIA grid t] H Q:=by
 refine enter71 (by simp) ?_
 simp(disch:=first|exact Xe|fail)only[ac71,cells_ProgA,↓Xa,Xb,Xc,↓reduceIte,Nat.reduceLT,Nat.reduceEqDiff,Nat.reduceBEq,Nat.reduceLeDiff,Nat.reduceAdd,Nat.reduceMul]
 refine alloc_i fun p2 hp2=>?_
 simp(disch:=first|exact Xe|fail)only[fold_ProgA,len_rw,↓Xa,Xb,Xc,↓reduceIte,Nat.reduceLT,Nat.reduceEqDiff,Nat.reduceBEq,Nat.reduceLeDiff,Nat.reduceAdd,Nat.reduceMul]
 refine(right10_fn p hp grid.length).call ?_
 have hle2: ∀{x:ABlk},Le H (H.upd p2 (some x)):=(Le.refl H).updB hp2
 by_cases hr:rightP p∧(grid.length:Int)=p.ins
 rotate_right
 ·have e0: ∃n:Nat,rgtE p grid.length=n+1:=by
   unfold rgtE
   split
   ·rw[if_neg (fun e=>hr ⟨‹_›,e⟩)];exact⟨_,rfl⟩
   ·exact⟨_,rfl⟩
  obtain⟨n,e0⟩:=e0
  have hd:decide (((n+1:Nat):Int)=((0:Nat):Int))=false:=decide_eq_false (by omega)
  have hge:gridE p grid=n+1:=by unfold gridE;rw[if_neg hr,e0]
  rw[e0]
  rw[hge]at hbad
  simp(disch:=first|exact Xe|fail)only[neq_int,hd,rs71,↓Xa,Xb,Xc,↓reduceIte,Nat.reduceLT,Nat.reduceEqDiff,Nat.reduceBEq,Nat.reduceLeDiff,Nat.reduceAdd,Nat.reduceMul]
  exact SetR.dropTo hle2 (SetR.now (hbad (by omega)))
 have e0:rgtE p grid.length=0:=by simp[rgtE,hr.1,hr.2]
 have hge:gridE p grid=if(∀r,r∈grid→r.length=L)∧L≤4096 then 0 else 5:=by unfold gridE;rw[if_pos hr,hLg]
 rw[e0]
 obtain⟨hr1,hr2⟩:=hr
 have hh:=hr1.1
 unfold headP at hh
 have hN:p.regs=(N:Int):=by omega
 have hg0:0<grid.length:=by omega
 have hgN:grid.length≤N:=by omega
 have gl0:(grid[0]).length=L:=by rw[← hLg];simp[List.getD_eq_getElem?_getD,hg0]
 have hR0:(regsR p grid L).length=N:=by simp[regsR,hN];omega
 have hix: ∀{k:IntKind}{K:AV→Prop}{i:Nat}(h:i<grid.length),idxAW 1 (GIA grid t) (.int k (i:Int)) K=K (.cptr ((GI grid).drop i)):=fun{k K i} h=>by
  have:=idx_map (f:=rI) (t:=t) (k:=k) (K:=K) h
  rw[Nat.mul_one]at this;exact this
 have hld: ∀{M:AHeap}{K:AV→Prop}{i:Nat}(h:i<grid.length),loadW M none (.cptr ((GI grid).drop i)) K=K (rI (grid[i])):=fun{M K i} h=>load_map h
 have hld0: ∀{M:AHeap}{K:AV→Prop},loadW M none (.cptr (GI grid)) K=K (rI (grid[0])):=fun{M K}=>hld (i:=0) hg0
 have gl0':(grid[0]).length<9223372036854775808:=by omega
 have e00:decide (((0:Nat):Int)=((0:Nat):Int))=true:=rfl
 simp(disch:=first|exact Xe|fail)only[neq_int,e00,hix hg0,hld0,len_rw,gl0',gl0,hN,↓Xa,Xb,Xc,↓reduceIte,Nat.reduceLT,Nat.reduceEqDiff,Nat.reduceBEq,Nat.reduceLeDiff,Nat.reduceAdd,Nat.reduceMul]
 rw[mks_R (by omega)]
 intro b hb
 have hbp:=(upd_none.1 hb).1
 have hbH:=(upd_none.1 hb).2
 generalize hX:(ABlk.row 25 0 [.int .i64 p.ins,.int .i64 (N:Int),CodeA p.code false,OutsA p.outs false])=X at*
 have lN:N<9223372036854775808:=by omega
 simp(disch:=first|exact Xe|fail)only[lenW_own lN,↓Xa,Xb,Xc,↓reduceIte,Nat.reduceLT,Nat.reduceEqDiff,Nat.reduceBEq,Nat.reduceLeDiff,Nat.reduceAdd,Nat.reduceMul]
 refine W_loop (fun s:Nat=>⟨[],[(1,GIA grid t),(7,.int .i64 L),(8,.own b N 0 N true),(25,.int .i64 N),(26,.int .i64 s)],(H.upd p2 (some X)).upd b (some (.row 31 1 (CI (regsR p grid L) N s)))⟩) (fun s=>s≤N∧∀i(h:i<grid.length),i<s→(grid[i]).length=L∧L≤4096) (fun s=>N-s) 0 (Settle.now ?_) ⟨Nat.zero_le _,fun i _ h=>absurd h (Nat.not_lt_zero i)⟩ ?_
 ·have e:CI (regsR p grid L) N 0=List.replicate N (.seq 0 [] true):=by simp[CI,GI]
  rw[e]
 rintro j ⟨h1,hall⟩
 have hCl:=CI_len hR0 h1
 by_cases hj:j<N
 ·simp(disch:=first|exact Xe|fail)only[hj,↓Xa,Xb,Xc,↓reduceIte,Nat.reduceLT,Nat.reduceEqDiff,Nat.reduceBEq,Nat.reduceLeDiff,Nat.reduceAdd,Nat.reduceMul]
  rw[mks_I (by omega)]
  intro b2 hb2
  have b2b:b2≠b:=(upd_none.1 hb2).1
  have b2p:=(upd_none.1 (upd_none.1 hb2).2).1
  have b2H:=(upd_none.1 (upd_none.1 hb2).2).2
  have mb: ∀x y:ABlk,((H.upd p2 (some X)).upd b (some x)).upd b2 (some y)=(((H.upd p2 (some X)).upd b2 (some y)).upd b (some x)):=fun x y=>upd_comm _ _ _ (Ne.symm b2b)
  rw[mb]
  have hsame: ∀x:ABlk,(((H.upd p2 (some X)).upd b2 (some (.row 34 2 (IC (List.replicate L 0))))).upd b (some x)) b=some x:=fun x=>upd_same _ _ _
  have hjR:j<(regsR p grid L).length:=by omega
  simp(disch:=first|exact Xe|fail)only[idx_ownR,hsame,hCl,hj,↓Xa,Xb,Xc,↓reduceIte,Nat.reduceLT,Nat.reduceEqDiff,Nat.reduceBEq,Nat.reduceLeDiff,Nat.reduceAdd,Nat.reduceMul]
  refine(stP_1 (x:=.own b2 (L*2) 0 L true) hCl hj).2 ?_
  rw[upd_upd]
  have hCl2:((CI (regsR p grid L) N j).set j (.own b2 (L*2) 0 L true)).length=N:=by rw[List.length_set,hCl]
  have hgj:((CI (regsR p grid L) N j).set j (.own b2 (L*2) 0 L true))[j]? =some (.own b2 (L*2) 0 L true):=by
   rw[List.getElem?_set_self (by omega)]
  have fin: ∀{K:St→Prop},((regsR p grid L)[j]).length=L→K ⟨[],[(1,GIA grid t),(7,.int .i64 L),(8,.own b N 0 N true),(25,.int .i64 N),(26,.int .i64 ((j+1:Nat):Int))],(H.upd p2 (some X)).upd b (some (.row 31 1 (CI (regsR p grid L) N (j+1))))⟩→
   Settle K ⟨[],[(1,GIA grid t),(7,.int .i64 L),(8,.own b N 0 N true),(25,.int .i64 N),(26,.int .i64 ((j+1:Nat):Int))],((H.upd p2 (some X)).upd b2 (some (.row 34 2 (IC ((regsR p grid L)[j]))))).upd b (some (.row 31 1 ((CI (regsR p grid L) N j).set j (.own b2 (L*2) 0 L true))))⟩:=fun{K} hlR hk=>by
   refine Settle.frzC b b2 (CI (regsR p grid L) N (j+1)) (by rw[CI_len hR0 (by omega),hCl2]) (CI_frz hR0 hj hlR) (by rw[upd_other _ _ b2b,upd_same]) (upd_same _ _ _) (Ne.symm b2b) (Settle.now ?_)
   have hA:(H.upd p2 (some X)) b2=none:=upd_none.2 ⟨b2p,b2H⟩
   rw[upd_comm ((H.upd p2 (some X)).upd b2 _) _ _ (Ne.symm b2b),upd_upd,upd_upd,upd_back _ hA]
   have eE:Env.map (Fw.frz b2 2 (IC ((regsR p grid L)[j]))) [(1,GIA grid t),(7,.int .i64 L),(8,.own b N 0 N true),(25,.int .i64 N),(26,.int .i64 ((j+1:Nat):Int))]=[(1,GIA grid t),(7,.int .i64 L),(8,.own b N 0 N true),(25,.int .i64 N),(26,.int .i64 ((j+1:Nat):Int))]:=by
    simp[Env.map,Fw.frz,frz2,frz1,Ne.symm b2b]
   rw[eE];exact hk
  by_cases hjg:j<grid.length
  ·have eR:(regsR p grid L)[j]=grid[j]:=by simp only[regsR];rw[List.getElem_append_left hjg]
   have gj:(grid[j]).length<9223372036854775808:=hgb _ (List.getElem_mem hjg)
   have bad: ¬((grid[j]).length=L∧L≤4096)→SetR Q (.tup [.seq 0 [] true,.int .i64 ((5:Nat):Int)]) (((H.upd p2 (some X)).upd b2 (some (.row 34 2 (IC (List.replicate L 0))))).upd b (some (.row 31 1 ((CI (regsR p grid L) N j).set j (.own b2 (L*2) 0 L true))))):=fun h=>by
    have hg:gridE p grid=5:=by rw[hge];exact if_neg fun hh=>h ⟨hh.1 _ (List.getElem_mem hjg),hh.2⟩
    rw[hg]at hbad
    exact SetR.dropTo ((hle2.updB b2H).updB hbH) (SetR.now (hbad (by decide)))
   by_cases hjl:(grid[j]).length=L
   ·have d1:(!decide ((grid[j]).length=L))=false:=by simp[hjl]
    by_cases h4:L≤4096
    ·have d2:decide (((4096:Nat):Int)<(L:Int))=false:=decide_eq_false (by omega)
     simp(disch:=first|exact Xe|fail)only[hjg,hix hjg,hld hjg,len_rw,gj,neq_int,Int.natCast_inj,d1,gtr_int,d2,ldP_1 hCl2 hj hgj,↓Xa,Xb,Xc,↓reduceIte,Nat.reduceLT,Nat.reduceEqDiff,Nat.reduceBEq,Nat.reduceLeDiff,Nat.reduceAdd,Nat.reduceMul]
     refine cpy_ICf (ty:=34) (o:=List.replicate L 0) (by rw[upd_other _ _ b2b,upd_same]) (by simp) (by omega) ?_
     rw[upd_comm _ _ _ (Ne.symm b2b),upd_upd]
     have ed:grid[j]++List.drop (grid[j]).length (List.replicate L 0)=(regsR p grid L)[j]:=by rw[eR];simp[hjl]
     rw[ed]
     simp(disch:=first|exact Xe|fail)only[↓Xa,Xb,Xc,↓reduceIte,Nat.reduceLT,Nat.reduceEqDiff,Nat.reduceBEq,Nat.reduceLeDiff,Nat.reduceAdd,Nat.reduceMul]
     refine fin (by rw[eR];exact hjl) ⟨j+1,by omega,⟨by omega,fun i h hi=>?_⟩,rfl⟩
     by_cases e:i=j
     ·subst e;exact⟨hjl,h4⟩
     ·exact hall i h (by omega)
    ·have d2:decide (((4096:Nat):Int)<(L:Int))=true:=decide_eq_true (by omega)
     simp(disch:=first|exact Xe|fail)only[hjg,hix hjg,hld hjg,len_rw,gj,neq_int,Int.natCast_inj,d1,gtr_int,d2,rs71,↓Xa,Xb,Xc,↓reduceIte,Nat.reduceLT,Nat.reduceEqDiff,Nat.reduceBEq,Nat.reduceLeDiff,Nat.reduceAdd,Nat.reduceMul]
     exact bad fun hh=>h4 hh.2
   ·have d1:(!decide ((grid[j]).length=L))=true:=by simp[hjl]
    simp(disch:=first|exact Xe|fail)only[hjg,hix hjg,hld hjg,len_rw,gj,neq_int,Int.natCast_inj,d1,rs71,↓Xa,Xb,Xc,↓reduceIte,Nat.reduceLT,Nat.reduceEqDiff,Nat.reduceBEq,Nat.reduceLeDiff,Nat.reduceAdd,Nat.reduceMul]
    exact bad fun hh=>hjl hh.1
  ·have eR:(regsR p grid L)[j]=List.replicate L 0:=by simp only[regsR];rw[List.getElem_append_right (by omega)];simp
   simp(disch:=first|exact Xe|fail)only[hjg,len_rw,↓Xa,Xb,Xc,↓reduceIte,Nat.reduceLT,Nat.reduceEqDiff,Nat.reduceBEq,Nat.reduceLeDiff,Nat.reduceAdd,Nat.reduceMul]
   have eI:IC (List.replicate L 0)=IC ((regsR p grid L)[j]):=by rw[eR]
   rw[eI]
   have hlR:((regsR p grid L)[j]).length=L:=by rw[eR];simp
   refine fin hlR ⟨j+1,by omega,⟨by omega,fun i h hi=>?_⟩,rfl⟩
   by_cases e:i=j
   ·subst e;exact absurd h hjg
   ·exact hall i h (by omega)
 ·obtain rfl:j=N:=by omega
  have eC:CI (regsR p grid L) j j=GI (regsR p grid L):=by
   simp only[CI,Nat.sub_self,List.replicate_zero,List.append_nil];rw[List.take_of_length_le (by omega)]
  have hg:gridE p grid=0:=by
   rw[hge]
   refine if_pos ⟨fun r hm=>?_,?_⟩
   ·obtain⟨i,hi,rfl⟩:=List.getElem_of_mem hm
    exact(hall i hi (by omega)).1
   ·exact(hall 0 hg0 (by omega)).2
  simp(disch:=first|exact Xe|fail)only[hj,↓Xa,Xb,Xc,↓reduceIte,Nat.reduceLT,Nat.reduceEqDiff,Nat.reduceBEq,Nat.reduceLeDiff,Nat.reduceAdd,Nat.reduceMul]
  refine Settle.now ?_
  simp(disch:=first|exact Xe|fail)only[rs71,↓Xa,Xb,Xc,↓reduceIte,Nat.reduceLT,Nat.reduceEqDiff,Nat.reduceBEq,Nat.reduceLeDiff,Nat.reduceAdd,Nat.reduceMul]
  rw[eC]
  exact SetR.dropTo hle2.both (SetR.now (hok hg b hbH))
theorem nilI_nil{g t:Bool}{K:AV→Prop}:nilW g (RowA [] t) K↔(K (.bool true)∧K (.bool false)):=by simp[nilW]
theorem nilI_pos{g t:Bool}{zs:List Int}{K:AV→Prop}(h:0<zs.length):nilW g (RowA zs t) K↔K (.bool g):=by
 cases zs with
 |nil=>simp at h
 |cons x l=>simp[nilW]
theorem cellIC10(zs:List Int):(IC zs).all AV.cell=true:=by
 induction zs with
 |nil=>rfl
 |cons z zs ih=>simp only[IC,List.flatMap_cons,List.all_append]at *; rw[ih];rfl
theorem cloneI_run{zs:List Int}{t:Bool}(hbig:zs.length≤1000000){H:AHeap}{Q:AV→AHeap→Prop}(hq: ∀y M,growC H 34 2 zs.length (IC zs) y M→Q y M):Run Tryd.prog 47 [RowA zs t] H Q:=by
 refine enter47 (by simp) ?_
 rcases Nat.eq_zero_or_pos zs.length with h0|h0
 ·obtain rfl:=List.length_eq_zero_iff.1 h0
  simp(disch:=first|exact Xe|fail)only[ac47,nilI_nil,↓Xa,Xb,Xc,↓reduceIte,Nat.reduceLT,Nat.reduceEqDiff,Nat.reduceBEq,Nat.reduceLeDiff,Nat.reduceAdd,Nat.reduceMul]
  refine⟨?_,?_⟩
  ·simp(disch:=first|exact Xe|fail)only[rs47,↓Xa,Xb,Xc,↓reduceIte,Nat.reduceLT,Nat.reduceEqDiff,Nat.reduceBEq,Nat.reduceLeDiff,Nat.reduceAdd,Nat.reduceMul]
   exact SetR.now (hq _ _ growC_nil)
  ·refine .inl ⟨rfl,rfl,?_⟩
   refine⟨rfl,rfl,by simp,by simp,fun _=>?_,fun e=>absurd e (by simp)⟩
   simp(disch:=first|exact Xe|fail)only[rs47,↓Xa,Xb,Xc,↓reduceIte,Nat.reduceLT,Nat.reduceEqDiff,Nat.reduceBEq,Nat.reduceLeDiff,Nat.reduceAdd,Nat.reduceMul]
   exact SetR.now (hq _ _ growC_nil)
 ·simp(disch:=first|exact Xe|fail)only[ac47,nilI_pos h0,↓Xa,Xb,Xc,↓reduceIte,Nat.reduceLT,Nat.reduceEqDiff,Nat.reduceBEq,Nat.reduceLeDiff,Nat.reduceAdd,Nat.reduceMul]
  refine app_C (n:=0) (m:=zs.length) growC_nil (IC_len zs) (cellIC10 zs) h0 (by omega) (by omega) fun y M hg=>?_
  rw[Nat.zero_add,List.nil_append]at hg
  simp(disch:=first|exact Xe|fail)only[rs47,↓Xa,Xb,Xc,↓reduceIte,Nat.reduceLT,Nat.reduceEqDiff,Nat.reduceBEq,Nat.reduceLeDiff,Nat.reduceAdd,Nat.reduceMul]
  exact SetR.now (hq y M hg)
theorem cloneI_fn{zs:List Int}{t:Bool}(hbig:zs.length≤1000000):PFn Tryd.prog 47 [RowA zs t] (rI zs):=PFn.frozen fun _ _ hq=>cloneI_run hbig hq
theorem told10R_fn{n:Int}{x:List Int}:PFn Tryd.prog 74 [.int .i64 n,rI x] (.bool true):=by
 intro H Q hq
 refine enter74 (by simp) ?_
 simp(disch:=first|exact Xe|fail)only[ac74,rs74,↓Xa,Xb,Xc,↓reduceIte,Nat.reduceLT,Nat.reduceEqDiff,Nat.reduceBEq,Nat.reduceLeDiff,Nat.reduceAdd,Nat.reduceMul]
 exact SetR.now hq
def ansR(p:PR)(g:List (List Int)):List (List Int)×Nat×Nat:=
 if gridE p g=0 then(if(stepsR p g (g.getD 0 []).length).length<p.code.length then([],(stepsR p g (g.getD 0 []).length).length,20)else(outsR p g (g.getD 0 []).length,0,0))else([],0,gridE p g)
theorem gridE_0{p:PR}{g:List (List Int)}(h:gridE p g=0):rightP p∧(g.length:Int)=p.ins∧(∀r,r∈g→r.length=(g.getD 0 []).length)∧(g.getD 0 []).length≤4096:=by
 unfold gridE at h
 split at h
 ·rename_i hr
  split at h
  ·rename_i hh;exact⟨hr.1,hr.2,hh.1,hh.2⟩
  ·cases h
 ·rename_i hr
  unfold rgtE at h
  split at h
  ·split at h
   ·rename_i h1 h2;exact absurd ⟨h1,h2⟩ hr
   ·cases h
  ·cases h
theorem rows10R_run{H:AHeap}{Q:AV→AHeap→Prop}{p:PR}{grid:List (List Int)}{t:Bool}{k0:Nat}(hp:p.ok)(hL:(grid.getD 0 []).length≤100000)(hz: ∀r,r∈grid→RB4 k0 r)(hgl:grid.length<9223372036854775808)(hk:rightP p→k0+3*p.code.length≤100000)
 (hq: ∀y M,growC H 31 1 (ansR p grid).1.length (GI (ansR p grid).1) y M→Q (.tup [y,.int .i64 (((ansR p grid).2.1:Nat):Int),.int .i64 (((ansR p grid).2.2:Nat):Int)]) M):
 Run Tryd.prog 34 [ProgA p,GIA grid t] H Q:=by
 have hgb: ∀r,r∈grid→r.length<9223372036854775808:=fun r hm=>by have:=(hz r hm).2;omega
 refine enter34 (by simp) ?_
 simp(disch:=first|exact Xe|fail)only[ac34,cells_ProgA,↓Xa,Xb,Xc,↓reduceIte,Nat.reduceLT,Nat.reduceEqDiff,Nat.reduceBEq,Nat.reduceLeDiff,Nat.reduceAdd,Nat.reduceMul]
 refine alloc_i fun p2 hp2=>?_
 simp(disch:=first|exact Xe|fail)only[fold_ProgA,↓Xa,Xb,Xc,↓reduceIte,Nat.reduceLT,Nat.reduceEqDiff,Nat.reduceBEq,Nat.reduceLeDiff,Nat.reduceAdd,Nat.reduceMul]
 have hle2: ∀{x:ABlk},Le H (H.upd p2 (some x)):=(Le.refl H).updB hp2
 refine run_call (laid_run hp rfl rfl hL hgl hgb (fun hbad=>?_) fun hok b hb=>?_)
 ·have e:ansR p grid=([],0,gridE p grid):=by rw[ansR,if_neg hbad]
  rw[e]at hq
  have hd:decide (((gridE p grid:Nat):Int)=((0:Nat):Int))=false:=decide_eq_false (by omega)
  simp(disch:=first|exact Xe|fail)only[neq_int,hd,rs34,↓Xa,Xb,Xc,↓reduceIte,Nat.reduceLT,Nat.reduceEqDiff,Nat.reduceBEq,Nat.reduceLeDiff,Nat.reduceAdd,Nat.reduceMul]
  exact SetR.dropTo hle2 (SetR.now (hq _ _ growC_nil))
 obtain⟨hr1,hr2,hlen,h4⟩:=gridE_0 hok
 have hh:=hr1.1
 unfold headP at hh
 obtain⟨N,hN⟩: ∃N:Nat,p.regs=(N:Int):=⟨p.regs.toNat,by omega⟩
 have hbp:=(upd_none.1 hb).1
 have hbH:=(upd_none.1 hb).2
 have e00:decide (((0:Nat):Int)=((0:Nat):Int))=true:=rfl
 generalize hL0:(grid.getD 0 []).length=L at*
 have hg0:0<grid.length:=by omega
 have hR0:(regsR p grid L).length=N:=by simp[regsR,hN];omega
 have hRg:GoodG k0 L (regsR p grid L):=fun r hm=>by
  rcases List.mem_append.1 hm with hm|hm
  ·exact⟨hlen r hm,hz r hm⟩
  ·rw[List.mem_replicate]at hm;rw[hm.2]
   exact⟨by simp,fun z hz=>by rw[List.mem_replicate]at hz;rw[hz.2];exact Bd.zero _,by simp;omega⟩
 have hans:ansR p grid=(if(stepsR p grid L).length<p.code.length then([],(stepsR p grid L).length,20)else(outsR p grid L,0,0)):=by rw[ansR,if_pos hok,hL0]
 have hN1:p.regs.toNat=N:=by omega
 rw[hN1]
 simp(disch:=first|exact Xe|fail)only[neq_int,e00,hN,↓Xa,Xb,Xc,↓reduceIte,Nat.reduceLT,Nat.reduceEqDiff,Nat.reduceBEq,Nat.reduceLeDiff,Nat.reduceAdd,Nat.reduceMul]
 refine PFn.dcall wayR_fn ?_
 have hb2:(H.upd p2 (some (.row 25 0 [.int .i64 p.ins,.int .i64 (N:Int),CodeA p.code false,OutsA p.outs false]))) b=none:=upd_none.2 ⟨hbp,hbH⟩
 have lc:p.code.length<9223372036854775808:=by omega
 have lo:p.outs.length<9223372036854775808:=by omega
 have eP:AV.agg [.int .i64 p.ins,.int .i64 (N:Int),CodeA p.code false,OutsA p.outs false]=ProgO p (CodeA p.code false) (OutsA p.outs false):=by rw[ProgO,hN]
 simp(disch:=first|exact Xe|fail)only[eP,↓Xa,Xb,Xc,↓reduceIte,Nat.reduceLT,Nat.reduceEqDiff,Nat.reduceBEq,Nat.reduceLeDiff,Nat.reduceAdd,Nat.reduceMul]
 refine run_call (runR_run (C:=nilH) (A:=nilH) (k0:=k0) (L:=L) (S:=stepsR p grid L) (J:=fun _ A=>A=nilH) (Jx:=fun _=>False) un_nil.symm rfl dj_nil (upd_same _ _ _) hR0 (fun i hi=>by rw[← hN];exact hr1.2.2 i hi) hRg (by omega) (hk hr1) rfl (CodeV.seq lc) rfl (fun o x ho=>by cases ho) rfl ?_ ?_)
 ·rintro pre x rest A B-hd rfl
  exact told10R_fn.call ⟨nilH,hd,rfl,.inl ⟨rfl,rfl⟩⟩
 intro r A' regs' hl' hbd hdj hcase
 have gm1:decide (((0:Nat):Int)≤ -1)=false:=by decide
 rcases hcase with⟨rfl,hSl,rfl,hre⟩|⟨rfl,hSl,rfl⟩|⟨_,h⟩
 ·rw[un_nil,upd_upd]
  rw[hans,if_neg (by omega)]at hq
  have hou:outsR p grid L=p.outs.map fun r=>regs'.getD r.toNat []:=by rw[hre];rfl
  have hol:(outsR p grid L).length=p.outs.length:=by simp[outsR]
  have m2:((H.upd p2 (some (.row 25 0 [.int .i64 p.ins,.int .i64 (N:Int),CodeA p.code false,OutsA p.outs false]))).upd b (some (.row 31 1 (GI regs')))) p2=some (.row 25 0 [.int .i64 p.ins,.int .i64 (N:Int),CodeA p.code false,OutsA p.outs false]):=by rw[upd_other _ _ (Ne.symm hbp),upd_same]
  simp(disch:=first|exact Xe|fail)only[geqI,gm1,m2,len_OutsA lo,↓Xa,Xb,Xc,↓reduceIte,Nat.reduceLT,Nat.reduceEqDiff,Nat.reduceBEq,Nat.reduceLeDiff,Nat.reduceAdd,Nat.reduceMul]
  have hlG:Le H ((H.upd p2 (some (.row 25 0 [.int .i64 p.ins,.int .i64 (N:Int),CodeA p.code false,OutsA p.outs false]))).upd b (some (.row 31 1 (GI regs')))):=((Le.refl H).updB hp2).updB hbH
  generalize hG:((H.upd p2 (some (.row 25 0 [.int .i64 p.ins,.int .i64 (N:Int),CodeA p.code false,OutsA p.outs false]))).upd b (some (.row 31 1 (GI regs'))))=G at*
  have hGb:G b=some (.row 31 1 (GI regs')):=by rw[← hG,upd_same]
  refine W_loop (fun s:Nat×AV×AHeap=>⟨[],[(7,.own b N 0 N true),(10,s.2.1),(30,OutsA p.outs false),(31,.int .i64 p.outs.length),(32,.int .i64 s.1)],s.2.2⟩)
   (fun s=>s.1≤p.outs.length∧growC G 31 1 s.1 (GI ((outsR p grid L).take s.1)) s.2.1 s.2.2) (fun s=>p.outs.length-s.1) (0,.seq 0 [] true,G) (Settle.now rfl) ⟨Nat.zero_le _,growC_nil⟩ ?_
  rintro⟨j,z,M⟩ ⟨h1,hg⟩
  dsimp only at h1 hg ⊢
  by_cases hj:j<p.outs.length
  ·have hjo:=hr1.2.1 _ (List.getElem_mem hj)
   obtain⟨w,hw⟩: ∃w:Nat,p.outs[j]=(w:Int):=⟨(p.outs[j]).toNat,by omega⟩
   have hwN:w<N:=by omega
   have hwr:w<regs'.length:=by omega
   have mb:M b=some (.row 31 1 (GI regs')):=growC_old hg hGb
   have hlN:(GI regs').length=N:=by rw[GI_len,hl']
   have hwb:=(hbd _ (List.getElem_mem hwr)).1
   simp(disch:=first|exact Xe|fail)only[hj,idx_OutsA,load_OutsA,hw,mb,idx_ownR,hlN,hwN,ldP_GI hl' hwr,↓Xa,Xb,Xc,↓reduceIte,Nat.reduceLT,Nat.reduceEqDiff,Nat.reduceBEq,Nat.reduceLeDiff,Nat.reduceAdd,Nat.reduceMul]
   refine(cloneI_fn (by omega)).call ?_
   simp(disch:=first|exact Xe|fail)only[↓Xa,Xb,Xc,↓reduceIte,Nat.reduceLT,Nat.reduceEqDiff,Nat.reduceBEq,Nat.reduceLeDiff,Nat.reduceAdd,Nat.reduceMul]
   refine app_C (m:=1) hg rfl cellGI (by omega) (by omega) (by omega) fun y' M2 hg4=>?_
   have et:(outsR p grid L)[j]'(by omega)=regs'[w]:=by
    simp only[hou,List.getElem_map,hw]
    simp[List.getD_eq_getElem?_getD,List.getElem?_eq_getElem hwr]
   rw[← et,← GI_take (by omega)]at hg4
   simp(disch:=first|exact Xe|fail)only[↓Xa,Xb,Xc,↓reduceIte,Nat.reduceLT,Nat.reduceEqDiff,Nat.reduceBEq,Nat.reduceLeDiff,Nat.reduceAdd,Nat.reduceMul]
   exact Settle.now ⟨(j+1,y',M2),by dsimp only;omega,⟨by dsimp only;omega,hg4⟩,rfl⟩
  ·obtain rfl:j=p.outs.length:=by omega
   rw[List.take_of_length_le (by omega)]at hg
   simp(disch:=first|exact Xe|fail)only[hj,↓Xa,Xb,Xc,↓reduceIte,Nat.reduceLT,Nat.reduceEqDiff,Nat.reduceBEq,Nat.reduceLeDiff,Nat.reduceAdd,Nat.reduceMul]
   refine Settle.now ?_
   simp(disch:=first|exact Xe|fail)only[rs34,↓Xa,Xb,Xc,↓reduceIte,Nat.reduceLT,Nat.reduceEqDiff,Nat.reduceBEq,Nat.reduceLeDiff,Nat.reduceAdd,Nat.reduceMul]
   obtain⟨M2,hg2,hl3⟩:=growC_le2 hg hlG
   exact SetR.dropTo hl3 (SetR.now (hq _ _ (by rw[hol];exact hg2)))
 ·rw[un_nil,upd_upd]
  rw[hans,if_pos hSl]at hq
  have hge:decide (((0:Nat):Int)≤(((stepsR p grid L).length:Nat):Int))=true:=decide_eq_true (by omega)
  simp(disch:=first|exact Xe|fail)only[geqI,hge,rs34,↓Xa,Xb,Xc,↓reduceIte,Nat.reduceLT,Nat.reduceEqDiff,Nat.reduceBEq,Nat.reduceLeDiff,Nat.reduceAdd,Nat.reduceMul]
  exact SetR.dropTo (((Le.refl H).updB hp2).updB hbH) (SetR.now (hq _ _ growC_nil))
 ·exact h.elim
def frzP2(b:Nat)(cells:List AV):AV→AV
 |.cptr l=>.cptr (l.map (frzP b cells))
 |x=>frzP1 b cells x
def frzPP(b:Nat)(cells:List AV):AV→AV
 |.fn f first caps=>.fn f first (caps.map (frzP2 b cells))
 |x=>frzP1 b cells x
theorem enc_frzP2{c:Ctx}(hok:Ok c){b:Nat}{ty:TypeId}{es:Nat}{cells:List AV}(hH:c.H b=some (.row ty es cells))(x:AV)(v:Value)(h:Enc c x v):Enc (c.drop b) (frzP2 b cells x) v:=by
 unfold frzP2
 split
 ·rename_i l
  cases h with
  |cptr _ k off cv hm hk hcell hc=>
   have hl:=(c.drop_later b).toLater0
   exact .cptr _ k off cv (hl.keep k hk hm).2 hk (fun i hi=>hcell i (by simpa using hi)) fun i hi=>by
    rw[List.getElem_map];exact enc_frzP hok hH _ _ (hc i (by simpa using hi))
 ·exact enc_frzP1 hok hH _ _ h
theorem enc_frzPP{c:Ctx}(hok:Ok c){b:Nat}{ty:TypeId}{es:Nat}{cells:List AV}(hH:c.H b=some (.row ty es cells))(x:AV)(v:Value)(h:Enc c x v):Enc (c.drop b) (frzPP b cells x) v:=by
 unfold frzPP
 split
 ·cases h with
  |fn f first caps fv cv hf hcs h1 h2=>exact .fn _ _ _ _ _ hf (by simpa using hcs) (fun i hi hi'=>(h1 i hi hi').later (c.drop_later b)) (Enc.list_map (enc_frzP2 hok hH) h2)
 ·exact enc_frzP1 hok hH _ _ h
theorem SetR.frzPP{Q:AV→AHeap→Prop}{r:AV}{H:AHeap}(b:Nat){ty:TypeId}{es:Nat}{cells:List AV}(hb:H b=some (.row ty es cells))(h:SetR Q (Fw.frzPP b cells r) (H.upd b none)):SetR Q r H:=
 SetR.join fun c v hH hok he=>⟨c.drop b,_,rfl,Ctx.drop_ok hok b,c.drop_later b,enc_frzPP hok (hH▸hb) _ _ he,by show SetR Q _ (c.H.upd b none);rw[hH];exact h⟩
def FnAns(f:AV)(args:List AV)(r:AV):Prop:= ∀(H:AHeap)(K:AV→AHeap→Prop),K r H→callW Tryd.prog f args H K
theorem FnAns.of{f:FuncId}{args:List AV}{r:AV}(h:PFn Tryd.prog f args r):FnAns (.fn (.func f) [] []) args r:=fun _ _ hk=>h.call hk
theorem FnAns.caps{f:FuncId}{args caps:List AV}{r:AV}(h:PFn Tryd.prog f (args++caps) r):FnAns (.fn (.func f) [] caps) args r:=fun H K hk=>callW_fn (h H K hk)
theorem load_c1{H:AHeap}{x:AV}{K:AV→Prop}:loadW H none (.cptr [x]) K=K x:=by simp[loadW,cellsAt]
theorem load_ic{H:AHeap}{i:Ins}{K:AV→Prop}:loadW H none (.cptr ((insC i).drop 4)) K=K (.int .i64 i.c):=by simp[loadW,cellsAt,insC]
theorem always_fn{f:AV}(hf:f.cells=some [f]):PFn Tryd.prog 93 [f] (.fn (.func 94) [] [.cptr [f]]):=by
 intro H Q hq
 refine enter93 (by simp) ?_
 simp(disch:=first|exact Xe|fail)only[ac93,hf,↓Xa,Xb,Xc,↓reduceIte,Nat.reduceLT,Nat.reduceEqDiff,Nat.reduceBEq,Nat.reduceLeDiff,Nat.reduceAdd,Nat.reduceMul]
 refine alloc_i fun p1 hp1=>?_
 have n1:=hp1
 simp(disch:=first|exact Xe|fail)only[rs93,↓Xa,Xb,Xc,↓reduceIte,Nat.reduceLT,Nat.reduceEqDiff,Nat.reduceBEq,Nat.reduceLeDiff,Nat.reduceAdd,Nat.reduceMul]
 refine SetR.frzP p1 (upd_same _ _ _) ?_
 rw[upd_upd,upd_back _ n1]
 have e:frzP p1 [f] (.fn (.func 94) [] [.ptr p1 1 0])=.fn (.func 94) [] [.cptr [f]]:=by simp[frzP,frzP1]
 rw[e];exact SetR.now hq
theorem always_ans{f:AV}{a b r:Int}(h:FnAns f [IntA a,IntA b] (IntA r)):FnAns (.fn (.func 94) [] [.cptr [f]]) [IntA a,IntA b] (.tup [IntA r,.bool true]):=by
 refine FnAns.caps ?_
 intro H Q hq
 refine enter94 (by simp) ?_
 simp(disch:=first|exact Xe|fail)only[ac94,cells_IntA,↓Xa,Xb,Xc,↓reduceIte,Nat.reduceLT,Nat.reduceEqDiff,Nat.reduceBEq,Nat.reduceLeDiff,Nat.reduceAdd,Nat.reduceMul]
 refine alloc_i fun p1 hp1=>?_
 have n1:=hp1
 simp(disch:=first|exact Xe|fail)only[cells_IntA,↓Xa,Xb,Xc,↓reduceIte,Nat.reduceLT,Nat.reduceEqDiff,Nat.reduceBEq,Nat.reduceLeDiff,Nat.reduceAdd,Nat.reduceMul]
 refine alloc_i fun p2 hp2=>?_
 have n2:=hp2
 simp only[upd_none]at n2
 obtain⟨_,n2⟩:=n2
 simp(disch:=first|exact Xe|fail)only[↓Xa,Xb,Xc,↓reduceIte,Nat.reduceLT,Nat.reduceEqDiff,Nat.reduceBEq,Nat.reduceLeDiff,Nat.reduceAdd,Nat.reduceMul]
 refine alloc_i fun p3 hp3=>?_
 have n3:=hp3
 simp only[upd_none]at n3
 obtain⟨_,_,n3⟩:=n3
 simp(disch:=first|exact Xe|fail)only[load_c1,fold_IntA,↓Xa,Xb,Xc,↓reduceIte,Nat.reduceLT,Nat.reduceEqDiff,Nat.reduceBEq,Nat.reduceLeDiff,Nat.reduceAdd,Nat.reduceMul]
 refine h _ _ ?_
 simp(disch:=first|exact Xe|fail)only[cells_IntA,fold_IntA,rs94,↓Xa,Xb,Xc,↓reduceIte,Nat.reduceLT,Nat.reduceEqDiff,Nat.reduceBEq,Nat.reduceLeDiff,Nat.reduceAdd,Nat.reduceMul]
 exact SetR.dropTo ((((Le.refl H).updB n1).updB n2).updB n3) (SetR.now hq)
theorem vneg_fn{a b:Int}{k:Nat}(ha:Bd k a)(hk:k≤1000000):PFn Tryd.prog 95 [IntA a,IntA b] (IntA (-a)):=by
 intro H Q hq
 refine enter95 (by simp) ?_
 simp(disch:=first|exact Xe|fail)only[ac95,cells_IntA,↓Xa,Xb,Xc,↓reduceIte,Nat.reduceLT,Nat.reduceEqDiff,Nat.reduceBEq,Nat.reduceLeDiff,Nat.reduceAdd,Nat.reduceMul]
 refine alloc_i fun p1 hp1=>?_
 have n1:=hp1
 simp(disch:=first|exact Xe|fail)only[cells_IntA,↓Xa,Xb,Xc,↓reduceIte,Nat.reduceLT,Nat.reduceEqDiff,Nat.reduceBEq,Nat.reduceLeDiff,Nat.reduceAdd,Nat.reduceMul]
 refine alloc_i fun p2 hp2=>?_
 have n2:=hp2
 simp only[upd_none]at n2
 obtain⟨_,n2⟩:=n2
 simp(disch:=first|exact Xe|fail)only[↓Xa,Xb,Xc,↓reduceIte,Nat.reduceLT,Nat.reduceEqDiff,Nat.reduceBEq,Nat.reduceLeDiff,Nat.reduceAdd,Nat.reduceMul]
 refine alloc_i fun p3 hp3=>?_
 have n3:=hp3
 simp only[upd_none]at n3
 obtain⟨_,_,n3⟩:=n3
 simp(disch:=first|exact Xe|fail)only[fold_IntA,↓Xa,Xb,Xc,↓reduceIte,Nat.reduceLT,Nat.reduceEqDiff,Nat.reduceBEq,Nat.reduceLeDiff,Nat.reduceAdd,Nat.reduceMul]
 refine(neg_fn ha (by omega)).call ?_
 simp(disch:=first|exact Xe|fail)only[cells_IntA,fold_IntA,rs95,↓Xa,Xb,Xc,↓reduceIte,Nat.reduceLT,Nat.reduceEqDiff,Nat.reduceBEq,Nat.reduceLeDiff,Nat.reduceAdd,Nat.reduceMul]
 exact SetR.dropTo ((((Le.refl H).updB n1).updB n2).updB n3) (SetR.now hq)
theorem vmov_fn{a b:Int}:PFn Tryd.prog 106 [IntA a,IntA b] (IntA a):=by
 intro H Q hq
 refine enter106 (by simp) ?_
 simp(disch:=first|exact Xe|fail)only[ac106,cells_IntA,↓Xa,Xb,Xc,↓reduceIte,Nat.reduceLT,Nat.reduceEqDiff,Nat.reduceBEq,Nat.reduceLeDiff,Nat.reduceAdd,Nat.reduceMul]
 refine alloc_i fun p1 hp1=>?_
 have n1:=hp1
 simp(disch:=first|exact Xe|fail)only[cells_IntA,↓Xa,Xb,Xc,↓reduceIte,Nat.reduceLT,Nat.reduceEqDiff,Nat.reduceBEq,Nat.reduceLeDiff,Nat.reduceAdd,Nat.reduceMul]
 refine alloc_i fun p2 hp2=>?_
 have n2:=hp2
 simp only[upd_none]at n2
 obtain⟨_,n2⟩:=n2
 simp(disch:=first|exact Xe|fail)only[↓Xa,Xb,Xc,↓reduceIte,Nat.reduceLT,Nat.reduceEqDiff,Nat.reduceBEq,Nat.reduceLeDiff,Nat.reduceAdd,Nat.reduceMul]
 refine alloc_i fun p3 hp3=>?_
 have n3:=hp3
 simp only[upd_none]at n3
 obtain⟨_,_,n3⟩:=n3
 simp(disch:=first|exact Xe|fail)only[cells_IntA,fold_IntA,rs106,↓Xa,Xb,Xc,↓reduceIte,Nat.reduceLT,Nat.reduceEqDiff,Nat.reduceBEq,Nat.reduceLeDiff,Nat.reduceAdd,Nat.reduceMul]
 exact SetR.dropTo ((((Le.refl H).updB n1).updB n2).updB n3) (SetR.now hq)
theorem vmul_fn{a b:Int}{i:Ins}{k:Nat}(ha:Bd k a)(hk:k≤1000000)(hc:I64 i.c):PFn Tryd.prog 98 [IntA a,IntA b,.cptr (insC i)] (IntA (a*i.c)):=by
 unfold I64 at hc
 intro H Q hq
 refine enter98 (by simp) ?_
 simp(disch:=first|exact Xe|fail)only[ac98,cells_IntA,↓Xa,Xb,Xc,↓reduceIte,Nat.reduceLT,Nat.reduceEqDiff,Nat.reduceBEq,Nat.reduceLeDiff,Nat.reduceAdd,Nat.reduceMul]
 refine alloc_i fun p1 hp1=>?_
 have n1:=hp1
 simp(disch:=first|exact Xe|fail)only[cells_IntA,↓Xa,Xb,Xc,↓reduceIte,Nat.reduceLT,Nat.reduceEqDiff,Nat.reduceBEq,Nat.reduceLeDiff,Nat.reduceAdd,Nat.reduceMul]
 refine alloc_i fun p2 hp2=>?_
 have n2:=hp2
 simp only[upd_none]at n2
 obtain⟨_,n2⟩:=n2
 simp(disch:=first|exact Xe|fail)only[↓Xa,Xb,Xc,↓reduceIte,Nat.reduceLT,Nat.reduceEqDiff,Nat.reduceBEq,Nat.reduceLeDiff,Nat.reduceAdd,Nat.reduceMul]
 refine alloc_i fun p3 hp3=>?_
 have n3:=hp3
 simp only[upd_none]at n3
 obtain⟨_,_,n3⟩:=n3
 simp(disch:=first|exact Xe|fail)only[load_ic,fold_IntA,↓Xa,Xb,Xc,↓reduceIte,Nat.reduceLT,Nat.reduceEqDiff,Nat.reduceBEq,Nat.reduceLeDiff,Nat.reduceAdd,Nat.reduceMul]
 refine(timesi_fn (k:=k) ha (by omega) (by omega)).call ?_
 simp(disch:=first|exact Xe|fail)only[cells_IntA,fold_IntA,rs98,↓Xa,Xb,Xc,↓reduceIte,Nat.reduceLT,Nat.reduceEqDiff,Nat.reduceBEq,Nat.reduceLeDiff,Nat.reduceAdd,Nat.reduceMul]
 exact SetR.dropTo ((((Le.refl H).updB n1).updB n2).updB n3) (SetR.now hq)
theorem vshl_fn{a b:Int}{i:Ins}{k n:Nat}(ha:Bd k a)(hk:k≤1000000)(hc:i.c=(n:Int))(hn:n≤65536):PFn Tryd.prog 102 [IntA a,IntA b,.cptr (insC i)] (IntA (a*2^n)):=by
 intro H Q hq
 refine enter102 (by simp) ?_
 simp(disch:=first|exact Xe|fail)only[ac102,cells_IntA,↓Xa,Xb,Xc,↓reduceIte,Nat.reduceLT,Nat.reduceEqDiff,Nat.reduceBEq,Nat.reduceLeDiff,Nat.reduceAdd,Nat.reduceMul]
 refine alloc_i fun p1 hp1=>?_
 have n1:=hp1
 simp(disch:=first|exact Xe|fail)only[cells_IntA,↓Xa,Xb,Xc,↓reduceIte,Nat.reduceLT,Nat.reduceEqDiff,Nat.reduceBEq,Nat.reduceLeDiff,Nat.reduceAdd,Nat.reduceMul]
 refine alloc_i fun p2 hp2=>?_
 have n2:=hp2
 simp only[upd_none]at n2
 obtain⟨_,n2⟩:=n2
 simp(disch:=first|exact Xe|fail)only[↓Xa,Xb,Xc,↓reduceIte,Nat.reduceLT,Nat.reduceEqDiff,Nat.reduceBEq,Nat.reduceLeDiff,Nat.reduceAdd,Nat.reduceMul]
 refine alloc_i fun p3 hp3=>?_
 have n3:=hp3
 simp only[upd_none]at n3
 obtain⟨_,_,n3⟩:=n3
 simp(disch:=first|exact Xe|fail)only[load_ic,hc,fold_IntA,↓Xa,Xb,Xc,↓reduceIte,Nat.reduceLT,Nat.reduceEqDiff,Nat.reduceBEq,Nat.reduceLeDiff,Nat.reduceAdd,Nat.reduceMul]
 refine(ishl_fn ha hk hn).call ?_
 simp(disch:=first|exact Xe|fail)only[↓Xa,Xb,Xc,↓reduceIte,Nat.reduceLT,Nat.reduceEqDiff,Nat.reduceBEq,Nat.reduceLeDiff,Nat.reduceAdd,Nat.reduceMul]
 refine alloc_i fun p4 hp4=>?_
 have n4:=hp4
 simp only[upd_none]at n4
 obtain⟨_,_,_,n4⟩:=n4
 simp(disch:=first|exact Xe|fail)only[cells_IntA,fold_IntA,rs102,↓Xa,Xb,Xc,↓reduceIte,Nat.reduceLT,Nat.reduceEqDiff,Nat.reduceBEq,Nat.reduceLeDiff,Nat.reduceAdd,Nat.reduceMul]
 exact SetR.dropTo (((((Le.refl H).updB n1).updB n2).updB n3).updB n4) (SetR.now hq)
theorem vdiv_fn{a b:Int}{i:Ins}{k:Nat}(ha:Bd k a)(hk:k≤1000000)(hc:I64 i.c)(h0:i.c≠0):PFn Tryd.prog 100 [IntA a,IntA b,.cptr (insC i)] (.tup [IntA (if a%i.c=0 then a / i.c else 0),.bool (decide (a%i.c=0))]):=by
 unfold I64 at hc
 intro H Q hq
 have ho:=iover_fn (k:=k) ha (by omega) (by omega) h0
 refine enter100 (by simp) ?_
 simp(disch:=first|exact Xe|fail)only[ac100,cells_IntA,↓Xa,Xb,Xc,↓reduceIte,Nat.reduceLT,Nat.reduceEqDiff,Nat.reduceBEq,Nat.reduceLeDiff,Nat.reduceAdd,Nat.reduceMul]
 refine alloc_i fun p1 hp1=>?_
 have n1:=hp1
 simp(disch:=first|exact Xe|fail)only[cells_IntA,↓Xa,Xb,Xc,↓reduceIte,Nat.reduceLT,Nat.reduceEqDiff,Nat.reduceBEq,Nat.reduceLeDiff,Nat.reduceAdd,Nat.reduceMul]
 refine alloc_i fun p2 hp2=>?_
 have n2:=hp2
 simp only[upd_none]at n2
 obtain⟨_,n2⟩:=n2
 simp(disch:=first|exact Xe|fail)only[↓Xa,Xb,Xc,↓reduceIte,Nat.reduceLT,Nat.reduceEqDiff,Nat.reduceBEq,Nat.reduceLeDiff,Nat.reduceAdd,Nat.reduceMul]
 refine alloc_i fun p3 hp3=>?_
 have n3:=hp3
 simp only[upd_none]at n3
 obtain⟨_,_,n3⟩:=n3
 simp(disch:=first|exact Xe|fail)only[load_ic,fold_IntA,↓Xa,Xb,Xc,↓reduceIte,Nat.reduceLT,Nat.reduceEqDiff,Nat.reduceBEq,Nat.reduceLeDiff,Nat.reduceAdd,Nat.reduceMul]
 refine ho.call ?_
 by_cases h:a%i.c=0
 ·rw[if_pos h,decide_eq_true h]at hq
  have e0:decide (((0:Nat):Int)=((0:Nat):Int))=true:=rfl
  rw[if_pos h]
  simp(disch:=first|exact Xe|fail)only[↓Xa,Xb,Xc,↓reduceIte,Nat.reduceLT,Nat.reduceEqDiff,Nat.reduceBEq,Nat.reduceLeDiff,Nat.reduceAdd,Nat.reduceMul]
  refine alloc_i fun p4 hp4=>?_
  have n4:=hp4
  simp only[upd_none]at n4
  obtain⟨_,_,_,n4⟩:=n4
  simp(disch:=first|exact Xe|fail)only[cells_IntA,fold_IntA,eql_int,e0,rs100,↓Xa,Xb,Xc,↓reduceIte,Nat.reduceLT,Nat.reduceEqDiff,Nat.reduceBEq,Nat.reduceLeDiff,Nat.reduceAdd,Nat.reduceMul]
  exact SetR.dropTo (((((Le.refl H).updB n1).updB n2).updB n3).updB n4) (SetR.now hq)
 ·rw[if_neg h,decide_eq_false h]at hq
  have e0:decide (((20:Nat):Int)=((0:Nat):Int))=false:=rfl
  rw[if_neg h]
  simp(disch:=first|exact Xe|fail)only[↓Xa,Xb,Xc,↓reduceIte,Nat.reduceLT,Nat.reduceEqDiff,Nat.reduceBEq,Nat.reduceLeDiff,Nat.reduceAdd,Nat.reduceMul]
  refine alloc_i fun p4 hp4=>?_
  have n4:=hp4
  simp only[upd_none]at n4
  obtain⟨_,_,_,n4⟩:=n4
  simp(disch:=first|exact Xe|fail)only[cells_IntA,fold_IntA,eql_int,e0,rs100,↓Xa,Xb,Xc,↓reduceIte,Nat.reduceLT,Nat.reduceEqDiff,Nat.reduceBEq,Nat.reduceLeDiff,Nat.reduceAdd,Nat.reduceMul]
  exact SetR.dropTo (((((Le.refl H).updB n1).updB n2).updB n3).updB n4) (SetR.now hq)
theorem vshr_run{H:AHeap}{Q:AV→AHeap→Prop}{a b:Int}{i:Ins}{k n:Nat}(hH:TzH H)(ha:Bd k a)(hk:k≤1000000)(hc:i.c=(n:Int))(hn:n≤65536)
 (hq:Q (.tup [IntA (if a%2^n=0 then a / 2^n else 0),.bool (decide (a%2^n=0))]) H):Run Tryd.prog 104 [IntA a,IntA b,.cptr (insC i)] H Q:=by
 have hs: ∃e:Nat,shrR a n=.tup [IntA (if a%2^n=0 then a / 2^n else 0),.int .i64 ((e:Nat):Int)]∧(e=0↔a%2^n=0):=by
  have hp:(2:Int)^n≠0:=Int.ne_of_gt (Int.pow_pos (by omega))
  unfold shrR
  rw[if_neg (by omega)]
  by_cases h0:a=0
  ·subst h0
   exact⟨0,by simp,by simp⟩
  ·rw[if_neg h0]
   have ed:(a%2^n=0)↔n≤tz a.natAbs:=(Int.dvd_iff_emod_eq_zero).symm.trans (dvd_tz h0)
   have et:twV a=((tz a.natAbs:Nat):Int):=by rw[twV,if_neg h0]
   rw[et,Int.toNat_natCast]
   by_cases h:n≤tz a.natAbs
   ·rw[if_neg (by omega),if_pos (ed.2 h)];exact⟨0,rfl,by simp[ed.2 h]⟩
   ·rw[if_pos (by omega),if_neg (fun e=>h (ed.1 e))];exact⟨20,rfl,by simp;exact fun e=>h (ed.1 e)⟩
 obtain⟨e,hs1,hs2⟩:=hs
 refine enter104 (by simp) ?_
 simp(disch:=first|exact Xe|fail)only[ac104,cells_IntA,↓Xa,Xb,Xc,↓reduceIte,Nat.reduceLT,Nat.reduceEqDiff,Nat.reduceBEq,Nat.reduceLeDiff,Nat.reduceAdd,Nat.reduceMul]
 refine alloc_i fun p1 hp1=>?_
 have n1:=hp1
 simp(disch:=first|exact Xe|fail)only[cells_IntA,↓Xa,Xb,Xc,↓reduceIte,Nat.reduceLT,Nat.reduceEqDiff,Nat.reduceBEq,Nat.reduceLeDiff,Nat.reduceAdd,Nat.reduceMul]
 refine alloc_i fun p2 hp2=>?_
 have n2:=hp2
 simp only[upd_none]at n2
 obtain⟨_,n2⟩:=n2
 simp(disch:=first|exact Xe|fail)only[↓Xa,Xb,Xc,↓reduceIte,Nat.reduceLT,Nat.reduceEqDiff,Nat.reduceBEq,Nat.reduceLeDiff,Nat.reduceAdd,Nat.reduceMul]
 refine alloc_i fun p3 hp3=>?_
 have n3:=hp3
 simp only[upd_none]at n3
 obtain⟨_,_,n3⟩:=n3
 simp(disch:=first|exact Xe|fail)only[load_ic,hc,fold_IntA,↓Xa,Xb,Xc,↓reduceIte,Nat.reduceLT,Nat.reduceEqDiff,Nat.reduceBEq,Nat.reduceLeDiff,Nat.reduceAdd,Nat.reduceMul]
 refine run_call (ishr_run (k:=k) ?_ ha (by omega) (by omega) ?_)
 ·exact((((Le.refl H).updB n1).updB n2).updB n3) _ _ hH
 rw[hs1]
 simp(disch:=first|exact Xe|fail)only[↓Xa,Xb,Xc,↓reduceIte,Nat.reduceLT,Nat.reduceEqDiff,Nat.reduceBEq,Nat.reduceLeDiff,Nat.reduceAdd,Nat.reduceMul]
 refine alloc_i fun p4 hp4=>?_
 have n4:=hp4
 simp only[upd_none]at n4
 obtain⟨_,_,_,n4⟩:=n4
 have e0:decide (((e:Nat):Int)=((0:Nat):Int))=decide (a%2^n=0):=decide_eq_decide.2 (by omega)
 simp(disch:=first|exact Xe|fail)only[cells_IntA,fold_IntA,eql_int,e0,rs104,↓Xa,Xb,Xc,↓reduceIte,Nat.reduceLT,Nat.reduceEqDiff,Nat.reduceBEq,Nat.reduceLeDiff,Nat.reduceAdd,Nat.reduceMul]
 exact SetR.dropTo (((((Le.refl H).updB n1).updB n2).updB n3).updB n4) (SetR.now hq)
def vmF(i:Ins):AV:=
 if i.op=2 then .fn (.func 94) [] [.cptr [.fn (.func 95) [] []]]
 else if i.op=3 then .fn (.func 94) [] [.cptr [.fn (.func 13) [] []]]
 else if i.op=4 then .fn (.func 94) [] [.cptr [.fn (.func 97) [] []]]
 else if i.op=5 then .fn (.func 94) [] [.cptr [.fn (.func 98) [] [.cptr (insC i)]]]
 else if i.op=6 then .fn (.func 100) [] [.cptr (insC i)]
 else if i.op=7 then .fn (.func 94) [] [.cptr [.fn (.func 102) [] [.cptr (insC i)]]]
 else if i.op=8 then .fn (.func 104) [] [.cptr (insC i)]
 else .fn (.func 94) [] [.cptr [.fn (.func 106) [] []]]
theorem does_fn{i:Ins}:PFn Tryd.prog 59 [InsA i] (vmF i):=by
 intro H Q hq
 have yes: ∀n:Nat,i.op=(n:Int)→decide (i.op=((n:Nat):Int))=true:=fun n h=>decide_eq_true h
 have no: ∀n:Nat,i.op≠(n:Int)→decide (i.op=((n:Nat):Int))=false:=fun n h=>decide_eq_false h
 refine enter59 (by simp) ?_
 simp(disch:=first|exact Xe|fail)only[ac59,cells_InsA,↓Xa,Xb,Xc,↓reduceIte,Nat.reduceLT,Nat.reduceEqDiff,Nat.reduceBEq,Nat.reduceLeDiff,Nat.reduceAdd,Nat.reduceMul]
 refine alloc_i fun p1 hp1=>?_
 have n1:=hp1
 have hle: ∀{x:ABlk},Le H (H.upd p1 (some x)):=(Le.refl H).updB n1
 simp(disch:=first|exact Xe|fail)only[↓Xa,Xb,Xc,↓reduceIte,Nat.reduceLT,Nat.reduceEqDiff,Nat.reduceBEq,Nat.reduceLeDiff,Nat.reduceAdd,Nat.reduceMul]
 unfold vmF at hq
 by_cases o2:i.op=2
 ·rw[if_pos o2]at hq
  simp(disch:=first|exact Xe|fail)only[eql_int,yes 2 o2,↓Xa,Xb,Xc,↓reduceIte,Nat.reduceLT,Nat.reduceEqDiff,Nat.reduceBEq,Nat.reduceLeDiff,Nat.reduceAdd,Nat.reduceMul]
  refine(always_fn rfl).call ?_
  simp(disch:=first|exact Xe|fail)only[rs59,↓Xa,Xb,Xc,↓reduceIte,Nat.reduceLT,Nat.reduceEqDiff,Nat.reduceBEq,Nat.reduceLeDiff,Nat.reduceAdd,Nat.reduceMul]
  exact SetR.dropTo hle (SetR.now hq)
 rw[if_neg o2]at hq
 have e2:=no 2 o2
 by_cases o3:i.op=3
 ·rw[if_pos o3]at hq
  simp(disch:=first|exact Xe|fail)only[eql_int,e2,yes 3 o3,↓Xa,Xb,Xc,↓reduceIte,Nat.reduceLT,Nat.reduceEqDiff,Nat.reduceBEq,Nat.reduceLeDiff,Nat.reduceAdd,Nat.reduceMul]
  refine(always_fn rfl).call ?_
  simp(disch:=first|exact Xe|fail)only[rs59,↓Xa,Xb,Xc,↓reduceIte,Nat.reduceLT,Nat.reduceEqDiff,Nat.reduceBEq,Nat.reduceLeDiff,Nat.reduceAdd,Nat.reduceMul]
  exact SetR.dropTo hle (SetR.now hq)
 rw[if_neg o3]at hq
 have e3:=no 3 o3
 by_cases o4:i.op=4
 ·rw[if_pos o4]at hq
  simp(disch:=first|exact Xe|fail)only[eql_int,e2,e3,yes 4 o4,↓Xa,Xb,Xc,↓reduceIte,Nat.reduceLT,Nat.reduceEqDiff,Nat.reduceBEq,Nat.reduceLeDiff,Nat.reduceAdd,Nat.reduceMul]
  refine(always_fn rfl).call ?_
  simp(disch:=first|exact Xe|fail)only[rs59,↓Xa,Xb,Xc,↓reduceIte,Nat.reduceLT,Nat.reduceEqDiff,Nat.reduceBEq,Nat.reduceLeDiff,Nat.reduceAdd,Nat.reduceMul]
  exact SetR.dropTo hle (SetR.now hq)
 rw[if_neg o4]at hq
 have e4:=no 4 o4
 have frz1: ∀(g:FuncId),SetR Q (.fn (.func 94) [] [.cptr [.fn (.func g) [] [.cptr (insC i)]]]) H→SetR Q (.fn (.func 94) [] [.cptr [.fn (.func g) [] [.ptr p1 5 0]]]) (H.upd p1 (some (.row 88 0 (insC i)))):=fun g h=>by
  refine SetR.frzPP p1 (upd_same _ _ _) ?_
  rw[upd_upd,upd_back _ n1]
  have e:Fw.frzPP p1 (insC i) (.fn (.func 94) [] [.cptr [.fn (.func g) [] [.ptr p1 5 0]]])=.fn (.func 94) [] [.cptr [.fn (.func g) [] [.cptr (insC i)]]]:=by simp[Fw.frzPP,frzP2,frzP,frzP1,insC_len]
  rw[e];exact h
 have frz0: ∀(g:FuncId),SetR Q (.fn (.func g) [] [.cptr (insC i)]) H→SetR Q (.fn (.func g) [] [.ptr p1 5 0]) (H.upd p1 (some (.row 88 0 (insC i)))):=fun g h=>by
  refine SetR.frzP p1 (upd_same _ _ _) ?_
  rw[upd_upd,upd_back _ n1]
  have e:Fw.frzP p1 (insC i) (.fn (.func g) [] [.ptr p1 5 0])=.fn (.func g) [] [.cptr (insC i)]:=by simp[Fw.frzP,frzP1,insC_len]
  rw[e];exact h
 by_cases o5:i.op=5
 ·rw[if_pos o5]at hq
  simp(disch:=first|exact Xe|fail)only[eql_int,e2,e3,e4,yes 5 o5,↓Xa,Xb,Xc,↓reduceIte,Nat.reduceLT,Nat.reduceEqDiff,Nat.reduceBEq,Nat.reduceLeDiff,Nat.reduceAdd,Nat.reduceMul]
  refine(always_fn rfl).call ?_
  simp(disch:=first|exact Xe|fail)only[rs59,↓Xa,Xb,Xc,↓reduceIte,Nat.reduceLT,Nat.reduceEqDiff,Nat.reduceBEq,Nat.reduceLeDiff,Nat.reduceAdd,Nat.reduceMul]
  exact frz1 _ (SetR.now hq)
 rw[if_neg o5]at hq
 have e5:=no 5 o5
 by_cases o6:i.op=6
 ·rw[if_pos o6]at hq
  simp(disch:=first|exact Xe|fail)only[eql_int,e2,e3,e4,e5,yes 6 o6,rs59,↓Xa,Xb,Xc,↓reduceIte,Nat.reduceLT,Nat.reduceEqDiff,Nat.reduceBEq,Nat.reduceLeDiff,Nat.reduceAdd,Nat.reduceMul]
  exact frz0 _ (SetR.now hq)
 rw[if_neg o6]at hq
 have e6:=no 6 o6
 by_cases o7:i.op=7
 ·rw[if_pos o7]at hq
  simp(disch:=first|exact Xe|fail)only[eql_int,e2,e3,e4,e5,e6,yes 7 o7,↓Xa,Xb,Xc,↓reduceIte,Nat.reduceLT,Nat.reduceEqDiff,Nat.reduceBEq,Nat.reduceLeDiff,Nat.reduceAdd,Nat.reduceMul]
  refine(always_fn rfl).call ?_
  simp(disch:=first|exact Xe|fail)only[rs59,↓Xa,Xb,Xc,↓reduceIte,Nat.reduceLT,Nat.reduceEqDiff,Nat.reduceBEq,Nat.reduceLeDiff,Nat.reduceAdd,Nat.reduceMul]
  exact frz1 _ (SetR.now hq)
 rw[if_neg o7]at hq
 have e7:=no 7 o7
 by_cases o8:i.op=8
 ·rw[if_pos o8]at hq
  simp(disch:=first|exact Xe|fail)only[eql_int,e2,e3,e4,e5,e6,e7,yes 8 o8,rs59,↓Xa,Xb,Xc,↓reduceIte,Nat.reduceLT,Nat.reduceEqDiff,Nat.reduceBEq,Nat.reduceLeDiff,Nat.reduceAdd,Nat.reduceMul]
  exact frz0 _ (SetR.now hq)
 rw[if_neg o8]at hq
 have e8:=no 8 o8
 simp(disch:=first|exact Xe|fail)only[eql_int,e2,e3,e4,e5,e6,e7,e8,↓Xa,Xb,Xc,↓reduceIte,Nat.reduceLT,Nat.reduceEqDiff,Nat.reduceBEq,Nat.reduceLeDiff,Nat.reduceAdd,Nat.reduceMul]
 refine(always_fn rfl).call ?_
 simp(disch:=first|exact Xe|fail)only[rs59,↓Xa,Xb,Xc,↓reduceIte,Nat.reduceLT,Nat.reduceEqDiff,Nat.reduceBEq,Nat.reduceLeDiff,Nat.reduceAdd,Nat.reduceMul]
 exact SetR.dropTo hle (SetR.now hq)
theorem vmF_call{i:Ins}{N:Int}(hm:mayI N i){a b:Int}{k:Nat}(ha:Bd k a)(hb:Bd k b)(hk:k≤100000): ∃(x:Int)(ok:Bool),Bd (k+3) x∧(ok=true→doZ i a b=some x)∧(ok=false→doZ i a b=none)∧
 ∀(H:AHeap)(K:AV→AHeap→Prop),(i.op=8→TzH H)→K (.tup [IntA x,.bool ok]) H→callW Tryd.prog (vmF i) [IntA a,IntA b] H K:=by
 have hbd: ∀{x:Int},doZ i a b=some x→Bd (k+3) x:=fun h=>doZ_bd hm ha hb h
 have h3:=hm.2.2.2.2.2.2
 unfold vmF
 by_cases o2:i.op=2
 ·have hz:doZ i a b=some (-a):=by unfold doZ;rw[if_pos o2]
  rw[if_pos o2]
  exact⟨_,true,hbd hz,fun _=>hz,fun e=>absurd e (by simp),fun H K _ hk'=>always_ans (FnAns.of (vneg_fn ha (by omega))) H K hk'⟩
 rw[if_neg o2]
 by_cases o3:i.op=3
 ·have hz:doZ i a b=some (a+b):=by unfold doZ;rw[if_neg o2,if_pos o3]
  rw[if_pos o3]
  exact⟨_,true,hbd hz,fun _=>hz,fun e=>absurd e (by simp),fun H K _ hk'=>always_ans (FnAns.of (addi_fn ha (by omega) hb (by omega))) H K hk'⟩
 rw[if_neg o3]
 by_cases o4:i.op=4
 ·have hz:doZ i a b=some (a-b):=by unfold doZ;rw[if_neg o2,if_neg o3,if_pos o4]
  rw[if_pos o4]
  exact⟨_,true,hbd hz,fun _=>hz,fun e=>absurd e (by simp),fun H K _ hk'=>always_ans (FnAns.of (subi_fn ha (by omega) hb (by omega))) H K hk'⟩
 rw[if_neg o4]
 rw[if_neg (by omega)]at h3
 by_cases o5:i.op=5
 ·have hcs:cst i=i.c:=by unfold cst;rw[if_pos (.inl o5)]
  have hz:doZ i a b=some (a*i.c):=by unfold doZ;rw[if_neg o2,if_neg o3,if_neg o4,if_pos (.inl o5),hcs,Int.mul_comm]
  rw[if_pos (.inl o5)]at h3
  rw[if_pos o5]
  exact⟨_,true,hbd hz,fun _=>hz,fun e=>absurd e (by simp),fun H K _ hk'=>always_ans (FnAns.caps (args:=[IntA a,IntA b]) (vmul_fn ha (by omega) (by unfold I64;omega))) H K hk'⟩
 rw[if_neg o5]
 by_cases o6:i.op=6
 ·have hcs:cst i=i.c:=by unfold cst;rw[if_pos (.inr o6)]
  have hz:doZ i a b=if a%i.c=0 then some (a / i.c)else none:=by unfold doZ;rw[if_neg o2,if_neg o3,if_neg o4,if_neg (by omega),if_pos (.inl o6),hcs]
  rw[if_pos (.inr o6)]at h3
  rw[if_pos o6]
  refine⟨if a%i.c=0 then a / i.c else 0,decide (a%i.c=0),?_,fun e=>?_,fun e=>?_,fun H K _ hk'=>FnAns.caps (args:=[IntA a,IntA b]) (vdiv_fn ha (by omega) (by unfold I64;omega) h3.2.1) H K hk'⟩
  ·split
   ·exact ha.ediv.mono (by omega)
   ·exact Bd.zero _
  ·have:=of_decide_eq_true e;rw[hz,if_pos this,if_pos this]
  ·have:=of_decide_eq_false e;rw[hz,if_neg this]
 rw[if_neg o6]
 by_cases o7:i.op=7
 ·rw[if_neg (by omega),if_pos (.inl o7)]at h3
  obtain⟨m,hmc⟩: ∃m:Nat,i.c=(m:Int):=⟨i.c.toNat,by omega⟩
  have hcs:cst i=2^m:=by unfold cst;rw[if_neg (by omega),hmc];rfl
  have hz:doZ i a b=some (a*2^m):=by unfold doZ;rw[if_neg o2,if_neg o3,if_neg o4,if_pos (.inr o7),hcs,Int.mul_comm]
  rw[if_pos o7]
  exact⟨_,true,hbd hz,fun _=>hz,fun e=>absurd e (by simp),fun H K _ hk'=>always_ans (FnAns.caps (args:=[IntA a,IntA b]) (vshl_fn ha (by omega) hmc (by omega))) H K hk'⟩
 rw[if_neg o7]
 by_cases o8:i.op=8
 ·rw[if_neg (by omega),if_pos (.inr o8)]at h3
  obtain⟨m,hmc⟩: ∃m:Nat,i.c=(m:Int):=⟨i.c.toNat,by omega⟩
  have hcs:cst i=2^m:=by unfold cst;rw[if_neg (by omega),hmc];rfl
  have hz:doZ i a b=if a%2^m=0 then some (a / 2^m)else none:=by unfold doZ;rw[if_neg o2,if_neg o3,if_neg o4,if_neg (by omega),if_pos (.inr o8),hcs]
  rw[if_pos o8]
  refine⟨if a%2^m=0 then a / 2^m else 0,decide (a%2^m=0),?_,fun e=>?_,fun e=>?_,fun H K hT hk'=>callW_fn (vshr_run (hT o8) ha (by omega) hmc (by omega) hk')⟩
  ·split
   ·exact ha.ediv.mono (by omega)
   ·exact Bd.zero _
  ·have:=of_decide_eq_true e;rw[hz,if_pos this,if_pos this]
  ·have:=of_decide_eq_false e;rw[hz,if_neg this]
 rw[if_neg o8]
 have hz:doZ i a b=some a:=by unfold doZ;rw[if_neg o2,if_neg o3,if_neg o4,if_neg (by omega),if_neg (by omega)]
 exact⟨_,true,hbd hz,fun _=>hz,fun e=>absurd e (by simp),fun H K _ hk'=>always_ans (FnAns.of vmov_fn) H K hk'⟩
theorem SetR.frzC{Q:AV→AHeap→Prop}{v:AV}{H:AHeap}(r b:Nat){ty es ty' es':Nat}{cells cs:List AV}(cs':List AV)(hl:cs'.length=cs.length)(hw: ∀i(h:i<cs.length)(h':i<cs'.length),Wk (frz1 b es cells (cs[i])) (cs'[i]))(hb:H b=some (.row ty es cells))(hr:H r=some (.row ty' es' cs))(hne:r≠b)
 (h:SetR Q (Fw.frz b es cells v) ((H.upd b none).upd r (some (.row ty' es' cs')))):SetR Q v H:=by
 refine SetR.join fun c u hc hok he=>?_
 have hb':c.H b=some (.row ty es cells):=hc▸hb
 have ok1:=Ctx.drop_ok hok b
 have hH1:(c.drop b).H r=some (.row ty' es' cs):=by
  show(c.H.upd b none) r=_
  rw[upd_other _ _ hne,hc];exact hr
 obtain⟨arr,k1,k2,k3⟩:=hok.blk r _ (hc▸hr)
 have l2:Later (c.drop b) ((c.drop b).put r (.row ty' es' cs') arr):=Ctx.put_later ok1 hH1 k1 (by omega) rfl
 have ok2:Ok ((c.drop b).put r (.row ty' es' cs') arr):=Ctx.put_ok ok1 hH1 k1 (by omega) rfl (by omega) fun i hi hi'=>hw i (by omega) hi _ _ (enc_frz1 hok hb' _ _ (k3 i (by omega) hi'))
 have hw2:((c.drop b).put r (.row ty' es' cs') arr).w=c.w:=setRow_self _ _ _ _ _ k1
 refine⟨_,_,hw2,ok2,(c.drop_later b).trans l2,(enc_frz hok hb' _ _ he).later l2,?_⟩
 show SetR Q _ ((c.H.upd b none).upd r _)
 rw[hc];exact h
def machC(p:PR)(y:AV)(n:Nat):List AV:=[.int .i64 p.ins,.int .i64 p.regs,CodeA p.code false,OutsA p.outs false,y,.int .i64 n]
theorem doR_of{i:Ins}{a b x:List Int}(h:a.length=b.length)(hx:x.length=a.length)(hd: ∀j,j<a.length→doZ i (a.getD j 0) (b.getD j 0)=some (x.getD j 0)):doR i a b=some x:=by
 cases e:doR i a b with
 |none=>
  obtain⟨k,hk,hn⟩:=doR_no e
  have:=hd k hk
  rw[hn]at this;cases this
 |some r=>
  have hl:=doR_len h e
  congr 1
  refine List.ext_getElem (by omega) fun j h1 h2=>?_
  have h3:=doR_at h e (k:=j) (by omega)
  rw[hd j (by omega)]at h3
  injection h3 with h3
  simp only[List.getD_eq_getElem?_getD,List.getElem?_eq_getElem h1,List.getElem?_eq_getElem h2,Option.getD_some]at h3
  exact h3.symm
theorem doR_fail{i:Ins}{a b:List Int}(h:a.length=b.length){j:Nat}(hj:j<a.length)(hd:doZ i (a.getD j 0) (b.getD j 0)=none):doR i a b=none:=by
 cases e:doR i a b with
 |none=>rfl
 |some r=>have:=doR_at h e hj;rw[hd]at this;cases this
theorem dcallF{P:Program}{H:AHeap}{K:AV→List Nat→Option (Nat×ABlk)→Prop}{fv:AV}{args:List AV}{r:AV}(rd:List Nat)(h: ∀(H':AHeap)(K':AV→AHeap→Prop),(∀q,q∈rd→H' q=H q)→K' r H'→callW P fv args H' K')(k:K r rd none){o:Bool}:dcall o P fv args H K:=
 .inl ⟨r,rd,fun H' e=>h H' _ e ⟨rfl,rfl⟩,k⟩
theorem step_run{H:AHeap}{Q:AV→AHeap→Prop}{mb br N n k L:Nat}{tm:Bool}{p:PR}{regs:List (List Int)}(hm:H mb=some (.row 102 0 (machC p (.own br N 0 N tm) n)))(hb:H br=some (.row 31 1 (GI regs)))(hne:mb≠br)(hN:regs.length=N)(hpN:p.regs=(N:Int))(hr:rightP p)
 (hz:GoodG k L regs) (hk:k≤90000) (hL:L≤100000) (hn:n≤p.code.length) (hT: ∀i,i∈p.code→i.op=8→TzH H)
 (hq0:n=p.code.length→Q (.int .i64 ((4:Nat):Int)) H)
 (hq1: ∀h:n<p.code.length,∀x,doR p.code[n] (regs.getD (p.code[n]).a.toNat []) (regs.getD (p.code[n]).b.toNat [])=some x→RB4 (k+3) x→x.length=L→Q (.int .i64 ((0:Nat):Int)) ((H.upd br (some (.row 31 1 (GI (regs.set (p.code[n]).to.toNat x))))).upd mb (some (.row 102 0 (machC p (.own br N 0 N tm) (n+1))))))
 (hq2: ∀h:n<p.code.length,doR p.code[n] (regs.getD (p.code[n]).a.toNat []) (regs.getD (p.code[n]).b.toNat [])=none→Q (.int .i64 ((20:Nat):Int)) H):
 Run Tryd.prog 20 [.ptr mb 6 0] H Q:=by
 have hh:=hr.1
 unfold headP at hh
 have lc:p.code.length<9223372036854775808:=by omega
 have hm':H mb=some (.row 102 0 [.int .i64 p.ins,.int .i64 p.regs,CodeA p.code false,OutsA p.outs false,.own br N 0 N tm,.int .i64 n]):=hm
 refine enter20 (by simp) ?_
 by_cases hnc:n=p.code.length
 ·have d1:decide (n=p.code.length)=true:=decide_eq_true hnc
  simp(disch:=first|exact Xe|fail)only[ac20,hm',dlen_rw lc,eql_int,Int.natCast_inj,d1,rs20,↓Xa,Xb,Xc,↓reduceIte,Nat.reduceLT,Nat.reduceEqDiff,Nat.reduceBEq,Nat.reduceLeDiff,Nat.reduceAdd,Nat.reduceMul]
  exact SetR.now (hq0 hnc)
 have hn':n<p.code.length:=by omega
 have d1:decide (n=p.code.length)=false:=decide_eq_false hnc
 simp(disch:=first|exact Xe|fail)only[ac20,hm',dlen_rw lc,eql_int,Int.natCast_inj,d1,idx_CodeA hn',load_CodeA hn',↓Xa,Xb,Xc,↓reduceIte,Nat.reduceLT,Nat.reduceEqDiff,Nat.reduceBEq,Nat.reduceLeDiff,Nat.reduceAdd,Nat.reduceMul]
 refine dalloc_i fun p3 n3=>?_
 have m3:=ne_of_some hm n3
 have b3:=ne_of_some hb n3
 simp(disch:=first|exact Xe|fail)only[cells_InsA,fold_InsA,↓Xa,Xb,Xc,↓reduceIte,Nat.reduceLT,Nat.reduceEqDiff,Nat.reduceBEq,Nat.reduceLeDiff,Nat.reduceAdd,Nat.reduceMul]
 have hmi:mayI (N:Int) p.code[n]:=by rw[← hpN];exact hr.2.2 _ (List.getElem_mem hn')
 have hq1':=hq1 hn'
 have hq2':=hq2 hn'
 have hT':=hT _ (List.getElem_mem hn')
 generalize p.code[n]=i at*
 refine does_fn.call ?_
 have hmb:=mayI_b hmi
 have hma:=hmi.2.2
 obtain⟨a,ha⟩: ∃a:Nat,i.a=(a:Int):=⟨i.a.toNat,by omega⟩
 obtain⟨c,hc⟩: ∃c:Nat,i.b=(c:Int):=⟨i.b.toNat,by omega⟩
 obtain⟨w,hw⟩: ∃w:Nat,i.to=(w:Int):=⟨i.to.toNat,by omega⟩
 have haN:a<regs.length:=by omega
 have hcN:c<regs.length:=by omega
 have haN':a<N:=by omega
 have hcN':c<N:=by omega
 have hwN:w<N:=by omega
 have ga:regs.getD i.a.toNat []=regs[a]:=by rw[ha,Int.toNat_natCast,List.getD_eq_getElem?_getD,List.getElem?_eq_getElem haN];rfl
 have gc:regs.getD i.b.toNat []=regs[c]:=by rw[hc,Int.toNat_natCast,List.getD_eq_getElem?_getD,List.getElem?_eq_getElem hcN];rfl
 have gw:i.to.toNat=w:=by omega
 rw[ga,gc]at hq1' hq2'
 rw[gw]at hq1'
 obtain⟨lx,bx⟩:=hz _ (List.getElem_mem haN)
 obtain⟨ly,by'⟩:=hz _ (List.getElem_mem hcN)
 have hl:(GI regs).length=N:=by rw[GI_len,hN]
 have lx9:(regs[a]).length<9223372036854775808:=by omega
 simp(disch:=first|exact Xe|fail)only[ha,hc,hm',hb,m3,b3,idx_ownR,hl,haN',hcN',ldP_GI hN haN,ldP_GI hN hcN,len_rw,lx9,lx,↓Xa,Xb,Xc,↓reduceIte,Nat.reduceLT,Nat.reduceEqDiff,Nat.reduceBEq,Nat.reduceLeDiff,Nat.reduceAdd,Nat.reduceMul]
 generalize regs[a]=x at*
 generalize regs[c]=y at*
 rw[mks_I (by omega)]
 intro o ho
 have o3:=(upd_none.1 ho).1
 have oH:=(upd_none.1 ho).2
 have om:=ne_of_some hm oH
 have ob:=ne_of_some hb oH
 generalize hX:(ABlk.row 88 0 [.int .i64 i.op,.int .i64 i.to,.int .i64 (a:Int),.int .i64 (c:Int),.int .i64 i.c])=X at*
 have hX':X=.row 88 0 [.int .i64 i.op,.int .i64 (w:Int),.int .i64 (a:Int),.int .i64 (c:Int),.int .i64 i.c]:=by rw[← hX,hw]
 have lL:L<9223372036854775808:=by omega
 simp(disch:=first|exact Xe|fail)only[lenW_own lL,↓Xa,Xb,Xc,↓reduceIte,Nat.reduceLT,Nat.reduceEqDiff,Nat.reduceBEq,Nat.reduceLeDiff,Nat.reduceAdd,Nat.reduceMul]
 refine W_loop (fun s:Nat×List Int=>⟨[],[(0,.ptr mb 6 0),(3,.ptr p3 5 0),(4,vmF i),(5,rI x),(6,rI y),(7,.own o (L*2) 0 L true),(59,.int .i64 L),(60,.int .i64 s.1)],(H.upd p3 (some X)).upd o (some (.row 34 2 (IC (s.2++List.replicate (L-s.1) 0))))⟩)
  (fun s=>s.1≤L∧s.2.length=s.1∧(∀z,z∈s.2→Bd (k+3) z)∧∀j,j<s.1→doZ i (x.getD j 0) (y.getD j 0)=some (s.2.getD j 0)) (fun s=>L-s.1) (0,[]) (Settle.now (by simp)) ⟨Nat.zero_le _,rfl,fun z h=>by simp at h,fun j h=>absurd h (Nat.not_lt_zero j)⟩ ?_
 rintro⟨j,xs⟩ ⟨h1,h2,h3,h4⟩
 dsimp only at h1 h2 h3 h4 ⊢
 have hcell:(xs++List.replicate (L-j) 0).length=L:=by simp;omega
 by_cases hj:j<L
 ·have hjx:j<x.length:=by omega
  have hjy:j<y.length:=by omega
  have ex:x.getD j 0=x[j]:=by rw[List.getD_eq_getElem?_getD,List.getElem?_eq_getElem hjx];rfl
  have ey:y.getD j 0=y[j]:=by rw[List.getD_eq_getElem?_getD,List.getElem?_eq_getElem hjy];rfl
  obtain⟨z,ok,hbz,hz1,hz2,hcall⟩:=vmF_call hmi (bx.at hjx) (by'.at hjy) (by omega)
  have hdn:=h4
  obtain⟨qd,vq,hqd,hcall2⟩: ∃qd vq,H qd=some vq∧∀(H':AHeap)(K:AV→AHeap→Prop),H' qd=H qd→K (.tup [IntA z,.bool ok]) H'→callW Tryd.prog (vmF i) [IntA x[j],IntA y[j]] H' K:=by
   by_cases o8:i.op=8
   ·exact⟨_,_,hT' o8,fun H' K he hk=>hcall H' K (fun _=>he.trans (hT' o8)) hk⟩
   ·exact⟨mb,_,hm,fun H' K _ hk=>hcall H' K (fun e=>absurd e o8) hk⟩
  have q3:=ne_of_some hqd n3
  have qo:=ne_of_some hqd oH
  simp(disch:=first|exact Xe|fail)only[hj,idx_IC hjx,load_IC hjx,idx_IC hjy,load_IC hjy,↓Xa,Xb,Xc,↓reduceIte,Nat.reduceLT,Nat.reduceEqDiff,Nat.reduceBEq,Nat.reduceLeDiff,Nat.reduceAdd,Nat.reduceMul]
  refine dcallF [qd] (fun H' K he hk=>hcall2 H' K ((he qd (by simp)).trans (by rw[upd_other _ _ (Ne.symm qo),upd_other _ _ (Ne.symm q3)])) hk) ?_
  simp(disch:=first|exact Xe|fail)only[↓Xa,Xb,Xc,↓reduceIte,Nat.reduceLT,Nat.reduceEqDiff,Nat.reduceBEq,Nat.reduceLeDiff,Nat.reduceAdd,Nat.reduceMul]
  refine dalloc_i fun q9 hq9=>?_
  have q93:=(upd_none.1 (upd_none.1 hq9).2).1
  have q9H:=(upd_none.1 (upd_none.1 hq9).2).2
  have q9o:=(upd_none.1 hq9).1
  have q9d:=ne_of_some hqd q9H
  simp(disch:=first|exact Xe|fail)only[cells_IntA,↓Xa,Xb,Xc,↓reduceIte,Nat.reduceLT,Nat.reduceEqDiff,Nat.reduceBEq,Nat.reduceLeDiff,Nat.reduceAdd,Nat.reduceMul]
  cases ok with
  |false=>
   simp(disch:=first|exact Xe|fail)only[rs20,↓Xa,Xb,Xc,↓reduceIte,Nat.reduceLT,Nat.reduceEqDiff,Nat.reduceBEq,Nat.reduceLeDiff,Nat.reduceAdd,Nat.reduceMul]
   refine SetR.dropTo ((((Le.refl H).updB n3).updB oH).updB q9H) (SetR.now (hq2' (doR_fail (j:=j) (by omega) hjx ?_)))
   rw[ex,ey];exact hz2 rfl
  |true=>
   have hdz:=hz1 rfl
   have eset:(xs++List.replicate (L-j) 0).set j z=(xs++[z])++List.replicate (L-(j+1)) 0:=by
    rw[List.set_append_right _ _ (by omega),h2,Nat.sub_self,show L-j=(L-(j+1))+1 by omega,List.replicate_succ,List.set_cons_zero,List.append_assoc];rfl
   have mo: ∀v w:ABlk,(((H.upd p3 (some X)).upd o (some v)).upd q9 (some w)) o=some v:=fun v w=>by rw[upd_other _ _ (Ne.symm q9o),upd_same]
   have hlo:(IC (xs++List.replicate (L-j) 0)).length=L*2:=by rw[IC_len,hcell]
   simp(disch:=first|exact Xe|fail)only[cells_IntA,fold_IntA,mo,idx_own2',hlo,hj,↓Xa,Xb,Xc,↓reduceIte,Nat.reduceLT,Nat.reduceEqDiff,Nat.reduceBEq,Nat.reduceLeDiff,Nat.reduceAdd,Nat.reduceMul]
   refine(stP_IC hcell hj).2 ?_
   rw[eset,upd_comm _ _ _ (show q9≠o from q9o),upd_upd]
   simp(disch:=first|exact Xe|fail)only[↓Xa,Xb,Xc,↓reduceIte,Nat.reduceLT,Nat.reduceEqDiff,Nat.reduceBEq,Nat.reduceLeDiff,Nat.reduceAdd,Nat.reduceMul]
   refine Settle.dropTo ((Le.refl _).updB (upd_none.2 ⟨q9o,upd_none.2 ⟨q93,q9H⟩⟩)) (Settle.now ⟨(j+1,xs++[z]),by dsimp only;omega,⟨by dsimp only;omega,by dsimp only;simp[h2],fun u hu=>?_,fun i2 hi2=>?_⟩,rfl⟩)
   ·rcases List.mem_append.1 hu with hu|hu
    ·exact h3 u hu
    ·simp at hu;rw[hu];exact hbz
   ·dsimp only at hi2 ⊢
    by_cases e:i2=j
    ·subst e
     have e2:(xs++[z]).getD i2 0=z:=by rw[List.getD_eq_getElem?_getD,List.getElem?_append_right (by omega),h2,Nat.sub_self];rfl
     rw[e2,ex,ey];exact hdz
    ·have e2:(xs++[z]).getD i2 0=xs.getD i2 0:=by rw[List.getD_eq_getElem?_getD,List.getElem?_append_left (by omega),List.getD_eq_getElem?_getD]
     rw[e2];exact h4 i2 (by omega)
 ·obtain rfl:j=L:=by omega
  have hdo:doR i x y=some xs:=doR_of (by omega) (by omega) fun i2 hi2=>h4 i2 (by omega)
  have hlen0:xs.length<4611686018427387904:=by omega
  have eI:IC (xs++List.replicate (j-j) 0)=IC xs:=by simp
  rw[eI]
  simp(disch:=first|exact Xe|fail)only[hj,↓Xa,Xb,Xc,↓reduceIte,Nat.reduceLT,Nat.reduceEqDiff,Nat.reduceBEq,Nat.reduceLeDiff,Nat.reduceAdd,Nat.reduceMul]
  refine Settle.now ?_
  have w3: ∀v:ABlk,((H.upd p3 (some X)).upd o (some v)) p3=some (.row 88 0 [.int .i64 i.op,.int .i64 (w:Int),.int .i64 (a:Int),.int .i64 (c:Int),.int .i64 i.c]):=fun v=>by rw[upd_other _ _ (Ne.symm o3),upd_same,hX']
  have wm: ∀v:ABlk,((H.upd p3 (some X)).upd o (some v)) mb=some (.row 102 0 [.int .i64 p.ins,.int .i64 p.regs,CodeA p.code false,OutsA p.outs false,.own br N 0 N tm,.int .i64 n]):=fun v=>by rw[upd_other _ _ (Ne.symm om),upd_other _ _ (Ne.symm m3)];exact hm'
  have wb: ∀v:ABlk,((H.upd p3 (some X)).upd o (some v)) br=some (.row 31 1 (GI regs)):=fun v=>by rw[upd_other _ _ (Ne.symm ob),upd_other _ _ (Ne.symm b3)];exact hb
  simp(disch:=first|exact Xe|fail)only[w3,wm,wb,idx_ownR,hl,hwN,↓Xa,Xb,Xc,↓reduceIte,Nat.reduceLT,Nat.reduceEqDiff,Nat.reduceBEq,Nat.reduceLeDiff,Nat.reduceAdd,Nat.reduceMul]
  refine(stP_1 (x:=.own o (j*2) 0 j true) hl hwN).2 ?_
  have wm2: ∀v u:ABlk,(((H.upd p3 (some X)).upd o (some v)).upd br (some u)) mb=some (.row 102 0 [.int .i64 p.ins,.int .i64 p.regs,CodeA p.code false,OutsA p.outs false,.own br N 0 N tm,.int .i64 n]):=fun v u=>by rw[upd_other _ _ hne];exact wm v
  simp(disch:=first|exact Xe|fail)only[wm2,rs20,↓Xa,Xb,Xc,↓reduceIte,Nat.reduceLT,Nat.reduceEqDiff,Nat.reduceBEq,Nat.reduceLeDiff,Nat.reduceAdd,Nat.reduceMul]
  have hgl:(GI (regs.set w xs)).length=((GI regs).set w (.own o (j*2) 0 j true)).length:=by rw[GI_len,List.length_set,List.length_set,GI_len]
  have hHf: ∀(u v:ABlk),((((H.upd p3 (some X)).upd o (some (.row 34 2 (IC xs)))).upd br (some u)).upd mb (some v)) o=some (.row 34 2 (IC xs)):=fun u v=>by rw[upd_other _ _ om,upd_other _ _ ob,upd_same]
  have hHb: ∀(u v:ABlk),((((H.upd p3 (some X)).upd o (some (.row 34 2 (IC xs)))).upd br (some u)).upd mb (some v)) br=some u:=fun u v=>by rw[upd_other _ _ (Ne.symm hne),upd_same]
  refine SetR.frzC br o (GI (regs.set w xs)) hgl (fun i2 q1 q2=>?_) (hHf _ _) (hHb _ _) (Ne.symm ob) ?_
  ·simp only[GI,List.map_set,List.getElem_set]
   by_cases e:w=i2
   ·rw[if_pos e,if_pos e]
    have e1:frz1 o 2 (IC xs) (.own o (j*2) 0 j true)=.seq j (IC xs) true:=by
     simp[frz1,IC_len,h2];rw[List.take_of_length_le (by rw[IC_len];omega)]
    have e2:rI xs=.seq j (IC xs) false:=by rw[rI,RowA,h2]
    rw[e1,e2];exact Wk.l0
   ·rw[if_neg e,if_neg e]
    simp only[List.getElem_map]
    exact Wk.refl
  ·have e1:Fw.frz o 2 (IC xs) (.int .i64 ((0:Nat):Int))=.int .i64 ((0:Nat):Int):=rfl
   rw[e1]
   refine SetR.dropTo ?_ (SetR.now (hq1' xs hdo ⟨h3,hlen0⟩ (by omega)))
   intro q v hq
   by_cases eb:q=br
   ·subst eb
    rw[upd_other _ _ (Ne.symm hne),upd_same]at hq
    rw[upd_same];exact hq
   by_cases em:q=mb
   ·subst em
    rw[upd_same]at hq
    rw[upd_other _ _ eb,upd_other _ _ (Ne.symm om),upd_same];exact hq
   ·rw[upd_other _ _ em,upd_other _ _ eb]at hq
    have eo:q≠o:=by rintro rfl;rw[oH]at hq;cases hq
    have e3:q≠p3:=by rintro rfl;rw[n3]at hq;cases hq
    rw[upd_other _ _ eb,upd_other _ _ eo,upd_other _ _ em,upd_other _ _ eb,upd_other _ _ eo,upd_other _ _ e3];exact hq
def deB64:List Nat:=[0,1,56,2,57,49,28,3,61,58,42,50,38,29,17,4,62,47,59,36,45,43,51,22,53,39,33,30,24,18,12,5,63,55,48,27,60,41,37,16,46,35,44,21,52,32,23,11,54,26,40,15,34,20,31,10,25,14,19,9,13,8,7,6]
def tab64C:List AV:=deB64.map fun(n:Nat)=>AV.int .u8 (n:Int)
def Tz64H(H:AHeap):Prop:=H 1=some (.glob 1 tab64C)
theorem Tz64H.le{H H':AHeap}(h:Tz64H H)(hl:Le H H'):Tz64H H':=hl _ _ h
theorem tab64_get{i:Nat}(h:i<64):(tab64C.drop i).take 1=[.int .u8 ((deB64.getD i 0:Nat):Int)]:=by
 have hl:tab64C.length=64:=rfl
 rw[List.drop_eq_getElem_cons (by omega),List.take_succ_cons,List.take_zero]
 simp only[tab64C,List.getElem_map]
 rw[List.getD_eq_getElem?_getD,List.getElem?_eq_getElem (show i<deB64.length from h),Option.getD_some]
theorem tz64_run{H:AHeap}{x v n:Nat}{K:AV→AHeap→Prop}(hH:Tz64H H)(h0:0<x)(hx:x<65536)(ha:x &&& (18446744073709551616-x)=x)(hv:x*285870213051353865%18446744073709551616=v)(hi:v / 288230376151711744<64)(ht:deB64.getD (v / 288230376151711744) 0=n)(hn:n<256)(k:K (.int .i64 ((n:Nat):Int)) H):
 Run Tryd.prog 150 [.int .u64 (x:Int)] H K:=by
 refine enter150 (by simp) ?_
 have hH':H 1=some (.glob 1 tab64C):=hH
 have hne: ¬x=0:=by omega
 have c1: ∀K,unW .neg (.int .u64 (x:Int)) K↔K (.int .u64 ((18446744073709551616-x:Nat):Int)):=fun K=>by
  simp only[unW,wmod_u64];rw[show(0-(x:Int))%18446744073709551616=((18446744073709551616-x:Nat):Int) by omega]
 have c2: ∀K,binW .and (.int .u64 (x:Int)) (.int .u64 ((18446744073709551616-x:Nat):Int)) K↔K (.int .u64 ((x:Nat):Int)):=fun K=>by
  rw[bin_and .u64 (by simp[IntKind.bits];omega) (by simp[IntKind.bits];omega),ha,wn_u64 (by omega)]
 have c3: ∀K,binW .mul (.int .u64 (x:Int)) (.int .u64 ((285870213051353865:Nat):Int)) K↔K (.int .u64 ((v:Nat):Int)):=fun K=>by
  simp only[binW,binInt,wmod_u64]
  rw[show(x:Int)*((285870213051353865:Nat):Int)%18446744073709551616=((v:Nat):Int) by rw[← hv];omega]
  simp
 simp(disch:=first|exact Xe|fail)only[ac150,hne,c1,c2,c3,hH',gixP_k,ldP_glob,↓Xa,Xb,Xc,↓reduceIte,Nat.reduceLT,Nat.reduceEqDiff,Nat.reduceBEq,Nat.reduceLeDiff,Nat.reduceAdd,Nat.reduceMul]
 have e58:(2:Nat)^58=288230376151711744:=by decide
 rw[e58]
 have hl:tab64C.length=64:=rfl
 refine⟨by omega,?_⟩
 rw[tab64_get hi,ht]
 have hw:IntKind.i64.wrap ((n:Nat):Int)=((n:Nat):Int):=wrap_i64 (by omega) (by omega)
 simp(disch:=first|exact Xe|fail)only[hw,rs150,↓Xa,Xb,Xc,↓reduceIte,Nat.reduceLT,Nat.reduceEqDiff,Nat.reduceBEq,Nat.reduceLeDiff,Nat.reduceAdd,Nat.reduceMul]
 exact SetR.now k
def isP2(c:Int)(n:Nat):Prop:=(c=2∧n=1)∨(c=4∧n=2)∨(c=8∧n=3)∨(c=16∧n=4)
theorem tz_run{H:AHeap}{c:Int}{n:Nat}{K:AV→AHeap→Prop}(hH:Tz64H H)(hc:isP2 c n)(k:K (.int .i64 ((n:Nat):Int)) H):Run Tryd.prog 126 [.int .u64 c] H K:=by
 refine enter126 (by simp) ?_
 simp(disch:=first|exact Xe|fail)only[ac126,↓Xa,Xb,Xc,↓reduceIte,Nat.reduceLT,Nat.reduceEqDiff,Nat.reduceBEq,Nat.reduceLeDiff,Nat.reduceAdd,Nat.reduceMul]
 rcases hc with⟨rfl,rfl⟩|⟨rfl,rfl⟩|⟨rfl,rfl⟩|⟨rfl,rfl⟩
 ·refine run_call (tz64_run (x:=2) (n:=1) hH (by decide) (by decide) (by decide) rfl (by decide) (by decide) (by decide) ?_)
  simp(disch:=first|exact Xe|fail)only[rs126,↓Xa,Xb,Xc,↓reduceIte,Nat.reduceLT,Nat.reduceEqDiff,Nat.reduceBEq,Nat.reduceLeDiff,Nat.reduceAdd,Nat.reduceMul]
  exact SetR.now k
 ·refine run_call (tz64_run (x:=4) (n:=2) hH (by decide) (by decide) (by decide) rfl (by decide) (by decide) (by decide) ?_)
  simp(disch:=first|exact Xe|fail)only[rs126,↓Xa,Xb,Xc,↓reduceIte,Nat.reduceLT,Nat.reduceEqDiff,Nat.reduceBEq,Nat.reduceLeDiff,Nat.reduceAdd,Nat.reduceMul]
  exact SetR.now k
 ·refine run_call (tz64_run (x:=8) (n:=3) hH (by decide) (by decide) (by decide) rfl (by decide) (by decide) (by decide) ?_)
  simp(disch:=first|exact Xe|fail)only[rs126,↓Xa,Xb,Xc,↓reduceIte,Nat.reduceLT,Nat.reduceEqDiff,Nat.reduceBEq,Nat.reduceLeDiff,Nat.reduceAdd,Nat.reduceMul]
  exact SetR.now k
 ·refine run_call (tz64_run (x:=16) (n:=4) hH (by decide) (by decide) (by decide) rfl (by decide) (by decide) (by decide) ?_)
  simp(disch:=first|exact Xe|fail)only[rs126,↓Xa,Xb,Xc,↓reduceIte,Nat.reduceLT,Nat.reduceEqDiff,Nat.reduceBEq,Nat.reduceLeDiff,Nat.reduceAdd,Nat.reduceMul]
  exact SetR.now k
def andI(c:Int):Int:=IntKind.i64.wrap (BitVec.ofInt 64 c &&& BitVec.ofInt 64 (c-1)).toNat
theorem andI_p2{c:Int}{n:Nat}(hc:isP2 c n):andI c=0:=by
 rcases hc with⟨rfl,rfl⟩|⟨rfl,rfl⟩|⟨rfl,rfl⟩|⟨rfl,rfl⟩<;>decide
theorem andI_np{c:Int}(h1:3≤c)(h2:c≤15)(h4:c≠4)(h8:c≠8):andI c≠0:=by
 have:c=3∨c=5∨c=6∨c=7∨c=9∨c=10∨c=11∨c=12∨c=13∨c=14∨c=15:=by omega
 rcases this with rfl|rfl|rfl|rfl|rfl|rfl|rfl|rfl|rfl|rfl|rfl<;>decide
theorem and_i64{c:Int}{K:AV→Prop}:binW .and (.int .i64 c) (.int .i64 (c-1)) K↔K (.int .i64 (andI c)):=by
 simp only[binW,binInt,andI,IntKind.bits,true_and]
 exact Iff.rfl
theorem sub1_i64{c:Int}{K:AV→Prop}(h1: -16≤c)(h2:c≤1000):binW .sub (.int .i64 c) (.int .i64 ((1:Nat):Int)) K↔K (.int .i64 (c-1)):=by
 simp only[binW,binInt,true_and]
 rw[show c-((1:Nat):Int)=c-1 from rfl,wrap_i64 (by omega) (by omega)]
theorem times11_run{H:AHeap}{Q:AV→AHeap→Prop}{to a c:Int}(hT:Tz64H H)(h0:c≠0)(h1: -16≤c)(h2:c≤16)(hq:Q (InsA (timesI to a c)) H):Run Tryd.prog 84 [.int .i64 to,.int .i64 a,.int .i64 c] H Q:=by
 refine enter84 (by simp) ?_
 simp(disch:=first|exact Xe|fail)only[ac84,↓Xa,Xb,Xc,↓reduceIte,Nat.reduceLT,Nat.reduceEqDiff,Nat.reduceBEq,Nat.reduceLeDiff,Nat.reduceAdd,Nat.reduceMul]
 refine alloc_i fun p6 n6=>?_
 have hle: ∀{x:ABlk},Le H (H.upd p6 (some x)):=(Le.refl H).updB n6
 have t0: ∀{b:Bool},b=true→b=true:=fun h=>h
 by_cases c1:c=1
 ·have e1:decide (c=((1:Nat):Int))=true:=decide_eq_true (by omega)
  have e:InsA (timesI to a c)=.agg [.int .i64 ((1:Nat):Int),.int .i64 to,.int .i64 a,.int .i64 ((0:Nat):Int),.int .i64 ((0:Nat):Int)]:=by rw[timesI,if_pos c1];rfl
  rw[e]at hq
  simp(disch:=first|exact Xe|fail)only[eql_int,e1,AV.cells,rs84,↓Xa,Xb,Xc,↓reduceIte,Nat.reduceLT,Nat.reduceEqDiff,Nat.reduceBEq,Nat.reduceLeDiff,Nat.reduceAdd,Nat.reduceMul]
  exact SetR.dropTo hle (SetR.now hq)
 have d1:decide (c=((1:Nat):Int))=false:=decide_eq_false (by omega)
 by_cases c2:c= -1
 ·have e1:decide (c= -1)=true:=decide_eq_true (by omega)
  have e:InsA (timesI to a c)=.agg [.int .i64 ((2:Nat):Int),.int .i64 to,.int .i64 a,.int .i64 ((0:Nat):Int),.int .i64 ((0:Nat):Int)]:=by rw[timesI,if_neg c1,if_pos c2];rfl
  rw[e]at hq
  simp(disch:=first|exact Xe|fail)only[eql_int,d1,e1,AV.cells,rs84,↓Xa,Xb,Xc,↓reduceIte,Nat.reduceLT,Nat.reduceEqDiff,Nat.reduceBEq,Nat.reduceLeDiff,Nat.reduceAdd,Nat.reduceMul]
  exact SetR.dropTo hle (SetR.now hq)
 have d2:decide (c= -1)=false:=decide_eq_false (by omega)
 by_cases hp: ∃n,isP2 c n
 ·obtain⟨n,hp⟩:=hp
  have h0:0<c:=by rcases hp with⟨rfl,_⟩|⟨rfl,_⟩|⟨rfl,_⟩|⟨rfl,_⟩<;>decide
  have e0:decide (((0:Nat):Int)<c)=true:=decide_eq_true (by omega)
  have ea:decide (andI c=((0:Nat):Int))=true:=decide_eq_true (andI_p2 hp)
  have e:InsA (timesI to a c)=.agg [.int .i64 ((7:Nat):Int),.int .i64 to,.int .i64 a,.int .i64 ((0:Nat):Int),.int .i64 ((n:Nat):Int)]:=by
   rcases hp with⟨rfl,rfl⟩|⟨rfl,rfl⟩|⟨rfl,rfl⟩|⟨rfl,rfl⟩<;>rfl
  rw[e]at hq
  have ec: ∀{K:AV→Prop},convW .u64 (.int .i64 c) K↔K (.int .u64 c):=fun{K}=>by
   simp only[convW,wmod_u64];rw[Int.emod_eq_of_lt (by omega) (by omega)]
  simp(disch:=first|exact Xe|fail)only[eql_int,gtr_int,d1,d2,e0,sub1_i64 h1 (show c≤1000 by omega),and_i64,ea,ec,↓Xa,Xb,Xc,↓reduceIte,Nat.reduceLT,Nat.reduceEqDiff,Nat.reduceBEq,Nat.reduceLeDiff,Nat.reduceAdd,Nat.reduceMul]
  refine run_call (tz_run (hT.le hle) hp ?_)
  simp(disch:=first|exact Xe|fail)only[AV.cells,rs84,↓Xa,Xb,Xc,↓reduceIte,Nat.reduceLT,Nat.reduceEqDiff,Nat.reduceBEq,Nat.reduceLeDiff,Nat.reduceAdd,Nat.reduceMul]
  exact SetR.dropTo hle (SetR.now hq)
 ·have e:InsA (timesI to a c)=.agg [.int .i64 ((5:Nat):Int),.int .i64 to,.int .i64 a,.int .i64 ((0:Nat):Int),.int .i64 c]:=by
   rw[timesI,if_neg c1,if_neg c2,if_neg (fun h=>hp ⟨1,.inl ⟨h,rfl⟩⟩),if_neg (fun h=>hp ⟨2,.inr (.inl ⟨h,rfl⟩)⟩),if_neg (fun h=>hp ⟨3,.inr (.inr (.inl ⟨h,rfl⟩))⟩),if_neg (fun h=>hp ⟨4,.inr (.inr (.inr ⟨h,rfl⟩))⟩)];rfl
  rw[e]at hq
  by_cases h0:0<c
  ·have e0:decide (((0:Nat):Int)<c)=true:=decide_eq_true (by omega)
   have hn:=andI_np (c:=c) (by
    have n2:c≠2:=fun h=>hp ⟨1,.inl ⟨h,rfl⟩⟩
    omega) (by
    have n16:c≠16:=fun h=>hp ⟨4,.inr (.inr (.inr ⟨h,rfl⟩))⟩
    omega) (fun h=>hp ⟨2,.inr (.inl ⟨h,rfl⟩)⟩) (fun h=>hp ⟨3,.inr (.inr (.inl ⟨h,rfl⟩))⟩)
   have ea:decide (andI c=((0:Nat):Int))=false:=decide_eq_false hn
   simp(disch:=first|exact Xe|fail)only[eql_int,gtr_int,d1,d2,e0,sub1_i64 h1 (show c≤1000 by omega),and_i64,ea,AV.cells,rs84,↓Xa,Xb,Xc,↓reduceIte,Nat.reduceLT,Nat.reduceEqDiff,Nat.reduceBEq,Nat.reduceLeDiff,Nat.reduceAdd,Nat.reduceMul]
   exact SetR.dropTo hle (SetR.now hq)
  ·have e0:decide (((0:Nat):Int)<c)=false:=decide_eq_false (by omega)
   simp(disch:=first|exact Xe|fail)only[eql_int,gtr_int,d1,d2,e0,AV.cells,rs84,↓Xa,Xb,Xc,↓reduceIte,Nat.reduceLT,Nat.reduceEqDiff,Nat.reduceBEq,Nat.reduceLeDiff,Nat.reduceAdd,Nat.reduceMul]
   exact SetR.dropTo hle (SetR.now hq)
def RG(H M:AHeap)(p6 p7 ty es n:Nat)(cells:List AV)(v:AV):Prop:=
 (v=.seq 0 [] true∧n=0∧cells=[])∨(0<n∧cells.length=n*es∧∃b,H b=none∧b≠p6∧b≠p7∧v=.own b (n*es) 0 n false∧M b=some (.row ty es cells))
def notAt(b:Nat)(v:AV):Prop:= ∀L off n t,v≠.own b L off n t
structure PM(H M:AHeap)(p6 p7:Nat)(k regs:Int)(code:List Ins)(outs:List Int)(cv ov:AV):Prop where
 p:M p6=some (.row 25 0 [.int .i64 k,.int .i64 regs,cv,ov])
 f:M p7=some (.row 145 0 [.fn (.func 82) [] [.ptr p6 4 0]])
 c:RG H M p6 p7 88 5 code.length (code.flatMap insC) cv
 o:RG H M p6 p7 3 1 outs.length (outs.map fun n=>.int .i64 n) ov
 ne: ∀b,notAt b cv∨notAt b ov
 le:Le H M
 h6:H p6=none
 h7:H p7=none
 n67:p6≠p7
theorem RG.cell{H M:AHeap}{p6 p7 ty es n:Nat}{cells:List AV}{v:AV}(h:RG H M p6 p7 ty es n cells v):v.cell=true:=by
 rcases h with⟨rfl,_⟩|⟨_,_,b,_,_,_,rfl,_⟩<;>rfl
theorem RG.fresh{H M:AHeap}{p6 p7 ty es n q:Nat}{cells:List AV}{v:AV}{x:ABlk}(h:RG H M p6 p7 ty es n cells v)(hq:M q=none):RG H (M.upd q (some x)) p6 p7 ty es n cells v:=by
 rcases h with h|⟨h1,h2,b,h3,h4,h5,h6,h7⟩
 ·exact .inl h
 ·exact .inr ⟨h1,h2,b,h3,h4,h5,h6,by rw[upd_other _ _ (by rintro rfl;rw[hq]at h7;cases h7)];exact h7⟩
theorem RG.base{H H' M:AHeap}{p6 p7 ty es n:Nat}{cells:List AV}{v:AV}(h:RG H' M p6 p7 ty es n cells v)(hl: ∀b,H' b=none→H b=none):RG H M p6 p7 ty es n cells v:=by
 rcases h with h|⟨h1,h2,b,h3,h4⟩
 ·exact .inl h
 ·exact .inr ⟨h1,h2,b,hl b h3,h4⟩
section
variable {H M:AHeap} {p6 p7:Nat} {k regs:Int} {code:List Ins} {outs:List Int} {cv ov:AV}
theorem PM.fresh{q:Nat}{x:ABlk}(h:PM H M p6 p7 k regs code outs cv ov)(hq:M q=none):PM H (M.upd q (some x)) p6 p7 k regs code outs cv ov:=
 ⟨by rw[upd_other _ _ (by rintro rfl;exact absurd h.p (by simp[hq]))];exact h.p,by rw[upd_other _ _ (by rintro rfl;exact absurd h.f (by simp[hq]))];exact h.f,h.c.fresh hq,h.o.fresh hq,h.ne,h.le.upd hq,h.h6,h.h7,h.n67⟩
theorem PM.under{q:Nat}{x:ABlk}(h:PM H M p6 p7 k regs code outs cv ov)(hq:M q=none):PM (H.upd q (some x)) (M.upd q (some x)) p6 p7 k regs code outs cv ov:=by
 have q6:p6≠q:=by rintro rfl;exact absurd h.p (by simp[hq])
 have q7:p7≠q:=by rintro rfl;exact absurd h.f (by simp[hq])
 have hf:=h.fresh (x:=x) hq
 have go: ∀{ty es n:Nat}{cells:List AV}{v:AV},RG H M p6 p7 ty es n cells v→RG (H.upd q (some x)) (M.upd q (some x)) p6 p7 ty es n cells v:=fun{ty es n cells v} r=>by
  rcases r with h|⟨h1,h2,b,h3,h4,h5,h6,h7⟩
  ·exact .inl h
  ·have hbq:b≠q:=by rintro rfl;rw[hq]at h7;cases h7
   exact .inr ⟨h1,h2,b,upd_none.2 ⟨hbq,h3⟩,h4,h5,h6,by rw[upd_other _ _ hbq];exact h7⟩
 refine⟨hf.p,hf.f,go h.c,go h.o,h.ne,fun o y ho=>?_,by rw[upd_other _ _ q6];exact h.h6,by rw[upd_other _ _ q7];exact h.h7,h.n67⟩
 by_cases e:o=q
 ·subst e;rw[upd_same]at ho ⊢; exact ho
 ·rw[upd_other _ _ e]at ho ⊢; exact h.le o y ho
theorem PM.drop{H':AHeap}(h:PM H' M p6 p7 k regs code outs cv ov)(hl:Le H H'):PM H M p6 p7 k regs code outs cv ov:=by
 have hn: ∀b,H' b=none→H b=none:=fun b hb=>by
  cases e:H b with
  |none=>rfl
  |some x=>rw[hl b x e]at hb;cases hb
 exact⟨h.p,h.f,h.c.base hn,h.o.base hn,h.ne,fun o x ho=>h.le o x (hl o x ho),hn _ h.h6,hn _ h.h7,h.n67⟩
end
theorem PM.appC{H M:AHeap}{p6 p7:Nat}{k regs:Int}{code:List Ins}{outs:List Int}{cv ov:AV}{i:Ins}{t:Bool}{K:AV→AHeap→Prop}(h:PM H M p6 p7 k regs code outs cv ov)(hb:code.length+1≤1000000)
 (kk: ∀cv' M',M' p6=some (.row 25 0 [.int .i64 k,.int .i64 regs,cv,ov])→cv'.cells=some [cv']→PM H (M'.upd p6 (some (.row 25 0 [.int .i64 k,.int .i64 regs,cv',ov]))) p6 p7 k regs (code++[i]) outs cv' ov→K cv' M'):
 appV M 88 5 40 cv (.seq 1 (insC i) t) K:=by
 have hys:(insC i).length=1*5:=rfl
 have hcs:(insC i).all AV.cell=true:=rfl
 have el:(code++[i]).length=code.length+1:=by simp
 have ec:(code++[i]).flatMap insC=code.flatMap insC++insC i:=by simp
 have hc5:(code.flatMap insC).length=code.length*5:=flat_len insC_len code
 refine .inl ⟨hys,hcs,?_⟩
 rcases h.c with⟨hv,hn,hcl⟩|⟨hn,hl,b,b1,b2,b3,hv,hb'⟩
 ·have hc0:code=[]:=List.length_eq_zero_iff.1 hn
  subst hc0
  rw[hv]
  refine⟨rfl,by simp,by omega,by omega,fun e=>absurd e (by omega),fun _ b hbn=>?_⟩
  have nb6:b≠p6:=by rintro rfl;rw[h.p]at hbn;cases hbn
  have nb7:b≠p7:=by rintro rfl;rw[h.f]at hbn;cases hbn
  have hbH:H b=none:=by
   cases e:H b with
   |none=>rfl
   |some x=>rw[h.le b x e]at hbn;cases hbn
  refine kk _ _ ?_ rfl ⟨upd_same _ _ _,?_,.inr ⟨by simp,by simp[insC],b,hbH,nb6,nb7,rfl,?_⟩,?_,fun c=>?_,?_,h.h6,h.h7,h.n67⟩
  ·rw[upd_other _ _ (Ne.symm nb6),h.p,hv]
  ·rw[upd_other _ _ (Ne.symm h.n67),upd_other _ _ (Ne.symm nb7)];exact h.f
  ·rw[upd_other _ _ nb6,upd_same];simp
  ·rcases h.o with ho|⟨o1,o2,c,o3,o4,o5,o6,o7⟩
   ·exact .inl ho
   ·refine .inr ⟨o1,o2,c,o3,o4,o5,o6,?_⟩
    rw[upd_other _ _ o4,upd_other _ _ (by rintro rfl;rw[hbn]at o7;cases o7)];exact o7
  ·by_cases e:c=b
   ·subst e
    right
    rcases h.o with⟨rfl,_⟩|⟨o1,o2,c',o3,o4,o5,rfl,o7⟩
    ·intro L off n t e;cases e
    ·intro L off n t e;injection e with e;subst e;rw[hbn]at o7;cases o7
   ·left;intro L off n t e2;injection e2 with e2;exact e e2.symm
  ·refine fun o x ho=>?_
   have o6:o≠p6:=by rintro rfl;rw[h.h6]at ho;cases ho
   rw[upd_other _ _ o6,upd_other _ _ (by rintro rfl;rw[hbH]at ho;cases ho)];exact h.le o x ho
 ·rw[hv]
  dsimp only
  rw[hb']
  refine⟨hl,rfl,rfl,rfl,rfl,by omega,by omega,?_⟩
  refine kk _ _ ?_ rfl ⟨upd_same _ _ _,?_,.inr ⟨by simp,by rw[el,ec,List.length_append,hc5];simp[insC];omega,b,b1,b2,b3,by rw[el],?_⟩,?_,fun c=>?_,?_,h.h6,h.h7,h.n67⟩
  ·rw[upd_other _ _ (Ne.symm b2),h.p,hv]
  ·rw[upd_other _ _ (Ne.symm h.n67),upd_other _ _ (Ne.symm b3)];exact h.f
  ·rw[upd_other _ _ b2,upd_same,ec]
  ·rcases h.o with ho|⟨o1,o2,c,o3,o4,o5,o6,o7⟩
   ·exact .inl ho
   ·refine .inr ⟨o1,o2,c,o3,o4,o5,o6,?_⟩
    have hcb:c≠b:=by
     rintro rfl
     rcases h.ne c with hh|hh
     ·exact hh _ _ _ _ hv
     ·exact hh _ _ _ _ o6
    rw[upd_other _ _ o4,upd_other _ _ hcb];exact o7
  ·rcases h.ne c with hh|hh
   ·left;intro L off n t e;injection e with e;subst e;exact hh _ _ _ _ hv
   ·exact .inr hh
  ·refine fun o x ho=>?_
   rw[upd_other _ _ (by rintro rfl;rw[h.h6]at ho;cases ho),upd_other _ _ (by rintro rfl;rw[b1]at ho;cases ho)];exact h.le o x ho
theorem PM.appO{H M:AHeap}{p6 p7:Nat}{k regs:Int}{code:List Ins}{outs:List Int}{cv ov:AV}{i:Int}{t:Bool}{K:AV→AHeap→Prop}(h:PM H M p6 p7 k regs code outs cv ov)(hb:outs.length+1≤1000000)
 (kk: ∀ov' M',M' p6=some (.row 25 0 [.int .i64 k,.int .i64 regs,cv,ov])→ov'.cells=some [ov']→PM H (M'.upd p6 (some (.row 25 0 [.int .i64 k,.int .i64 regs,cv,ov']))) p6 p7 k regs code (outs++[i]) cv ov'→K ov' M'):
 appV M 3 1 8 ov (.seq 1 [.int .i64 i] t) K:=by
 have el:(outs++[i]).length=outs.length+1:=by simp
 have ec:(outs++[i]).map (fun n=>AV.int .i64 n)=(outs.map fun n=>AV.int .i64 n)++[.int .i64 i]:=by simp
 have hc5:(outs.map fun n=>AV.int .i64 n).length=outs.length*1:=by simp
 refine .inl ⟨rfl,rfl,?_⟩
 rcases h.o with⟨hv,hn,hcl⟩|⟨hn,hl,b,b1,b2,b3,hv,hb'⟩
 ·have hc0:outs=[]:=List.length_eq_zero_iff.1 hn
  subst hc0
  rw[hv]
  refine⟨rfl,by simp,by omega,by omega,fun e=>absurd e (by omega),fun _ b hbn=>?_⟩
  have nb6:b≠p6:=by rintro rfl;rw[h.p]at hbn;cases hbn
  have nb7:b≠p7:=by rintro rfl;rw[h.f]at hbn;cases hbn
  have hbH:H b=none:=by
   cases e:H b with
   |none=>rfl
   |some x=>rw[h.le b x e]at hbn;cases hbn
  refine kk _ _ ?_ rfl ⟨upd_same _ _ _,?_,?_,.inr ⟨by simp,by simp,b,hbH,nb6,nb7,rfl,?_⟩,fun c=>?_,?_,h.h6,h.h7,h.n67⟩
  ·rw[upd_other _ _ (Ne.symm nb6),h.p,hv]
  ·rw[upd_other _ _ (Ne.symm h.n67),upd_other _ _ (Ne.symm nb7)];exact h.f
  ·rcases h.c with ho|⟨o1,o2,c,o3,o4,o5,o6,o7⟩
   ·exact .inl ho
   ·refine .inr ⟨o1,o2,c,o3,o4,o5,o6,?_⟩
    rw[upd_other _ _ o4,upd_other _ _ (by rintro rfl;rw[hbn]at o7;cases o7)];exact o7
  ·rw[upd_other _ _ nb6,upd_same];simp
  ·by_cases e:c=b
   ·subst e
    left
    rcases h.c with⟨rfl,_⟩|⟨o1,o2,c',o3,o4,o5,rfl,o7⟩
    ·intro L off n t e;cases e
    ·intro L off n t e;injection e with e;subst e;rw[hbn]at o7;cases o7
   ·right;intro L off n t e2;injection e2 with e2;exact e e2.symm
  ·refine fun o x ho=>?_
   have o6:o≠p6:=by rintro rfl;rw[h.h6]at ho;cases ho
   rw[upd_other _ _ o6,upd_other _ _ (by rintro rfl;rw[hbH]at ho;cases ho)];exact h.le o x ho
 ·rw[hv]
  dsimp only
  rw[hb']
  refine⟨hl,rfl,rfl,rfl,rfl,by omega,by omega,?_⟩
  refine kk _ _ ?_ rfl ⟨upd_same _ _ _,?_,?_,.inr ⟨by simp,by rw[el,ec,List.length_append,hc5];simp,b,b1,b2,b3,by rw[el],?_⟩,fun c=>?_,?_,h.h6,h.h7,h.n67⟩
  ·rw[upd_other _ _ (Ne.symm b2),h.p,hv]
  ·rw[upd_other _ _ (Ne.symm h.n67),upd_other _ _ (Ne.symm b3)];exact h.f
  ·rcases h.c with ho|⟨o1,o2,c,o3,o4,o5,o6,o7⟩
   ·exact .inl ho
   ·refine .inr ⟨o1,o2,c,o3,o4,o5,o6,?_⟩
    have hcb:c≠b:=by
     rintro rfl
     rcases h.ne c with hh|hh
     ·exact hh _ _ _ _ o6
     ·exact hh _ _ _ _ hv
    rw[upd_other _ _ o4,upd_other _ _ hcb];exact o7
  ·rw[upd_other _ _ b2,upd_same,ec]
  ·rcases h.ne c with hh|hh
   ·exact .inl hh
   ·right;intro L off n t e;injection e with e;subst e;exact hh _ _ _ _ hv
  ·refine fun o x ho=>?_
   rw[upd_other _ _ (by rintro rfl;rw[h.h6]at ho;cases ho),upd_other _ _ (by rintro rfl;rw[b1]at ho;cases ho)];exact h.le o x ho
theorem rep5{a b c d e:AV}:repA [a,b,c,d,e] 5=[a,b,c,d,e]:=by simp[repA,List.range,List.range.loop]
theorem add11_run{H M:AHeap}{Q:AV→AHeap→Prop}{p6 p7:Nat}{k regs:Int}{code:List Ins}{outs:List Int}{cv ov:AV}{i:Ins}(h:PM H M p6 p7 k regs code outs cv ov)(hb:code.length+1≤1000000)
 (hq: ∀M' cv',PM H M' p6 p7 k regs (addI code i) outs cv' ov→Q (.tup []) M'):Run Tryd.prog 82 [InsA i,.ptr p6 4 0] M Q:=by
 refine enter82 (by simp) ?_
 simp(disch:=first|exact Xe|fail)only[ac82,cells_InsA,↓Xa,Xb,Xc,↓reduceIte,Nat.reduceLT,Nat.reduceEqDiff,Nat.reduceBEq,Nat.reduceLeDiff,Nat.reduceAdd,Nat.reduceMul]
 refine alloc_i fun p2 n2=>?_
 have h2:=h.fresh (x:=.row 88 0 [.int .i64 i.op,.int .i64 i.to,.int .i64 i.a,.int .i64 i.b,.int .i64 i.c]) n2
 have q6:p6≠p2:=by rintro rfl;exact absurd h.p (by simp[n2])
 generalize hM2:M.upd p2 (some (.row 88 0 [.int .i64 i.op,.int .i64 i.to,.int .i64 i.a,.int .i64 i.b,.int .i64 i.c]))=M2 at*
 have g2:M2 p2=some (.row 88 0 [.int .i64 i.op,.int .i64 i.to,.int .i64 i.a,.int .i64 i.b,.int .i64 i.c]):=by rw[← hM2,upd_same]
 by_cases h1:i.op=1∧i.to=i.a
 ·have e1:decide (i.op=((1:Nat):Int))=true:=decide_eq_true h1.1
  have e2:decide (i.to=i.a)=true:=decide_eq_true h1.2
  have e:addI code i=code:=if_pos h1
  simp(disch:=first|exact Xe|fail)only[g2,neq_int,e1,e2,rs82,↓Xa,Xb,Xc,↓reduceIte,Nat.reduceLT,Nat.reduceEqDiff,Nat.reduceBEq,Nat.reduceLeDiff,Nat.reduceAdd,Nat.reduceMul]
  exact SetR.now (hq _ cv (by rw[e];exact h2))
 have e:addI code i=code++[i]:=if_neg h1
 have g6:=h2.p
 by_cases c1:i.op=1
 ·have e1:decide (i.op=((1:Nat):Int))=true:=decide_eq_true c1
  have e2:decide (i.to=i.a)=false:=decide_eq_false fun h=>h1 ⟨c1,h⟩
  simp(disch:=first|exact Xe|fail)only[g2,g6,neq_int,e1,e2,rep5,fold_InsA,cells_InsA,↓Xa,Xb,Xc,↓reduceIte,Nat.reduceLT,Nat.reduceEqDiff,Nat.reduceBEq,Nat.reduceLeDiff,Nat.reduceAdd,Nat.reduceMul]
  refine PM.appC (i:=i) h2 hb fun cv' M' m1 m2 m3=>?_
  simp(disch:=first|exact Xe|fail)only[m1,m2,rs82,↓Xa,Xb,Xc,↓reduceIte,Nat.reduceLT,Nat.reduceEqDiff,Nat.reduceBEq,Nat.reduceLeDiff,Nat.reduceAdd,Nat.reduceMul]
  exact SetR.now (hq _ cv' (by rw[e];exact m3))
 ·have e1:decide (i.op=((1:Nat):Int))=false:=decide_eq_false c1
  simp(disch:=first|exact Xe|fail)only[g2,g6,neq_int,e1,rep5,fold_InsA,cells_InsA,↓Xa,Xb,Xc,↓reduceIte,Nat.reduceLT,Nat.reduceEqDiff,Nat.reduceBEq,Nat.reduceLeDiff,Nat.reduceAdd,Nat.reduceMul]
  refine PM.appC (i:=i) h2 hb fun cv' M' m1 m2 m3=>?_
  simp(disch:=first|exact Xe|fail)only[m1,m2,rs82,↓Xa,Xb,Xc,↓reduceIte,Nat.reduceLT,Nat.reduceEqDiff,Nat.reduceBEq,Nat.reduceLeDiff,Nat.reduceAdd,Nat.reduceMul]
  exact SetR.now (hq _ cv' (by rw[e];exact m3))
theorem addI_len(code:List Ins)(i:Ins):(addI code i).length≤code.length+1:=by
 unfold addI
 split
 ·omega
 ·simp
theorem Tz64H.blk{H M:AHeap}(h:Tz64H H)(hl:Le H M):Tz64H M:=h.le hl
theorem times11_dcall{H:AHeap}{K:AV→List Nat→Option (Nat×ABlk)→Prop}{to a c:Int}(hT:Tz64H H)(h0:c≠0)(h1: -16≤c)(h2:c≤16)(k:K (InsA (timesI to a c)) [1] none){o:Bool}:dcall o Tryd.prog (.fn (.func 84) [] []) [.int .i64 to,.int .i64 a,.int .i64 c] H K:=
 dcallF [1] (fun H' K' he hk'=>run_call (times11_run ((he _ (by simp)).trans hT) h0 h1 h2 hk')) k
theorem scaled11_run{H M:AHeap}{Q:AV→AHeap→Prop}{p6 p7 n:Nat}{k regs to a c:Int}{code:List Ins}{outs:List Int}{cv ov:AV}(hT:Tz64H H)(h:PM H M p6 p7 k regs code outs cv ov)(h0:c≠0)(h1: -16≤c)(h2:c≤16)(hn:n≤8)(hb:code.length+8≤1000000)
 (hq: ∀M' cv',PM H M' p6 p7 k regs (scalI to c n a code) outs cv' ov→Q (.tup []) M'):Run Tryd.prog 83 [.int .i64 to,.int .i64 a,.int .i64 c,.int .i64 (n:Int),.ptr p7 1 0] M Q:=by
 refine enter83 (by simp) ?_
 simp(disch:=first|exact Xe|fail)only[ac83,↓Xa,Xb,Xc,↓reduceIte,Nat.reduceLT,Nat.reduceEqDiff,Nat.reduceBEq,Nat.reduceLeDiff,Nat.reduceAdd,Nat.reduceMul]
 refine W_loop (fun s:Nat×Int×List Ins×AV×AHeap=>⟨[],[(0,.int .i64 to),(1,.int .i64 s.2.1),(2,.int .i64 c),(4,.ptr p7 1 0),(9,.int .i64 (n:Int)),(10,.int .i64 s.1)],s.2.2.2.2⟩)
  (fun s=>s.1≤n∧scalI to c (n-s.1) s.2.1 s.2.2.1=scalI to c n a code∧s.2.2.1.length≤code.length+s.1∧PM H s.2.2.2.2 p6 p7 k regs s.2.2.1 outs s.2.2.2.1 ov) (fun s=>n-s.1) (0,a,code,cv,M) (Settle.now rfl) ⟨Nat.zero_le _,rfl,Nat.le_refl _,h⟩ ?_
 rintro⟨s,a',co,cv',M'⟩ ⟨e1,e2,e3,hp⟩
 dsimp only at e1 e2 e3 hp ⊢
 by_cases hs:s<n
 ·have hf:=hp.f
  simp(disch:=first|exact Xe|fail)only[hs,hf,↓Xa,Xb,Xc,↓reduceIte,Nat.reduceLT,Nat.reduceEqDiff,Nat.reduceBEq,Nat.reduceLeDiff,Nat.reduceAdd,Nat.reduceMul]
  refine times11_dcall (hT.le hp.le) h0 h1 h2 ?_
  simp(disch:=first|exact Xe|fail)only[↓Xa,Xb,Xc,↓reduceIte,Nat.reduceLT,Nat.reduceEqDiff,Nat.reduceBEq,Nat.reduceLeDiff,Nat.reduceAdd,Nat.reduceMul]
  refine run_call (add11_run hp (by omega) fun M2 cv2 hp2=>?_)
  simp(disch:=first|exact Xe|fail)only[↓Xa,Xb,Xc,↓reduceIte,Nat.reduceLT,Nat.reduceEqDiff,Nat.reduceBEq,Nat.reduceLeDiff,Nat.reduceAdd,Nat.reduceMul]
  refine Settle.now ⟨(s+1,to,addI co (timesI to a' c),cv2,M2),by dsimp only;omega,⟨by dsimp only;omega,?_,?_,hp2⟩,rfl⟩
  ·dsimp only
   rw[← e2,show n-s=(n-(s+1))+1 by omega];rfl
  ·dsimp only
   have:=addI_len co (timesI to a' c)
   omega
 ·obtain rfl:s=n:=by omega
  rw[Nat.sub_self]at e2
  simp(disch:=first|exact Xe|fail)only[hs,↓Xa,Xb,Xc,↓reduceIte,Nat.reduceLT,Nat.reduceEqDiff,Nat.reduceBEq,Nat.reduceLeDiff,Nat.reduceAdd,Nat.reduceMul]
  refine Settle.now ?_
  simp(disch:=first|exact Xe|fail)only[rs83,↓Xa,Xb,Xc,↓reduceIte,Nat.reduceLT,Nat.reduceEqDiff,Nat.reduceBEq,Nat.reduceLeDiff,Nat.reduceAdd,Nat.reduceMul]
  exact SetR.now (hq _ cv' (by rw[← e2];exact hp))
end Go.Proofs.YtmndejlpfmmaiaaDoor.Fw
