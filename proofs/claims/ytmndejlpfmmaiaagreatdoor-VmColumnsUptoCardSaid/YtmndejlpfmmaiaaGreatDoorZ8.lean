/- The texts Lay156 Kj Kh Kk Kl Km Ko Kp Kq Kr Ks Kt Ku Kv Kw Ee Ef Eg Eh Ei Ej Kx Ek El Em Er Es Et Gb Gc Gd Ge Gf Gg Gh Gj Eu Ev, joined. -/
import Derived.Test.YtmndejlpfmmaiaaGreatDoorZ7
import Derived.Shelf.Strings.OnBuilder
import Derived.Test.YtmndejlpfmmaiaaGreatDoorProg
import Derived.Lib.SmallJoins
set_option linter.unusedSimpArgs false
set_option linter.unusedVariables false
namespace Go.Proofs.YtmndejlpfmmaiaaGreatDoor.Fw
open Go Go.Shelf Go.Proofs
end Go.Proofs.YtmndejlpfmmaiaaGreatDoor.Fw
namespace Go.Proofs.YtmndejlpfmmaiaaGreatDoor.Fw
open Go Go.Proofs.YtmndejlpfmmaiaaGreatDoor.Ma Go.Shelf
set_option maxRecDepth 20000
end Go.Proofs.YtmndejlpfmmaiaaGreatDoor.Fw
namespace Go.Proofs.YtmndejlpfmmaiaaGreatDoor.Fw
open Go Go.Proofs.YtmndejlpfmmaiaaGreatDoor.Ma
set_option maxRecDepth 20000
theorem repF0{a:AV}:repA [a] 1=[a]:=by simp[repA,List.range,List.range.loop]
theorem load_map{α:Type}{f:α→AV}{l:List α}{H:AHeap}{K:AV→Prop}{i:Nat}(h:i<l.length):loadW H none (.cptr ((l.map f).drop i)) K=K (f (l[i])):=by
 have hi:i<(l.map f).length:=by simpa using h
 simp only[loadW,cellsAt,List.drop_eq_getElem_cons hi]
 simp
theorem idx_map{α:Type}{f:α→AV}{l:List α}{t:Bool}{k:IntKind}{K:AV→Prop}{i:Nat}(h:i<l.length):idxAW 1 (.seq l.length (l.map f) t) (.int k (i:Int)) K=K (.cptr ((l.map f).drop (i*1))):=idx_rw (by simp) h
def sumN:List Nat→Nat
 |[]=>0
 |a::l=>a+sumN l
theorem sumN_app: ∀(l m:List Nat),sumN (l++m)=sumN l+sumN m
 |[],m=>by simp[sumN]
 |a::l,m=>by simp only[List.cons_append,sumN,sumN_app l m];omega
theorem sumN_mem: ∀{l:List Nat}{a:Nat},a∈l→a≤sumN l
 |x::l,a,h=>by
  rcases List.mem_cons.1 h with rfl|h
  ·simp[sumN]
  ·have:=sumN_mem h;simp only[sumN];omega
theorem sumN_take(l:List Nat)(i:Nat):sumN (l.take i)≤sumN l:=by
 conv=>rhs;rw[← List.take_append_drop i l,sumN_app]
 omega
theorem sumN_succ{l:List Nat}{i:Nat}(h:i<l.length):sumN (l.take (i+1))=sumN (l.take i)+l[i]:=by
 rw[List.take_add_one,List.getElem?_eq_getElem h,Option.toList_some,sumN_app];simp[sumN]
section
variable {K:AV→Prop} {H:AHeap} {k:IntKind} {t:Bool} {l:List NumV} {i:Nat}
end
theorem RC_take{zs:List Int}{i:Nat}(h:i<zs.length):RC (zs.take (i+1))=RC (zs.take i)++[RefB (zs[i]),RefD (zs[i])]:=by
 rw[List.take_add_one,List.getElem?_eq_getElem h,Option.toList_some,RC_snoc]
theorem cellR{z:Int}:[RefB z,RefD z].all AV.cell=true:=rfl
theorem PFn.loose1{P:Program}{f:FuncId}{x:AV}{rest:List AV}{r:AV}(h:PFn P f (loose x::rest) r):PFn P f (x::rest) r:=fun H Q hq=>
 ⟨(h H Q hq).1,fun c vs hH hok hs he=>(h H Q hq).2 c vs hH hok (by simpa using hs) fun i hi hi'=>by
  match i,hi with
  |0,_=>exact enc_loose _ _ (he 0 (by simp) hi')
  |i+1,hi=>exact he (i+1) (by simpa using hi) hi'⟩
theorem RB4.map{k k':Nat}{zs:List Int}{f:Int→Int}(h:RB4 k zs)(hf: ∀z,Bd k z→Bd k' (f z)):RB4 k' (zs.map f):=
 ⟨fun z hz=>by obtain⟨y,hy,rfl⟩:=List.mem_map.1 hz;exact hf y (h.1 y hy),by rw[List.length_map];exact h.2⟩
theorem RB4.zip{k k1 k2:Nat}{zs ws:List Int}{f:Int→Int→Int}(h:RB4 k1 zs)(h2:RB4 k2 ws)(hl:zs.length=ws.length)(hf: ∀z w,Bd k1 z→Bd k2 w→Bd k (f z w)):RB4 k (zipI f zs ws):=
 ⟨fun z hz=>by
  obtain⟨i,hi,rfl⟩:=List.getElem_of_mem hz
  have hi2:i<zs.length:=by rw[zip_len hl]at hi;exact hi
  rw[zip_at hl hi2]
  exact hf _ _ (h.at hi2) (h2.at (by omega)),by rw[zip_len hl];exact h.2⟩
theorem RB4.mono{k k':Nat}{zs:List Int}(h:RB4 k zs)(hk:k≤k'):RB4 k' zs:=⟨fun z hz=>(h.1 z hz).mono hk,h.2⟩
section
variable {zs ws:List Int} {t t':Bool} {k:Nat}
end
theorem stP_row{H:AHeap}{n b L off ty es:Nat}{cells l:List AV}{K:AV→AHeap→Prop}(hL:cells.length=L)(hl:l.length=n)(ho:off+n≤L):stP H n b L off K (some l) (some (.row ty es cells))↔K .bot (H.upd b (some (.row ty es (splice cells off l)))):=by
 simp[stP,hL,hl,ho]
def RowO(M:AHeap)(y:AV)(zs:List Int):Prop:=(zs=[]∧y=.seq 0 [] true)∨(0<zs.length∧∃b,y=.own b (zs.length*2) 0 zs.length false∧M b=some (.row 48 2 (IC zs)))
theorem RowO.of{H M:AHeap}{n:Nat}{y:AV}{zs:List Int}(h:growC H 48 2 n (IC zs) y M)(hn:zs.length=n):RowO M y zs:=by
 subst hn
 rcases h with⟨h1,_,rfl,rfl⟩|⟨hn,_,b,hb,rfl,rfl⟩
 ·exact .inl ⟨List.length_eq_zero_iff.1 h1,rfl⟩
 ·exact .inr ⟨hn,b,rfl,upd_same _ _ _⟩
theorem RowO.le{M M':AHeap}{y:AV}{zs:List Int}(h:RowO M y zs)(hl:Le M M'):RowO M' y zs:=by
 rcases h with h|⟨hn,b,e,hb⟩
 ·exact .inl h
 ·exact .inr ⟨hn,b,e,hl _ _ hb⟩
theorem RowO.lent{M:AHeap}{y:AV}{zs:List Int}(h:RowO M y zs):Lent M y (RowA zs false):=by
 rcases h with⟨rfl,rfl⟩|⟨hn,b,rfl,hb⟩
 ·intro c _ _ v he
  exact enc_loose _ _ (he.later (c.dropTo_later le_nil))
 ·exact Lent.own hb (IC_len zs)
theorem RowO.len{M:AHeap}{y:AV}{zs:List Int}(h:RowO M y zs)(hn:zs.length<9223372036854775808){K:AV→Prop}:lenW false y K=K (.int .i64 ((zs.length:Nat):Int)):=by
 rcases h with⟨rfl,rfl⟩|⟨h0,b,rfl,hb⟩<;>simp[lenW,hn]
section
variable {zs ws:List Int} {t t':Bool} {k:Nat}
end
theorem IC_app(a b:List Int):IC (a++b)=IC a++IC b:=by simp[IC,List.flatMap_append]
theorem repI(n:Nat):repA [.bool false,.seq 0 [] true] (n*2)=IC (List.replicate n 0):=by
 induction n with
 |zero=>simp[repA,IC]
 |succ n ih=>
  have e1:n*2%2=0:=by omega
  have e2:(n*2+1)%2=1:=by omega
  rw[List.replicate_succ',IC_snoc,← ih,show(n+1)*2=n*2+1+1 by omega]
  simp only[repA,List.range_succ,List.map_append,List.map_cons,List.map_nil,List.length_cons,List.length_nil,e1,e2]
  simp[IntB,IntD,digs_zero,LS,U,e1,e2]
theorem mks_I{H:AHeap}{ty n:Nat}{K:AV→AHeap→Prop}(h:n≤100000):mksW H ty 2 32 [.bool false,.seq 0 [] true] (.int .i64 (n:Int)) (.int .i64 (n:Int)) K↔∀b,H b=none→K (.own b (n*2) 0 n true) (H.upd b (some (.row ty 2 (IC (List.replicate n 0))))):=by
 have h1:(32:Int)*n≤281474976710656:=by omega
 have h2:(n:Int)<9223372036854775808:=by omega
 simp[mksW,h1,h2,repI]
theorem IC_tk{zs:List Int}{k:Nat}(h:k≤zs.length):(IC zs).take (k*2)=IC (zs.take k):=by
 conv=>lhs;rw[← List.take_append_drop k zs,IC_app]
 exact List.take_left' (by rw[IC_len,List.length_take];omega)
theorem IC_dp{zs:List Int}{k:Nat}(h:k≤zs.length):(IC zs).drop (k*2)=IC (zs.drop k):=by
 conv=>lhs;rw[← List.take_append_drop k zs,IC_app]
 exact List.drop_left' (by rw[IC_len,List.length_take];omega)
theorem IC_set{zs:List Int}{k:Nat}{v:Int}(h:k<zs.length):(IC zs).take (k*2)++[IntB v,IntD v]++(IC zs).drop (k*2+2)=IC (zs.set k v):=by
 rw[IC_tk (by omega),show k*2+2=(k+1)*2 by omega,IC_dp (by omega),List.set_eq_take_append_cons_drop,if_pos h,IC_app]
 simp[IC]
theorem idx_own2{G:AHeap}{b m i ty:Nat}{t:Bool}{cells:List AV}(hG:G b=some (.row ty 2 cells))(hl:cells.length=m*2)(hi:i<m){k:IntKind}{K:AV→Prop}:(liveS G (.own b (m*2) 0 m t)∧idxAW 2 (.own b (m*2) 0 m t) (.int k (i:Int)) K)↔K (.ptr b (m*2) (i*2)):=by simp[liveS,idxAW,hG,hl,hi]
theorem ldP_IC{ty m j:Nat}{zs:List Int}{K:AV→Prop}(hl:zs.length=m)(hj:j<zs.length):ldP (some 2) (m*2) (j*2) K (some (.row ty 2 (IC zs)))↔K (IntA (zs[j])):=by
 have h1:(IC zs).length=m*2:=by rw[IC_len,hl]
 have h2:j*2+2≤m*2:=by omega
 simp[ldP,ldC,h1,h2,IC_drop zs j hj,IntA_eq]
def minB(M:AHeap)(y:AV):AHeap:=fun o=>if o∈blkOf y then none else M o
theorem RowO.blk{M:AHeap}{y:AV}{zs:List Int}(h:RowO M y zs){b:Nat}(hb:b∈blkOf y):M b≠none:=by
 rcases h with⟨_,rfl⟩|⟨_,c,rfl,hc⟩
 ·simp[blkOf]at hb
 ·rw[List.mem_singleton.1 hb,hc];simp
theorem RowO.min{M:AHeap}{y z:AV}{zs:List Int}(h:RowO M y zs)(ha: ∀b,b∈blkOf z→b∉blkOf y):RowO (minB M z) y zs:=by
 rcases h with h|⟨hn,b,rfl,hb⟩
 ·exact .inl h
 ·refine .inr ⟨hn,b,rfl,?_⟩
  unfold minB
  rw[if_neg fun hz=>ha b hz (by simp[blkOf])];exact hb
def rgtE(p:PR)(n:Int):Nat:=if rightP p then(if n=p.ins then 0 else 5)else 80
theorem right10_fn(p:PR)(hp:p.ok)(n:Int):PFn Tryz.prog 83 [ProgA p,.int .i64 n] (.int .i64 ((rgtE p n:Nat):Int)):=by
 intro H Q hq
 obtain⟨k,hf⟩:=check_fn p hp
 refine enter83 (by simp) ?_
 simp(disch:=first|exact Xe|fail)only[ac83,cells_ProgA,↓Xa,Xb,Xc,↓reduceIte,Nat.reduceLT,Nat.reduceEqDiff,Nat.reduceBEq,Nat.reduceLeDiff,Nat.reduceAdd,Nat.reduceMul]
 refine alloc_i fun p1 hp1=>?_
 have n1:=hp1
 simp(disch:=first|exact Xe|fail)only[fold_ProgA,↓Xa,Xb,Xc,↓reduceIte,Nat.reduceLT,Nat.reduceEqDiff,Nat.reduceBEq,Nat.reduceLeDiff,Nat.reduceAdd,Nat.reduceMul]
 refine hf.call ?_
 unfold rgtE at hq
 by_cases h:rightP p
 ·rw[if_pos h]at hq ⊢
  have e0:decide (((0:Nat):Int)=((0:Nat):Int))=true:=rfl
  by_cases hn:n=p.ins
  ·rw[if_pos hn]at hq
   simp(disch:=first|exact Xe|fail)only[neq_int,e0,decide_eq_true hn,Bool.not_true,rs83,↓Xa,Xb,Xc,↓reduceIte,Nat.reduceLT,Nat.reduceEqDiff,Nat.reduceBEq,Nat.reduceLeDiff,Nat.reduceAdd,Nat.reduceMul]
   exact SetR.dropTo ((Le.refl H).updB n1) (SetR.now hq)
  ·rw[if_neg hn]at hq
   simp(disch:=first|exact Xe|fail)only[neq_int,e0,decide_eq_false hn,Bool.not_true,Bool.not_false,rs83,↓Xa,Xb,Xc,↓reduceIte,Nat.reduceLT,Nat.reduceEqDiff,Nat.reduceBEq,Nat.reduceLeDiff,Nat.reduceAdd,Nat.reduceMul]
   exact SetR.dropTo ((Le.refl H).updB n1) (SetR.now hq)
 ·rw[if_neg h]at hq ⊢
  have e0:decide (((80:Nat):Int)=((0:Nat):Int))=false:=rfl
  simp(disch:=first|exact Xe|fail)only[neq_int,e0,Bool.not_false,rs83,↓Xa,Xb,Xc,↓reduceIte,Nat.reduceLT,Nat.reduceEqDiff,Nat.reduceBEq,Nat.reduceLeDiff,Nat.reduceAdd,Nat.reduceMul]
  exact SetR.dropTo ((Le.refl H).updB n1) (SetR.now hq)
def WaysN:AV:=.agg [.fn (.func 149) [] [],.fn (.func 138) [] [],.fn (.func 150) [] [],.fn (.func 121) [] [],.fn (.func 151) [] []]
theorem cells_WaysN:WaysN.cells=some [.fn (.func 149) [] [],.fn (.func 138) [] [],.fn (.func 150) [] [],.fn (.func 121) [] [],.fn (.func 151) [] []]:=id rfl
theorem fold_WaysN:AV.agg [.fn (.func 149) [] [],.fn (.func 138) [] [],.fn (.func 150) [] [],.fn (.func 121) [] [],.fn (.func 151) [] []]=WaysN:=id rfl
theorem numbers10_fn:PFn Tryz.prog 85 [] WaysN:=by
 intro H Q hq
 refine enter85 (by simp) ?_
 simp(disch:=first|exact Xe|fail)only[ac85,↓Xa,Xb,Xc,↓reduceIte,Nat.reduceLT,Nat.reduceEqDiff,Nat.reduceBEq,Nat.reduceLeDiff,Nat.reduceAdd,Nat.reduceMul]
 refine alloc_i fun p1 hp1=>?_
 have n1:=hp1
 simp(disch:=first|exact Xe|fail)only[fn_cells,↓Xa,Xb,Xc,↓reduceIte,Nat.reduceLT,Nat.reduceEqDiff,Nat.reduceBEq,Nat.reduceLeDiff,Nat.reduceAdd,Nat.reduceMul]
 simp(disch:=first|exact Xe|fail)only[cells_WaysN,fold_WaysN,rs85,↓Xa,Xb,Xc,↓reduceIte,Nat.reduceLT,Nat.reduceEqDiff,Nat.reduceBEq,Nat.reduceLeDiff,Nat.reduceAdd,Nat.reduceMul]
 exact SetR.dropTo ((Le.refl H).updB n1) (SetR.now hq)
theorem over10_fn{a c:Int}{k k':Nat}(ha:Bd k a)(hc:Bd k' c)(hk:k≤1000000)(hk':k'≤1000000)(h0:c≠0):PFn Tryz.prog 151 [IntA a,IntA c] (.tup [IntA (a / c),.bool (decide (a%c=0))]):=by
 intro H Q hq
 have br:Bd k' (a%c):=by
  have h1:=Int.emod_lt a h0
  have h2:=Int.emod_nonneg a h0
  unfold Bd at hc ⊢; omega
 refine enter151 (by simp) ?_
 simp(disch:=first|exact Xe|fail)only[ac151,cells_IntA,↓Xa,Xb,Xc,↓reduceIte,Nat.reduceLT,Nat.reduceEqDiff,Nat.reduceBEq,Nat.reduceLeDiff,Nat.reduceAdd,Nat.reduceMul]
 refine alloc_i fun p1 hp1=>?_
 have n1:=hp1
 simp(disch:=first|exact Xe|fail)only[cells_IntA,↓Xa,Xb,Xc,↓reduceIte,Nat.reduceLT,Nat.reduceEqDiff,Nat.reduceBEq,Nat.reduceLeDiff,Nat.reduceAdd,Nat.reduceMul]
 refine alloc_i fun p2 hp2=>?_
 have n2:=hp2
 simp only[upd_none]at n2
 obtain⟨_,n2⟩:=n2
 simp(disch:=first|exact Xe|fail)only[↓Xa,Xb,Xc,↓reduceIte,Nat.reduceLT,Nat.reduceEqDiff,Nat.reduceBEq,Nat.reduceLeDiff,Nat.reduceAdd,Nat.reduceMul]
 refine alloc_i fun p3 hp3=>?_
 have n3:=hp3
 simp only[upd_none]at n3
 obtain⟨_,_,n3⟩:=n3
 simp(disch:=first|exact Xe|fail)only[fold_IntA,↓Xa,Xb,Xc,↓reduceIte,Nat.reduceLT,Nat.reduceEqDiff,Nat.reduceBEq,Nat.reduceLeDiff,Nat.reduceAdd,Nat.reduceMul]
 refine(idivmod_fn ha (by omega) hc (by omega) h0).call ?_
 simp(disch:=first|exact Xe|fail)only[↓Xa,Xb,Xc,↓reduceIte,Nat.reduceLT,Nat.reduceEqDiff,Nat.reduceBEq,Nat.reduceLeDiff,Nat.reduceAdd,Nat.reduceMul]
 refine alloc_i fun p4 hp4=>?_
 have n4:=hp4
 simp only[upd_none]at n4
 obtain⟨_,_,_,n4⟩:=n4
 simp(disch:=first|exact Xe|fail)only[↓Xa,Xb,Xc,↓reduceIte,Nat.reduceLT,Nat.reduceEqDiff,Nat.reduceBEq,Nat.reduceLeDiff,Nat.reduceAdd,Nat.reduceMul]
 refine alloc_i fun p5 hp5=>?_
 have n5:=hp5
 simp only[upd_none]at n5
 obtain⟨_,_,_,_,n5⟩:=n5
 simp(disch:=first|exact Xe|fail)only[cells_IntA,fold_IntA,↓Xa,Xb,Xc,↓reduceIte,Nat.reduceLT,Nat.reduceEqDiff,Nat.reduceBEq,Nat.reduceLeDiff,Nat.reduceAdd,Nat.reduceMul]
 refine PFn.dcall (sign_fn br (by omega)) ?_
 simp(disch:=first|exact Xe|fail)only[sgn_eql0,cells_IntA,fold_IntA,rs151,↓Xa,Xb,Xc,↓reduceIte,Nat.reduceLT,Nat.reduceEqDiff,Nat.reduceBEq,Nat.reduceLeDiff,Nat.reduceAdd,Nat.reduceMul]
 exact SetR.dropTo ((((((Le.refl H).updB n1).updB n2).updB n3).updB n4).updB n5) (SetR.now hq)
theorem power10_fn{n:Nat}(hn:n≤65536):PFn Tryz.prog 212 [.int .i64 (n:Int)] (IntA (2^n)):=by
 intro H Q hq
 refine enter212 (by simp) ?_
 simp(disch:=first|exact Xe|fail)only[ac212,↓Xa,Xb,Xc,↓reduceIte,Nat.reduceLT,Nat.reduceEqDiff,Nat.reduceBEq,Nat.reduceLeDiff,Nat.reduceAdd,Nat.reduceMul]
 refine alloc_i fun p1 hp1=>?_
 have n1:=hp1
 simp(disch:=first|exact Xe|fail)only[↓Xa,Xb,Xc,↓reduceIte,Nat.reduceLT,Nat.reduceEqDiff,Nat.reduceBEq,Nat.reduceLeDiff,Nat.reduceAdd,Nat.reduceMul]
 refine(of_fn (n:=((1:Nat):Int)) (by omega)).call ?_
 simp(disch:=first|exact Xe|fail)only[↓Xa,Xb,Xc,↓reduceIte,Nat.reduceLT,Nat.reduceEqDiff,Nat.reduceBEq,Nat.reduceLeDiff,Nat.reduceAdd,Nat.reduceMul]
 refine(ishl_fn (Bd.i64 (n:=((1:Nat):Int)) (by omega)) (by omega) hn).call ?_
 rw[show((1:Nat):Int)*2^n=2^n from Int.one_mul _]
 simp(disch:=first|exact Xe|fail)only[↓Xa,Xb,Xc,↓reduceIte,Nat.reduceLT,Nat.reduceEqDiff,Nat.reduceBEq,Nat.reduceLeDiff,Nat.reduceAdd,Nat.reduceMul]
 refine alloc_i fun p2 hp2=>?_
 have n2:=hp2
 simp only[upd_none]at n2
 obtain⟨_,n2⟩:=n2
 simp(disch:=first|exact Xe|fail)only[cells_IntA,fold_IntA,rs212,↓Xa,Xb,Xc,↓reduceIte,Nat.reduceLT,Nat.reduceEqDiff,Nat.reduceBEq,Nat.reduceLeDiff,Nat.reduceAdd,Nat.reduceMul]
 exact SetR.dropTo (((Le.refl H).updB n1).updB n2) (SetR.now hq)
theorem idx_own2'{G:AHeap}{b m i ty:Nat}{t:Bool}{cells:List AV}(hG:G b=some (.row ty 2 cells))(hl:cells.length=m*2)(hi:i<m){k:IntKind}{K:AV→Prop}:(liveS G (.own b (m*2) 0 m t)∧idxAW 2 (.own b (m*2) 0 m t) (.int k (i:Int)) K)↔K (.ptr b (m*2) (i*2)):=idx_own2 hG hl hi
theorem do10_run{H:AHeap}{Q:AV→AHeap→Prop}{b N k ty:Nat}{t:Bool}{regs:List Int}{i:Ins}(hb:H b=some (.row ty 2 (IC regs)))(hN:regs.length=N)(hm:mayI (N:Int) i)(hz: ∀z,z∈regs→Bd k z)(hk:k≤100000)
 (hq: ∀x ok,(ok=true→doZ i (regs.getD i.a.toNat 0) (regs.getD i.b.toNat 0)=some x)→(ok=false→doZ i (regs.getD i.a.toNat 0) (regs.getD i.b.toNat 0)=none)→Bd (k+3) x→Q (.tup [IntA x,.bool ok]) H):
 Run Tryz.prog 148 [WaysN,.own b (N*2) 0 N t,InsA i] H Q:=by
 have hmb:=mayI_b hm
 have hma:=hm.2.2
 obtain⟨a,ha⟩: ∃a:Nat,i.a=(a:Int):=⟨i.a.toNat,by omega⟩
 obtain⟨c,hc⟩: ∃c:Nat,i.b=(c:Int):=⟨i.b.toNat,by omega⟩
 have haN:a<regs.length:=by omega
 have hcN:c<regs.length:=by omega
 have ga:regs.getD i.a.toNat 0=regs[a]:=by rw[ha,Int.toNat_natCast,List.getD_eq_getElem?_getD,List.getElem?_eq_getElem haN];rfl
 have gc:regs.getD i.b.toNat 0=regs[c]:=by rw[hc,Int.toNat_natCast,List.getD_eq_getElem?_getD,List.getElem?_eq_getElem hcN];rfl
 rw[ga,gc]at hq
 have bx:=hz _ (List.getElem_mem haN)
 have by':=hz _ (List.getElem_mem hcN)
 have hl:(IC regs).length=N*2:=by rw[IC_len,hN]
 refine enter148 (by simp) ?_
 simp(disch:=first|exact Xe|fail)only[ac148,cells_WaysN,↓Xa,Xb,Xc,↓reduceIte,Nat.reduceLT,Nat.reduceEqDiff,Nat.reduceBEq,Nat.reduceLeDiff,Nat.reduceAdd,Nat.reduceMul]
 refine alloc_i fun p1 n1=>?_
 have a1:=ne_of_some hb n1
 simp(disch:=first|exact Xe|fail)only[cells_InsA,↓Xa,Xb,Xc,↓reduceIte,Nat.reduceLT,Nat.reduceEqDiff,Nat.reduceBEq,Nat.reduceLeDiff,Nat.reduceAdd,Nat.reduceMul]
 refine alloc_i fun p2 hp2=>?_
 have n2:=(upd_none.1 hp2).2
 have a2:=ne_of_some hb n2
 have d21:=(upd_none.1 hp2).1
 simp(disch:=first|exact Xe|fail)only[↓Xa,Xb,Xc,↓reduceIte,Nat.reduceLT,Nat.reduceEqDiff,Nat.reduceBEq,Nat.reduceLeDiff,Nat.reduceAdd,Nat.reduceMul]
 refine alloc_i fun p3 hp3=>?_
 have n3:=(upd_none.1 (upd_none.1 hp3).2).2
 have a3:=ne_of_some hb n3
 have d32:=(upd_none.1 hp3).1
 have d31:=(upd_none.1 (upd_none.1 hp3).2).1
 simp(disch:=first|exact Xe|fail)only[ha,hc,hb,idx_own2',hl,ldP_IC hN haN,ldP_IC hN hcN,↓Xa,Xb,Xc,↓reduceIte,Nat.reduceLT,Nat.reduceEqDiff,Nat.reduceBEq,Nat.reduceLeDiff,Nat.reduceAdd,Nat.reduceMul]
 refine dalloc_i fun p4 hp4=>?_
 have n4:=(upd_none.1 (upd_none.1 (upd_none.1 hp4).2).2).2
 have a4:=ne_of_some hb n4
 have d43:=(upd_none.1 hp4).1
 have d42:=(upd_none.1 (upd_none.1 hp4).2).1
 have d41:=(upd_none.1 (upd_none.1 (upd_none.1 hp4).2).2).1
 simp(disch:=first|exact Xe|fail)only[↓Xa,Xb,Xc,↓reduceIte,Nat.reduceLT,Nat.reduceEqDiff,Nat.reduceBEq,Nat.reduceLeDiff,Nat.reduceAdd,Nat.reduceMul]
 refine dalloc_i fun p5 hp5=>?_
 have n5:=(upd_none.1 (upd_none.1 (upd_none.1 (upd_none.1 hp5).2).2).2).2
 have a5:=ne_of_some hb n5
 have d54:=(upd_none.1 hp5).1
 have d53:=(upd_none.1 (upd_none.1 hp5).2).1
 have d52:=(upd_none.1 (upd_none.1 (upd_none.1 hp5).2).2).1
 have d51:=(upd_none.1 (upd_none.1 (upd_none.1 (upd_none.1 hp5).2).2).2).1
 generalize regs[a]=x at*
 generalize regs[c]=y at*
 have fin: ∀{r:AV}{x1 x2 x3 x4 x5:ABlk},Q r H→SetR Q r (((((H.upd p1 (some x1)).upd p2 (some x2)).upd p3 (some x3)).upd p4 (some x4)).upd p5 (some x5)):=fun h=>
  SetR.dropTo ((((((Le.refl H).updB n1).updB n2).updB n3).updB n4).updB n5) (SetR.now h)
 have ok1: ∀{z:Int},doZ i x y=some z→Bd (k+3) z→Q (.tup [IntA z,.bool true]) H:=fun h hb=>hq _ true (fun _=>h) (fun e=>by cases e) hb
 have ok2: ∀{z:Int},doZ i x y=some z→Q (.tup [IntA z,.bool true]) H:=fun h=>ok1 h (doZ_bd hm bx by' h)
 simp(disch:=first|exact Xe|fail)only[cells_IntA,↓Xa,Xb,Xc,↓reduceIte,Nat.reduceLT,Nat.reduceEqDiff,Nat.reduceBEq,Nat.reduceLeDiff,Nat.reduceAdd,Nat.reduceMul]
 by_cases o2:i.op=2
 ·have e2:decide (i.op=((2:Nat):Int))=true:=decide_eq_true o2
  simp(disch:=first|exact Xe|fail)only[eql_int,e2,fold_IntA,↓Xa,Xb,Xc,↓reduceIte,Nat.reduceLT,Nat.reduceEqDiff,Nat.reduceBEq,Nat.reduceLeDiff,Nat.reduceAdd,Nat.reduceMul]
  refine(neg_fn bx (by omega)).call ?_
  simp(disch:=first|exact Xe|fail)only[cells_IntA,fold_IntA,rs148,↓Xa,Xb,Xc,↓reduceIte,Nat.reduceLT,Nat.reduceEqDiff,Nat.reduceBEq,Nat.reduceLeDiff,Nat.reduceAdd,Nat.reduceMul]
  exact fin (ok2 (by unfold doZ;rw[if_pos o2]))
 have e2:decide (i.op=((2:Nat):Int))=false:=decide_eq_false o2
 by_cases o3:i.op=3
 ·have e3:decide (i.op=((3:Nat):Int))=true:=decide_eq_true o3
  simp(disch:=first|exact Xe|fail)only[eql_int,e2,e3,fold_IntA,↓Xa,Xb,Xc,↓reduceIte,Nat.reduceLT,Nat.reduceEqDiff,Nat.reduceBEq,Nat.reduceLeDiff,Nat.reduceAdd,Nat.reduceMul]
  refine(addi_fn bx (by omega) by' (by omega)).call ?_
  simp(disch:=first|exact Xe|fail)only[cells_IntA,fold_IntA,rs148,↓Xa,Xb,Xc,↓reduceIte,Nat.reduceLT,Nat.reduceEqDiff,Nat.reduceBEq,Nat.reduceLeDiff,Nat.reduceAdd,Nat.reduceMul]
  exact fin (ok2 (by unfold doZ;rw[if_neg o2,if_pos o3]))
 have e3:decide (i.op=((3:Nat):Int))=false:=decide_eq_false o3
 by_cases o4:i.op=4
 ·have e4:decide (i.op=((4:Nat):Int))=true:=decide_eq_true o4
  simp(disch:=first|exact Xe|fail)only[eql_int,e2,e3,e4,fold_IntA,↓Xa,Xb,Xc,↓reduceIte,Nat.reduceLT,Nat.reduceEqDiff,Nat.reduceBEq,Nat.reduceLeDiff,Nat.reduceAdd,Nat.reduceMul]
  refine(subi_fn bx (by omega) by' (by omega)).call ?_
  simp(disch:=first|exact Xe|fail)only[cells_IntA,fold_IntA,rs148,↓Xa,Xb,Xc,↓reduceIte,Nat.reduceLT,Nat.reduceEqDiff,Nat.reduceBEq,Nat.reduceLeDiff,Nat.reduceAdd,Nat.reduceMul]
  exact fin (ok2 (by unfold doZ;rw[if_neg o2,if_neg o3,if_pos o4]))
 have e4:decide (i.op=((4:Nat):Int))=false:=decide_eq_false o4
 have hcst:=cst_ne hm
 have h3:=hm.2.2.2.2.2.2
 rw[if_neg (by omega)]at h3
 by_cases o5:i.op=5
 ·have e5:decide (i.op=((5:Nat):Int))=true:=decide_eq_true o5
  have hcs:cst i=i.c:=by unfold cst;rw[if_pos (.inl o5)]
  rw[if_pos (.inl o5)]at h3
  simp(disch:=first|exact Xe|fail)only[eql_int,e2,e3,e4,e5,fold_IntA,↓Xa,Xb,Xc,↓reduceIte,Nat.reduceLT,Nat.reduceEqDiff,Nat.reduceBEq,Nat.reduceLeDiff,Nat.reduceAdd,Nat.reduceMul]
  refine PFn.dcall (of_fn (n:=i.c) (by omega)) ?_
  simp(disch:=first|exact Xe|fail)only[↓Xa,Xb,Xc,↓reduceIte,Nat.reduceLT,Nat.reduceEqDiff,Nat.reduceBEq,Nat.reduceLeDiff,Nat.reduceAdd,Nat.reduceMul]
  refine(muli_fn bx (by omega) (Bd.i64 (n:=i.c) (by omega)) (by omega)).call ?_
  simp(disch:=first|exact Xe|fail)only[cells_IntA,fold_IntA,rs148,↓Xa,Xb,Xc,↓reduceIte,Nat.reduceLT,Nat.reduceEqDiff,Nat.reduceBEq,Nat.reduceLeDiff,Nat.reduceAdd,Nat.reduceMul]
  exact fin (ok2 (by unfold doZ;rw[if_neg o2,if_neg o3,if_neg o4,if_pos (.inl o5),hcs,Int.mul_comm]))
 have e5:decide (i.op=((5:Nat):Int))=false:=decide_eq_false o5
 by_cases o7:i.op=7
 ·have e7:decide (i.op=((7:Nat):Int))=true:=decide_eq_true o7
  have hcs:cst i=2^i.c.toNat:=by unfold cst;rw[if_neg (by omega)]
  rw[if_neg (by omega),if_pos (.inl o7)]at h3
  obtain⟨m,hmc⟩: ∃m:Nat,i.c=(m:Int):=⟨i.c.toNat,by omega⟩
  rw[hmc,Int.toNat_natCast]at hcs
  have hcb:=cst_bd hm (by omega)
  rw[hcs]at hcb
  simp(disch:=first|exact Xe|fail)only[eql_int,e2,e3,e4,e5,e7,hmc,fold_IntA,↓Xa,Xb,Xc,↓reduceIte,Nat.reduceLT,Nat.reduceEqDiff,Nat.reduceBEq,Nat.reduceLeDiff,Nat.reduceAdd,Nat.reduceMul]
  refine PFn.dcall (power10_fn (n:=m) (by omega)) ?_
  simp(disch:=first|exact Xe|fail)only[↓Xa,Xb,Xc,↓reduceIte,Nat.reduceLT,Nat.reduceEqDiff,Nat.reduceBEq,Nat.reduceLeDiff,Nat.reduceAdd,Nat.reduceMul]
  refine(muli_fn bx (by omega) hcb (by omega)).call ?_
  simp(disch:=first|exact Xe|fail)only[cells_IntA,fold_IntA,rs148,↓Xa,Xb,Xc,↓reduceIte,Nat.reduceLT,Nat.reduceEqDiff,Nat.reduceBEq,Nat.reduceLeDiff,Nat.reduceAdd,Nat.reduceMul]
  exact fin (ok2 (by unfold doZ;rw[if_neg o2,if_neg o3,if_neg o4,if_pos (.inr o7),hcs,Int.mul_comm]))
 have e7:decide (i.op=((7:Nat):Int))=false:=decide_eq_false o7
 by_cases o6:i.op=6
 ·have e6:decide (i.op=((6:Nat):Int))=true:=decide_eq_true o6
  have hcs:cst i=i.c:=by unfold cst;rw[if_pos (.inr o6)]
  rw[if_pos (.inr o6)]at h3
  simp(disch:=first|exact Xe|fail)only[eql_int,e2,e3,e4,e5,e7,e6,fold_IntA,↓Xa,Xb,Xc,↓reduceIte,Nat.reduceLT,Nat.reduceEqDiff,Nat.reduceBEq,Nat.reduceLeDiff,Nat.reduceAdd,Nat.reduceMul]
  refine PFn.dcall (of_fn (n:=i.c) (by omega)) ?_
  simp(disch:=first|exact Xe|fail)only[↓Xa,Xb,Xc,↓reduceIte,Nat.reduceLT,Nat.reduceEqDiff,Nat.reduceBEq,Nat.reduceLeDiff,Nat.reduceAdd,Nat.reduceMul]
  refine PFn.dcall (over10_fn bx (Bd.i64 (n:=i.c) (by omega)) (by omega) (by omega) h3.2.1) ?_
  simp(disch:=first|exact Xe|fail)only[cells_IntA,fold_IntA,rs148,↓Xa,Xb,Xc,↓reduceIte,Nat.reduceLT,Nat.reduceEqDiff,Nat.reduceBEq,Nat.reduceLeDiff,Nat.reduceAdd,Nat.reduceMul]
  have hd:doZ i x y=if x%i.c=0 then some (x / i.c)else none:=by unfold doZ;rw[if_neg o2,if_neg o3,if_neg o4,if_neg (by omega),if_pos (.inl o6),hcs]
  refine fin (hq _ _ (fun h=>by rw[hd,if_pos (of_decide_eq_true h)]) (fun h=>by rw[hd,if_neg (of_decide_eq_false h)]) ?_)
  exact(bx.ediv).mono (by omega)
 have e6:decide (i.op=((6:Nat):Int))=false:=decide_eq_false o6
 by_cases o8:i.op=8
 ·have e8:decide (i.op=((8:Nat):Int))=true:=decide_eq_true o8
  have hcs:cst i=2^i.c.toNat:=by unfold cst;rw[if_neg (by omega)]
  rw[if_neg (by omega),if_pos (.inr o8)]at h3
  obtain⟨m,hmc⟩: ∃m:Nat,i.c=(m:Int):=⟨i.c.toNat,by omega⟩
  rw[hmc,Int.toNat_natCast]at hcs
  have hcb:=cst_bd hm (by omega)
  rw[hcs]at hcb hcst
  simp(disch:=first|exact Xe|fail)only[eql_int,e2,e3,e4,e5,e7,e6,e8,hmc,fold_IntA,↓Xa,Xb,Xc,↓reduceIte,Nat.reduceLT,Nat.reduceEqDiff,Nat.reduceBEq,Nat.reduceLeDiff,Nat.reduceAdd,Nat.reduceMul]
  refine PFn.dcall (power10_fn (n:=m) (by omega)) ?_
  simp(disch:=first|exact Xe|fail)only[↓Xa,Xb,Xc,↓reduceIte,Nat.reduceLT,Nat.reduceEqDiff,Nat.reduceBEq,Nat.reduceLeDiff,Nat.reduceAdd,Nat.reduceMul]
  refine PFn.dcall (over10_fn bx hcb (by omega) (by omega) hcst) ?_
  simp(disch:=first|exact Xe|fail)only[cells_IntA,fold_IntA,rs148,↓Xa,Xb,Xc,↓reduceIte,Nat.reduceLT,Nat.reduceEqDiff,Nat.reduceBEq,Nat.reduceLeDiff,Nat.reduceAdd,Nat.reduceMul]
  have hd:doZ i x y=if x%2^m=0 then some (x / 2^m)else none:=by unfold doZ;rw[if_neg o2,if_neg o3,if_neg o4,if_neg (by omega),if_pos (.inr o8),hcs]
  refine fin (hq _ _ (fun h=>by rw[hd,if_pos (of_decide_eq_true h)]) (fun h=>by rw[hd,if_neg (of_decide_eq_false h)]) ?_)
  exact(bx.ediv).mono (by omega)
 have e8:decide (i.op=((8:Nat):Int))=false:=decide_eq_false o8
 simp(disch:=first|exact Xe|fail)only[eql_int,e2,e3,e4,e5,e7,e6,e8,cells_IntA,fold_IntA,rs148,↓Xa,Xb,Xc,↓reduceIte,Nat.reduceLT,Nat.reduceEqDiff,Nat.reduceBEq,Nat.reduceLeDiff,Nat.reduceAdd,Nat.reduceMul]
 exact fin (ok2 (by unfold doZ;rw[if_neg o2,if_neg o3,if_neg o4,if_neg (by omega),if_neg (by omega)]))
theorem un_atR{A B:AHeap}{b:Nat}(h:A b=none):Un A B b=B b:=by simp[Un,h]
theorem le_unR{A B B':AHeap}(h:Le B B'):Le (Un A B) (Un A B'):=fun o x ho=>by
 unfold Un at ho ⊢
 cases e:A o with
 |some y=>rw[e]at ho;exact ho
 |none=>rw[e]at ho;exact h o x ho
theorem dj_le{A B B':AHeap}(h:Dj A B')(hl:Le B B'):Dj A B:=fun i=>by
 rcases h i with h|h
 ·exact .inl h
 ·right
  cases e:B i with
  |none=>rfl
  |some x=>have:=hl i x e;rw[h]at this;cases this
theorem callW_mono{P:Program}{f:AV}{args:List AV}{H:AHeap}{K K':AV→AHeap→Prop}(h:callW P f args H K)(hk: ∀r H',K r H'→K' r H'):callW P f args H K':=by
 unfold callW at h ⊢
 split at h
 ·exact Run.mono h hk
 ·exact YieldW.mono h hk
 ·exact h.elim
theorem stP_IC{H:AHeap}{b N w ty:Nat}{x:Int}{regs:List Int}{K:AV→AHeap→Prop}(hN:regs.length=N)(hw:w<N):stP H 2 b (N*2) (w*2) K (some [IntB x,IntD x]) (some (.row ty 2 (IC regs)))↔K .bot (H.upd b (some (.row ty 2 (IC (regs.set w x))))):=by
 rw[stP_row (n:=2) (l:=[IntB x,IntD x]) (by rw[IC_len,hN]) rfl (by omega)]
 have e:splice (IC regs) (w*2) [IntB x,IntD x]=IC (regs.set w x):=IC_set (by omega)
 rw[e]
def CodeV(C:AHeap)(v:AV)(l:List Ins):Prop:=v.cell=true∧(∀K,lenW false v K=K (.int .i64 ((l.length:Nat):Int)))∧∃qf:Nat→AV,∀G,Le C G→Lent G v (CodeA l false)∧∀i(h:i<l.length),(∀k K,(liveS G v∧idxAW 5 v (.int k (i:Int)) K)↔K (qf i))∧∀K,loadW G (some 5) (qf i) K↔K (InsA (l[i]))
def OutsV(C:AHeap)(v:AV)(l:List Int):Prop:=v.cell=true∧(∀K,lenW false v K=K (.int .i64 ((l.length:Nat):Int)))∧∃qf:Nat→AV,∀G,Le C G→Lent G v (OutsA l false)∧∀i(h:i<l.length),(∀k K,(liveS G v∧idxAW 1 v (.int k (i:Int)) K)↔K (qf i))∧∀K,loadW G none (qf i) K↔K (.int .i64 (l[i]))
theorem Lent.loose{G:AHeap}{n:Nat}{cells:List AV}{t:Bool}:Lent G (.seq n cells t) (.seq n cells false):=fun c _ _ _ h=>enc_loose _ _ (h.later (c.dropTo_later le_nil))
theorem CodeV.seq{C:AHeap}{l:List Ins}{t:Bool}(hl:l.length<9223372036854775808):CodeV C (CodeA l t) l:=⟨rfl,fun K=>len_CodeA hl,fun i=>.cptr ((l.flatMap insC).drop (i*5)),fun G _=>⟨Lent.loose,fun i h=>⟨fun k K=>by rw[idx_CodeA h];simp[liveS],fun K=>by rw[load_CodeA h]⟩⟩⟩
theorem OutsV.seq{C:AHeap}{l:List Int}{t:Bool}(hl:l.length<9223372036854775808):OutsV C (OutsA l t) l:=⟨rfl,fun K=>len_OutsA hl,fun i=>.cptr ((l.map fun n=>AV.int .i64 n).drop i),fun G _=>⟨Lent.loose,fun i h=>⟨fun k K=>by rw[idx_OutsA h];simp[liveS],fun K=>by rw[load_OutsA h]⟩⟩⟩
theorem lenW_own{b L n:Nat}{t:Bool}(hn:n<9223372036854775808){K:AV→Prop}:lenW false (.own b L 0 n t) K=K (.int .i64 ((n:Nat):Int)):=by simp[lenW,hn]
def ProgO(p:PR)(cv ov:AV):AV:=.agg [.int .i64 p.ins,.int .i64 p.regs,cv,ov]
theorem cells_ProgO{p:PR}{cv ov:AV}(h1:cv.cell=true)(h2:ov.cell=true):(ProgO p cv ov).cells=some [.int .i64 p.ins,.int .i64 p.regs,cv,ov]:=by
 have e:([.int .i64 p.ins,.int .i64 p.regs,cv,ov]:List AV).all AV.cell=true:=by
  rw[List.all_cons,List.all_cons,List.all_cons,List.all_cons,h1,h2];rfl
 show(if([.int .i64 p.ins,.int .i64 p.regs,cv,ov]:List AV).all AV.cell=true then _ else _)=_
 rw[if_pos e]
theorem fold_ProgO{p:PR}{cv ov:AV}:AV.agg [.int .i64 p.ins,.int .i64 p.regs,cv,ov]=ProgO p cv ov:=id rfl
theorem le_unB{A B:AHeap}(h:Dj A B):Le B (Un A B):=fun o x ho=>by rw[un_atR (dj_atR h ho),ho]
theorem run10_run{H C:AHeap}{cv ov:AV}{b N k0 ty:Nat}{t:Bool}{p:PR}{f:AV}{regs0 S:List Int}{A B:AHeap}{J:List Int→AHeap→Prop}{Jx:AHeap→Prop}{Q:AV→AHeap→Prop}(hH:H=Un A B)
 (hS:S=(runX doZ 0 p.code regs0).1) (hd:Dj A B) (hb:B b=some (.row ty 2 (IC regs0))) (hN:regs0.length=N) (hr: ∀i,i∈p.code→mayI (N:Int) i) (hz: ∀z,z∈regs0→Bd k0 z) (hk:k0+3*p.code.length≤100000)
 (hJ:J [] A) (hcv:CodeV C cv p.code) (hov:ov.cell=true) (hCB:Le C B) (hCb:C b=none)
 (hf: ∀pre x rest A B,S=pre++x::rest→Dj A B→J pre A→callW Tryz.prog f [.int .i64 ((pre.length:Nat):Int),IntA x] (Un A B) fun r H'=> ∃A',Dj A' B∧H'=Un A' B∧((r=.bool true∧J (pre++[x]) A')∨(r=.bool false∧Jx A')))
 (hq: ∀r A' regs',regs'.length=N→(∀z,z∈regs'→Bd (k0+3*p.code.length) z)→Dj A' (B.upd b (some (.row ty 2 (IC regs'))))→((r= -1∧S.length=p.code.length∧J S A'∧regs'=(runX doZ 0 p.code regs0).2)∨(r=(S.length:Int)∧S.length<p.code.length∧J S A')∨(r= -1∧Jx A'))→Q (.int .i64 r) (Un A' (B.upd b (some (.row ty 2 (IC regs')))))):
 Run Tryz.prog 84 [WaysN,ProgO p cv ov,.own b (N*2) 0 N t,f] H Q:=by
 subst hH
 obtain⟨hcc,hcl,qf,hcq⟩:=hcv
 have lc:p.code.length<9223372036854775808:=by omega
 have hAb:A b=none:=dj_atR hd hb
 refine enter84 (by simp) ?_
 simp(disch:=first|exact Xe|fail)only[ac84,cells_WaysN,↓Xa,Xb,Xc,↓reduceIte,Nat.reduceLT,Nat.reduceEqDiff,Nat.reduceBEq,Nat.reduceLeDiff,Nat.reduceAdd,Nat.reduceMul]
 refine alloc_i fun p4 hp4=>?_
 obtain⟨a4,b4⟩:=un_none.1 hp4
 simp(disch:=first|exact Xe|fail)only[cells_ProgO hcc hov,↓Xa,Xb,Xc,↓reduceIte,Nat.reduceLT,Nat.reduceEqDiff,Nat.reduceBEq,Nat.reduceLeDiff,Nat.reduceAdd,Nat.reduceMul]
 refine alloc_i fun p5 hp5=>?_
 have d54:=(upd_none.1 hp5).1
 obtain⟨a5,b5⟩:=un_none.1 (upd_none.1 hp5).2
 have eb4:Ap p4 b:=ne_of_some hb b4
 have eb5:Ap p5 b:=ne_of_some hb b5
 simp(disch:=first|exact Xe|fail)only[hcl,↓Xa,Xb,Xc,↓reduceIte,Nat.reduceLT,Nat.reduceEqDiff,Nat.reduceBEq,Nat.reduceLeDiff,Nat.reduceAdd,Nat.reduceMul]
 generalize hwv:(ABlk.row 147 0 [.fn (.func 149) [] [],.fn (.func 138) [] [],.fn (.func 150) [] [],.fn (.func 121) [] [],.fn (.func 151) [] []])=wv
 have eB:B.upd b (some (.row ty 2 (IC regs0)))=B:=funext fun o=>by
  by_cases e:o=b
  ·subst e;rw[upd_same,hb]
  ·rw[upd_other _ _ e]
 have fin: ∀(M:AHeap)(A':AHeap)(regs':List Int)(r:Int),Le (Un A' (B.upd b (some (.row ty 2 (IC regs'))))) M→Q (.int .i64 r) (Un A' (B.upd b (some (.row ty 2 (IC regs')))))→SetR Q (.int .i64 r) M:=fun M A' regs' r hl h=>SetR.dropTo hl (SetR.now h)
 refine W_loop (fun s:Nat×List Int×AHeap=>⟨[],[(2,.own b (N*2) 0 N t),(3,f),(4,.ptr p4 5 0),(14,cv),(15,.int .i64 p.code.length),(16,.int .i64 s.1)],Un s.2.2 ((B.upd b (some (.row ty 2 (IC s.2.1)))).upd p4 (some wv))⟩)
  (fun s=>s.1≤p.code.length∧s.1≤S.length∧s.2.1.length=N∧Dj s.2.2 ((B.upd b (some (.row ty 2 (IC s.2.1)))).upd p4 (some wv))∧J (S.take s.1) s.2.2∧runX doZ 0 (p.code.drop s.1) s.2.1=(S.drop s.1,(runX doZ 0 p.code regs0).2)∧∀z,z∈s.2.1→Bd (k0+3*s.1) z) (fun s=>p.code.length-s.1) (0,regs0,A) ?_ ⟨Nat.zero_le _,Nat.zero_le _,hN,?_,by simpa using hJ,?_,by simpa using hz⟩ ?_
 ·dsimp only
  rw[eB]
  refine Settle.dropTo (Le.updB ?_ ?_) (Settle.now rfl)
  ·rw[un_updR a4];exact Le.refl _
  ·rw[un_updR a4];exact upd_none.2 ⟨d54,un_none.2 ⟨a5,b5⟩⟩
 ·dsimp only
  rw[eB];exact dj_updR hd a4
 ·dsimp only
  rw[List.drop_zero,List.drop_zero,hS]
 rintro⟨j,regs,A'⟩ ⟨h1,h2,h3,h4,h5,h6,h7⟩
 dsimp only at h1 h2 h3 h4 h5 h6 h7 ⊢
 have gb4:b≠p4:=Ne.symm eb4
 have m4:Un A' ((B.upd b (some (.row ty 2 (IC regs)))).upd p4 (some wv)) p4=some wv:=by rw[un_atR (dj_atR h4 (upd_same _ _ _)),upd_same]
 have mb:Un A' ((B.upd b (some (.row ty 2 (IC regs)))).upd p4 (some wv)) b=some (.row ty 2 (IC regs)):=by
  have e:((B.upd b (some (.row ty 2 (IC regs)))).upd p4 (some wv)) b=some (.row ty 2 (IC regs)):=by rw[upd_other _ _ gb4,upd_same]
  rw[un_atR (dj_atR h4 e),e]
 have hA'4:A' p4=none:=dj_atR h4 (upd_same _ _ _)
 have hA'b:A' b=none:=dj_atR h4 (show _=some (ABlk.row ty 2 (IC regs)) by rw[upd_other _ _ gb4,upd_same])
 generalize hM:Un A' ((B.upd b (some (.row ty 2 (IC regs)))).upd p4 (some wv))=M at*
 by_cases hj:j<p.code.length
 ·have hmi:=hr _ (List.getElem_mem hj)
  have hma:=hmi.2.2
  obtain⟨w,hw⟩: ∃w:Nat,(p.code[j]).to=(w:Int):=⟨(p.code[j]).to.toNat,by omega⟩
  have hCM:Le C M:=fun o x ho=>by
   have ob:o≠b:=by rintro rfl;rw[hCb]at ho;cases ho
   have o4:o≠p4:=by rintro rfl;rw[hCB.none b4]at ho;cases ho
   have e:((B.upd b (some (.row ty 2 (IC regs)))).upd p4 (some wv)) o=some x:=by rw[upd_other _ _ o4,upd_other _ _ ob];exact hCB o x ho
   rw[← hM];exact le_unB h4 o x e
  have hix:=(((hcq M hCM).2 j hj).1)
  have hlx:=(((hcq M hCM).2 j hj).2)
  simp(disch:=first|exact Xe|fail)only[hj,hix,hlx,↓Xa,Xb,Xc,↓reduceIte,Nat.reduceLT,Nat.reduceEqDiff,Nat.reduceBEq,Nat.reduceLeDiff,Nat.reduceAdd,Nat.reduceMul]
  refine alloc_i fun q1 hq1=>?_
  have u1:=ne_of_some mb hq1
  have u2:=ne_of_some m4 hq1
  have m4':=m4
  rw[← hwv]at m4'
  simp(disch:=first|exact Xe|fail)only[cells_InsA,fold_InsA,m4',fold_WaysN,↓Xa,Xb,Xc,↓reduceIte,Nat.reduceLT,Nat.reduceEqDiff,Nat.reduceBEq,Nat.reduceLeDiff,Nat.reduceAdd,Nat.reduceMul]
  refine run_call (do10_run (b:=b) (N:=N) (k:=k0+3*j) (ty:=ty) (regs:=regs) (by rw[upd_other _ _ (Ne.symm u1)];exact mb) h3 hmi h7 (by omega) ?_)
  intro x ok ho1 ho2 hbx
  simp(disch:=first|exact Xe|fail)only[↓Xa,Xb,Xc,↓reduceIte,Nat.reduceLT,Nat.reduceEqDiff,Nat.reduceBEq,Nat.reduceLeDiff,Nat.reduceAdd,Nat.reduceMul]
  refine alloc_i fun q2 hq2=>?_
  have v1:=(upd_none.1 hq2).1
  have v2:=(upd_none.1 hq2).2
  have v3:=ne_of_some mb v2
  have v4:=ne_of_some m4 v2
  have hdb:Dj A' (B.upd b (some (.row ty 2 (IC regs)))):=dj_le h4 ((Le.refl _).updB (upd_none.2 ⟨eb4,b4⟩))
  have hlM:Le (Un A' (B.upd b (some (.row ty 2 (IC regs))))) M:=hM▸le_unR ((Le.refl _).updB (upd_none.2 ⟨eb4,b4⟩))
  have hz': ∀z,z∈regs→Bd (k0+3*p.code.length) z:=fun z hm=>(h7 z hm).mono (by omega)
  cases ok with
  |false=>
   have hno:=runX_no hj regs (ho2 rfl)
   rw[h6]at hno
   have hS0:S.drop j=[]:=congrArg Prod.fst hno
   have hSl:S.length≤j:=by
    have:=congrArg List.length hS0
    simp at this;omega
   obtain rfl:j=S.length:=by omega
   rw[List.take_of_length_le (Nat.le_refl _)]at h5
   simp(disch:=first|exact Xe|fail)only[cells_IntA,rs84,↓Xa,Xb,Xc,↓reduceIte,Nat.reduceLT,Nat.reduceEqDiff,Nat.reduceBEq,Nat.reduceLeDiff,Nat.reduceAdd,Nat.reduceMul]
   refine fin _ A' regs _ ((hlM.updB (hlM.none hq1)).updB (hlM.none v2)) (hq _ A' regs h3 hz' hdb (.inr (.inl ⟨rfl,hj,h5⟩)))
  |true=>
  have hdo:=ho1 rfl
  have hat:=runX_at hj regs hdo
  rw[h6]at hat
  have hS1:S.drop j=x::(runX doZ 0 (p.code.drop (j+1)) (regs.set (p.code[j]).to.toNat x)).1:=congrArg Prod.fst hat
  have hjS:j<S.length:=by
   have:=congrArg List.length hS1
   simp at this;omega
  have hSx:S=S.take j++x::S.drop (j+1):=by
   conv=>lhs;rw[← List.take_append_drop j S]
   rw[List.drop_eq_getElem_cons hjS]at hS1
   rw[List.drop_eq_getElem_cons hjS]
   injection hS1 with e1 e2
   rw[e1]
  have hS2:S.drop (j+1)=(runX doZ 0 (p.code.drop (j+1)) (regs.set (p.code[j]).to.toNat x)).1:=by
   rw[List.drop_eq_getElem_cons hjS]at hS1
   injection hS1
  have hlt:(S.take j).length=j:=by rw[List.length_take];omega
  have hl2:(IC regs).length=N*2:=by rw[IC_len,h3]
  have mb2:((M.upd q1 (some (.row 76 0 [.int .i64 (p.code[j]).op,.int .i64 (p.code[j]).to,.int .i64 (p.code[j]).a,.int .i64 (p.code[j]).b,.int .i64 (p.code[j]).c]))).upd q2 (some (.row 48 0 [IntB x,IntD x]))) b=some (.row ty 2 (IC regs)):=by
   rw[upd_other _ _ (Ne.symm v3),upd_other _ _ (Ne.symm u1)];exact mb
  have hwN:w<N:=by omega
  have hwr:w<regs.length:=by omega
  simp(disch:=first|exact Xe|fail)only[cells_IntA,hw,mb,idx_own2',hl2,↓Xa,Xb,Xc,↓reduceIte,Nat.reduceLT,Nat.reduceEqDiff,Nat.reduceBEq,Nat.reduceLeDiff,Nat.reduceAdd,Nat.reduceMul]
  refine(stP_IC h3 hwN).2 ?_
  generalize hX1:(some (ABlk.row 76 0 [.int .i64 (p.code[j]).op,.int .i64 (w:Int),.int .i64 (p.code[j]).a,.int .i64 (p.code[j]).b,.int .i64 (p.code[j]).c]))=X1 at*
  generalize hX2:(some (ABlk.row 48 0 [IntB x,IntD x]))=X2 at*
  have qa1:A' q1=none:=(un_none.1 (hM▸hq1)).1
  have qa2:A' q2=none:=(un_none.1 (hM▸v2)).1
  have eH:((M.upd q1 X1).upd q2 X2).upd b (some (.row ty 2 (IC (regs.set w x))))=Un A' ((((B.upd b (some (.row ty 2 (IC (regs.set w x))))).upd p4 (some wv)).upd q1 X1).upd q2 X2):=by
   rw[un_updR qa2,un_updR qa1,upd_comm _ _ _ (show q2≠b from v3),upd_comm _ _ _ (show q1≠b from u1),← hM,← un_updR hA'b,upd_comm _ _ _ (show p4≠b from eb4),upd_upd]
  rw[eH]
  have nb1:=(upd_none.1 (upd_none.1 (un_none.1 (hM▸hq1:Un A' _ q1=none)).2).2).2
  have nb2:=(upd_none.1 (upd_none.1 (un_none.1 (hM▸v2:Un A' _ q2=none)).2).2).2
  have hle1:Le (B.upd b (some (.row ty 2 (IC (regs.set w x))))) ((((B.upd b (some (.row ty 2 (IC (regs.set w x))))).upd p4 (some wv)).upd q1 X1).upd q2 X2):=by
   rw[← hX1,← hX2]
   exact(((Le.refl _).updB (upd_none.2 ⟨eb4,b4⟩)).updB (upd_none.2 ⟨u1,nb1⟩)).updB (upd_none.2 ⟨v3,nb2⟩)
  have hle2:Le ((B.upd b (some (.row ty 2 (IC (regs.set w x))))).upd p4 (some wv)) ((((B.upd b (some (.row ty 2 (IC (regs.set w x))))).upd p4 (some wv)).upd q1 X1).upd q2 X2):=by
   rw[← hX1,← hX2]
   exact((Le.refl _).updB (upd_none.2 ⟨u2,upd_none.2 ⟨u1,nb1⟩⟩)).updB (upd_none.2 ⟨v4,upd_none.2 ⟨v3,nb2⟩⟩)
  have hd2:Dj A' ((((B.upd b (some (.row ty 2 (IC (regs.set w x))))).upd p4 (some wv)).upd q1 X1).upd q2 X2):=by
   refine dj_updR (dj_updR (dj_updR ?_ hA'4) qa1) qa2
   have h:=dj_updR (x:=some (.row ty 2 (IC (regs.set w x)))) hdb hA'b
   rwa[upd_upd]at h
  generalize hB2:((((B.upd b (some (.row ty 2 (IC (regs.set w x))))).upd p4 (some wv)).upd q1 X1).upd q2 X2)=B2 at*
  have mq2:Un A' B2 q2=some (ABlk.row 48 0 [IntB x,IntD x]):=by rw[un_atR qa2,← hB2,upd_same,hX2]
  have hf':=hf (S.take j) x (S.drop (j+1)) A' B2 hSx hd2 h5
  rw[hlt]at hf'
  have hlen':(regs.set w x).length=N:=by rw[List.length_set,h3]
  have hbd': ∀z,z∈regs.set w x→Bd (k0+3*(j+1)) z:=fun z hm=>by
   rcases List.mem_or_eq_of_mem_set hm with hm|rfl
   ·exact(h7 z hm).mono (by omega)
   ·exact hbx.mono (by omega)
  simp(disch:=first|exact Xe|fail)only[mq2,↓Xa,Xb,Xc,↓reduceIte,Nat.reduceLT,Nat.reduceEqDiff,Nat.reduceBEq,Nat.reduceLeDiff,Nat.reduceAdd,Nat.reduceMul]
  refine callW_mono hf' ?_
  rintro r H' ⟨A'',hd3,rfl,⟨rfl,hJ'⟩|⟨rfl,hJ'⟩⟩
  ·simp(disch:=first|exact Xe|fail)only[↓Xa,Xb,Xc,↓reduceIte,Nat.reduceLT,Nat.reduceEqDiff,Nat.reduceBEq,Nat.reduceLeDiff,Nat.reduceAdd,Nat.reduceMul]
   have ew:(p.code[j]).to.toNat=w:=by omega
   rw[ew]at hat hS2
   refine Settle.dropTo (le_unR hle2) (Settle.now ⟨(j+1,regs.set w x,A''),by dsimp only;omega,⟨hj,hjS,hlen',dj_le hd3 hle2,?_,?_,hbd'⟩,rfl⟩)
   ·dsimp only
    rw[List.take_succ_eq_append_getElem hjS]
    have e:S[j]=x:=by
     rw[List.drop_eq_getElem_cons hjS]at hS1
     injection hS1
    rw[e];exact hJ'
   ·dsimp only
    rw[hS2,congrArg Prod.snd hat]
  ·simp(disch:=first|exact Xe|fail)only[rs84,↓Xa,Xb,Xc,↓reduceIte,Nat.reduceLT,Nat.reduceEqDiff,Nat.reduceBEq,Nat.reduceLeDiff,Nat.reduceAdd,Nat.reduceMul]
   refine Settle.now ?_
   simp(disch:=first|exact Xe|fail)only[rs84,↓Xa,Xb,Xc,↓reduceIte,Nat.reduceLT,Nat.reduceEqDiff,Nat.reduceBEq,Nat.reduceLeDiff,Nat.reduceAdd,Nat.reduceMul]
   exact fin _ A'' _ _ (le_unR hle1) (hq _ A'' _ hlen' (fun z hm=>(hbd' z hm).mono (by omega)) (dj_le hd3 hle1) (.inr (.inr ⟨rfl,hJ'⟩)))
 ·obtain rfl:j=p.code.length:=by omega
  have hS0:S.drop p.code.length=[]∧(runX doZ 0 p.code regs0).2=regs:=by
   rw[List.drop_of_length_le (Nat.le_refl _)]at h6
   exact⟨(congrArg Prod.fst h6).symm,(congrArg Prod.snd h6).symm⟩
  have hSl:S.length=p.code.length:=by
   have:=congrArg List.length hS0.1
   simp at this;omega
  have hlM:Le (Un A' (B.upd b (some (.row ty 2 (IC regs))))) M:=hM▸le_unR ((Le.refl _).updB (upd_none.2 ⟨eb4,b4⟩))
  have hdb:Dj A' (B.upd b (some (.row ty 2 (IC regs)))):=dj_le h4 ((Le.refl _).updB (upd_none.2 ⟨eb4,b4⟩))
  rw[← hSl,List.take_of_length_le (Nat.le_refl _)]at h5
  simp(disch:=first|exact Xe|fail)only[hj,rs84,↓Xa,Xb,Xc,↓reduceIte,Nat.reduceLT,Nat.reduceEqDiff,Nat.reduceBEq,Nat.reduceLeDiff,Nat.reduceAdd,Nat.reduceMul]
  refine Settle.now ?_
  simp(disch:=first|exact Xe|fail)only[rs84,↓Xa,Xb,Xc,↓reduceIte,Nat.reduceLT,Nat.reduceEqDiff,Nat.reduceBEq,Nat.reduceLeDiff,Nat.reduceAdd,Nat.reduceMul]
  exact fin _ A' _ _ hlM (hq _ A' _ h3 h7 hdb (.inl ⟨rfl,hSl,h5,hS0.2.symm⟩))
theorem Lent.agg{H:AHeap}{xs ys:List AV}(h:LentL H xs ys):Lent H (.agg xs) (.agg ys):=by
 intro c hc hok v he
 cases he with
 |agg _ vs hlen hcs=>exact .agg _ _ (hlen.trans h.len.symm) fun i hi hi'=>h.get i (by have:=h.len;omega) hi c hc hok _ (hcs i (by have:=h.len;omega) hi')
theorem CodeV.le{C C':AHeap}{v:AV}{l:List Ins}(h:CodeV C v l)(hl:Le C C'):CodeV C' v l:=⟨h.1,h.2.1,h.2.2.choose,fun G hG=>h.2.2.choose_spec G (hl.trans hG)⟩
theorem OutsV.le{C C':AHeap}{v:AV}{l:List Int}(h:OutsV C v l)(hl:Le C C'):OutsV C' v l:=⟨h.1,h.2.1,h.2.2.choose,fun G hG=>h.2.2.choose_spec G (hl.trans hG)⟩
theorem ProgO.lent{C G:AHeap}{p:PR}{cv ov:AV}(h1:CodeV C cv p.code)(h2:OutsV C ov p.outs)(hl:Le C G):Lent G (ProgO p cv ov) (ProgA p):=
 Lent.agg ⟨Lent.same,Lent.same,(h1.2.2.choose_spec G hl).1,(h2.2.2.choose_spec G hl).1,trivial⟩
theorem cpy_IC{H:AHeap}{b ty N:Nat}{t:Bool}{o xs:List Int}{y:AV}{K:AV→AHeap→Prop}(hH:H b=some (.row ty 2 (IC o)))(ho:o.length=N)(hy:RowO H y xs)(h:xs.length≤N)(k:K (.int .i64 ((xs.length:Nat):Int)) (H.upd b (some (.row ty 2 (IC (xs++o.drop xs.length)))))):
 cpyW H 2 (.own b (N*2) 0 N t) y K:=by
 have hlo:(IC o).length=N*2:=by rw[IC_len,ho]
 rcases hy with⟨rfl,rfl⟩|⟨h0,b',rfl,hb'⟩
 ·have e:H.upd b (some (.row ty 2 (IC o)))=H:=funext fun i=>by
   by_cases e:i=b
   ·subst e;rw[upd_same,hH]
   ·rw[upd_other _ _ e]
  simp only[List.nil_append,List.length_nil,List.drop_zero]at k
  simp[cpyW,srcW,hH,hlo,splice]
  simpa using k
 ·simp[cpyW,srcW,hH,hlo,hb',IC_len]
  have em:xs.length.min N=xs.length:=Nat.min_eq_left h
  have et:List.take (xs.length*2) (IC xs)=IC xs:=List.take_of_length_le (by rw[IC_len];omega)
  have es:splice (IC o) 0 (IC xs)=IC (xs++o.drop xs.length):=by
   unfold splice
   rw[List.take_zero,List.nil_append,Nat.zero_add,IC_len,IC_app,IC_dp (by omega)]
  rw[em,et,et,es]
  refine⟨fun x hx=>?_,k⟩
  simp only[IC,List.mem_flatMap]at hx
  obtain⟨z,-,hx⟩:=hx
  have:=List.all_eq_true.1 (cellI (z:=z)) x hx
  exact this
theorem cpy_ICf{H:AHeap}{b ty N:Nat}{t t':Bool}{o xs:List Int}{K:AV→AHeap→Prop}(hH:H b=some (.row ty 2 (IC o)))(ho:o.length=N)(h:xs.length≤N)(k:K (.int .i64 ((xs.length:Nat):Int)) (H.upd b (some (.row ty 2 (IC (xs++o.drop xs.length)))))):
 cpyW H 2 (.own b (N*2) 0 N t) (RowA xs t') K:=by
 have hlo:(IC o).length=N*2:=by rw[IC_len,ho]
 simp[cpyW,srcW,hH,hlo,IC_len]
 have em:xs.length.min N=xs.length:=Nat.min_eq_left h
 have et:List.take (xs.length*2) (IC xs)=IC xs:=List.take_of_length_le (by rw[IC_len];omega)
 have es:splice (IC o) 0 (IC xs)=IC (xs++o.drop xs.length):=by
  unfold splice
  rw[List.take_zero,List.nil_append,Nat.zero_add,IC_len,IC_app,IC_dp (by omega)]
 rw[em,et,es]
 refine⟨fun x hx=>?_,k⟩
 simp only[IC,List.mem_flatMap]at hx
 obtain⟨z,-,hx⟩:=hx
 exact List.all_eq_true.1 (cellI (z:=z)) x hx
def RowV(M:AHeap)(y:AV)(zs:List Int):Prop:=RowO M y zs∨∃t,y=RowA zs t
theorem RowV.le{M M':AHeap}{y:AV}{zs:List Int}(h:RowV M y zs)(hl:Le M M'):RowV M' y zs:=h.imp (·.le hl) id
theorem RowV.len{M:AHeap}{y:AV}{zs:List Int}(h:RowV M y zs)(hn:zs.length<9223372036854775808){K:AV→Prop}:lenW false y K=K (.int .i64 ((zs.length:Nat):Int)):=by
 rcases h with h|⟨t,rfl⟩
 ·exact h.len hn
 ·exact len_rw hn
theorem cpy_IV{H:AHeap}{b ty N:Nat}{t:Bool}{o xs:List Int}{y:AV}{K:AV→AHeap→Prop}(hH:H b=some (.row ty 2 (IC o)))(ho:o.length=N)(hy:RowV H y xs)(h:xs.length≤N)(k:K (.int .i64 ((xs.length:Nat):Int)) (H.upd b (some (.row ty 2 (IC (xs++o.drop xs.length)))))):
 cpyW H 2 (.own b (N*2) 0 N t) y K:=by
 rcases hy with hy|⟨t',rfl⟩
 ·exact cpy_IC hH ho hy h k
 ·exact cpy_ICf hH ho h k
theorem told10_fn{n:Int}{x:Int}:PFn Tryz.prog 86 [.int .i64 n,IntA x] (.bool true):=by
 intro H Q hq
 refine enter86 (by simp) ?_
 simp(disch:=first|exact Xe|fail)only[ac86,cells_IntA,↓Xa,Xb,Xc,↓reduceIte,Nat.reduceLT,Nat.reduceEqDiff,Nat.reduceBEq,Nat.reduceLeDiff,Nat.reduceAdd,Nat.reduceMul]
 refine alloc_i fun q hq'=>?_
 simp(disch:=first|exact Xe|fail)only[rs86,↓Xa,Xb,Xc,↓reduceIte,Nat.reduceLT,Nat.reduceEqDiff,Nat.reduceBEq,Nat.reduceLeDiff,Nat.reduceAdd,Nat.reduceMul]
 exact SetR.dropTo ((Le.refl H).updB hq') (SetR.now hq)
def outs10(p:PR)(xs:List Int):List Int:=p.outs.map fun r=>(runX doZ 0 p.code (xs++List.replicate (p.regs.toNat-xs.length) 0)).2.getD r.toNat 0
def steps10(p:PR)(xs:List Int):List Int:=(runX doZ 0 p.code (xs++List.replicate (p.regs.toNat-xs.length) 0)).1
theorem run10{H:AHeap}{p:PR}{cv ov y:AV}{xs:List Int}{k0:Nat}{Q:AV→AHeap→Prop}(hp:p.ok)(hcv:CodeV H cv p.code)(hov:OutsV H ov p.outs)(hy:RowV H y xs)(hz: ∀z,z∈xs→Bd k0 z)(hxl:xs.length<9223372036854775808)
 (hk:rightP p→xs.length=p.ins→k0+3*p.code.length≤100000)
 (hq1:(¬rightP p∨(xs.length:Int)≠p.ins)→Q (.tup [.seq 0 [] true,.int .i64 ((0:Nat):Int),.int .i64 ((rgtE p xs.length:Nat):Int)]) H)
 (hq2:rightP p→xs.length=p.ins→(steps10 p xs).length<p.code.length→Q (.tup [.seq 0 [] true,.int .i64 (((steps10 p xs).length:Nat):Int),.int .i64 ((20:Nat):Int)]) H)
 (hq3:rightP p→xs.length=p.ins→(steps10 p xs).length=p.code.length→∀r M,growC H 48 2 p.outs.length (IC (outs10 p xs)) r M→Q (.tup [r,.int .i64 ((0:Nat):Int),.int .i64 ((0:Nat):Int)]) M):
 Run Tryz.prog 17 [ProgO p cv ov,y] H Q:=by
 refine enter17 (by simp) ?_
 simp(disch:=first|exact Xe|fail)only[ac17,cells_ProgO hcv.1 hov.1,↓Xa,Xb,Xc,↓reduceIte,Nat.reduceLT,Nat.reduceEqDiff,Nat.reduceBEq,Nat.reduceLeDiff,Nat.reduceAdd,Nat.reduceMul]
 refine alloc_i fun p2 hp2=>?_
 have hl2:Le H (H.upd p2 (some (.row 25 0 [.int .i64 p.ins,.int .i64 p.regs,cv,ov]))):=(Le.refl H).updB hp2
 simp(disch:=first|exact Xe|fail)only[fold_ProgO,hy.len hxl,↓Xa,Xb,Xc,↓reduceIte,Nat.reduceLT,Nat.reduceEqDiff,Nat.reduceBEq,Nat.reduceLeDiff,Nat.reduceAdd,Nat.reduceMul]
 refine PFn.lcall (right10_fn p hp xs.length) rfl ⟨ProgO.lent hcv hov hl2,Lent.same,trivial⟩ ?_
 by_cases hr:rightP p∧(xs.length:Int)=p.ins
 ·have e0:rgtE p xs.length=0:=by simp[rgtE,hr.1,hr.2]
  rw[e0]
  obtain⟨hr1,hr2⟩:=hr
  have hh:=hr1.1
  unfold headP at hh
  obtain⟨N,hN⟩: ∃N:Nat,p.regs=(N:Int):=⟨p.regs.toNat,by omega⟩
  have hxN:xs.length≤N:=by omega
  simp(disch:=first|exact Xe|fail)only[neq_int,hN,↓Xa,Xb,Xc,↓reduceIte,Nat.reduceLT,Nat.reduceEqDiff,Nat.reduceBEq,Nat.reduceLeDiff,Nat.reduceAdd,Nat.reduceMul]
  rw[mks_I (by omega)]
  intro b hb
  have hbp:=(upd_none.1 hb).1
  have hbH:=(upd_none.1 hb).2
  have hyM:RowV ((H.upd p2 (some (.row 25 0 [.int .i64 p.ins,.int .i64 (N:Int),cv,ov]))).upd b (some (.row 48 2 (IC (List.replicate N 0))))) y xs:=hy.le (((Le.refl H).updB hp2).trans ((Le.refl _).updB hb))
  simp(disch:=first|exact Xe|fail)only[↓Xa,Xb,Xc,↓reduceIte,Nat.reduceLT,Nat.reduceEqDiff,Nat.reduceBEq,Nat.reduceLeDiff,Nat.reduceAdd,Nat.reduceMul]
  refine cpy_IV (upd_same _ _ _) (by simp) hyM hxN ?_
  simp(disch:=first|exact Xe|fail)only[fold_ProgO,↓Xa,Xb,Xc,↓reduceIte,Nat.reduceLT,Nat.reduceEqDiff,Nat.reduceBEq,Nat.reduceLeDiff,Nat.reduceAdd,Nat.reduceMul]
  have eP:AV.agg [.int .i64 p.ins,.int .i64 (N:Int),cv,ov]=ProgO p cv ov:=by rw[ProgO,hN]
  have eD:xs++List.drop xs.length (List.replicate N 0)=xs++List.replicate (p.regs.toNat-xs.length) 0:=by
   rw[List.drop_replicate,hN];rfl
  refine PFn.dcall numbers10_fn ?_
  simp(disch:=first|exact Xe|fail)only[eP,eD,↓Xa,Xb,Xc,↓reduceIte,Nat.reduceLT,Nat.reduceEqDiff,Nat.reduceBEq,Nat.reduceLeDiff,Nat.reduceAdd,Nat.reduceMul]
  have hb2:(H.upd p2 (some (.row 25 0 [.int .i64 p.ins,.int .i64 (N:Int),cv,ov]))) b=none:=hb
  refine run_call (run10_run (C:=H) (A:=nilH) (k0:=k0) (S:=steps10 p xs) (J:=fun _ A=>A=nilH) (Jx:=fun _=>False) un_nil.symm rfl dj_nil (upd_same _ _ _) (by simp;omega) (fun i hi=>by rw[← hN];exact hr1.2.2 i hi) ?_ (hk hr1 hr2) rfl hcv hov.1 (((Le.refl H).updB hp2).trans ((Le.refl _).updB hb)) hbH ?_ ?_)
  ·intro z hm
   rcases List.mem_append.1 hm with hm|hm
   ·exact hz z hm
   ·rw[List.mem_replicate]at hm;rw[hm.2];exact Bd.zero _
  ·rintro pre x rest A B-hd rfl
   exact told10_fn.call ⟨nilH,hd,rfl,.inl ⟨rfl,rfl⟩⟩
  intro r A' regs' hl' hbd hdj hcase
  have gm1:decide (((0:Nat):Int)≤ -1)=false:=by decide
  have hlN:(IC regs').length=N*2:=by rw[IC_len,hl']
  rcases hcase with⟨rfl,hSl,rfl,hre⟩|⟨rfl,hSl,rfl⟩|⟨_,h⟩
  ·rw[un_nil,upd_upd]
   have hou:outs10 p xs=p.outs.map fun r=>regs'.getD r.toNat 0:=by rw[hre];rfl
   have hol:(outs10 p xs).length=p.outs.length:=by simp[outs10]
   obtain⟨hoc,hon,qf,hoq⟩:=hov
   simp(disch:=first|exact Xe|fail)only[geqI,gm1,hon,↓Xa,Xb,Xc,↓reduceIte,Nat.reduceLT,Nat.reduceEqDiff,Nat.reduceBEq,Nat.reduceLeDiff,Nat.reduceAdd,Nat.reduceMul]
   have hlG:Le H ((H.upd p2 (some (.row 25 0 [.int .i64 p.ins,.int .i64 (N:Int),cv,ov]))).upd b (some (.row 48 2 (IC regs')))):=((Le.refl H).updB hp2).updB hbH
   generalize hG:((H.upd p2 (some (.row 25 0 [.int .i64 p.ins,.int .i64 (N:Int),cv,ov]))).upd b (some (.row 48 2 (IC regs'))))=G at*
   have hGb:G b=some (.row 48 2 (IC regs')):=by rw[← hG,upd_same]
   refine W_loop (fun s:Nat×AV×AHeap=>⟨[],[(8,.own b (N*2) 0 N true),(10,s.2.1),(34,ov),(35,.int .i64 p.outs.length),(36,.int .i64 s.1)],s.2.2⟩)
    (fun s=>s.1≤p.outs.length∧growC G 48 2 s.1 (IC ((outs10 p xs).take s.1)) s.2.1 s.2.2) (fun s=>p.outs.length-s.1) (0,.seq 0 [] true,G) (Settle.now rfl) ⟨Nat.zero_le _,growC_nil⟩ ?_
   rintro⟨j,z,M⟩ ⟨h1,hg⟩
   dsimp only at h1 hg ⊢
   by_cases hj:j<p.outs.length
   ·have hjo:=hr1.2.1 _ (List.getElem_mem hj)
    obtain⟨w,hw⟩: ∃w:Nat,p.outs[j]=(w:Int):=⟨(p.outs[j]).toNat,by omega⟩
    have hwN:w<N:=by omega
    have hwr:w<regs'.length:=by omega
    have hGM:=hlG.trans (growC_le hg)
    have hix:=((hoq M hGM).2 j hj).1
    have hlx:=((hoq M hGM).2 j hj).2
    have mb:M b=some (.row 48 2 (IC regs')):=growC_old hg hGb
    simp(disch:=first|exact Xe|fail)only[hj,hix,hlx,hw,mb,idx_own2',hlN,ldP_IC hl' hwr,fold_IntA,cells_IntA,repI1,↓Xa,Xb,Xc,↓reduceIte,Nat.reduceLT,Nat.reduceEqDiff,Nat.reduceBEq,Nat.reduceLeDiff,Nat.reduceAdd,Nat.reduceMul]
    refine app_C (m:=1) hg rfl cellI (by omega) (by omega) (by omega) fun y' M2 hg4=>?_
    have et:(outs10 p xs)[j]'(by omega)=regs'[w]:=by
     simp only[hou,List.getElem_map,hw]
     simp[List.getD_eq_getElem?_getD,List.getElem?_eq_getElem hwr]
    rw[← et,← IC_take (by omega)]at hg4
    simp(disch:=first|exact Xe|fail)only[↓Xa,Xb,Xc,↓reduceIte,Nat.reduceLT,Nat.reduceEqDiff,Nat.reduceBEq,Nat.reduceLeDiff,Nat.reduceAdd,Nat.reduceMul]
    exact Settle.now ⟨(j+1,y',M2),by dsimp only;omega,⟨by dsimp only;omega,hg4⟩,rfl⟩
   ·obtain rfl:j=p.outs.length:=by omega
    rw[List.take_of_length_le (by omega)]at hg
    simp(disch:=first|exact Xe|fail)only[hj,↓Xa,Xb,Xc,↓reduceIte,Nat.reduceLT,Nat.reduceEqDiff,Nat.reduceBEq,Nat.reduceLeDiff,Nat.reduceAdd,Nat.reduceMul]
    refine Settle.now ?_
    simp(disch:=first|exact Xe|fail)only[rs17,↓Xa,Xb,Xc,↓reduceIte,Nat.reduceLT,Nat.reduceEqDiff,Nat.reduceBEq,Nat.reduceLeDiff,Nat.reduceAdd,Nat.reduceMul]
    obtain⟨M2,hg2,hl3⟩:=growC_le2 hg hlG
    exact SetR.dropTo hl3 (SetR.now (hq3 hr1 hr2 hSl _ _ hg2))
  ·rw[un_nil,upd_upd]
   have hge:decide (((0:Nat):Int)≤(((steps10 p xs).length:Nat):Int))=true:=decide_eq_true (by omega)
   simp(disch:=first|exact Xe|fail)only[geqI,hge,rs17,↓Xa,Xb,Xc,↓reduceIte,Nat.reduceLT,Nat.reduceEqDiff,Nat.reduceBEq,Nat.reduceLeDiff,Nat.reduceAdd,Nat.reduceMul]
   exact SetR.dropTo (((Le.refl H).updB hp2).updB hbH) (SetR.now (hq2 hr1 hr2 hSl))
  ·exact h.elim
 ·have e0: ∃n:Nat,rgtE p xs.length=n+1:=by
   unfold rgtE
   split
   ·rw[if_neg (fun e=>hr ⟨‹_›,e⟩)];exact⟨_,rfl⟩
   ·exact⟨_,rfl⟩
  obtain⟨n,e0⟩:=e0
  have hd:decide (((n+1:Nat):Int)=((0:Nat):Int))=false:=decide_eq_false (by omega)
  rw[e0]
  simp(disch:=first|exact Xe|fail)only[neq_int,hd,rs17,↓Xa,Xb,Xc,↓reduceIte,Nat.reduceLT,Nat.reduceEqDiff,Nat.reduceBEq,Nat.reduceLeDiff,Nat.reduceAdd,Nat.reduceMul]
  refine SetR.dropTo hl2 (SetR.now ?_)
  rw[← e0];exact hq1 (by by_cases h:rightP p;exact .inr fun e=>hr ⟨h,e⟩;exact .inl h)
def ans10(p:PR)(xs:List Int):List Int×Nat×Nat:=
 if rightP p∧(xs.length:Int)=p.ins then(if(steps10 p xs).length<p.code.length then([],(steps10 p xs).length,20)else(outs10 p xs,0,0))else([],0,rgtE p xs.length)
theorem run10'{H:AHeap}{p:PR}{cv ov y:AV}{xs:List Int}{k0:Nat}{Q:AV→AHeap→Prop}(hp:p.ok)(hcv:CodeV H cv p.code)(hov:OutsV H ov p.outs)(hy:RowV H y xs)(hz: ∀z,z∈xs→Bd k0 z)(hxl:xs.length<9223372036854775808)
 (hk:rightP p→xs.length=p.ins→k0+3*p.code.length≤100000)
 (hq: ∀r M,growC H 48 2 (ans10 p xs).1.length (IC (ans10 p xs).1) r M→Q (.tup [r,.int .i64 (((ans10 p xs).2.1:Nat):Int),.int .i64 (((ans10 p xs).2.2:Nat):Int)]) M):
 Run Tryz.prog 17 [ProgO p cv ov,y] H Q:=by
 refine run10 hp hcv hov hy hz hxl hk (fun h=>?_) (fun h1 h2 h3=>?_) fun h1 h2 h3 r M hg=>?_
 ·have e:ans10 p xs=([],0,rgtE p xs.length):=by rw[ans10,if_neg (fun hh=>h.elim (fun f=>f hh.1) fun f=>f hh.2)]
  rw[e]at hq;exact hq _ _ growC_nil
 ·have e:ans10 p xs=([],(steps10 p xs).length,20):=by rw[ans10,if_pos ⟨h1,h2⟩,if_pos h3]
  rw[e]at hq;exact hq _ _ growC_nil
 ·have e:ans10 p xs=(outs10 p xs,0,0):=by rw[ans10,if_pos ⟨h1,h2⟩,if_neg (by omega)]
  rw[e]at hq
  have el:(outs10 p xs).length=p.outs.length:=by simp[outs10]
  rw[← el]at hg
  exact hq _ _ hg
def gridN(g:List (List Int)):Nat:=sumN (g.map fun l=>1+l.length)
def shN(l:List Ins):Nat:=sumN (l.map fun i=>if i.op=7 then 1 else 0)
def longP(p:PR)(g:List (List Int))(n:Nat):Prop:=400<n+gridN g∨60<p.code.length∨128<p.outs.length∨12<shN p.code
instance (p:PR)(g:List (List Int))(n:Nat):Decidable (longP p g n):=by unfold longP;infer_instance
theorem grid_map(g:List (List Int)):g.flatMap gridC=g.map fun l=>OutsA l false:=by
 induction g with
 |nil=>rfl
 |cons a g ih=>rw[List.flatMap_cons,ih];rfl
theorem dlen_rw{n:Nat}{c:List AV}{t:Bool}{KD:AV→List Nat→Option (Nat×ABlk)→Prop}(h:n<9223372036854775808):dlen KD false (.seq n c t)↔KD (.int .i64 ((n:Nat):Int)) [] none:=by simp[dlen,h]
abbrev rR(r:List Int):AV:=RefR r false
def GC(g:List (List Int)):List AV:=g.map rR
theorem idx_ownR{G:AHeap}{b m i ty:Nat}{t:Bool}{cells:List AV}(hG:G b=some (.row ty 1 cells))(hl:cells.length=m)(hi:i<m){k:IntKind}{K:AV→Prop}:(liveS G (.own b m 0 m t)∧idxAW 1 (.own b m 0 m t) (.int k (i:Int)) K)↔K (.ptr b m i):=by simp[liveS,idxAW,hG,hl,hi]
def GoodG(k L:Nat)(g:List (List Int)):Prop:= ∀r,r∈g→r.length=L∧RB4 k r
theorem Run.weak{P:Program}{f:FuncId}{args:List AV}{H:AHeap}{Q Q':AV→AHeap→Prop}(h:Run P f args H Q)(hq: ∀r H',Q r H'→∃r',Wk r r'∧Q' r' H'):Run P f args H Q':=
 ⟨h.1,fun c vs hH hok hs he=>(h.2 c vs hH hok hs he).mono fun _ _ ⟨c',v,r,a1,a2,a3,a4,a5,a6⟩=>let⟨r',hw,q⟩:=hq _ _ a6;⟨c',v,r',a1,a2,a3,a4,hw c' v a5,q⟩⟩
theorem PFn.weak{P:Program}{f:FuncId}{args:List AV}{r r':AV}(h:PFn P f args r)(hw:Wk r r'):PFn P f args r':=fun H Q hq=>
 Run.weak (h H (fun x H'=>x=r∧H'=H) ⟨rfl,rfl⟩) fun x H' ⟨e1,e2⟩=>⟨r',e1▸hw,e2▸hq⟩
theorem Wk.cells{n:Nat}{a b:List AV}{t:Bool}(hl:a.length=b.length)(h: ∀i(h1:i<a.length)(h2:i<b.length),Wk (a[i]) (b[i])):Wk (.seq n a t) (.seq n b false):=fun c v he=>by
 cases he with
 |seq _ _ _ base cap cv hlen hcap hmax ht hb hn hce=>
  exact .seq n b false base cap cv (fun e=>List.length_eq_zero_iff.1 (by rw[← hl,hlen e];rfl)) hcap hmax (fun e=>by cases e) (fun hp=>by rw[← hl]at hp ⊢; exact hb hp) hn fun i hi=>h i (by omega) hi c _ (hce i (by omega))
theorem Wk.l0{n:Nat}{cells:List AV}{t:Bool}:Wk (.seq n cells t) (.seq n cells false):=fun _ _ h=>enc_loose _ _ h
def regsR(p:PR)(grid:List (List Int))(L:Nat):List (List Int):=grid++List.replicate (p.regs.toNat-grid.length) (List.replicate L 0)
def stepsR(p:PR)(grid:List (List Int))(L:Nat):List (List Int):=(runX doR [] p.code (regsR p grid L)).1
def outsR(p:PR)(grid:List (List Int))(L:Nat):List (List Int):=p.outs.map fun r=>(runX doR [] p.code (regsR p grid L)).2.getD r.toNat []
abbrev GA(g:List (List Int))(t:Bool):AV:=.seq g.length (GC g) t
theorem GC_take{g:List (List Int)}{i:Nat}(h:i<g.length):GC (g.take (i+1))=GC (g.take i)++[rR (g[i])]:=by
 unfold GC;rw[List.take_succ_eq_append_getElem h,List.map_append];rfl
theorem cellG{r:List Int}:[rR r].all AV.cell=true:=rfl
theorem splice1{l:List AV}{i:Nat}{x:AV}(h:i<l.length):splice l i [x]=l.set i x:=by
 unfold splice
 rw[List.set_eq_take_append_cons_drop,if_pos h];simp
theorem stP_1{H:AHeap}{b N j ty:Nat}{x:AV}{cells:List AV}{K:AV→AHeap→Prop}(hN:cells.length=N)(hj:j<N):stP H 1 b N j K (some [x]) (some (.row ty 1 cells))↔K .bot (H.upd b (some (.row ty 1 (cells.set j x)))):=by
 rw[stP_row (n:=1) (l:=[x]) hN rfl (by omega),splice1 (by omega)]
theorem Settle.frzC{K:St→Prop}{D:List Nat}{E:Env}{H:AHeap}(r b:Nat){ty es ty' es':Nat}{cells cs:List AV}(cs':List AV)(hl:cs'.length=cs.length)(hw: ∀i(h:i<cs.length)(h':i<cs'.length),Wk (frz1 b es cells (cs[i])) (cs'[i]))(hb:H b=some (.row ty es cells))(hr:H r=some (.row ty' es' cs))(hne:r≠b)(h:Settle K ⟨D,E.map (Fw.frz b es cells),(H.upd b none).upd r (some (.row ty' es' cs'))⟩):Settle K ⟨D,E,H⟩:=by
 refine Settle.join ?_
 intro N c a hc hok hr2
 have hc:c.H=H:=hc
 have hb':c.H b=some (.row ty es cells):=hc▸hb
 have ok1:=Ctx.drop_ok hok b
 have hH1:(c.drop b).H r=some (.row ty' es' cs):=by
  show(c.H.upd b none) r=_
  rw[upd_other _ _ hne,hc];exact hr
 obtain⟨arr,k1,k2,k3⟩:=hok.blk r _ (hc▸hr)
 have l2:Later (c.drop b) ((c.drop b).put r (.row ty' es' cs') arr):=Ctx.put_later ok1 hH1 k1 (by omega) rfl
 have ok2:Ok ((c.drop b).put r (.row ty' es' cs') arr):=Ctx.put_ok ok1 hH1 k1 (by omega) rfl (by omega) fun i hi hi'=>hw i (by omega) hi _ _ (enc_frz1 hok hb' _ _ (k3 i (by omega) hi'))
 have hw2:((c.drop b).put r (.row ty' es' cs') arr).w=c.w:=setRow_self _ _ _ _ _ k1
 refine⟨_,⟨D,E.map (Fw.frz b es cells),_⟩,?_,hw2,ok2,?_,(c.drop_later b).trans l2,h⟩
 ·show(c.H.upd b none).upd r _=_
  rw[hc]
 ·have hr':=hr2.later ((c.drop_later b).trans l2)
  refine⟨hr'.size,fun u=>?_,hr'.dlen,hr'.dmark⟩
  rw[Env.get_map _ rfl]
  exact(enc_frz hok hb' _ _ (hr2.tmp u)).later l2
abbrev rI(r:List Int):AV:=RowA r false
def GI(g:List (List Int)):List AV:=g.map rI
theorem GI_len(g:List (List Int)):(GI g).length=g.length:=by simp[GI]
theorem ldP_1{ty m j:Nat}{cells:List AV}{x:AV}{K:AV→Prop}(hl:cells.length=m)(hj:j<m)(hx:cells[j]? =some x):ldP none m j K (some (.row ty 1 cells))↔K x:=by
 have hj':j<cells.length:=by omega
 have e:(cells.drop j).take 1=[x]:=by
  rw[List.drop_eq_getElem_cons hj']
  rw[List.getElem?_eq_getElem hj']at hx;injection hx with hx
  simp[hx]
 have h2:j+1≤m:=by omega
 simp only[ldP,hl,h2,true_and,Option.getD_none,e]
 rfl
theorem ldP_GI{ty m j:Nat}{g:List (List Int)}{K:AV→Prop}(hl:g.length=m)(hj:j<g.length):ldP none m j K (some (.row ty 1 (GI g)))↔K (rI (g[j])):=ldP_1 (by rw[GI_len,hl]) (by omega) (by simp[GI,hj])
theorem GI_take{g:List (List Int)}{i:Nat}(h:i<g.length):GI (g.take (i+1))=GI (g.take i)++[rI (g[i])]:=by
 unfold GI;rw[List.take_succ_eq_append_getElem h,List.map_append];rfl
theorem cellGI{r:List Int}:[rI r].all AV.cell=true:=rfl
section
variable {zs ws:List Int} {t t':Bool} {k:Nat}
end
def gridE(p:PR)(g:List (List Int)):Nat:=if rightP p∧(g.length:Int)=p.ins then(if(∀r,r∈g→r.length=(g.getD 0 []).length)∧(g.getD 0 []).length≤4096 then 0 else 5)else rgtE p g.length
abbrev GIA(g:List (List Int))(t:Bool):AV:=.seq g.length (GI g) t
theorem nilI_nil{g t:Bool}{K:AV→Prop}:nilW g (RowA [] t) K↔(K (.bool true)∧K (.bool false)):=by simp[nilW]
theorem nilI_pos{g t:Bool}{zs:List Int}{K:AV→Prop}(h:0<zs.length):nilW g (RowA zs t) K↔K (.bool g):=by
 cases zs with
 |nil=>simp at h
 |cons x l=>simp[nilW]
theorem cellIC10(zs:List Int):(IC zs).all AV.cell=true:=by
 induction zs with
 |nil=>rfl
 |cons z zs ih=>simp only[IC,List.flatMap_cons,List.all_append]at *; rw[ih];rfl
theorem cloneI_run{zs:List Int}{t:Bool}(hbig:zs.length≤1000000){H:AHeap}{Q:AV→AHeap→Prop}(hq: ∀y M,growC H 48 2 zs.length (IC zs) y M→Q y M):Run Tryz.prog 101 [RowA zs t] H Q:=by
 refine enter101 (by simp) ?_
 rcases Nat.eq_zero_or_pos zs.length with h0|h0
 ·obtain rfl:=List.length_eq_zero_iff.1 h0
  simp(disch:=first|exact Xe|fail)only[ac101,nilI_nil,↓Xa,Xb,Xc,↓reduceIte,Nat.reduceLT,Nat.reduceEqDiff,Nat.reduceBEq,Nat.reduceLeDiff,Nat.reduceAdd,Nat.reduceMul]
  refine⟨?_,?_⟩
  ·simp(disch:=first|exact Xe|fail)only[rs101,↓Xa,Xb,Xc,↓reduceIte,Nat.reduceLT,Nat.reduceEqDiff,Nat.reduceBEq,Nat.reduceLeDiff,Nat.reduceAdd,Nat.reduceMul]
   exact SetR.now (hq _ _ growC_nil)
  ·refine .inl ⟨rfl,rfl,?_⟩
   refine⟨rfl,rfl,by simp,by simp,fun _=>?_,fun e=>absurd e (by simp)⟩
   simp(disch:=first|exact Xe|fail)only[rs101,↓Xa,Xb,Xc,↓reduceIte,Nat.reduceLT,Nat.reduceEqDiff,Nat.reduceBEq,Nat.reduceLeDiff,Nat.reduceAdd,Nat.reduceMul]
   exact SetR.now (hq _ _ growC_nil)
 ·simp(disch:=first|exact Xe|fail)only[ac101,nilI_pos h0,↓Xa,Xb,Xc,↓reduceIte,Nat.reduceLT,Nat.reduceEqDiff,Nat.reduceBEq,Nat.reduceLeDiff,Nat.reduceAdd,Nat.reduceMul]
  refine app_C (n:=0) (m:=zs.length) growC_nil (IC_len zs) (cellIC10 zs) h0 (by omega) (by omega) fun y M hg=>?_
  rw[Nat.zero_add,List.nil_append]at hg
  simp(disch:=first|exact Xe|fail)only[rs101,↓Xa,Xb,Xc,↓reduceIte,Nat.reduceLT,Nat.reduceEqDiff,Nat.reduceBEq,Nat.reduceLeDiff,Nat.reduceAdd,Nat.reduceMul]
  exact SetR.now (hq y M hg)
theorem cloneI_fn{zs:List Int}{t:Bool}(hbig:zs.length≤1000000):PFn Tryz.prog 101 [RowA zs t] (rI zs):=PFn.frozen fun _ _ hq=>cloneI_run hbig hq
def ansR(p:PR)(g:List (List Int)):List (List Int)×Nat×Nat:=
 if gridE p g=0 then(if(stepsR p g (g.getD 0 []).length).length<p.code.length then([],(stepsR p g (g.getD 0 []).length).length,20)else(outsR p g (g.getD 0 []).length,0,0))else([],0,gridE p g)
theorem gridE_0{p:PR}{g:List (List Int)}(h:gridE p g=0):rightP p∧(g.length:Int)=p.ins∧(∀r,r∈g→r.length=(g.getD 0 []).length)∧(g.getD 0 []).length≤4096:=by
 unfold gridE at h
 split at h
 ·rename_i hr
  split at h
  ·rename_i hh;exact⟨hr.1,hr.2,hh.1,hh.2⟩
  ·cases h
 ·rename_i hr
  unfold rgtE at h
  split at h
  ·split at h
   ·rename_i h1 h2;exact absurd ⟨h1,h2⟩ hr
   ·cases h
  ·cases h
def frzP2(b:Nat)(cells:List AV):AV→AV
 |.cptr l=>.cptr (l.map (frzP b cells))
 |x=>frzP1 b cells x
def frzPP(b:Nat)(cells:List AV):AV→AV
 |.fn f first caps=>.fn f first (caps.map (frzP2 b cells))
 |x=>frzP1 b cells x
theorem enc_frzP2{c:Ctx}(hok:Ok c){b:Nat}{ty:TypeId}{es:Nat}{cells:List AV}(hH:c.H b=some (.row ty es cells))(x:AV)(v:Value)(h:Enc c x v):Enc (c.drop b) (frzP2 b cells x) v:=by
 unfold frzP2
 split
 ·rename_i l
  cases h with
  |cptr _ k off cv hm hk hcell hc=>
   have hl:=(c.drop_later b).toLater0
   exact .cptr _ k off cv (hl.keep k hk hm).2 hk (fun i hi=>hcell i (by simpa using hi)) fun i hi=>by
    rw[List.getElem_map];exact enc_frzP hok hH _ _ (hc i (by simpa using hi))
 ·exact enc_frzP1 hok hH _ _ h
theorem enc_frzPP{c:Ctx}(hok:Ok c){b:Nat}{ty:TypeId}{es:Nat}{cells:List AV}(hH:c.H b=some (.row ty es cells))(x:AV)(v:Value)(h:Enc c x v):Enc (c.drop b) (frzPP b cells x) v:=by
 unfold frzPP
 split
 ·cases h with
  |fn f first caps fv cv hf hcs h1 h2=>exact .fn _ _ _ _ _ hf (by simpa using hcs) (fun i hi hi'=>(h1 i hi hi').later (c.drop_later b)) (Enc.list_map (enc_frzP2 hok hH) h2)
 ·exact enc_frzP1 hok hH _ _ h
theorem SetR.frzPP{Q:AV→AHeap→Prop}{r:AV}{H:AHeap}(b:Nat){ty:TypeId}{es:Nat}{cells:List AV}(hb:H b=some (.row ty es cells))(h:SetR Q (Fw.frzPP b cells r) (H.upd b none)):SetR Q r H:=
 SetR.join fun c v hH hok he=>⟨c.drop b,_,rfl,Ctx.drop_ok hok b,c.drop_later b,enc_frzPP hok (hH▸hb) _ _ he,by show SetR Q _ (c.H.upd b none);rw[hH];exact h⟩
def FnAns(f:AV)(args:List AV)(r:AV):Prop:= ∀(H:AHeap)(K:AV→AHeap→Prop),K r H→callW Tryz.prog f args H K
theorem FnAns.of{f:FuncId}{args:List AV}{r:AV}(h:PFn Tryz.prog f args r):FnAns (.fn (.func f) [] []) args r:=fun _ _ hk=>h.call hk
theorem FnAns.caps{f:FuncId}{args caps:List AV}{r:AV}(h:PFn Tryz.prog f (args++caps) r):FnAns (.fn (.func f) [] caps) args r:=fun H K hk=>callW_fn (h H K hk)
theorem load_c1{H:AHeap}{x:AV}{K:AV→Prop}:loadW H none (.cptr [x]) K=K x:=by simp[loadW,cellsAt]
theorem load_ic{H:AHeap}{i:Ins}{K:AV→Prop}:loadW H none (.cptr ((insC i).drop 4)) K=K (.int .i64 i.c):=by simp[loadW,cellsAt,insC]
theorem always_fn{f:AV}(hf:f.cells=some [f]):PFn Tryz.prog 166 [f] (.fn (.func 167) [] [.cptr [f]]):=by
 intro H Q hq
 refine enter166 (by simp) ?_
 simp(disch:=first|exact Xe|fail)only[ac166,hf,↓Xa,Xb,Xc,↓reduceIte,Nat.reduceLT,Nat.reduceEqDiff,Nat.reduceBEq,Nat.reduceLeDiff,Nat.reduceAdd,Nat.reduceMul]
 refine alloc_i fun p1 hp1=>?_
 have n1:=hp1
 simp(disch:=first|exact Xe|fail)only[rs166,↓Xa,Xb,Xc,↓reduceIte,Nat.reduceLT,Nat.reduceEqDiff,Nat.reduceBEq,Nat.reduceLeDiff,Nat.reduceAdd,Nat.reduceMul]
 refine SetR.frzP p1 (upd_same _ _ _) ?_
 rw[upd_upd,upd_back _ n1]
 have e:frzP p1 [f] (.fn (.func 167) [] [.ptr p1 1 0])=.fn (.func 167) [] [.cptr [f]]:=by simp[frzP,frzP1]
 rw[e];exact SetR.now hq
theorem always_ans{f:AV}{a b r:Int}(h:FnAns f [IntA a,IntA b] (IntA r)):FnAns (.fn (.func 167) [] [.cptr [f]]) [IntA a,IntA b] (.tup [IntA r,.bool true]):=by
 refine FnAns.caps ?_
 intro H Q hq
 refine enter167 (by simp) ?_
 simp(disch:=first|exact Xe|fail)only[ac167,cells_IntA,↓Xa,Xb,Xc,↓reduceIte,Nat.reduceLT,Nat.reduceEqDiff,Nat.reduceBEq,Nat.reduceLeDiff,Nat.reduceAdd,Nat.reduceMul]
 refine alloc_i fun p1 hp1=>?_
 have n1:=hp1
 simp(disch:=first|exact Xe|fail)only[cells_IntA,↓Xa,Xb,Xc,↓reduceIte,Nat.reduceLT,Nat.reduceEqDiff,Nat.reduceBEq,Nat.reduceLeDiff,Nat.reduceAdd,Nat.reduceMul]
 refine alloc_i fun p2 hp2=>?_
 have n2:=hp2
 simp only[upd_none]at n2
 obtain⟨_,n2⟩:=n2
 simp(disch:=first|exact Xe|fail)only[↓Xa,Xb,Xc,↓reduceIte,Nat.reduceLT,Nat.reduceEqDiff,Nat.reduceBEq,Nat.reduceLeDiff,Nat.reduceAdd,Nat.reduceMul]
 refine alloc_i fun p3 hp3=>?_
 have n3:=hp3
 simp only[upd_none]at n3
 obtain⟨_,_,n3⟩:=n3
 simp(disch:=first|exact Xe|fail)only[load_c1,fold_IntA,↓Xa,Xb,Xc,↓reduceIte,Nat.reduceLT,Nat.reduceEqDiff,Nat.reduceBEq,Nat.reduceLeDiff,Nat.reduceAdd,Nat.reduceMul]
 refine h _ _ ?_
 simp(disch:=first|exact Xe|fail)only[cells_IntA,fold_IntA,rs167,↓Xa,Xb,Xc,↓reduceIte,Nat.reduceLT,Nat.reduceEqDiff,Nat.reduceBEq,Nat.reduceLeDiff,Nat.reduceAdd,Nat.reduceMul]
 exact SetR.dropTo ((((Le.refl H).updB n1).updB n2).updB n3) (SetR.now hq)
theorem vneg_fn{a b:Int}{k:Nat}(ha:Bd k a)(hk:k≤1000000):PFn Tryz.prog 168 [IntA a,IntA b] (IntA (-a)):=by
 intro H Q hq
 refine enter168 (by simp) ?_
 simp(disch:=first|exact Xe|fail)only[ac168,cells_IntA,↓Xa,Xb,Xc,↓reduceIte,Nat.reduceLT,Nat.reduceEqDiff,Nat.reduceBEq,Nat.reduceLeDiff,Nat.reduceAdd,Nat.reduceMul]
 refine alloc_i fun p1 hp1=>?_
 have n1:=hp1
 simp(disch:=first|exact Xe|fail)only[cells_IntA,↓Xa,Xb,Xc,↓reduceIte,Nat.reduceLT,Nat.reduceEqDiff,Nat.reduceBEq,Nat.reduceLeDiff,Nat.reduceAdd,Nat.reduceMul]
 refine alloc_i fun p2 hp2=>?_
 have n2:=hp2
 simp only[upd_none]at n2
 obtain⟨_,n2⟩:=n2
 simp(disch:=first|exact Xe|fail)only[↓Xa,Xb,Xc,↓reduceIte,Nat.reduceLT,Nat.reduceEqDiff,Nat.reduceBEq,Nat.reduceLeDiff,Nat.reduceAdd,Nat.reduceMul]
 refine alloc_i fun p3 hp3=>?_
 have n3:=hp3
 simp only[upd_none]at n3
 obtain⟨_,_,n3⟩:=n3
 simp(disch:=first|exact Xe|fail)only[fold_IntA,↓Xa,Xb,Xc,↓reduceIte,Nat.reduceLT,Nat.reduceEqDiff,Nat.reduceBEq,Nat.reduceLeDiff,Nat.reduceAdd,Nat.reduceMul]
 refine(neg_fn ha (by omega)).call ?_
 simp(disch:=first|exact Xe|fail)only[cells_IntA,fold_IntA,rs168,↓Xa,Xb,Xc,↓reduceIte,Nat.reduceLT,Nat.reduceEqDiff,Nat.reduceBEq,Nat.reduceLeDiff,Nat.reduceAdd,Nat.reduceMul]
 exact SetR.dropTo ((((Le.refl H).updB n1).updB n2).updB n3) (SetR.now hq)
theorem vmov_fn{a b:Int}:PFn Tryz.prog 177 [IntA a,IntA b] (IntA a):=by
 intro H Q hq
 refine enter177 (by simp) ?_
 simp(disch:=first|exact Xe|fail)only[ac177,cells_IntA,↓Xa,Xb,Xc,↓reduceIte,Nat.reduceLT,Nat.reduceEqDiff,Nat.reduceBEq,Nat.reduceLeDiff,Nat.reduceAdd,Nat.reduceMul]
 refine alloc_i fun p1 hp1=>?_
 have n1:=hp1
 simp(disch:=first|exact Xe|fail)only[cells_IntA,↓Xa,Xb,Xc,↓reduceIte,Nat.reduceLT,Nat.reduceEqDiff,Nat.reduceBEq,Nat.reduceLeDiff,Nat.reduceAdd,Nat.reduceMul]
 refine alloc_i fun p2 hp2=>?_
 have n2:=hp2
 simp only[upd_none]at n2
 obtain⟨_,n2⟩:=n2
 simp(disch:=first|exact Xe|fail)only[↓Xa,Xb,Xc,↓reduceIte,Nat.reduceLT,Nat.reduceEqDiff,Nat.reduceBEq,Nat.reduceLeDiff,Nat.reduceAdd,Nat.reduceMul]
 refine alloc_i fun p3 hp3=>?_
 have n3:=hp3
 simp only[upd_none]at n3
 obtain⟨_,_,n3⟩:=n3
 simp(disch:=first|exact Xe|fail)only[cells_IntA,fold_IntA,rs177,↓Xa,Xb,Xc,↓reduceIte,Nat.reduceLT,Nat.reduceEqDiff,Nat.reduceBEq,Nat.reduceLeDiff,Nat.reduceAdd,Nat.reduceMul]
 exact SetR.dropTo ((((Le.refl H).updB n1).updB n2).updB n3) (SetR.now hq)
theorem vmul_fn{a b:Int}{i:Ins}{k:Nat}(ha:Bd k a)(hk:k≤1000000)(hc:I64 i.c):PFn Tryz.prog 169 [IntA a,IntA b,.cptr (insC i)] (IntA (a*i.c)):=by
 unfold I64 at hc
 intro H Q hq
 refine enter169 (by simp) ?_
 simp(disch:=first|exact Xe|fail)only[ac169,cells_IntA,↓Xa,Xb,Xc,↓reduceIte,Nat.reduceLT,Nat.reduceEqDiff,Nat.reduceBEq,Nat.reduceLeDiff,Nat.reduceAdd,Nat.reduceMul]
 refine alloc_i fun p1 hp1=>?_
 have n1:=hp1
 simp(disch:=first|exact Xe|fail)only[cells_IntA,↓Xa,Xb,Xc,↓reduceIte,Nat.reduceLT,Nat.reduceEqDiff,Nat.reduceBEq,Nat.reduceLeDiff,Nat.reduceAdd,Nat.reduceMul]
 refine alloc_i fun p2 hp2=>?_
 have n2:=hp2
 simp only[upd_none]at n2
 obtain⟨_,n2⟩:=n2
 simp(disch:=first|exact Xe|fail)only[↓Xa,Xb,Xc,↓reduceIte,Nat.reduceLT,Nat.reduceEqDiff,Nat.reduceBEq,Nat.reduceLeDiff,Nat.reduceAdd,Nat.reduceMul]
 refine alloc_i fun p3 hp3=>?_
 have n3:=hp3
 simp only[upd_none]at n3
 obtain⟨_,_,n3⟩:=n3
 simp(disch:=first|exact Xe|fail)only[load_ic,fold_IntA,↓Xa,Xb,Xc,↓reduceIte,Nat.reduceLT,Nat.reduceEqDiff,Nat.reduceBEq,Nat.reduceLeDiff,Nat.reduceAdd,Nat.reduceMul]
 refine(timesi_fn (k:=k) ha (by omega) (by omega)).call ?_
 simp(disch:=first|exact Xe|fail)only[cells_IntA,fold_IntA,rs169,↓Xa,Xb,Xc,↓reduceIte,Nat.reduceLT,Nat.reduceEqDiff,Nat.reduceBEq,Nat.reduceLeDiff,Nat.reduceAdd,Nat.reduceMul]
 exact SetR.dropTo ((((Le.refl H).updB n1).updB n2).updB n3) (SetR.now hq)
theorem vshl_fn{a b:Int}{i:Ins}{k n:Nat}(ha:Bd k a)(hk:k≤1000000)(hc:i.c=(n:Int))(hn:n≤65536):PFn Tryz.prog 173 [IntA a,IntA b,.cptr (insC i)] (IntA (a*2^n)):=by
 intro H Q hq
 refine enter173 (by simp) ?_
 simp(disch:=first|exact Xe|fail)only[ac173,cells_IntA,↓Xa,Xb,Xc,↓reduceIte,Nat.reduceLT,Nat.reduceEqDiff,Nat.reduceBEq,Nat.reduceLeDiff,Nat.reduceAdd,Nat.reduceMul]
 refine alloc_i fun p1 hp1=>?_
 have n1:=hp1
 simp(disch:=first|exact Xe|fail)only[cells_IntA,↓Xa,Xb,Xc,↓reduceIte,Nat.reduceLT,Nat.reduceEqDiff,Nat.reduceBEq,Nat.reduceLeDiff,Nat.reduceAdd,Nat.reduceMul]
 refine alloc_i fun p2 hp2=>?_
 have n2:=hp2
 simp only[upd_none]at n2
 obtain⟨_,n2⟩:=n2
 simp(disch:=first|exact Xe|fail)only[↓Xa,Xb,Xc,↓reduceIte,Nat.reduceLT,Nat.reduceEqDiff,Nat.reduceBEq,Nat.reduceLeDiff,Nat.reduceAdd,Nat.reduceMul]
 refine alloc_i fun p3 hp3=>?_
 have n3:=hp3
 simp only[upd_none]at n3
 obtain⟨_,_,n3⟩:=n3
 simp(disch:=first|exact Xe|fail)only[load_ic,hc,fold_IntA,↓Xa,Xb,Xc,↓reduceIte,Nat.reduceLT,Nat.reduceEqDiff,Nat.reduceBEq,Nat.reduceLeDiff,Nat.reduceAdd,Nat.reduceMul]
 refine(ishl_fn ha hk hn).call ?_
 simp(disch:=first|exact Xe|fail)only[↓Xa,Xb,Xc,↓reduceIte,Nat.reduceLT,Nat.reduceEqDiff,Nat.reduceBEq,Nat.reduceLeDiff,Nat.reduceAdd,Nat.reduceMul]
 refine alloc_i fun p4 hp4=>?_
 have n4:=hp4
 simp only[upd_none]at n4
 obtain⟨_,_,_,n4⟩:=n4
 simp(disch:=first|exact Xe|fail)only[cells_IntA,fold_IntA,rs173,↓Xa,Xb,Xc,↓reduceIte,Nat.reduceLT,Nat.reduceEqDiff,Nat.reduceBEq,Nat.reduceLeDiff,Nat.reduceAdd,Nat.reduceMul]
 exact SetR.dropTo (((((Le.refl H).updB n1).updB n2).updB n3).updB n4) (SetR.now hq)
theorem vdiv_fn{a b:Int}{i:Ins}{k:Nat}(ha:Bd k a)(hk:k≤1000000)(hc:I64 i.c)(h0:i.c≠0):PFn Tryz.prog 171 [IntA a,IntA b,.cptr (insC i)] (.tup [IntA (if a%i.c=0 then a / i.c else 0),.bool (decide (a%i.c=0))]):=by
 unfold I64 at hc
 intro H Q hq
 have ho:=iover_fn (k:=k) ha (by omega) (by omega) h0
 refine enter171 (by simp) ?_
 simp(disch:=first|exact Xe|fail)only[ac171,cells_IntA,↓Xa,Xb,Xc,↓reduceIte,Nat.reduceLT,Nat.reduceEqDiff,Nat.reduceBEq,Nat.reduceLeDiff,Nat.reduceAdd,Nat.reduceMul]
 refine alloc_i fun p1 hp1=>?_
 have n1:=hp1
 simp(disch:=first|exact Xe|fail)only[cells_IntA,↓Xa,Xb,Xc,↓reduceIte,Nat.reduceLT,Nat.reduceEqDiff,Nat.reduceBEq,Nat.reduceLeDiff,Nat.reduceAdd,Nat.reduceMul]
 refine alloc_i fun p2 hp2=>?_
 have n2:=hp2
 simp only[upd_none]at n2
 obtain⟨_,n2⟩:=n2
 simp(disch:=first|exact Xe|fail)only[↓Xa,Xb,Xc,↓reduceIte,Nat.reduceLT,Nat.reduceEqDiff,Nat.reduceBEq,Nat.reduceLeDiff,Nat.reduceAdd,Nat.reduceMul]
 refine alloc_i fun p3 hp3=>?_
 have n3:=hp3
 simp only[upd_none]at n3
 obtain⟨_,_,n3⟩:=n3
 simp(disch:=first|exact Xe|fail)only[load_ic,fold_IntA,↓Xa,Xb,Xc,↓reduceIte,Nat.reduceLT,Nat.reduceEqDiff,Nat.reduceBEq,Nat.reduceLeDiff,Nat.reduceAdd,Nat.reduceMul]
 refine ho.call ?_
 by_cases h:a%i.c=0
 ·rw[if_pos h,decide_eq_true h]at hq
  have e0:decide (((0:Nat):Int)=((0:Nat):Int))=true:=rfl
  rw[if_pos h]
  simp(disch:=first|exact Xe|fail)only[↓Xa,Xb,Xc,↓reduceIte,Nat.reduceLT,Nat.reduceEqDiff,Nat.reduceBEq,Nat.reduceLeDiff,Nat.reduceAdd,Nat.reduceMul]
  refine alloc_i fun p4 hp4=>?_
  have n4:=hp4
  simp only[upd_none]at n4
  obtain⟨_,_,_,n4⟩:=n4
  simp(disch:=first|exact Xe|fail)only[cells_IntA,fold_IntA,eql_int,e0,rs171,↓Xa,Xb,Xc,↓reduceIte,Nat.reduceLT,Nat.reduceEqDiff,Nat.reduceBEq,Nat.reduceLeDiff,Nat.reduceAdd,Nat.reduceMul]
  exact SetR.dropTo (((((Le.refl H).updB n1).updB n2).updB n3).updB n4) (SetR.now hq)
 ·rw[if_neg h,decide_eq_false h]at hq
  have e0:decide (((20:Nat):Int)=((0:Nat):Int))=false:=rfl
  rw[if_neg h]
  simp(disch:=first|exact Xe|fail)only[↓Xa,Xb,Xc,↓reduceIte,Nat.reduceLT,Nat.reduceEqDiff,Nat.reduceBEq,Nat.reduceLeDiff,Nat.reduceAdd,Nat.reduceMul]
  refine alloc_i fun p4 hp4=>?_
  have n4:=hp4
  simp only[upd_none]at n4
  obtain⟨_,_,_,n4⟩:=n4
  simp(disch:=first|exact Xe|fail)only[cells_IntA,fold_IntA,eql_int,e0,rs171,↓Xa,Xb,Xc,↓reduceIte,Nat.reduceLT,Nat.reduceEqDiff,Nat.reduceBEq,Nat.reduceLeDiff,Nat.reduceAdd,Nat.reduceMul]
  exact SetR.dropTo (((((Le.refl H).updB n1).updB n2).updB n3).updB n4) (SetR.now hq)
theorem vshr_run{H:AHeap}{Q:AV→AHeap→Prop}{a b:Int}{i:Ins}{k n:Nat}(hH:TzH H)(ha:Bd k a)(hk:k≤1000000)(hc:i.c=(n:Int))(hn:n≤65536)
 (hq:Q (.tup [IntA (if a%2^n=0 then a / 2^n else 0),.bool (decide (a%2^n=0))]) H):Run Tryz.prog 175 [IntA a,IntA b,.cptr (insC i)] H Q:=by
 have hs: ∃e:Nat,shrR a n=.tup [IntA (if a%2^n=0 then a / 2^n else 0),.int .i64 ((e:Nat):Int)]∧(e=0↔a%2^n=0):=by
  have hp:(2:Int)^n≠0:=Int.ne_of_gt (Int.pow_pos (by omega))
  unfold shrR
  rw[if_neg (by omega)]
  by_cases h0:a=0
  ·subst h0
   exact⟨0,by simp,by simp⟩
  ·rw[if_neg h0]
   have ed:(a%2^n=0)↔n≤tz a.natAbs:=(Int.dvd_iff_emod_eq_zero).symm.trans (dvd_tz h0)
   have et:twV a=((tz a.natAbs:Nat):Int):=by rw[twV,if_neg h0]
   rw[et,Int.toNat_natCast]
   by_cases h:n≤tz a.natAbs
   ·rw[if_neg (by omega),if_pos (ed.2 h)];exact⟨0,rfl,by simp[ed.2 h]⟩
   ·rw[if_pos (by omega),if_neg (fun e=>h (ed.1 e))];exact⟨20,rfl,by simp;exact fun e=>h (ed.1 e)⟩
 obtain⟨e,hs1,hs2⟩:=hs
 refine enter175 (by simp) ?_
 simp(disch:=first|exact Xe|fail)only[ac175,cells_IntA,↓Xa,Xb,Xc,↓reduceIte,Nat.reduceLT,Nat.reduceEqDiff,Nat.reduceBEq,Nat.reduceLeDiff,Nat.reduceAdd,Nat.reduceMul]
 refine alloc_i fun p1 hp1=>?_
 have n1:=hp1
 simp(disch:=first|exact Xe|fail)only[cells_IntA,↓Xa,Xb,Xc,↓reduceIte,Nat.reduceLT,Nat.reduceEqDiff,Nat.reduceBEq,Nat.reduceLeDiff,Nat.reduceAdd,Nat.reduceMul]
 refine alloc_i fun p2 hp2=>?_
 have n2:=hp2
 simp only[upd_none]at n2
 obtain⟨_,n2⟩:=n2
 simp(disch:=first|exact Xe|fail)only[↓Xa,Xb,Xc,↓reduceIte,Nat.reduceLT,Nat.reduceEqDiff,Nat.reduceBEq,Nat.reduceLeDiff,Nat.reduceAdd,Nat.reduceMul]
 refine alloc_i fun p3 hp3=>?_
 have n3:=hp3
 simp only[upd_none]at n3
 obtain⟨_,_,n3⟩:=n3
 simp(disch:=first|exact Xe|fail)only[load_ic,hc,fold_IntA,↓Xa,Xb,Xc,↓reduceIte,Nat.reduceLT,Nat.reduceEqDiff,Nat.reduceBEq,Nat.reduceLeDiff,Nat.reduceAdd,Nat.reduceMul]
 refine run_call (ishr_run (k:=k) ?_ ha (by omega) (by omega) ?_)
 ·exact((((Le.refl H).updB n1).updB n2).updB n3) _ _ hH
 rw[hs1]
 simp(disch:=first|exact Xe|fail)only[↓Xa,Xb,Xc,↓reduceIte,Nat.reduceLT,Nat.reduceEqDiff,Nat.reduceBEq,Nat.reduceLeDiff,Nat.reduceAdd,Nat.reduceMul]
 refine alloc_i fun p4 hp4=>?_
 have n4:=hp4
 simp only[upd_none]at n4
 obtain⟨_,_,_,n4⟩:=n4
 have e0:decide (((e:Nat):Int)=((0:Nat):Int))=decide (a%2^n=0):=decide_eq_decide.2 (by omega)
 simp(disch:=first|exact Xe|fail)only[cells_IntA,fold_IntA,eql_int,e0,rs175,↓Xa,Xb,Xc,↓reduceIte,Nat.reduceLT,Nat.reduceEqDiff,Nat.reduceBEq,Nat.reduceLeDiff,Nat.reduceAdd,Nat.reduceMul]
 exact SetR.dropTo (((((Le.refl H).updB n1).updB n2).updB n3).updB n4) (SetR.now hq)
def vmF(i:Ins):AV:=
 if i.op=2 then .fn (.func 167) [] [.cptr [.fn (.func 168) [] []]]
 else if i.op=3 then .fn (.func 167) [] [.cptr [.fn (.func 138) [] []]]
 else if i.op=4 then .fn (.func 167) [] [.cptr [.fn (.func 150) [] []]]
 else if i.op=5 then .fn (.func 167) [] [.cptr [.fn (.func 169) [] [.cptr (insC i)]]]
 else if i.op=6 then .fn (.func 171) [] [.cptr (insC i)]
 else if i.op=7 then .fn (.func 167) [] [.cptr [.fn (.func 173) [] [.cptr (insC i)]]]
 else if i.op=8 then .fn (.func 175) [] [.cptr (insC i)]
 else .fn (.func 167) [] [.cptr [.fn (.func 177) [] []]]
theorem does_fn{i:Ins}:PFn Tryz.prog 102 [InsA i] (vmF i):=by
 intro H Q hq
 have yes: ∀n:Nat,i.op=(n:Int)→decide (i.op=((n:Nat):Int))=true:=fun n h=>decide_eq_true h
 have no: ∀n:Nat,i.op≠(n:Int)→decide (i.op=((n:Nat):Int))=false:=fun n h=>decide_eq_false h
 refine enter102 (by simp) ?_
 simp(disch:=first|exact Xe|fail)only[ac102,cells_InsA,↓Xa,Xb,Xc,↓reduceIte,Nat.reduceLT,Nat.reduceEqDiff,Nat.reduceBEq,Nat.reduceLeDiff,Nat.reduceAdd,Nat.reduceMul]
 refine alloc_i fun p1 hp1=>?_
 have n1:=hp1
 have hle: ∀{x:ABlk},Le H (H.upd p1 (some x)):=(Le.refl H).updB n1
 simp(disch:=first|exact Xe|fail)only[↓Xa,Xb,Xc,↓reduceIte,Nat.reduceLT,Nat.reduceEqDiff,Nat.reduceBEq,Nat.reduceLeDiff,Nat.reduceAdd,Nat.reduceMul]
 unfold vmF at hq
 by_cases o2:i.op=2
 ·rw[if_pos o2]at hq
  simp(disch:=first|exact Xe|fail)only[eql_int,yes 2 o2,↓Xa,Xb,Xc,↓reduceIte,Nat.reduceLT,Nat.reduceEqDiff,Nat.reduceBEq,Nat.reduceLeDiff,Nat.reduceAdd,Nat.reduceMul]
  refine(always_fn rfl).call ?_
  simp(disch:=first|exact Xe|fail)only[rs102,↓Xa,Xb,Xc,↓reduceIte,Nat.reduceLT,Nat.reduceEqDiff,Nat.reduceBEq,Nat.reduceLeDiff,Nat.reduceAdd,Nat.reduceMul]
  exact SetR.dropTo hle (SetR.now hq)
 rw[if_neg o2]at hq
 have e2:=no 2 o2
 by_cases o3:i.op=3
 ·rw[if_pos o3]at hq
  simp(disch:=first|exact Xe|fail)only[eql_int,e2,yes 3 o3,↓Xa,Xb,Xc,↓reduceIte,Nat.reduceLT,Nat.reduceEqDiff,Nat.reduceBEq,Nat.reduceLeDiff,Nat.reduceAdd,Nat.reduceMul]
  refine(always_fn rfl).call ?_
  simp(disch:=first|exact Xe|fail)only[rs102,↓Xa,Xb,Xc,↓reduceIte,Nat.reduceLT,Nat.reduceEqDiff,Nat.reduceBEq,Nat.reduceLeDiff,Nat.reduceAdd,Nat.reduceMul]
  exact SetR.dropTo hle (SetR.now hq)
 rw[if_neg o3]at hq
 have e3:=no 3 o3
 by_cases o4:i.op=4
 ·rw[if_pos o4]at hq
  simp(disch:=first|exact Xe|fail)only[eql_int,e2,e3,yes 4 o4,↓Xa,Xb,Xc,↓reduceIte,Nat.reduceLT,Nat.reduceEqDiff,Nat.reduceBEq,Nat.reduceLeDiff,Nat.reduceAdd,Nat.reduceMul]
  refine(always_fn rfl).call ?_
  simp(disch:=first|exact Xe|fail)only[rs102,↓Xa,Xb,Xc,↓reduceIte,Nat.reduceLT,Nat.reduceEqDiff,Nat.reduceBEq,Nat.reduceLeDiff,Nat.reduceAdd,Nat.reduceMul]
  exact SetR.dropTo hle (SetR.now hq)
 rw[if_neg o4]at hq
 have e4:=no 4 o4
 have frz1: ∀(g:FuncId),SetR Q (.fn (.func 167) [] [.cptr [.fn (.func g) [] [.cptr (insC i)]]]) H→SetR Q (.fn (.func 167) [] [.cptr [.fn (.func g) [] [.ptr p1 5 0]]]) (H.upd p1 (some (.row 76 0 (insC i)))):=fun g h=>by
  refine SetR.frzPP p1 (upd_same _ _ _) ?_
  rw[upd_upd,upd_back _ n1]
  have e:Fw.frzPP p1 (insC i) (.fn (.func 167) [] [.cptr [.fn (.func g) [] [.ptr p1 5 0]]])=.fn (.func 167) [] [.cptr [.fn (.func g) [] [.cptr (insC i)]]]:=by simp[Fw.frzPP,frzP2,frzP,frzP1,insC_len]
  rw[e];exact h
 have frz0: ∀(g:FuncId),SetR Q (.fn (.func g) [] [.cptr (insC i)]) H→SetR Q (.fn (.func g) [] [.ptr p1 5 0]) (H.upd p1 (some (.row 76 0 (insC i)))):=fun g h=>by
  refine SetR.frzP p1 (upd_same _ _ _) ?_
  rw[upd_upd,upd_back _ n1]
  have e:Fw.frzP p1 (insC i) (.fn (.func g) [] [.ptr p1 5 0])=.fn (.func g) [] [.cptr (insC i)]:=by simp[Fw.frzP,frzP1,insC_len]
  rw[e];exact h
 by_cases o5:i.op=5
 ·rw[if_pos o5]at hq
  simp(disch:=first|exact Xe|fail)only[eql_int,e2,e3,e4,yes 5 o5,↓Xa,Xb,Xc,↓reduceIte,Nat.reduceLT,Nat.reduceEqDiff,Nat.reduceBEq,Nat.reduceLeDiff,Nat.reduceAdd,Nat.reduceMul]
  refine(always_fn rfl).call ?_
  simp(disch:=first|exact Xe|fail)only[rs102,↓Xa,Xb,Xc,↓reduceIte,Nat.reduceLT,Nat.reduceEqDiff,Nat.reduceBEq,Nat.reduceLeDiff,Nat.reduceAdd,Nat.reduceMul]
  exact frz1 _ (SetR.now hq)
 rw[if_neg o5]at hq
 have e5:=no 5 o5
 by_cases o6:i.op=6
 ·rw[if_pos o6]at hq
  simp(disch:=first|exact Xe|fail)only[eql_int,e2,e3,e4,e5,yes 6 o6,rs102,↓Xa,Xb,Xc,↓reduceIte,Nat.reduceLT,Nat.reduceEqDiff,Nat.reduceBEq,Nat.reduceLeDiff,Nat.reduceAdd,Nat.reduceMul]
  exact frz0 _ (SetR.now hq)
 rw[if_neg o6]at hq
 have e6:=no 6 o6
 by_cases o7:i.op=7
 ·rw[if_pos o7]at hq
  simp(disch:=first|exact Xe|fail)only[eql_int,e2,e3,e4,e5,e6,yes 7 o7,↓Xa,Xb,Xc,↓reduceIte,Nat.reduceLT,Nat.reduceEqDiff,Nat.reduceBEq,Nat.reduceLeDiff,Nat.reduceAdd,Nat.reduceMul]
  refine(always_fn rfl).call ?_
  simp(disch:=first|exact Xe|fail)only[rs102,↓Xa,Xb,Xc,↓reduceIte,Nat.reduceLT,Nat.reduceEqDiff,Nat.reduceBEq,Nat.reduceLeDiff,Nat.reduceAdd,Nat.reduceMul]
  exact frz1 _ (SetR.now hq)
 rw[if_neg o7]at hq
 have e7:=no 7 o7
 by_cases o8:i.op=8
 ·rw[if_pos o8]at hq
  simp(disch:=first|exact Xe|fail)only[eql_int,e2,e3,e4,e5,e6,e7,yes 8 o8,rs102,↓Xa,Xb,Xc,↓reduceIte,Nat.reduceLT,Nat.reduceEqDiff,Nat.reduceBEq,Nat.reduceLeDiff,Nat.reduceAdd,Nat.reduceMul]
  exact frz0 _ (SetR.now hq)
 rw[if_neg o8]at hq
 have e8:=no 8 o8
 simp(disch:=first|exact Xe|fail)only[eql_int,e2,e3,e4,e5,e6,e7,e8,↓Xa,Xb,Xc,↓reduceIte,Nat.reduceLT,Nat.reduceEqDiff,Nat.reduceBEq,Nat.reduceLeDiff,Nat.reduceAdd,Nat.reduceMul]
 refine(always_fn rfl).call ?_
 simp(disch:=first|exact Xe|fail)only[rs102,↓Xa,Xb,Xc,↓reduceIte,Nat.reduceLT,Nat.reduceEqDiff,Nat.reduceBEq,Nat.reduceLeDiff,Nat.reduceAdd,Nat.reduceMul]
 exact SetR.dropTo hle (SetR.now hq)
theorem vmF_call{i:Ins}{N:Int}(hm:mayI N i){a b:Int}{k:Nat}(ha:Bd k a)(hb:Bd k b)(hk:k≤100000): ∃(x:Int)(ok:Bool),Bd (k+3) x∧(ok=true→doZ i a b=some x)∧(ok=false→doZ i a b=none)∧
 ∀(H:AHeap)(K:AV→AHeap→Prop),(i.op=8→TzH H)→K (.tup [IntA x,.bool ok]) H→callW Tryz.prog (vmF i) [IntA a,IntA b] H K:=by
 have hbd: ∀{x:Int},doZ i a b=some x→Bd (k+3) x:=fun h=>doZ_bd hm ha hb h
 have h3:=hm.2.2.2.2.2.2
 unfold vmF
 by_cases o2:i.op=2
 ·have hz:doZ i a b=some (-a):=by unfold doZ;rw[if_pos o2]
  rw[if_pos o2]
  exact⟨_,true,hbd hz,fun _=>hz,fun e=>absurd e (by simp),fun H K _ hk'=>always_ans (FnAns.of (vneg_fn ha (by omega))) H K hk'⟩
 rw[if_neg o2]
 by_cases o3:i.op=3
 ·have hz:doZ i a b=some (a+b):=by unfold doZ;rw[if_neg o2,if_pos o3]
  rw[if_pos o3]
  exact⟨_,true,hbd hz,fun _=>hz,fun e=>absurd e (by simp),fun H K _ hk'=>always_ans (FnAns.of (addi_fn ha (by omega) hb (by omega))) H K hk'⟩
 rw[if_neg o3]
 by_cases o4:i.op=4
 ·have hz:doZ i a b=some (a-b):=by unfold doZ;rw[if_neg o2,if_neg o3,if_pos o4]
  rw[if_pos o4]
  exact⟨_,true,hbd hz,fun _=>hz,fun e=>absurd e (by simp),fun H K _ hk'=>always_ans (FnAns.of (subi_fn ha (by omega) hb (by omega))) H K hk'⟩
 rw[if_neg o4]
 rw[if_neg (by omega)]at h3
 by_cases o5:i.op=5
 ·have hcs:cst i=i.c:=by unfold cst;rw[if_pos (.inl o5)]
  have hz:doZ i a b=some (a*i.c):=by unfold doZ;rw[if_neg o2,if_neg o3,if_neg o4,if_pos (.inl o5),hcs,Int.mul_comm]
  rw[if_pos (.inl o5)]at h3
  rw[if_pos o5]
  exact⟨_,true,hbd hz,fun _=>hz,fun e=>absurd e (by simp),fun H K _ hk'=>always_ans (FnAns.caps (args:=[IntA a,IntA b]) (vmul_fn ha (by omega) (by unfold I64;omega))) H K hk'⟩
 rw[if_neg o5]
 by_cases o6:i.op=6
 ·have hcs:cst i=i.c:=by unfold cst;rw[if_pos (.inr o6)]
  have hz:doZ i a b=if a%i.c=0 then some (a / i.c)else none:=by unfold doZ;rw[if_neg o2,if_neg o3,if_neg o4,if_neg (by omega),if_pos (.inl o6),hcs]
  rw[if_pos (.inr o6)]at h3
  rw[if_pos o6]
  refine⟨if a%i.c=0 then a / i.c else 0,decide (a%i.c=0),?_,fun e=>?_,fun e=>?_,fun H K _ hk'=>FnAns.caps (args:=[IntA a,IntA b]) (vdiv_fn ha (by omega) (by unfold I64;omega) h3.2.1) H K hk'⟩
  ·split
   ·exact ha.ediv.mono (by omega)
   ·exact Bd.zero _
  ·have:=of_decide_eq_true e;rw[hz,if_pos this,if_pos this]
  ·have:=of_decide_eq_false e;rw[hz,if_neg this]
 rw[if_neg o6]
 by_cases o7:i.op=7
 ·rw[if_neg (by omega),if_pos (.inl o7)]at h3
  obtain⟨m,hmc⟩: ∃m:Nat,i.c=(m:Int):=⟨i.c.toNat,by omega⟩
  have hcs:cst i=2^m:=by unfold cst;rw[if_neg (by omega),hmc];rfl
  have hz:doZ i a b=some (a*2^m):=by unfold doZ;rw[if_neg o2,if_neg o3,if_neg o4,if_pos (.inr o7),hcs,Int.mul_comm]
  rw[if_pos o7]
  exact⟨_,true,hbd hz,fun _=>hz,fun e=>absurd e (by simp),fun H K _ hk'=>always_ans (FnAns.caps (args:=[IntA a,IntA b]) (vshl_fn ha (by omega) hmc (by omega))) H K hk'⟩
 rw[if_neg o7]
 by_cases o8:i.op=8
 ·rw[if_neg (by omega),if_pos (.inr o8)]at h3
  obtain⟨m,hmc⟩: ∃m:Nat,i.c=(m:Int):=⟨i.c.toNat,by omega⟩
  have hcs:cst i=2^m:=by unfold cst;rw[if_neg (by omega),hmc];rfl
  have hz:doZ i a b=if a%2^m=0 then some (a / 2^m)else none:=by unfold doZ;rw[if_neg o2,if_neg o3,if_neg o4,if_neg (by omega),if_pos (.inr o8),hcs]
  rw[if_pos o8]
  refine⟨if a%2^m=0 then a / 2^m else 0,decide (a%2^m=0),?_,fun e=>?_,fun e=>?_,fun H K hT hk'=>callW_fn (vshr_run (hT o8) ha (by omega) hmc (by omega) hk')⟩
  ·split
   ·exact ha.ediv.mono (by omega)
   ·exact Bd.zero _
  ·have:=of_decide_eq_true e;rw[hz,if_pos this,if_pos this]
  ·have:=of_decide_eq_false e;rw[hz,if_neg this]
 rw[if_neg o8]
 have hz:doZ i a b=some a:=by unfold doZ;rw[if_neg o2,if_neg o3,if_neg o4,if_neg (by omega),if_neg (by omega)]
 exact⟨_,true,hbd hz,fun _=>hz,fun e=>absurd e (by simp),fun H K _ hk'=>always_ans (FnAns.of vmov_fn) H K hk'⟩
theorem cloneCode_fn{l:List Ins}{t:Bool}(hbig:l.length≤1099511627776):PFn Tryz.prog 164 [CodeA l t] (CodeA l false):=PFn.frozen fun H Q hq=>by
 have hl:(l.flatMap insC).length=l.length*5:=by rw[flat_len insC_len]
 have hc:(l.flatMap insC).all AV.cell=true:=by
  refine List.all_eq_true.2 fun x hx=>?_
  simp only[List.mem_flatMap,insC,List.mem_cons,List.not_mem_nil,or_false]at hx
  obtain⟨i,-,rfl|rfl|rfl|rfl|rfl⟩:=hx<;>rfl
 refine enter164 (by simp) ?_
 rcases Nat.eq_zero_or_pos l.length with h0|h0
 ·obtain rfl:=List.length_eq_zero_iff.1 h0
  have hn: ∀{g:Bool}{K:AV→Prop},nilW g (CodeA [] t) K↔(K (.bool true)∧K (.bool false)):=fun{g K}=>by simp[nilW]
  simp(disch:=first|exact Xe|fail)only[ac164,hn,↓Xa,Xb,Xc,↓reduceIte,Nat.reduceLT,Nat.reduceEqDiff,Nat.reduceBEq,Nat.reduceLeDiff,Nat.reduceAdd,Nat.reduceMul]
  refine⟨?_,?_⟩
  ·simp(disch:=first|exact Xe|fail)only[rs164,↓Xa,Xb,Xc,↓reduceIte,Nat.reduceLT,Nat.reduceEqDiff,Nat.reduceBEq,Nat.reduceLeDiff,Nat.reduceAdd,Nat.reduceMul]
   exact SetR.now (hq _ _ growC_nil)
  ·refine .inl ⟨rfl,rfl,?_⟩
   refine⟨rfl,rfl,by simp,by simp,fun _=>?_,fun e=>absurd e (by simp)⟩
   simp(disch:=first|exact Xe|fail)only[rs164,↓Xa,Xb,Xc,↓reduceIte,Nat.reduceLT,Nat.reduceEqDiff,Nat.reduceBEq,Nat.reduceLeDiff,Nat.reduceAdd,Nat.reduceMul]
   exact SetR.now (hq _ _ growC_nil)
 ·have hn: ∀{g:Bool}{K:AV→Prop},nilW g (CodeA l t) K↔K (.bool g):=fun{g K}=>by
   cases l with
   |nil=>simp at h0
   |cons x l=>simp[nilW]
  simp(disch:=first|exact Xe|fail)only[ac164,hn,↓Xa,Xb,Xc,↓reduceIte,Nat.reduceLT,Nat.reduceEqDiff,Nat.reduceBEq,Nat.reduceLeDiff,Nat.reduceAdd,Nat.reduceMul]
  refine app_C (n:=0) (m:=l.length) growC_nil hl hc h0 (by omega) (by omega) fun y M hg=>?_
  rw[Nat.zero_add,List.nil_append]at hg
  simp(disch:=first|exact Xe|fail)only[rs164,↓Xa,Xb,Xc,↓reduceIte,Nat.reduceLT,Nat.reduceEqDiff,Nat.reduceBEq,Nat.reduceLeDiff,Nat.reduceAdd,Nat.reduceMul]
  exact SetR.now (hq y M hg)
theorem cloneOuts_fn{l:List Int}{t:Bool}(hbig:l.length≤1099511627776):PFn Tryz.prog 165 [OutsA l t] (OutsA l false):=PFn.frozen fun H Q hq=>by
 have hl:(l.map fun n=>AV.int .i64 n).length=l.length*1:=by simp
 have hc:(l.map fun n=>AV.int .i64 n).all AV.cell=true:=by
  refine List.all_eq_true.2 fun x hx=>?_
  simp only[List.mem_map]at hx
  obtain⟨i,-,rfl⟩:=hx;rfl
 refine enter165 (by simp) ?_
 rcases Nat.eq_zero_or_pos l.length with h0|h0
 ·obtain rfl:=List.length_eq_zero_iff.1 h0
  have hn: ∀{g:Bool}{K:AV→Prop},nilW g (OutsA [] t) K↔(K (.bool true)∧K (.bool false)):=fun{g K}=>by simp[nilW]
  simp(disch:=first|exact Xe|fail)only[ac165,hn,↓Xa,Xb,Xc,↓reduceIte,Nat.reduceLT,Nat.reduceEqDiff,Nat.reduceBEq,Nat.reduceLeDiff,Nat.reduceAdd,Nat.reduceMul]
  refine⟨?_,?_⟩
  ·simp(disch:=first|exact Xe|fail)only[rs165,↓Xa,Xb,Xc,↓reduceIte,Nat.reduceLT,Nat.reduceEqDiff,Nat.reduceBEq,Nat.reduceLeDiff,Nat.reduceAdd,Nat.reduceMul]
   exact SetR.now (hq _ _ growC_nil)
  ·refine .inl ⟨rfl,rfl,?_⟩
   refine⟨rfl,rfl,by simp,by simp,fun _=>?_,fun e=>absurd e (by simp)⟩
   simp(disch:=first|exact Xe|fail)only[rs165,↓Xa,Xb,Xc,↓reduceIte,Nat.reduceLT,Nat.reduceEqDiff,Nat.reduceBEq,Nat.reduceLeDiff,Nat.reduceAdd,Nat.reduceMul]
   exact SetR.now (hq _ _ growC_nil)
 ·have hn: ∀{g:Bool}{K:AV→Prop},nilW g (OutsA l t) K↔K (.bool g):=fun{g K}=>by
   cases l with
   |nil=>simp at h0
   |cons x l=>simp[nilW]
  simp(disch:=first|exact Xe|fail)only[ac165,hn,↓Xa,Xb,Xc,↓reduceIte,Nat.reduceLT,Nat.reduceEqDiff,Nat.reduceBEq,Nat.reduceLeDiff,Nat.reduceAdd,Nat.reduceMul]
  refine app_C (n:=0) (m:=l.length) growC_nil hl hc h0 (by omega) (by omega) fun y M hg=>?_
  rw[Nat.zero_add,List.nil_append]at hg
  simp(disch:=first|exact Xe|fail)only[rs165,↓Xa,Xb,Xc,↓reduceIte,Nat.reduceLT,Nat.reduceEqDiff,Nat.reduceBEq,Nat.reduceLeDiff,Nat.reduceAdd,Nat.reduceMul]
  exact SetR.now (hq y M hg)
theorem copyP_fn{p:PR}(hr:rightP p):PFn Tryz.prog 100 [ProgA p] (ProgA p):=by
 have hh:=hr.1
 unfold headP at hh
 intro H Q hq
 refine enter100 (by simp) ?_
 simp(disch:=first|exact Xe|fail)only[ac100,cells_ProgA,↓Xa,Xb,Xc,↓reduceIte,Nat.reduceLT,Nat.reduceEqDiff,Nat.reduceBEq,Nat.reduceLeDiff,Nat.reduceAdd,Nat.reduceMul]
 refine alloc_i fun p1 hp1=>?_
 have n1:=hp1
 simp(disch:=first|exact Xe|fail)only[↓Xa,Xb,Xc,↓reduceIte,Nat.reduceLT,Nat.reduceEqDiff,Nat.reduceBEq,Nat.reduceLeDiff,Nat.reduceAdd,Nat.reduceMul]
 refine alloc_i fun p2 hp2=>?_
 have n2:=hp2
 simp only[upd_none]at n2
 obtain⟨_,n2⟩:=n2
 simp(disch:=first|exact Xe|fail)only[↓Xa,Xb,Xc,↓reduceIte,Nat.reduceLT,Nat.reduceEqDiff,Nat.reduceBEq,Nat.reduceLeDiff,Nat.reduceAdd,Nat.reduceMul]
 refine PFn.dcall (cloneCode_fn (by omega)) ?_
 simp(disch:=first|exact Xe|fail)only[↓Xa,Xb,Xc,↓reduceIte,Nat.reduceLT,Nat.reduceEqDiff,Nat.reduceBEq,Nat.reduceLeDiff,Nat.reduceAdd,Nat.reduceMul]
 refine PFn.dcall (cloneOuts_fn (by omega)) ?_
 simp(disch:=first|exact Xe|fail)only[cells_ProgA,fold_ProgA,rs100,↓Xa,Xb,Xc,↓reduceIte,Nat.reduceLT,Nat.reduceEqDiff,Nat.reduceBEq,Nat.reduceLeDiff,Nat.reduceAdd,Nat.reduceMul]
 exact SetR.dropTo (((Le.refl H).updB n1).updB n2) (SetR.now hq)
theorem SetR.frzC{Q:AV→AHeap→Prop}{v:AV}{H:AHeap}(r b:Nat){ty es ty' es':Nat}{cells cs:List AV}(cs':List AV)(hl:cs'.length=cs.length)(hw: ∀i(h:i<cs.length)(h':i<cs'.length),Wk (frz1 b es cells (cs[i])) (cs'[i]))(hb:H b=some (.row ty es cells))(hr:H r=some (.row ty' es' cs))(hne:r≠b)
 (h:SetR Q (Fw.frz b es cells v) ((H.upd b none).upd r (some (.row ty' es' cs')))):SetR Q v H:=by
 refine SetR.join fun c u hc hok he=>?_
 have hb':c.H b=some (.row ty es cells):=hc▸hb
 have ok1:=Ctx.drop_ok hok b
 have hH1:(c.drop b).H r=some (.row ty' es' cs):=by
  show(c.H.upd b none) r=_
  rw[upd_other _ _ hne,hc];exact hr
 obtain⟨arr,k1,k2,k3⟩:=hok.blk r _ (hc▸hr)
 have l2:Later (c.drop b) ((c.drop b).put r (.row ty' es' cs') arr):=Ctx.put_later ok1 hH1 k1 (by omega) rfl
 have ok2:Ok ((c.drop b).put r (.row ty' es' cs') arr):=Ctx.put_ok ok1 hH1 k1 (by omega) rfl (by omega) fun i hi hi'=>hw i (by omega) hi _ _ (enc_frz1 hok hb' _ _ (k3 i (by omega) hi'))
 have hw2:((c.drop b).put r (.row ty' es' cs') arr).w=c.w:=setRow_self _ _ _ _ _ k1
 refine⟨_,_,hw2,ok2,(c.drop_later b).trans l2,(enc_frz hok hb' _ _ he).later l2,?_⟩
 show SetR Q _ ((c.H.upd b none).upd r _)
 rw[hc];exact h
def machC(p:PR)(y:AV)(n:Nat):List AV:=[.int .i64 p.ins,.int .i64 p.regs,CodeA p.code false,OutsA p.outs false,y,.int .i64 n]
theorem doR_of{i:Ins}{a b x:List Int}(h:a.length=b.length)(hx:x.length=a.length)(hd: ∀j,j<a.length→doZ i (a.getD j 0) (b.getD j 0)=some (x.getD j 0)):doR i a b=some x:=by
 cases e:doR i a b with
 |none=>
  obtain⟨k,hk,hn⟩:=doR_no e
  have:=hd k hk
  rw[hn]at this;cases this
 |some r=>
  have hl:=doR_len h e
  congr 1
  refine List.ext_getElem (by omega) fun j h1 h2=>?_
  have h3:=doR_at h e (k:=j) (by omega)
  rw[hd j (by omega)]at h3
  injection h3 with h3
  simp only[List.getD_eq_getElem?_getD,List.getElem?_eq_getElem h1,List.getElem?_eq_getElem h2,Option.getD_some]at h3
  exact h3.symm
theorem doR_fail{i:Ins}{a b:List Int}(h:a.length=b.length){j:Nat}(hj:j<a.length)(hd:doZ i (a.getD j 0) (b.getD j 0)=none):doR i a b=none:=by
 cases e:doR i a b with
 |none=>rfl
 |some r=>have:=doR_at h e hj;rw[hd]at this;cases this
theorem dcallF{P:Program}{H:AHeap}{K:AV→List Nat→Option (Nat×ABlk)→Prop}{fv:AV}{args:List AV}{r:AV}(rd:List Nat)(h: ∀(H':AHeap)(K':AV→AHeap→Prop),(∀q,q∈rd→H' q=H q)→K' r H'→callW P fv args H' K')(k:K r rd none){o:Bool}:dcall o P fv args H K:=
 .inl ⟨r,rd,fun H' e=>h H' _ e ⟨rfl,rfl⟩,k⟩
theorem step_run{H:AHeap}{Q:AV→AHeap→Prop}{mb br N n k L:Nat}{tm:Bool}{p:PR}{regs:List (List Int)}(hm:H mb=some (.row 161 0 (machC p (.own br N 0 N tm) n)))(hb:H br=some (.row 29 1 (GI regs)))(hne:mb≠br)(hN:regs.length=N)(hpN:p.regs=(N:Int))(hr:rightP p)
 (hz:GoodG k L regs) (hk:k≤90000) (hL:L≤100000) (hn:n≤p.code.length) (hT: ∀i,i∈p.code→i.op=8→TzH H)
 (hq0:n=p.code.length→Q (.int .i64 ((4:Nat):Int)) H)
 (hq1: ∀h:n<p.code.length,∀x,doR p.code[n] (regs.getD (p.code[n]).a.toNat []) (regs.getD (p.code[n]).b.toNat [])=some x→RB4 (k+3) x→x.length=L→Q (.int .i64 ((0:Nat):Int)) ((H.upd br (some (.row 29 1 (GI (regs.set (p.code[n]).to.toNat x))))).upd mb (some (.row 161 0 (machC p (.own br N 0 N tm) (n+1))))))
 (hq2: ∀h:n<p.code.length,doR p.code[n] (regs.getD (p.code[n]).a.toNat []) (regs.getD (p.code[n]).b.toNat [])=none→Q (.int .i64 ((20:Nat):Int)) H):
 Run Tryz.prog 33 [.ptr mb 6 0] H Q:=by
 have hh:=hr.1
 unfold headP at hh
 have lc:p.code.length<9223372036854775808:=by omega
 have hm':H mb=some (.row 161 0 [.int .i64 p.ins,.int .i64 p.regs,CodeA p.code false,OutsA p.outs false,.own br N 0 N tm,.int .i64 n]):=hm
 refine enter33 (by simp) ?_
 by_cases hnc:n=p.code.length
 ·have d1:decide (n=p.code.length)=true:=decide_eq_true hnc
  simp(disch:=first|exact Xe|fail)only[ac33,hm',dlen_rw lc,eql_int,Int.natCast_inj,d1,rs33,↓Xa,Xb,Xc,↓reduceIte,Nat.reduceLT,Nat.reduceEqDiff,Nat.reduceBEq,Nat.reduceLeDiff,Nat.reduceAdd,Nat.reduceMul]
  exact SetR.now (hq0 hnc)
 have hn':n<p.code.length:=by omega
 have d1:decide (n=p.code.length)=false:=decide_eq_false hnc
 simp(disch:=first|exact Xe|fail)only[ac33,hm',dlen_rw lc,eql_int,Int.natCast_inj,d1,idx_CodeA hn',load_CodeA hn',↓Xa,Xb,Xc,↓reduceIte,Nat.reduceLT,Nat.reduceEqDiff,Nat.reduceBEq,Nat.reduceLeDiff,Nat.reduceAdd,Nat.reduceMul]
 refine dalloc_i fun p3 n3=>?_
 have m3:=ne_of_some hm n3
 have b3:=ne_of_some hb n3
 simp(disch:=first|exact Xe|fail)only[cells_InsA,fold_InsA,↓Xa,Xb,Xc,↓reduceIte,Nat.reduceLT,Nat.reduceEqDiff,Nat.reduceBEq,Nat.reduceLeDiff,Nat.reduceAdd,Nat.reduceMul]
 have hmi:mayI (N:Int) p.code[n]:=by rw[← hpN];exact hr.2.2 _ (List.getElem_mem hn')
 have hq1':=hq1 hn'
 have hq2':=hq2 hn'
 have hT':=hT _ (List.getElem_mem hn')
 generalize p.code[n]=i at*
 refine does_fn.call ?_
 have hmb:=mayI_b hmi
 have hma:=hmi.2.2
 obtain⟨a,ha⟩: ∃a:Nat,i.a=(a:Int):=⟨i.a.toNat,by omega⟩
 obtain⟨c,hc⟩: ∃c:Nat,i.b=(c:Int):=⟨i.b.toNat,by omega⟩
 obtain⟨w,hw⟩: ∃w:Nat,i.to=(w:Int):=⟨i.to.toNat,by omega⟩
 have haN:a<regs.length:=by omega
 have hcN:c<regs.length:=by omega
 have haN':a<N:=by omega
 have hcN':c<N:=by omega
 have hwN:w<N:=by omega
 have ga:regs.getD i.a.toNat []=regs[a]:=by rw[ha,Int.toNat_natCast,List.getD_eq_getElem?_getD,List.getElem?_eq_getElem haN];rfl
 have gc:regs.getD i.b.toNat []=regs[c]:=by rw[hc,Int.toNat_natCast,List.getD_eq_getElem?_getD,List.getElem?_eq_getElem hcN];rfl
 have gw:i.to.toNat=w:=by omega
 rw[ga,gc]at hq1' hq2'
 rw[gw]at hq1'
 obtain⟨lx,bx⟩:=hz _ (List.getElem_mem haN)
 obtain⟨ly,by'⟩:=hz _ (List.getElem_mem hcN)
 have hl:(GI regs).length=N:=by rw[GI_len,hN]
 have lx9:(regs[a]).length<9223372036854775808:=by omega
 simp(disch:=first|exact Xe|fail)only[ha,hc,hm',hb,m3,b3,idx_ownR,hl,haN',hcN',ldP_GI hN haN,ldP_GI hN hcN,len_rw,lx9,lx,↓Xa,Xb,Xc,↓reduceIte,Nat.reduceLT,Nat.reduceEqDiff,Nat.reduceBEq,Nat.reduceLeDiff,Nat.reduceAdd,Nat.reduceMul]
 generalize regs[a]=x at*
 generalize regs[c]=y at*
 rw[mks_I (by omega)]
 intro o ho
 have o3:=(upd_none.1 ho).1
 have oH:=(upd_none.1 ho).2
 have om:=ne_of_some hm oH
 have ob:=ne_of_some hb oH
 generalize hX:(ABlk.row 76 0 [.int .i64 i.op,.int .i64 i.to,.int .i64 (a:Int),.int .i64 (c:Int),.int .i64 i.c])=X at*
 have hX':X=.row 76 0 [.int .i64 i.op,.int .i64 (w:Int),.int .i64 (a:Int),.int .i64 (c:Int),.int .i64 i.c]:=by rw[← hX,hw]
 have lL:L<9223372036854775808:=by omega
 simp(disch:=first|exact Xe|fail)only[lenW_own lL,↓Xa,Xb,Xc,↓reduceIte,Nat.reduceLT,Nat.reduceEqDiff,Nat.reduceBEq,Nat.reduceLeDiff,Nat.reduceAdd,Nat.reduceMul]
 refine W_loop (fun s:Nat×List Int=>⟨[],[(0,.ptr mb 6 0),(3,.ptr p3 5 0),(4,vmF i),(5,rI x),(6,rI y),(7,.own o (L*2) 0 L true),(59,.int .i64 L),(60,.int .i64 s.1)],(H.upd p3 (some X)).upd o (some (.row 48 2 (IC (s.2++List.replicate (L-s.1) 0))))⟩)
  (fun s=>s.1≤L∧s.2.length=s.1∧(∀z,z∈s.2→Bd (k+3) z)∧∀j,j<s.1→doZ i (x.getD j 0) (y.getD j 0)=some (s.2.getD j 0)) (fun s=>L-s.1) (0,[]) (Settle.now (by simp)) ⟨Nat.zero_le _,rfl,fun z h=>by simp at h,fun j h=>absurd h (Nat.not_lt_zero j)⟩ ?_
 rintro⟨j,xs⟩ ⟨h1,h2,h3,h4⟩
 dsimp only at h1 h2 h3 h4 ⊢
 have hcell:(xs++List.replicate (L-j) 0).length=L:=by simp;omega
 by_cases hj:j<L
 ·have hjx:j<x.length:=by omega
  have hjy:j<y.length:=by omega
  have ex:x.getD j 0=x[j]:=by rw[List.getD_eq_getElem?_getD,List.getElem?_eq_getElem hjx];rfl
  have ey:y.getD j 0=y[j]:=by rw[List.getD_eq_getElem?_getD,List.getElem?_eq_getElem hjy];rfl
  obtain⟨z,ok,hbz,hz1,hz2,hcall⟩:=vmF_call hmi (bx.at hjx) (by'.at hjy) (by omega)
  have hdn:=h4
  obtain⟨qd,vq,hqd,hcall2⟩: ∃qd vq,H qd=some vq∧∀(H':AHeap)(K:AV→AHeap→Prop),H' qd=H qd→K (.tup [IntA z,.bool ok]) H'→callW Tryz.prog (vmF i) [IntA x[j],IntA y[j]] H' K:=by
   by_cases o8:i.op=8
   ·exact⟨_,_,hT' o8,fun H' K he hk=>hcall H' K (fun _=>he.trans (hT' o8)) hk⟩
   ·exact⟨mb,_,hm,fun H' K _ hk=>hcall H' K (fun e=>absurd e o8) hk⟩
  have q3:=ne_of_some hqd n3
  have qo:=ne_of_some hqd oH
  simp(disch:=first|exact Xe|fail)only[hj,idx_IC hjx,load_IC hjx,idx_IC hjy,load_IC hjy,↓Xa,Xb,Xc,↓reduceIte,Nat.reduceLT,Nat.reduceEqDiff,Nat.reduceBEq,Nat.reduceLeDiff,Nat.reduceAdd,Nat.reduceMul]
  refine dcallF [qd] (fun H' K he hk=>hcall2 H' K ((he qd (by simp)).trans (by rw[upd_other _ _ (Ne.symm qo),upd_other _ _ (Ne.symm q3)])) hk) ?_
  simp(disch:=first|exact Xe|fail)only[↓Xa,Xb,Xc,↓reduceIte,Nat.reduceLT,Nat.reduceEqDiff,Nat.reduceBEq,Nat.reduceLeDiff,Nat.reduceAdd,Nat.reduceMul]
  refine dalloc_i fun q9 hq9=>?_
  have q93:=(upd_none.1 (upd_none.1 hq9).2).1
  have q9H:=(upd_none.1 (upd_none.1 hq9).2).2
  have q9o:=(upd_none.1 hq9).1
  have q9d:=ne_of_some hqd q9H
  simp(disch:=first|exact Xe|fail)only[cells_IntA,↓Xa,Xb,Xc,↓reduceIte,Nat.reduceLT,Nat.reduceEqDiff,Nat.reduceBEq,Nat.reduceLeDiff,Nat.reduceAdd,Nat.reduceMul]
  cases ok with
  |false=>
   simp(disch:=first|exact Xe|fail)only[rs33,↓Xa,Xb,Xc,↓reduceIte,Nat.reduceLT,Nat.reduceEqDiff,Nat.reduceBEq,Nat.reduceLeDiff,Nat.reduceAdd,Nat.reduceMul]
   refine SetR.dropTo ((((Le.refl H).updB n3).updB oH).updB q9H) (SetR.now (hq2' (doR_fail (j:=j) (by omega) hjx ?_)))
   rw[ex,ey];exact hz2 rfl
  |true=>
   have hdz:=hz1 rfl
   have eset:(xs++List.replicate (L-j) 0).set j z=(xs++[z])++List.replicate (L-(j+1)) 0:=by
    rw[List.set_append_right _ _ (by omega),h2,Nat.sub_self,show L-j=(L-(j+1))+1 by omega,List.replicate_succ,List.set_cons_zero,List.append_assoc];rfl
   have mo: ∀v w:ABlk,(((H.upd p3 (some X)).upd o (some v)).upd q9 (some w)) o=some v:=fun v w=>by rw[upd_other _ _ (Ne.symm q9o),upd_same]
   have hlo:(IC (xs++List.replicate (L-j) 0)).length=L*2:=by rw[IC_len,hcell]
   simp(disch:=first|exact Xe|fail)only[cells_IntA,fold_IntA,mo,idx_own2',hlo,hj,↓Xa,Xb,Xc,↓reduceIte,Nat.reduceLT,Nat.reduceEqDiff,Nat.reduceBEq,Nat.reduceLeDiff,Nat.reduceAdd,Nat.reduceMul]
   refine(stP_IC hcell hj).2 ?_
   rw[eset,upd_comm _ _ _ (show q9≠o from q9o),upd_upd]
   simp(disch:=first|exact Xe|fail)only[↓Xa,Xb,Xc,↓reduceIte,Nat.reduceLT,Nat.reduceEqDiff,Nat.reduceBEq,Nat.reduceLeDiff,Nat.reduceAdd,Nat.reduceMul]
   refine Settle.dropTo ((Le.refl _).updB (upd_none.2 ⟨q9o,upd_none.2 ⟨q93,q9H⟩⟩)) (Settle.now ⟨(j+1,xs++[z]),by dsimp only;omega,⟨by dsimp only;omega,by dsimp only;simp[h2],fun u hu=>?_,fun i2 hi2=>?_⟩,rfl⟩)
   ·rcases List.mem_append.1 hu with hu|hu
    ·exact h3 u hu
    ·simp at hu;rw[hu];exact hbz
   ·dsimp only at hi2 ⊢
    by_cases e:i2=j
    ·subst e
     have e2:(xs++[z]).getD i2 0=z:=by rw[List.getD_eq_getElem?_getD,List.getElem?_append_right (by omega),h2,Nat.sub_self];rfl
     rw[e2,ex,ey];exact hdz
    ·have e2:(xs++[z]).getD i2 0=xs.getD i2 0:=by rw[List.getD_eq_getElem?_getD,List.getElem?_append_left (by omega),List.getD_eq_getElem?_getD]
     rw[e2];exact h4 i2 (by omega)
 ·obtain rfl:j=L:=by omega
  have hdo:doR i x y=some xs:=doR_of (by omega) (by omega) fun i2 hi2=>h4 i2 (by omega)
  have hlen0:xs.length<4611686018427387904:=by omega
  have eI:IC (xs++List.replicate (j-j) 0)=IC xs:=by simp
  rw[eI]
  simp(disch:=first|exact Xe|fail)only[hj,↓Xa,Xb,Xc,↓reduceIte,Nat.reduceLT,Nat.reduceEqDiff,Nat.reduceBEq,Nat.reduceLeDiff,Nat.reduceAdd,Nat.reduceMul]
  refine Settle.now ?_
  have w3: ∀v:ABlk,((H.upd p3 (some X)).upd o (some v)) p3=some (.row 76 0 [.int .i64 i.op,.int .i64 (w:Int),.int .i64 (a:Int),.int .i64 (c:Int),.int .i64 i.c]):=fun v=>by rw[upd_other _ _ (Ne.symm o3),upd_same,hX']
  have wm: ∀v:ABlk,((H.upd p3 (some X)).upd o (some v)) mb=some (.row 161 0 [.int .i64 p.ins,.int .i64 p.regs,CodeA p.code false,OutsA p.outs false,.own br N 0 N tm,.int .i64 n]):=fun v=>by rw[upd_other _ _ (Ne.symm om),upd_other _ _ (Ne.symm m3)];exact hm'
  have wb: ∀v:ABlk,((H.upd p3 (some X)).upd o (some v)) br=some (.row 29 1 (GI regs)):=fun v=>by rw[upd_other _ _ (Ne.symm ob),upd_other _ _ (Ne.symm b3)];exact hb
  simp(disch:=first|exact Xe|fail)only[w3,wm,wb,idx_ownR,hl,hwN,↓Xa,Xb,Xc,↓reduceIte,Nat.reduceLT,Nat.reduceEqDiff,Nat.reduceBEq,Nat.reduceLeDiff,Nat.reduceAdd,Nat.reduceMul]
  refine(stP_1 (x:=.own o (j*2) 0 j true) hl hwN).2 ?_
  have wm2: ∀v u:ABlk,(((H.upd p3 (some X)).upd o (some v)).upd br (some u)) mb=some (.row 161 0 [.int .i64 p.ins,.int .i64 p.regs,CodeA p.code false,OutsA p.outs false,.own br N 0 N tm,.int .i64 n]):=fun v u=>by rw[upd_other _ _ hne];exact wm v
  simp(disch:=first|exact Xe|fail)only[wm2,rs33,↓Xa,Xb,Xc,↓reduceIte,Nat.reduceLT,Nat.reduceEqDiff,Nat.reduceBEq,Nat.reduceLeDiff,Nat.reduceAdd,Nat.reduceMul]
  have hgl:(GI (regs.set w xs)).length=((GI regs).set w (.own o (j*2) 0 j true)).length:=by rw[GI_len,List.length_set,List.length_set,GI_len]
  have hHf: ∀(u v:ABlk),((((H.upd p3 (some X)).upd o (some (.row 48 2 (IC xs)))).upd br (some u)).upd mb (some v)) o=some (.row 48 2 (IC xs)):=fun u v=>by rw[upd_other _ _ om,upd_other _ _ ob,upd_same]
  have hHb: ∀(u v:ABlk),((((H.upd p3 (some X)).upd o (some (.row 48 2 (IC xs)))).upd br (some u)).upd mb (some v)) br=some u:=fun u v=>by rw[upd_other _ _ (Ne.symm hne),upd_same]
  refine SetR.frzC br o (GI (regs.set w xs)) hgl (fun i2 q1 q2=>?_) (hHf _ _) (hHb _ _) (Ne.symm ob) ?_
  ·simp only[GI,List.map_set,List.getElem_set]
   by_cases e:w=i2
   ·rw[if_pos e,if_pos e]
    have e1:frz1 o 2 (IC xs) (.own o (j*2) 0 j true)=.seq j (IC xs) true:=by
     simp[frz1,IC_len,h2];rw[List.take_of_length_le (by rw[IC_len];omega)]
    have e2:rI xs=.seq j (IC xs) false:=by rw[rI,RowA,h2]
    rw[e1,e2];exact Wk.l0
   ·rw[if_neg e,if_neg e]
    simp only[List.getElem_map]
    exact Wk.refl
  ·have e1:Fw.frz o 2 (IC xs) (.int .i64 ((0:Nat):Int))=.int .i64 ((0:Nat):Int):=rfl
   rw[e1]
   refine SetR.dropTo ?_ (SetR.now (hq1' xs hdo ⟨h3,hlen0⟩ (by omega)))
   intro q v hq
   by_cases eb:q=br
   ·subst eb
    rw[upd_other _ _ (Ne.symm hne),upd_same]at hq
    rw[upd_same];exact hq
   by_cases em:q=mb
   ·subst em
    rw[upd_same]at hq
    rw[upd_other _ _ eb,upd_other _ _ (Ne.symm om),upd_same];exact hq
   ·rw[upd_other _ _ em,upd_other _ _ eb]at hq
    have eo:q≠o:=by rintro rfl;rw[oH]at hq;cases hq
    have e3:q≠p3:=by rintro rfl;rw[n3]at hq;cases hq
    rw[upd_other _ _ eb,upd_other _ _ eo,upd_other _ _ em,upd_other _ _ eb,upd_other _ _ eo,upd_other _ _ e3];exact hq
theorem cells_mach0{p:PR}:(AV.agg [.int .i64 p.ins,.int .i64 p.regs,CodeA p.code false,OutsA p.outs false,.seq 0 [] true,.int .i64 ((0:Nat):Int)]).cells=some [.int .i64 p.ins,.int .i64 p.regs,CodeA p.code false,OutsA p.outs false,.seq 0 [] true,.int .i64 ((0:Nat):Int)]:=id rfl
theorem dmks_I{H:AHeap}{ty n:Nat}{K:AV→List Nat→Option (Nat×ABlk)→Prop}(h:n≤100000):dmksW H ty 2 32 [.bool false,.seq 0 [] true] (.int .i64 (n:Int)) (.int .i64 (n:Int)) K↔∀b,H b=none→K (.own b (n*2) 0 n true) [] (some (b,.row ty 2 (IC (List.replicate n 0)))):=by
 have h1:(32:Int)*n≤281474976710656:=by omega
 have h2:(n:Int)<9223372036854775808:=by omega
 simp[dmksW,h1,h2,repI]
theorem dapW_nil{H:AHeap}{ty bytes:Nat}{x:AV}{ti:Bool}{K:AV→List Nat→Option (Nat×ABlk)→Prop}(hc:x.cell=true)(hb:bytes≤70368744177664)(k: ∀b,H b=none→K (.own b 1 0 1 false) [] (some (b,.row ty 1 [x]))):dapW H ty 1 bytes (.seq 0 [] true) (.seq 1 [x] ti) K:=
 ⟨rfl,by simp[hc],by omega,rfl,rfl,rfl,by omega,by omega,k⟩
theorem dapW_own{H:AHeap}{ty bytes b n:Nat}{x:AV}{ti t2:Bool}{cells:List AV}{K:AV→List Nat→Option (Nat×ABlk)→Prop}(hc:x.cell=true)(hH:H b=some (.row ty 1 cells))(hl:cells.length=n)(hb:(n+1)*bytes≤70368744177664)(hn:n+1≤70368744177664)
 (k:K (.own b (n+1) 0 (n+1) false) [b] (some (b,.row ty 1 (cells++[x])))):dapW H ty 1 bytes (.own b n 0 n t2) (.seq 1 [x] ti) K:=by
 refine⟨rfl,by simp[hc],by omega,?_⟩
 dsimp only
 rw[hH]
 exact⟨hl,rfl,by omega,rfl,rfl,hb,hn,by simpa using k⟩
def machM(B:AHeap)(mb:Nat)(p:PR)(R:List (List Int))(j:Nat)(M:AHeap):Prop:=
 (j=0∧M=B.upd mb (some (.row 161 0 (machC p (.seq 0 [] true) 0))))∨
 (0<j∧∃br,B br=none∧Ap br mb∧M=(B.upd br (some (.row 29 1 (GI (R.take j))))).upd mb (some (.row 161 0 (machC p (.own br j 0 j false) 0))))
theorem new_run{H:AHeap}{Q:AV→AHeap→Prop}{p:PR}{g:List (List Int)}{t:Bool}{L N:Nat}(hp:p.ok)(hN0:p.regs.toNat=N)(hLg:(g.getD 0 []).length=L)(hL:L≤100000)(hgl:g.length<9223372036854775808)(hgb: ∀r,r∈g→r.length<9223372036854775808)
 (hbad:gridE p g≠0→Q (.tup [.nilP,.int .i64 ((gridE p g:Nat):Int)]) H)
 (hok:gridE p g=0→∀mb br,H mb=none→H br=none→mb≠br→Q (.tup [.ptr mb 6 0,.int .i64 ((0:Nat):Int)]) ((H.upd br (some (.row 29 1 (GI (regsR p g L))))).upd mb (some (.row 161 0 (machC p (.own br N 0 N false) 0))))):
 Run Tryz.prog 32 [ProgA p,GIA g t] H Q:=by
 obtain⟨kc,hchk⟩:=check_fn p hp
 refine enter32 (by simp) ?_
 simp(disch:=first|exact Xe|fail)only[ac32,cells_ProgA,↓Xa,Xb,Xc,↓reduceIte,Nat.reduceLT,Nat.reduceEqDiff,Nat.reduceBEq,Nat.reduceLeDiff,Nat.reduceAdd,Nat.reduceMul]
 refine alloc_i fun p2 hp2=>?_
 simp(disch:=first|exact Xe|fail)only[fold_ProgA,↓Xa,Xb,Xc,↓reduceIte,Nat.reduceLT,Nat.reduceEqDiff,Nat.reduceBEq,Nat.reduceLeDiff,Nat.reduceAdd,Nat.reduceMul]
 refine hchk.call ?_
 have hle2: ∀{x:ABlk},Le H (H.upd p2 (some x)):=(Le.refl H).updB hp2
 by_cases hr1:rightP p
 rotate_right
 ·have hge:gridE p g=80:=by
   unfold gridE;rw[if_neg (fun h=>hr1 h.1)];unfold rgtE;rw[if_neg hr1]
  rw[if_neg hr1]
  rw[hge]at hbad
  have hd:decide (((80:Nat):Int)=((0:Nat):Int))=false:=rfl
  simp(disch:=first|exact Xe|fail)only[neq_int,hd,rs32,↓Xa,Xb,Xc,↓reduceIte,Nat.reduceLT,Nat.reduceEqDiff,Nat.reduceBEq,Nat.reduceLeDiff,Nat.reduceAdd,Nat.reduceMul]
  exact SetR.dropTo hle2 (SetR.now (hbad (by decide)))
 rw[if_pos hr1]
 have e00:decide (((0:Nat):Int)=((0:Nat):Int))=true:=rfl
 have hh:=hr1.1
 unfold headP at hh
 by_cases hr2:(g.length:Int)=p.ins
 rotate_right
 ·have hge:gridE p g=5:=by
   unfold gridE;rw[if_neg (fun h=>hr2 h.2)];unfold rgtE;rw[if_pos hr1,if_neg hr2]
  rw[hge]at hbad
  have hd:decide ((g.length:Int)=p.ins)=false:=decide_eq_false hr2
  simp(disch:=first|exact Xe|fail)only[neq_int,e00,len_rw,hd,rs32,↓Xa,Xb,Xc,↓reduceIte,Nat.reduceLT,Nat.reduceEqDiff,Nat.reduceBEq,Nat.reduceLeDiff,Nat.reduceAdd,Nat.reduceMul]
  exact SetR.dropTo hle2 (SetR.now (hbad (by decide)))
 have hd2:decide ((g.length:Int)=p.ins)=true:=decide_eq_true hr2
 have hge:gridE p g=if(∀r,r∈g→r.length=L)∧L≤4096 then 0 else 5:=by unfold gridE;rw[if_pos ⟨hr1,hr2⟩,hLg]
 have hN:p.regs=(N:Int):=by omega
 have hg0:0<g.length:=by omega
 have hgN:g.length≤N:=by omega
 have gl0:(g[0]).length=L:=by rw[← hLg];simp[List.getD_eq_getElem?_getD,hg0]
 have hR0:(regsR p g L).length=N:=by simp[regsR,hN];omega
 have hix: ∀{k:IntKind}{K:AV→Prop}{i:Nat}(h:i<g.length),idxAW 1 (GIA g t) (.int k (i:Int)) K=K (.cptr ((GI g).drop i)):=fun{k K i} h=>by
  have:=idx_map (f:=rI) (t:=t) (k:=k) (K:=K) h
  rw[Nat.mul_one]at this;exact this
 have hld: ∀{M:AHeap}{K:AV→Prop}{i:Nat}(h:i<g.length),loadW M none (.cptr ((GI g).drop i)) K=K (rI (g[i])):=fun{M K i} h=>load_map h
 have hld0: ∀{M:AHeap}{K:AV→Prop},loadW M none (.cptr (GI g)) K=K (rI (g[0])):=fun{M K}=>hld (i:=0) hg0
 have gl0':(g[0]).length<9223372036854775808:=by omega
 simp(disch:=first|exact Xe|fail)only[neq_int,e00,len_rw,hd2,hix hg0,hld0,gl0',gl0,fold_ProgA,↓Xa,Xb,Xc,↓reduceIte,Nat.reduceLT,Nat.reduceEqDiff,Nat.reduceBEq,Nat.reduceLeDiff,Nat.reduceAdd,Nat.reduceMul]
 refine(copyP_fn hr1).call ?_
 simp(disch:=first|exact Xe|fail)only[cells_ProgA,cells_mach0,↓Xa,Xb,Xc,↓reduceIte,Nat.reduceLT,Nat.reduceEqDiff,Nat.reduceBEq,Nat.reduceLeDiff,Nat.reduceAdd,Nat.reduceMul]
 refine alloc_i fun mb hmb=>?_
 have mb2:=(upd_none.1 hmb).1
 have mbH:=(upd_none.1 hmb).2
 generalize hX:(ABlk.row 25 0 [.int .i64 p.ins,.int .i64 p.regs,CodeA p.code false,OutsA p.outs false])=X at*
 have lg:g.length<9223372036854775808:=by omega
 have hfr: ∀j,j<g.length→(regsR p g L)[j]? =some (g[j]?.getD []):=fun j hj=>by simp[regsR,List.getElem?_append_left hj,hj]
 simp(disch:=first|exact Xe|fail)only[len_rw,lg,↓Xa,Xb,Xc,↓reduceIte,Nat.reduceLT,Nat.reduceEqDiff,Nat.reduceBEq,Nat.reduceLeDiff,Nat.reduceAdd,Nat.reduceMul]
 refine W_loop (fun s:Nat×AHeap=>⟨[],[(2,.ptr p2 4 0),(8,.int .i64 L),(9,.ptr mb 6 0),(33,GIA g t),(34,.int .i64 g.length),(35,.int .i64 s.1)],s.2⟩)
  (fun s=>s.1≤g.length∧machM (H.upd p2 (some X)) mb p (regsR p g L) s.1 s.2∧∀i(h:i<g.length),i<s.1→(g[i]).length=L∧L≤4096) (fun s=>g.length-s.1) (0,_) (Settle.now rfl) ⟨Nat.zero_le _,.inl ⟨rfl,rfl⟩,fun i _ h=>absurd h (Nat.not_lt_zero i)⟩ ?_
 rintro⟨j,M⟩ ⟨h1,hM,hall⟩
 dsimp only at h1 hM hall ⊢
 have hleM:Le H M:=by
  rcases hM with⟨_,rfl⟩|⟨_,br,hbr,hne,rfl⟩
  ·exact hle2.updB mbH
  ·exact(hle2.updB (upd_none.1 hbr).2).updB mbH
 by_cases hj:j<g.length
 ·have gj:(g[j]).length<9223372036854775808:=hgb _ (List.getElem_mem hj)
  have bad: ¬((g[j]).length=L∧L≤4096)→SetR Q (.tup [.nilP,.int .i64 ((5:Nat):Int)]) M:=fun h=>by
   have hg:gridE p g=5:=by rw[hge];exact if_neg fun hh=>h ⟨hh.1 _ (List.getElem_mem hj),hh.2⟩
   rw[hg]at hbad
   exact SetR.dropTo hleM (SetR.now (hbad (by decide)))
  by_cases hjl:(g[j]).length=L
  rotate_right
  ·have d1:(!decide ((g[j]).length=L))=true:=by simp[hjl]
   simp(disch:=first|exact Xe|fail)only[hj,hix hj,hld hj,len_rw,gj,neq_int,Int.natCast_inj,d1,rs32,↓Xa,Xb,Xc,↓reduceIte,Nat.reduceLT,Nat.reduceEqDiff,Nat.reduceBEq,Nat.reduceLeDiff,Nat.reduceAdd,Nat.reduceMul]
   exact bad fun hh=>hjl hh.1
  have d1:(!decide ((g[j]).length=L))=false:=by simp[hjl]
  by_cases h4:L≤4096
  rotate_right
  ·have d2:decide (((4096:Nat):Int)<(L:Int))=true:=decide_eq_true (by omega)
   simp(disch:=first|exact Xe|fail)only[hj,hix hj,hld hj,len_rw,gj,neq_int,Int.natCast_inj,d1,gtr_int,d2,rs32,↓Xa,Xb,Xc,↓reduceIte,Nat.reduceLT,Nat.reduceEqDiff,Nat.reduceBEq,Nat.reduceLeDiff,Nat.reduceAdd,Nat.reduceMul]
   exact bad fun hh=>h4 hh.2
  have d2:decide (((4096:Nat):Int)<(L:Int))=false:=decide_eq_false (by omega)
  have hall2: ∀i(h:i<g.length),i<j+1→(g[i]).length=L∧L≤4096:=fun i h hi=>by
   by_cases e:i=j
   ·subst e;exact⟨hjl,h4⟩
   ·exact hall i h (by omega)
  have eR:(regsR p g L)[j]'(by omega)=g[j]:=by simp only[regsR];rw[List.getElem_append_left hj]
  have hjR:j<(regsR p g L).length:=by omega
  rcases hM with⟨rfl,rfl⟩|⟨hj0,br,hbr,hne,rfl⟩
  ·have mm:((H.upd p2 (some X)).upd mb (some (.row 161 0 (machC p (.seq 0 [] true) 0)))) mb=some (.row 161 0 [.int .i64 p.ins,.int .i64 p.regs,CodeA p.code false,OutsA p.outs false,.seq 0 [] true,.int .i64 ((0:Nat):Int)]):=upd_same _ _ _
   simp(disch:=first|exact Xe|fail)only[hj,hix hj,hld hj,hld0,len_rw,gj,neq_int,Int.natCast_inj,d1,gtr_int,d2,mm,↓Xa,Xb,Xc,↓reduceIte,Nat.reduceLT,Nat.reduceEqDiff,Nat.reduceBEq,Nat.reduceLeDiff,Nat.reduceAdd,Nat.reduceMul]
   refine PFn.dcall (cloneI_fn (by omega)) ?_
   simp(disch:=first|exact Xe|fail)only[repF0,↓Xa,Xb,Xc,↓reduceIte,Nat.reduceLT,Nat.reduceEqDiff,Nat.reduceBEq,Nat.reduceLeDiff,Nat.reduceAdd,Nat.reduceMul]
   refine dapW_nil rfl (by omega) fun br hbr=>?_
   have brm:=(upd_none.1 hbr).1
   have br2:=(upd_none.1 (upd_none.1 hbr).2).1
   have brB:=(upd_none.1 hbr).2
   have mm2: ∀v:ABlk,(((H.upd p2 (some X)).upd mb (some (.row 161 0 (machC p (.seq 0 [] true) 0)))).upd br (some v)) mb=some (.row 161 0 [.int .i64 p.ins,.int .i64 p.regs,CodeA p.code false,OutsA p.outs false,.seq 0 [] true,.int .i64 ((0:Nat):Int)]):=fun v=>by rw[upd_other _ _ (Ne.symm brm)];exact mm
   simp(disch:=first|exact Xe|fail)only[mm2,↓Xa,Xb,Xc,↓reduceIte,Nat.reduceLT,Nat.reduceEqDiff,Nat.reduceBEq,Nat.reduceLeDiff,Nat.reduceAdd,Nat.reduceMul]
   refine Settle.now ⟨(1,_),by dsimp only;omega,⟨by dsimp only;omega,.inr ⟨by dsimp only;omega,br,brB,brm,?_⟩,hall2⟩,rfl⟩
   have e1:GI ((regsR p g L).take 1)=[rI (g[0])]:=by
    rw[GI_take hjR,eR];rfl
   rw[e1]
   exact upd_comm _ _ _ (Ne.symm brm)
  ·have mm:(((H.upd p2 (some X)).upd br (some (.row 29 1 (GI ((regsR p g L).take j))))).upd mb (some (.row 161 0 (machC p (.own br j 0 j false) 0)))) mb=some (.row 161 0 [.int .i64 p.ins,.int .i64 p.regs,CodeA p.code false,OutsA p.outs false,.own br j 0 j false,.int .i64 ((0:Nat):Int)]):=upd_same _ _ _
   simp(disch:=first|exact Xe|fail)only[hj,hix hj,hld hj,len_rw,gj,neq_int,Int.natCast_inj,d1,gtr_int,d2,mm,↓Xa,Xb,Xc,↓reduceIte,Nat.reduceLT,Nat.reduceEqDiff,Nat.reduceBEq,Nat.reduceLeDiff,Nat.reduceAdd,Nat.reduceMul]
   refine PFn.dcall (cloneI_fn (by omega)) ?_
   simp(disch:=first|exact Xe|fail)only[repF0,↓Xa,Xb,Xc,↓reduceIte,Nat.reduceLT,Nat.reduceEqDiff,Nat.reduceBEq,Nat.reduceLeDiff,Nat.reduceAdd,Nat.reduceMul]
   have bb:(((H.upd p2 (some X)).upd br (some (.row 29 1 (GI ((regsR p g L).take j))))).upd mb (some (.row 161 0 (machC p (.own br j 0 j false) 0)))) br=some (.row 29 1 (GI ((regsR p g L).take j))):=by rw[upd_other _ _ hne,upd_same]
   refine dapW_own rfl bb (by rw[GI_len,List.length_take];omega) (by omega) (by omega) ?_
   have mm2: ∀v:ABlk,((((H.upd p2 (some X)).upd br (some (.row 29 1 (GI ((regsR p g L).take j))))).upd mb (some (.row 161 0 (machC p (.own br j 0 j false) 0)))).upd br (some v)) mb=some (.row 161 0 [.int .i64 p.ins,.int .i64 p.regs,CodeA p.code false,OutsA p.outs false,.own br j 0 j false,.int .i64 ((0:Nat):Int)]):=fun v=>by rw[upd_other _ _ (Ne.symm hne)];exact mm
   simp(disch:=first|exact Xe|fail)only[machC,mm2,↓Xa,Xb,Xc,↓reduceIte,Nat.reduceLT,Nat.reduceEqDiff,Nat.reduceBEq,Nat.reduceLeDiff,Nat.reduceAdd,Nat.reduceMul]
   refine Settle.now ⟨(j+1,_),by dsimp only;omega,⟨by dsimp only;omega,.inr ⟨by dsimp only;omega,br,hbr,hne,?_⟩,hall2⟩,rfl⟩
   rw[GI_take hjR,eR];rfl
 ·obtain rfl:j=g.length:=by omega
  simp(disch:=first|exact Xe|fail)only[hj,↓Xa,Xb,Xc,↓reduceIte,Nat.reduceLT,Nat.reduceEqDiff,Nat.reduceBEq,Nat.reduceLeDiff,Nat.reduceAdd,Nat.reduceMul]
  refine Settle.now ?_
  simp(disch:=first|exact Xe|fail)only[↓Xa,Xb,Xc,↓reduceIte,Nat.reduceLT,Nat.reduceEqDiff,Nat.reduceBEq,Nat.reduceLeDiff,Nat.reduceAdd,Nat.reduceMul]
  have hg:gridE p g=0:=by
   rw[hge]
   refine if_pos ⟨fun r hm=>?_,(hall 0 hg0 hg0).2⟩
   obtain⟨i,hi,rfl⟩:=List.getElem_of_mem hm
   exact(hall i hi hi).1
  rcases hM with⟨h0,_⟩|⟨_,br,hbr,hne,rfl⟩
  ·omega
  have brp:=(upd_none.1 hbr).1
  have brH:=(upd_none.1 hbr).2
  refine W_loop (fun s:Nat=>⟨[],[(2,.ptr p2 4 0),(8,.int .i64 L),(9,.ptr mb 6 0)],((H.upd p2 (some X)).upd br (some (.row 29 1 (GI ((regsR p g L).take s))))).upd mb (some (.row 161 0 (machC p (.own br s 0 s false) 0)))⟩)
   (fun s=>g.length≤s∧s≤N) (fun s=>N-s) g.length (Settle.keep [2,8,9] rfl) ⟨Nat.le_refl _,hgN⟩ ?_
  rintro j ⟨hj1,hj2⟩
  have mm:(((H.upd p2 (some X)).upd br (some (.row 29 1 (GI ((regsR p g L).take j))))).upd mb (some (.row 161 0 (machC p (.own br j 0 j false) 0)))) mb=some (.row 161 0 [.int .i64 p.ins,.int .i64 p.regs,CodeA p.code false,OutsA p.outs false,.own br j 0 j false,.int .i64 ((0:Nat):Int)]):=upd_same _ _ _
  have m2:(((H.upd p2 (some X)).upd br (some (.row 29 1 (GI ((regsR p g L).take j))))).upd mb (some (.row 161 0 (machC p (.own br j 0 j false) 0)))) p2=some (.row 25 0 [.int .i64 p.ins,.int .i64 (N:Int),CodeA p.code false,OutsA p.outs false]):=by
   rw[upd_other _ _ (Ne.symm mb2),upd_other _ _ (Ne.symm brp),upd_same,← hX,hN]
  have hjl: ∀{K:AV→List Nat→Option (Nat×ABlk)→Prop},dlen K false (.own br j 0 j false)↔K (.int .i64 ((j:Nat):Int)) [] none:=fun{K}=>by
   have:j<9223372036854775808:=by omega
   simp[dlen,this]
  by_cases hj:j<N
  ·simp(disch:=first|exact Xe|fail)only[mm,m2,hjl,hj,↓Xa,Xb,Xc,↓reduceIte,Nat.reduceLT,Nat.reduceEqDiff,Nat.reduceBEq,Nat.reduceLeDiff,Nat.reduceAdd,Nat.reduceMul]
   refine(dmks_I hL).2 fun b2 hb2=>?_
   have b2m:=(upd_none.1 hb2).1
   have b2b:=(upd_none.1 (upd_none.1 hb2).2).1
   have b2B:=(upd_none.1 (upd_none.1 hb2).2).2
   simp(disch:=first|exact Xe|fail)only[repF0,↓Xa,Xb,Xc,↓reduceIte,Nat.reduceLT,Nat.reduceEqDiff,Nat.reduceBEq,Nat.reduceLeDiff,Nat.reduceAdd,Nat.reduceMul]
   refine dapW_own (cells:=GI ((regsR p g L).take j)) rfl ?_ (by rw[GI_len,List.length_take];omega) (by omega) (by omega) ?_
   ·rw[upd_other _ _ (Ne.symm b2b),upd_other _ _ hne,upd_same]
   simp(disch:=first|exact Xe|fail)only[machC,mm,b2m,hne,↓Xa,Xb,Xc,↓reduceIte,Nat.reduceLT,Nat.reduceEqDiff,Nat.reduceBEq,Nat.reduceLeDiff,Nat.reduceAdd,Nat.reduceMul]
   have hjR:j<(regsR p g L).length:=by omega
   have eR:(regsR p g L)[j]=List.replicate L 0:=by simp only[regsR];rw[List.getElem_append_right (by omega)];simp
   have hlt:(GI ((regsR p g L).take j)).length=j:=by rw[GI_len,List.length_take];omega
   have e1:frz1 b2 2 (IC (List.replicate L 0)) (.own b2 (L*2) 0 L true)=.seq L (IC (List.replicate L 0)) true:=by
    simp[frz1,IC_len];rw[List.take_of_length_le (by rw[IC_len];simp)]
   have e2:rI (List.replicate L 0)=.seq L (IC (List.replicate L 0)) false:=by simp
   refine Settle.frzC (cs:=GI ((regsR p g L).take j)++[.own b2 (L*2) 0 L true]) br b2 (GI ((regsR p g L).take (j+1))) (by rw[GI_take hjR,List.length_append,List.length_append];rfl) (fun i q1 q2=>?_) (upd_same _ _ _) (by rw[upd_other _ _ (Ne.symm b2b),upd_other _ _ hne,upd_same]) (Ne.symm b2b) (Settle.now ⟨j+1,by omega,⟨by omega,by omega⟩,?_⟩)
   ·simp only[GI_take hjR,eR]
    by_cases e:i<j
    ·rw[List.getElem_append_left (by omega),List.getElem_append_left (by omega)]
     simp only[GI,List.getElem_map]
     exact Wk.refl
    ·rw[List.getElem_append_right (by omega),List.getElem_append_right (by omega)]
     simp only[List.getElem_singleton]
     rw[e1,e2];exact Wk.l0
   ·have eE:Env.map (Fw.frz b2 2 (IC (List.replicate L 0))) [(2,.ptr p2 4 0),(8,.int .i64 L),(9,.ptr mb 6 0)]=[(2,.ptr p2 4 0),(8,.int .i64 L),(9,.ptr mb 6 0)]:=rfl
    rw[eE]
    congr 1
    have hA:(((H.upd p2 (some X)).upd br (some (.row 29 1 (GI ((regsR p g L).take j)++[.own b2 (L*2) 0 L true])))).upd mb (some (.row 161 0 [.int .i64 p.ins,.int .i64 p.regs,CodeA p.code false,OutsA p.outs false,.own br (j+1) 0 (j+1) false,.int .i64 ((0:Nat):Int)]))) b2=none:=by
     rw[upd_other _ _ b2m,upd_other _ _ b2b];exact b2B
    rw[upd_upd,upd_back _ hA,upd_comm _ _ _ (show mb≠br from Ne.symm hne),upd_upd]
  ·obtain rfl:j=N:=by omega
   simp(disch:=first|exact Xe|fail)only[mm,m2,hjl,hj,↓Xa,Xb,Xc,↓reduceIte,Nat.reduceLT,Nat.reduceEqDiff,Nat.reduceBEq,Nat.reduceLeDiff,Nat.reduceAdd,Nat.reduceMul]
   refine Settle.now ?_
   simp(disch:=first|exact Xe|fail)only[rs32,↓Xa,Xb,Xc,↓reduceIte,Nat.reduceLT,Nat.reduceEqDiff,Nat.reduceBEq,Nat.reduceLeDiff,Nat.reduceAdd,Nat.reduceMul]
   have hq':=hok hg mb br mbH brH (Ne.symm hne)
   refine SetR.dropTo ?_ (SetR.now hq')
   rw[List.take_of_length_le (by omega)]
   exact(hle2.both).both
structure MachIn(H:AHeap)(mb br:Nat)(p:PR)(N n L k:Nat)(regs:List (List Int)):Prop where
 m:H mb=some (.row 161 0 (machC p (.own br N 0 N false) n))
 b:H br=some (.row 29 1 (GI regs))
 ne:mb≠br
 len:regs.length=N
 pN:p.regs=(N:Int)
 right:rightP p
 good:GoodG k L regs
 hk:k≤90000
 hL:L≤100000
 hn:n≤p.code.length
section
variable {H:AHeap} {Q:AV→AHeap→Prop} {mb br N n L k:Nat} {p:PR} {regs:List (List Int)}
theorem MachIn.cells(h:MachIn H mb br p N n L k regs):H mb=some (.row 161 0 [.int .i64 p.ins,.int .i64 p.regs,CodeA p.code false,OutsA p.outs false,.own br N 0 N false,.int .i64 n]):=h.m
theorem MachIn.lc(h:MachIn H mb br p N n L k regs):p.code.length<9223372036854775808∧p.outs.length<9223372036854775808:=by
 have hh:=h.right.1
 unfold headP at hh
 omega
theorem MachIn.step(h:MachIn H mb br p N n L k regs)(hk:k+3≤90000)(hT: ∀i,i∈p.code→i.op=8→TzH H)
 (hq0:n=p.code.length→Q (.int .i64 ((4:Nat):Int)) H)
 (hq1: ∀hn:n<p.code.length,∀x H',doR p.code[n] (regs.getD (p.code[n]).a.toNat []) (regs.getD (p.code[n]).b.toNat [])=some x→MachIn H' mb br p N (n+1) L (k+3) (regs.set (p.code[n]).to.toNat x)→(∀o v,o≠mb→o≠br→H o=some v→H' o=some v)→Q (.int .i64 ((0:Nat):Int)) H')
 (hq2: ∀hn:n<p.code.length,doR p.code[n] (regs.getD (p.code[n]).a.toNat []) (regs.getD (p.code[n]).b.toNat [])=none→Q (.int .i64 ((20:Nat):Int)) H):
 Run Tryz.prog 33 [.ptr mb 6 0] H Q:=by
 refine step_run h.m h.b h.ne h.len h.pN h.right h.good h.hk h.hL h.hn hT hq0 (fun hn x hdo hbx hxl=>hq1 hn x _ hdo ⟨upd_same _ _ _,by rw[upd_other _ _ (Ne.symm h.ne),upd_same],h.ne,by rw[List.length_set,h.len],h.pN,h.right,fun r hm=>?_,hk,h.hL,hn⟩ fun o v h1 h2 ho=>by rw[upd_other _ _ h1,upd_other _ _ h2];exact ho) hq2
 rcases List.mem_or_eq_of_mem_set hm with hm|rfl
 ·exact⟨(h.good r hm).1,(h.good r hm).2.mono (by omega)⟩
 ·exact⟨hxl,hbx⟩
theorem next_run(h:MachIn H mb br p N n L k regs)(hq:Q (.int .i64 ((n:Nat):Int)) H):Run Tryz.prog 35 [.ptr mb 6 0] H Q:=by
 refine enter35 (by simp) ?_
 simp(disch:=first|exact Xe|fail)only[ac35,h.cells,rs35,↓Xa,Xb,Xc,↓reduceIte,Nat.reduceLT,Nat.reduceEqDiff,Nat.reduceBEq,Nat.reduceLeDiff,Nat.reduceAdd,Nat.reduceMul]
 exact SetR.now hq
theorem done_run(h:MachIn H mb br p N n L k regs)(hq:Q (.bool (decide (n=p.code.length))) H):Run Tryz.prog 36 [.ptr mb 6 0] H Q:=by
 have lc:=h.lc.1
 refine enter36 (by simp) ?_
 simp(disch:=first|exact Xe|fail)only[ac36,h.cells,dlen_rw lc,eql_int,Int.natCast_inj,rs36,↓Xa,Xb,Xc,↓reduceIte,Nat.reduceLT,Nat.reduceEqDiff,Nat.reduceBEq,Nat.reduceLeDiff,Nat.reduceAdd,Nat.reduceMul]
 exact SetR.now hq
theorem outs_run(h:MachIn H mb br p N n L k regs)(hq0:n<p.code.length→Q (.tup [.seq 0 [] true,.int .i64 ((4:Nat):Int)]) H)
 (hq1:n=p.code.length→∀y M,growC H 29 1 p.outs.length (GI (p.outs.map fun r=>regs.getD r.toNat [])) y M→Q (.tup [y,.int .i64 ((0:Nat):Int)]) M):Run Tryz.prog 34 [.ptr mb 6 0] H Q:=by
 have lo:=h.lc.2
 have hh:=h.right.1
 unfold headP at hh
 refine enter34 (by simp) ?_
 simp(disch:=first|exact Xe|fail)only[ac34,h.cells,↓Xa,Xb,Xc,↓reduceIte,Nat.reduceLT,Nat.reduceEqDiff,Nat.reduceBEq,Nat.reduceLeDiff,Nat.reduceAdd,Nat.reduceMul]
 refine run_call (done_run h ?_)
 by_cases hn:n=p.code.length
 rotate_right
 ·have d1:decide (n=p.code.length)=false:=decide_eq_false hn
  simp(disch:=first|exact Xe|fail)only[d1,rs34,↓Xa,Xb,Xc,↓reduceIte,Nat.reduceLT,Nat.reduceEqDiff,Nat.reduceBEq,Nat.reduceLeDiff,Nat.reduceAdd,Nat.reduceMul]
  exact SetR.now (hq0 (by have:=h.hn;omega))
 have d1:decide (n=p.code.length)=true:=decide_eq_true hn
 simp(disch:=first|exact Xe|fail)only[d1,h.cells,len_OutsA lo,↓Xa,Xb,Xc,↓reduceIte,Nat.reduceLT,Nat.reduceEqDiff,Nat.reduceBEq,Nat.reduceLeDiff,Nat.reduceAdd,Nat.reduceMul]
 have hol:(p.outs.map fun r=>regs.getD r.toNat []).length=p.outs.length:=by simp
 refine W_loop (fun s:Nat×AV×AHeap=>⟨[],[(0,.ptr mb 6 0),(4,s.2.1),(18,OutsA p.outs false),(19,.int .i64 p.outs.length),(20,.int .i64 s.1)],s.2.2⟩)
  (fun s=>s.1≤p.outs.length∧growC H 29 1 s.1 (GI ((p.outs.map fun r=>regs.getD r.toNat []).take s.1)) s.2.1 s.2.2) (fun s=>p.outs.length-s.1) (0,.seq 0 [] true,H) (Settle.now rfl) ⟨Nat.zero_le _,growC_nil⟩ ?_
 rintro⟨j,z,M⟩ ⟨h1,hg⟩
 dsimp only at h1 hg ⊢
 by_cases hj:j<p.outs.length
 ·have hjo:=h.right.2.1 _ (List.getElem_mem hj)
  obtain⟨w,hw⟩: ∃w:Nat,p.outs[j]=(w:Int):=⟨(p.outs[j]).toNat,by omega⟩
  have hpN:=h.pN
  have hlen:=h.len
  have hwN:w<N:=by omega
  have hwr:w<regs.length:=by omega
  have mm:=growC_old hg h.cells
  have mb':=growC_old hg h.b
  have hlN:(GI regs).length=N:=by rw[GI_len,hlen]
  have hwb:=(h.good _ (List.getElem_mem hwr)).1
  have hL:=h.hL
  simp(disch:=first|exact Xe|fail)only[hj,idx_OutsA,load_OutsA,hw,mm,mb',idx_ownR,hlN,hwN,ldP_GI hlen hwr,↓Xa,Xb,Xc,↓reduceIte,Nat.reduceLT,Nat.reduceEqDiff,Nat.reduceBEq,Nat.reduceLeDiff,Nat.reduceAdd,Nat.reduceMul]
  refine(cloneI_fn (by omega)).call ?_
  simp(disch:=first|exact Xe|fail)only[repF0,↓Xa,Xb,Xc,↓reduceIte,Nat.reduceLT,Nat.reduceEqDiff,Nat.reduceBEq,Nat.reduceLeDiff,Nat.reduceAdd,Nat.reduceMul]
  refine app_C (m:=1) hg rfl cellGI (by omega) (by omega) (by omega) fun y' M2 hg4=>?_
  have et:(p.outs.map fun r=>regs.getD r.toNat [])[j]'(by omega)=regs[w]:=by
   simp only[List.getElem_map,hw]
   simp[List.getD_eq_getElem?_getD,List.getElem?_eq_getElem hwr]
  rw[← et,← GI_take (by omega)]at hg4
  simp(disch:=first|exact Xe|fail)only[↓Xa,Xb,Xc,↓reduceIte,Nat.reduceLT,Nat.reduceEqDiff,Nat.reduceBEq,Nat.reduceLeDiff,Nat.reduceAdd,Nat.reduceMul]
  exact Settle.now ⟨(j+1,y',M2),by dsimp only;omega,⟨by dsimp only;omega,hg4⟩,rfl⟩
 ·obtain rfl:j=p.outs.length:=by omega
  rw[List.take_of_length_le (by omega)]at hg
  simp(disch:=first|exact Xe|fail)only[hj,↓Xa,Xb,Xc,↓reduceIte,Nat.reduceLT,Nat.reduceEqDiff,Nat.reduceBEq,Nat.reduceLeDiff,Nat.reduceAdd,Nat.reduceMul]
  refine Settle.now ?_
  simp(disch:=first|exact Xe|fail)only[rs34,↓Xa,Xb,Xc,↓reduceIte,Nat.reduceLT,Nat.reduceEqDiff,Nat.reduceBEq,Nat.reduceLeDiff,Nat.reduceAdd,Nat.reduceMul]
  exact SetR.now (hq1 hn _ _ hg)
end
def ansV(p:PR)(g:List (List Int)):List (List Int)×Nat×Nat:=
 if gridE p g=0 then(if(stepsR p g (g.getD 0 []).length).length<p.code.length then([],(stepsR p g (g.getD 0 []).length).length,20)else(outsR p g (g.getD 0 []).length,p.code.length,0))else([],0,gridE p g)
theorem vmrun_run{H:AHeap}{Q:AV→AHeap→Prop}{p:PR}{g:List (List Int)}{t:Bool}{k0:Nat}(hp:p.ok)(hL:(g.getD 0 []).length≤100000)(hz: ∀r,r∈g→RB4 k0 r)(hgl:g.length<9223372036854775808)(hk:rightP p→k0+3*p.code.length≤90000)(hT:rightP p→∀i,i∈p.code→i.op=8→TzH H)
 (hq: ∀y M,growC H 29 1 (ansV p g).1.length (GI (ansV p g).1) y M→Q (.tup [y,.int .i64 (((ansV p g).2.1:Nat):Int),.int .i64 (((ansV p g).2.2:Nat):Int)]) M):
 Run Tryz.prog 26 [ProgA p,GIA g t] H Q:=by
 have hgb: ∀r,r∈g→r.length<9223372036854775808:=fun r hm=>by have:=(hz r hm).2;omega
 refine enter26 (by simp) ?_
 simp(disch:=first|exact Xe|fail)only[ac26,cells_ProgA,↓Xa,Xb,Xc,↓reduceIte,Nat.reduceLT,Nat.reduceEqDiff,Nat.reduceBEq,Nat.reduceLeDiff,Nat.reduceAdd,Nat.reduceMul]
 refine alloc_i fun p2 hp2=>?_
 simp(disch:=first|exact Xe|fail)only[fold_ProgA,↓Xa,Xb,Xc,↓reduceIte,Nat.reduceLT,Nat.reduceEqDiff,Nat.reduceBEq,Nat.reduceLeDiff,Nat.reduceAdd,Nat.reduceMul]
 have hle2: ∀{x:ABlk},Le H (H.upd p2 (some x)):=(Le.refl H).updB hp2
 refine run_call (new_run hp rfl rfl hL hgl hgb (fun hbad=>?_) fun hok mb br hmb hbr hne=>?_)
 ·have e:ansV p g=([],0,gridE p g):=by rw[ansV,if_neg hbad]
  rw[e]at hq
  have hd:decide (((gridE p g:Nat):Int)=((0:Nat):Int))=false:=decide_eq_false (by omega)
  simp(disch:=first|exact Xe|fail)only[neq_int,hd,rs26,↓Xa,Xb,Xc,↓reduceIte,Nat.reduceLT,Nat.reduceEqDiff,Nat.reduceBEq,Nat.reduceLeDiff,Nat.reduceAdd,Nat.reduceMul]
  exact SetR.dropTo hle2 (SetR.now (hq _ _ growC_nil))
 obtain⟨hr1,hr2,hlen,h4⟩:=gridE_0 hok
 have hh:=hr1.1
 unfold headP at hh
 obtain⟨N,hN⟩: ∃N:Nat,p.regs=(N:Int):=⟨p.regs.toNat,by omega⟩
 have e00:decide (((0:Nat):Int)=((0:Nat):Int))=true:=rfl
 have hans:ansV p g=(if(stepsR p g (g.getD 0 []).length).length<p.code.length then([],(stepsR p g (g.getD 0 []).length).length,20)else(outsR p g (g.getD 0 []).length,p.code.length,0)):=by rw[ansV,if_pos hok]
 generalize hL0:(g.getD 0 []).length=L at*
 have hR0:(regsR p g L).length=N:=by simp[regsR,hN];omega
 have hRg:GoodG k0 L (regsR p g L):=fun r hm=>by
  rcases List.mem_append.1 hm with hm|hm
  ·exact⟨hlen r hm,hz r hm⟩
  ·rw[List.mem_replicate]at hm;rw[hm.2]
   exact⟨by simp,fun z hz=>by rw[List.mem_replicate]at hz;rw[hz.2];exact Bd.zero _,by simp;omega⟩
 have hN1:p.regs.toNat=N:=by omega
 rw[hN1]
 have mb2:=(upd_none.1 hmb).1
 have br2:=(upd_none.1 hbr).1
 have mbH:=(upd_none.1 hmb).2
 have brH:=(upd_none.1 hbr).2
 generalize hX:(ABlk.row 25 0 [.int .i64 p.ins,.int .i64 p.regs,CodeA p.code false,OutsA p.outs false])=X at*
 have hk':=hk hr1
 simp(disch:=first|exact Xe|fail)only[neq_int,e00,↓Xa,Xb,Xc,↓reduceIte,Nat.reduceLT,Nat.reduceEqDiff,Nat.reduceBEq,Nat.reduceLeDiff,Nat.reduceAdd,Nat.reduceMul]
 generalize hS:stepsR p g L=S at*
 have hSd:S=(runX doR [] p.code (regsR p g L)).1:=hS.symm
 have hSle:S.length≤p.code.length:=by rw[hSd];exact runX_len _ _
 refine W_loop (fun s:Nat×List (List Int)=>⟨[],[(7,.ptr mb 6 0)],((H.upd p2 (some X)).upd br (some (.row 29 1 (GI s.2)))).upd mb (some (.row 161 0 (machC p (.own br N 0 N false) s.1)))⟩)
  (fun s=>s.1≤p.code.length∧s.1≤S.length∧s.2.length=N∧GoodG (k0+3*s.1) L s.2∧runX doR [] (p.code.drop s.1) s.2=(S.drop s.1,(runX doR [] p.code (regsR p g L)).2)) (fun s=>p.code.length+1-s.1) (0,regsR p g L) (Settle.keep [7] rfl) ⟨Nat.zero_le _,Nat.zero_le _,hR0,by simpa using hRg,by rw[List.drop_zero,List.drop_zero,hSd]⟩ ?_
 rintro⟨n,regs⟩ ⟨h1,h2,h3,h4',h6⟩
 dsimp only at h1 h2 h3 h4' h6 ⊢
 have mi:MachIn (((H.upd p2 (some X)).upd br (some (.row 29 1 (GI regs)))).upd mb (some (.row 161 0 (machC p (.own br N 0 N false) n)))) mb br p N n L (k0+3*n) regs:=
  ⟨upd_same _ _ _,by rw[upd_other _ _ (Ne.symm hne),upd_same],hne,h3,hN,hr1,h4',by omega,by omega,h1⟩
 have hle:Le H (((H.upd p2 (some X)).upd br (some (.row 29 1 (GI regs)))).upd mb (some (.row 161 0 (machC p (.own br N 0 N false) n)))):=(hle2.updB brH).updB mbH
 simp(disch:=first|exact Xe|fail)only[↓Xa,Xb,Xc,↓reduceIte,Nat.reduceLT,Nat.reduceEqDiff,Nat.reduceBEq,Nat.reduceLeDiff,Nat.reduceAdd,Nat.reduceMul]
 refine run_call (step_run mi.m mi.b hne h3 hN hr1 h4' (by omega) (by omega) h1 (fun i hi h8=>hle _ _ (hT hr1 i hi h8)) (fun hnc=>?_) (fun hnl x hdo hbx hxl=>?_) fun hnl hno=>?_)
 ·have e4:decide (((4:Nat):Int)=((20:Nat):Int))=false:=rfl
  have e44:decide (((4:Nat):Int)=((4:Nat):Int))=true:=rfl
  have hSl:S.length=p.code.length:=by omega
  have hfin:(runX doR [] p.code (regsR p g L)).2=regs:=by
   rw[hnc,List.drop_of_length_le (Nat.le_refl _)]at h6
   exact(congrArg Prod.snd h6).symm
  rw[if_neg (by omega)]at hans
  have hou:outsR p g L=p.outs.map fun r=>regs.getD r.toNat []:=by rw[outsR,hfin]
  have hol:(outsR p g L).length=p.outs.length:=by simp[outsR]
  simp(disch:=first|exact Xe|fail)only[eql_int,e4,e44,↓Xa,Xb,Xc,↓reduceIte,Nat.reduceLT,Nat.reduceEqDiff,Nat.reduceBEq,Nat.reduceLeDiff,Nat.reduceAdd,Nat.reduceMul]
  refine Settle.now ?_
  simp(disch:=first|exact Xe|fail)only[↓Xa,Xb,Xc,↓reduceIte,Nat.reduceLT,Nat.reduceEqDiff,Nat.reduceBEq,Nat.reduceLeDiff,Nat.reduceAdd,Nat.reduceMul]
  refine run_call (outs_run mi (fun h=>by omega) fun _ y M hgo=>?_)
  have mm:=growC_old hgo mi.cells
  simp(disch:=first|exact Xe|fail)only[mm,rs26,↓Xa,Xb,Xc,↓reduceIte,Nat.reduceLT,Nat.reduceEqDiff,Nat.reduceBEq,Nat.reduceLeDiff,Nat.reduceAdd,Nat.reduceMul]
  rw[hans]at hq
  obtain⟨M2,hg2,hl2⟩:=growC_le2 hgo hle
  refine SetR.dropTo hl2 (SetR.now ?_)
  rw[hnc]
  exact hq _ _ (by rw[hol,hou];exact hg2)
 ·have e0:decide (((0:Nat):Int)=((20:Nat):Int))=false:=rfl
  have e04:decide (((0:Nat):Int)=((4:Nat):Int))=false:=rfl
  have hat:=runX_at hnl regs hdo
  rw[h6]at hat
  have hS1:S.drop n=x::(runX doR [] (p.code.drop (n+1)) (regs.set (p.code[n]).to.toNat x)).1:=congrArg Prod.fst hat
  have hnS:n<S.length:=by
   have:=congrArg List.length hS1
   simp at this;omega
  have hS2:S.drop (n+1)=(runX doR [] (p.code.drop (n+1)) (regs.set (p.code[n]).to.toNat x)).1:=by
   rw[List.drop_eq_getElem_cons hnS]at hS1
   injection hS1
  simp(disch:=first|exact Xe|fail)only[eql_int,e0,e04,↓Xa,Xb,Xc,↓reduceIte,Nat.reduceLT,Nat.reduceEqDiff,Nat.reduceBEq,Nat.reduceLeDiff,Nat.reduceAdd,Nat.reduceMul]
  refine Settle.keep [7] ⟨(n+1,regs.set (p.code[n]).to.toNat x),by dsimp only;omega,⟨by dsimp only;omega,by dsimp only;omega,by dsimp only;rw[List.length_set,h3],fun r hm=>?_,?_⟩,?_⟩
  ·rcases List.mem_or_eq_of_mem_set hm with hm|rfl
   ·exact⟨(h4' r hm).1,(h4' r hm).2.mono (by dsimp only;omega)⟩
   ·exact⟨hxl,hbx.mono (by dsimp only;omega)⟩
  ·dsimp only
   rw[hS2,congrArg Prod.snd hat]
  ·have e: ∀(A:AHeap)(a b c d:ABlk),(((A.upd br (some a)).upd mb (some b)).upd br (some c)).upd mb (some d)=(A.upd br (some c)).upd mb (some d):=fun A a b c d=>by
    rw[upd_comm _ _ _ (show mb≠br from hne),upd_upd,upd_upd]
   rw[e];rfl
 ·have e20:decide (((20:Nat):Int)=((20:Nat):Int))=true:=rfl
  have hnx:=runX_no hnl regs hno
  rw[h6]at hnx
  have hS0:S.drop n=[]:=congrArg Prod.fst hnx
  have hSl:S.length=n:=by
   have:=congrArg List.length hS0
   simp at this;omega
  rw[if_pos (by omega)]at hans
  rw[hans]at hq
  simp(disch:=first|exact Xe|fail)only[eql_int,e20,mi.cells,rs26,↓Xa,Xb,Xc,↓reduceIte,Nat.reduceLT,Nat.reduceEqDiff,Nat.reduceBEq,Nat.reduceLeDiff,Nat.reduceAdd,Nat.reduceMul]
  refine SetR.dropTo hle (SetR.now ?_)
  rw[← hSl]
  exact hq _ _ growC_nil
theorem Settle.weakT{K:St→Prop}{D:List Nat}{E:Env}{H:AHeap}(t:Nat){x:AV}(hw:Wk (E.get t) x)(h:Settle K ⟨D,E.set t x,H⟩):Settle K ⟨D,E,H⟩:=by
 refine Settle.join ?_
 intro N c a hc hok hr
 refine⟨c,⟨D,E.set t x,H⟩,hc,rfl,hok,⟨hr.size,fun u=>?_,hr.dlen,hr.dmark⟩,Later.refl c,h⟩
 show Enc c (Env.get (E.set t x) u) _
 rw[Env.get_set]
 split
 ·rename_i e;subst e;exact hw _ _ (hr.tmp u)
 ·exact hr.tmp u
abbrev GT(g:List (List Int))(t1 t2:Bool):AV:=.seq g.length (g.map fun r=>OutsA r t1) t2
section
variable {g:List (List Int)} {t1 t2:Bool}
theorem idx_GT{k:IntKind}{K:AV→Prop}{i:Nat}(h:i<g.length):idxAW 1 (GT g t1 t2) (.int k (i:Int)) K=K (.cptr ((g.map fun r=>OutsA r t1).drop i)):=by
 have:=idx_map (f:=fun r=>OutsA r t1) (t:=t2) (k:=k) (K:=K) h
 rw[Nat.mul_one]at this;exact this
theorem load_GT{M:AHeap}{K:AV→Prop}{i:Nat}(h:i<g.length):loadW M none (.cptr ((g.map fun r=>OutsA r t1).drop i)) K=K (OutsA (g[i]) t1):=load_map (f:=fun r=>OutsA r t1) h
theorem lists19_fn(hl:g.length≤2000000)(hg: ∀r,r∈g→r.length≤100000∧∀n,n∈r→I64 n):PFn Tryz.prog 25 [GT g t1 t2] (GIA g false):=by
 refine PFn.frozen (ty:=29) (es:=1) (n:=g.length) (cells:=GI g) fun H Q hq=>?_
 have hlen:g.length<9223372036854775808:=by omega
 refine enter25 (by simp) ?_
 simp(disch:=first|exact Xe|fail)only[ac25,len_rw,hlen,↓Xa,Xb,Xc,↓reduceIte,Nat.reduceLT,Nat.reduceEqDiff,Nat.reduceBEq,Nat.reduceLeDiff,Nat.reduceAdd,Nat.reduceMul]
 refine W_loop (fun s:Nat×AV×AHeap=>⟨[],[(3,s.2.1),(9,GT g t1 t2),(10,.int .i64 g.length),(11,.int .i64 s.1)],s.2.2⟩) (fun s=>s.1≤g.length∧growC H 29 1 s.1 (GI (g.take s.1)) s.2.1 s.2.2) (fun s=>g.length-s.1) (0,.seq 0 [] true,H) (Settle.now rfl) ⟨Nat.zero_le _,growC_nil⟩ ?_
 rintro⟨i,y,M⟩ ⟨h1,hg1⟩
 dsimp only at h1 hg1 ⊢
 by_cases hi:i<g.length
 ·obtain⟨hl1,hI⟩:=hg _ (List.getElem_mem hi)
  have lgi:(g[i]).length<9223372036854775808:=by omega
  simp(disch:=first|exact Xe|fail)only[hi,idx_GT hi,load_GT hi,len_OutsA lgi,↓Xa,Xb,Xc,↓reduceIte,Nat.reduceLT,Nat.reduceEqDiff,Nat.reduceBEq,Nat.reduceLeDiff,Nat.reduceAdd,Nat.reduceMul]
  generalize hgl:g[i]=l at*
  have m1:(32:Int)*((l.length+1:Nat):Int)≤281474976710656:=by omega
  refine⟨⟨by omega,by omega,by omega,m1⟩,fun b hb=>?_⟩
  rw[show(((l.length+1:Nat):Int)).toNat=l.length+1 by omega,show(((0:Nat):Int)).toNat=0 from rfl,repI]
  simp(disch:=first|exact Xe|fail)only[len_OutsA lgi,↓Xa,Xb,Xc,↓reduceIte,Nat.reduceLT,Nat.reduceEqDiff,Nat.reduceBEq,Nat.reduceLeDiff,Nat.reduceAdd,Nat.reduceMul]
  refine W_loop (fun s:Nat=>⟨[],[(3,y),(6,.ownc b ((l.length+1)*2) s (l.length+1)),(9,GT g t1 t2),(10,.int .i64 g.length),(11,.int .i64 i),(19,OutsA l t1),(20,.int .i64 (l.length:Int)),(21,.int .i64 s)],M.upd b (some (.row 48 2 (IC (l.take s++List.replicate (l.length+1-s) 0))))⟩)
   (fun s=>s≤l.length) (fun s=>l.length-s) 0 (Settle.now (by simp)) (Nat.zero_le _) ?_
  intro j hj'
  by_cases hj:j<l.length
  ·have hij:=hI _ (List.getElem_mem hj)
   unfold I64 at hij
   simp(disch:=first|exact Xe|fail)only[hj,idx_OutsA hj,load_OutsA hj,↓Xa,Xb,Xc,↓reduceIte,Nat.reduceLT,Nat.reduceEqDiff,Nat.reduceBEq,Nat.reduceLeDiff,Nat.reduceAdd,Nat.reduceMul]
   refine(of_fn (n:=l[j]) (by omega)).call ?_
   simp(disch:=first|exact Xe|fail)only[repI1,cells_IntA,↓Xa,Xb,Xc,↓reduceIte,Nat.reduceLT,Nat.reduceEqDiff,Nat.reduceBEq,Nat.reduceLeDiff,Nat.reduceAdd,Nat.reduceMul]
   refine .inr (.inr (.inr ⟨rfl,cellI,?_⟩))
   dsimp only
   rw[upd_same]
   have hlen2:(l.take j++List.replicate (l.length+1-j) (0:Int)).length=l.length+1:=by simp;omega
   refine⟨by rw[IC_len,hlen2],rfl,rfl,rfl,by omega,?_⟩
   have hsp:splice (IC (l.take j++List.replicate (l.length+1-j) 0)) (j*2) [IntB (l[j]),IntD (l[j])]=IC (l.take (j+1)++List.replicate (l.length+1-(j+1)) 0):=by
    have q1:j<(l.take j++List.replicate (l.length+1-j) (0:Int)).length:=by omega
    have q2:=IC_set (v:=l[j]) q1
    rw[show splice (IC (l.take j++List.replicate (l.length+1-j) 0)) (j*2) [IntB (l[j]),IntD (l[j])]=(IC (l.take j++List.replicate (l.length+1-j) 0)).take (j*2)++[IntB (l[j]),IntD (l[j])]++(IC (l.take j++List.replicate (l.length+1-j) 0)).drop (j*2+2)from rfl,q2]
    congr 1
    rw[List.set_append_right _ _ (by simp;omega),show j-(l.take j).length=0 by simp;omega,show l.length+1-j=(l.length+1-(j+1))+1 by omega,List.replicate_succ,List.set_cons_zero,← List.take_append_getElem hj,List.append_assoc]
    rfl
   rw[hsp,upd_upd]
   simp(disch:=first|exact Xe|fail)only[↓Xa,Xb,Xc,↓reduceIte,Nat.reduceLT,Nat.reduceEqDiff,Nat.reduceBEq,Nat.reduceLeDiff,Nat.reduceAdd,Nat.reduceMul]
   exact Settle.now ⟨j+1,by omega,by omega,rfl⟩
  ·obtain rfl:j=l.length:=by omega
   simp(disch:=first|exact Xe|fail)only[hj,↓Xa,Xb,Xc,↓reduceIte,Nat.reduceLT,Nat.reduceEqDiff,Nat.reduceBEq,Nat.reduceLeDiff,Nat.reduceAdd,Nat.reduceMul]
   refine Settle.freezeC 6 rfl (upd_same _ _ _) (by rw[IC_len];simp) rfl (by omega) ?_
   rw[upd_upd,upd_back _ hb]
   have hw:Wk (.exte 2 l.length (IC (l.take l.length++List.replicate (l.length+1-l.length) 0))) (rI l):=by
    have h:=Wk.exte (es:=2) (n:=l.length) (cells:=IC (l.take l.length++List.replicate (l.length+1-l.length) 0))
    have e:(IC (l.take l.length++List.replicate (l.length+1-l.length) 0)).take (l.length*2)=IC l:=by rw[List.take_length,IC_app,List.take_left' (IC_len l)]
    rw[e]at h;exact h
   refine Settle.weakT 6 (x:=rI l) hw (Settle.now ?_)
   simp(disch:=first|exact Xe|fail)only[repF0,↓Xa,Xb,Xc,↓reduceIte,Nat.reduceLT,Nat.reduceEqDiff,Nat.reduceBEq,Nat.reduceLeDiff,Nat.reduceAdd,Nat.reduceMul]
   refine app_C (m:=1) hg1 rfl cellGI (by omega) (by omega) (by omega) fun y' M2 hg4=>?_
   rw[← hgl,← GI_take hi]at hg4
   simp(disch:=first|exact Xe|fail)only[↓Xa,Xb,Xc,↓reduceIte,Nat.reduceLT,Nat.reduceEqDiff,Nat.reduceBEq,Nat.reduceLeDiff,Nat.reduceAdd,Nat.reduceMul]
   exact Settle.now ⟨(i+1,y',M2),by dsimp only;omega,⟨by dsimp only;omega,hg4⟩,rfl⟩
 ·obtain rfl:i=g.length:=by omega
  rw[List.take_of_length_le (by omega)]at hg1
  simp(disch:=first|exact Xe|fail)only[hi,↓Xa,Xb,Xc,↓reduceIte,Nat.reduceLT,Nat.reduceEqDiff,Nat.reduceBEq,Nat.reduceLeDiff,Nat.reduceAdd,Nat.reduceMul]
  refine Settle.now ?_
  simp(disch:=first|exact Xe|fail)only[rs25,↓Xa,Xb,Xc,↓reduceIte,Nat.reduceLT,Nat.reduceEqDiff,Nat.reduceBEq,Nat.reduceLeDiff,Nat.reduceAdd,Nat.reduceMul]
  exact SetR.now (hq _ _ hg1)
theorem refs19_fn(hl:g.length≤2000000)(hg: ∀r,r∈g→r.length≤100000∧∀n,n∈r→I64 n):PFn Tryz.prog 29 [GT g t1 t2] (GA g false):=by
 refine PFn.frozen (ty:=89) (es:=1) fun H Q hq=>?_
 have hlen:g.length<9223372036854775808:=by omega
 refine enter29 (by simp) ?_
 simp(disch:=first|exact Xe|fail)only[ac29,len_rw,hlen,↓Xa,Xb,Xc,↓reduceIte,Nat.reduceLT,Nat.reduceEqDiff,Nat.reduceBEq,Nat.reduceLeDiff,Nat.reduceAdd,Nat.reduceMul]
 refine W_loop (fun s:Nat×AV×AHeap=>⟨[],[(3,s.2.1),(9,GT g t1 t2),(10,.int .i64 g.length),(11,.int .i64 s.1)],s.2.2⟩) (fun s=>s.1≤g.length∧growC H 89 1 s.1 (GC (g.take s.1)) s.2.1 s.2.2) (fun s=>g.length-s.1) (0,.seq 0 [] true,H) (Settle.now rfl) ⟨Nat.zero_le _,growC_nil⟩ ?_
 rintro⟨i,y,M⟩ ⟨h1,hg1⟩
 dsimp only at h1 hg1 ⊢
 by_cases hi:i<g.length
 ·obtain⟨hl1,hI⟩:=hg _ (List.getElem_mem hi)
  have lgi:(g[i]).length<9223372036854775808:=by omega
  simp(disch:=first|exact Xe|fail)only[hi,idx_GT hi,load_GT hi,len_OutsA lgi,↓Xa,Xb,Xc,↓reduceIte,Nat.reduceLT,Nat.reduceEqDiff,Nat.reduceBEq,Nat.reduceLeDiff,Nat.reduceAdd,Nat.reduceMul]
  generalize hgl:g[i]=l at*
  refine W_loop (fun s:Nat×AV×AHeap=>⟨[],[(3,y),(6,s.2.1),(9,GT g t1 t2),(10,.int .i64 g.length),(11,.int .i64 i),(15,OutsA l t1),(16,.int .i64 (l.length:Int)),(17,.int .i64 s.1)],s.2.2⟩)
   (fun s=>s.1≤l.length∧growC M 44 2 s.1 (RC (l.take s.1)) s.2.1 s.2.2) (fun s=>l.length-s.1) (0,.seq 0 [] true,M) (Settle.now rfl) ⟨Nat.zero_le _,growC_nil⟩ ?_
  rintro⟨j,z,M2⟩ ⟨hj',hg2⟩
  dsimp only at hj' hg2 ⊢
  by_cases hj:j<l.length
  ·have hij:=hI _ (List.getElem_mem hj)
   unfold I64 at hij
   simp(disch:=first|exact Xe|fail)only[hj,idx_OutsA hj,load_OutsA hj,↓Xa,Xb,Xc,↓reduceIte,Nat.reduceLT,Nat.reduceEqDiff,Nat.reduceBEq,Nat.reduceLeDiff,Nat.reduceAdd,Nat.reduceMul]
   refine(rof_fn (n:=l[j]) (by omega)).call ?_
   simp(disch:=first|exact Xe|fail)only[repI1,cells_RefA,↓Xa,Xb,Xc,↓reduceIte,Nat.reduceLT,Nat.reduceEqDiff,Nat.reduceBEq,Nat.reduceLeDiff,Nat.reduceAdd,Nat.reduceMul]
   refine app_C (m:=1) hg2 rfl cellR (by omega) (by omega) (by omega) fun z' M3 hg3=>?_
   rw[← RC_take hj]at hg3
   simp(disch:=first|exact Xe|fail)only[↓Xa,Xb,Xc,↓reduceIte,Nat.reduceLT,Nat.reduceEqDiff,Nat.reduceBEq,Nat.reduceLeDiff,Nat.reduceAdd,Nat.reduceMul]
   exact Settle.now ⟨(j+1,z',M3),by dsimp only;omega,⟨by dsimp only;omega,hg3⟩,rfl⟩
  ·obtain rfl:j=l.length:=by omega
   rw[List.take_of_length_le (by omega)]at hg2
   simp(disch:=first|exact Xe|fail)only[hj,↓Xa,Xb,Xc,↓reduceIte,Nat.reduceLT,Nat.reduceEqDiff,Nat.reduceBEq,Nat.reduceLeDiff,Nat.reduceAdd,Nat.reduceMul]
   refine Settle.grownC 6 rfl hg2 (Settle.now ?_)
   simp(disch:=first|exact Xe|fail)only[repF0,↓Xa,Xb,Xc,↓reduceIte,Nat.reduceLT,Nat.reduceEqDiff,Nat.reduceBEq,Nat.reduceLeDiff,Nat.reduceAdd,Nat.reduceMul]
   refine app_C (m:=1) hg1 rfl cellG (by omega) (by omega) (by omega) fun y' M3 hg4=>?_
   rw[← hgl,← GC_take hi]at hg4
   simp(disch:=first|exact Xe|fail)only[↓Xa,Xb,Xc,↓reduceIte,Nat.reduceLT,Nat.reduceEqDiff,Nat.reduceBEq,Nat.reduceLeDiff,Nat.reduceAdd,Nat.reduceMul]
   exact Settle.now ⟨(i+1,y',M3),by dsimp only;omega,⟨by dsimp only;omega,hg4⟩,rfl⟩
 ·obtain rfl:i=g.length:=by omega
  rw[List.take_of_length_le (by omega)]at hg1
  simp(disch:=first|exact Xe|fail)only[hi,↓Xa,Xb,Xc,↓reduceIte,Nat.reduceLT,Nat.reduceEqDiff,Nat.reduceBEq,Nat.reduceLeDiff,Nat.reduceAdd,Nat.reduceMul]
  refine Settle.now ?_
  simp(disch:=first|exact Xe|fail)only[rs29,↓Xa,Xb,Xc,↓reduceIte,Nat.reduceLT,Nat.reduceEqDiff,Nat.reduceBEq,Nat.reduceLeDiff,Nat.reduceAdd,Nat.reduceMul]
  exact SetR.now (hq _ _ hg1)
end
theorem iText_inj9{x y:Int}:iText x=iText y↔x=y:=by
 constructor
 ·intro h
  obtain⟨_,_,h1⟩:=iText_at x
  obtain⟨_,_,h2⟩:=iText_at y
  rw[← h1,← h2,h]
 ·rintro rfl;rfl
theorem block1_fn{x y:Int}{k:Nat}(hx:Bd k x)(hy:Bd k y)(hk:k≤1000000):PFn Tryz.prog 106 [IntA x,RefA y false] (.bool (decide (x=y))):=by
 intro H Q hq
 have e:decide (iText x=iText y)=decide (x=y):=by simp[iText_inj9]
 refine enter106 (by simp) ?_
 simp(disch:=first|exact Xe|fail)only[ac106,cells_IntA,↓Xa,Xb,Xc,↓reduceIte,Nat.reduceLT,Nat.reduceEqDiff,Nat.reduceBEq,Nat.reduceLeDiff,Nat.reduceAdd,Nat.reduceMul]
 refine alloc_i fun p1 hp1=>?_
 have n1:=hp1
 simp(disch:=first|exact Xe|fail)only[cells_RefA,↓Xa,Xb,Xc,↓reduceIte,Nat.reduceLT,Nat.reduceEqDiff,Nat.reduceBEq,Nat.reduceLeDiff,Nat.reduceAdd,Nat.reduceMul]
 refine alloc_i fun p2 hp2=>?_
 have n2:=hp2
 simp only[upd_none]at n2
 obtain⟨_,n2⟩:=n2
 simp(disch:=first|exact Xe|fail)only[fold_IntA,↓Xa,Xb,Xc,↓reduceIte,Nat.reduceLT,Nat.reduceEqDiff,Nat.reduceBEq,Nat.reduceLeDiff,Nat.reduceAdd,Nat.reduceMul]
 refine PFn.dcall (itext_fn hx hk) ?_
 simp(disch:=first|exact Xe|fail)only[cells_RefA,fold_RefA,↓Xa,Xb,Xc,↓reduceIte,Nat.reduceLT,Nat.reduceEqDiff,Nat.reduceBEq,Nat.reduceLeDiff,Nat.reduceAdd,Nat.reduceMul]
 refine(rtext_fn false hy hk).call ?_
 simp(disch:=first|exact Xe|fail)only[eql_Sx,e,rs106,↓Xa,Xb,Xc,↓reduceIte,Nat.reduceLT,Nat.reduceEqDiff,Nat.reduceBEq,Nat.reduceLeDiff,Nat.reduceAdd,Nat.reduceMul]
 exact SetR.dropTo (((Le.refl H).updB n1).updB n2) (SetR.now hq)
theorem eqf19_fn{zs ws:List Int}{t t':Bool}{g:FuncId}(hg: ∀x y,x∈zs→y∈ws→PFn Tryz.prog g [IntA x,RefA y false] (.bool (decide (x=y))))(nz:zs.length<4611686018427387904)(nw:ws.length<4611686018427387904):PFn Tryz.prog 105 [RowA zs t,RefR ws t',.fn (.func g) [] []] (.bool (decide (zs=ws))):=by
 intro H Q hq
 refine enter105 (by simp) ?_
 have nz':zs.length<9223372036854775808:=by omega
 have nw':ws.length<9223372036854775808:=by omega
 by_cases hl:zs.length=ws.length
 rotate_left
 ·have e:decide (zs=ws)=false:=decide_eq_false fun h=>hl (congrArg _ h)
  rw[e]at hq
  simp(disch:=first|exact Xe|fail)only[ac105,len_rw,nz',nw',hl,rs105,↓Xa,Xb,Xc,↓reduceIte,Nat.reduceLT,Nat.reduceEqDiff,Nat.reduceBEq,Nat.reduceLeDiff,Nat.reduceAdd,Nat.reduceMul]
  exact SetR.now hq
 simp(disch:=first|exact Xe|fail)only[ac105,len_rw,nz',nw',hl,↓Xa,Xb,Xc,↓reduceIte,Nat.reduceLT,Nat.reduceEqDiff,Nat.reduceBEq,Nat.reduceLeDiff,Nat.reduceAdd,Nat.reduceMul]
 refine W_loop (fun s:Nat×AHeap=>⟨[],[(1,RefR ws t'),(2,.fn (.func g) [] []),(15,RowA zs t),(16,.int .i64 (ws.length:Int)),(17,.int .i64 s.1)],s.2⟩) (fun s=>s.1≤ws.length∧Le H s.2∧zs.take s.1=ws.take s.1) (fun s=>ws.length-s.1) (0,H) (Settle.now (by simp[hl])) ⟨Nat.zero_le _,Le.refl H,by simp⟩ ?_
 rintro⟨i,G⟩ ⟨h1,hG,ht⟩
 dsimp only at h1 hG ht ⊢
 by_cases hi:i<ws.length
 ·have hiz:i<zs.length:=by omega
  simp(disch:=first|exact Xe|fail)only[hi,hiz,idx_IC,load_IC,↓Xa,Xb,Xc,↓reduceIte,Nat.reduceLT,Nat.reduceEqDiff,Nat.reduceBEq,Nat.reduceLeDiff,Nat.reduceAdd,Nat.reduceMul]
  refine alloc_i fun q1 hq1=>?_
  simp(disch:=first|exact Xe|fail)only[cells_IntA,fold_IntA,hi,idx_RC,load_RC,↓Xa,Xb,Xc,↓reduceIte,Nat.reduceLT,Nat.reduceEqDiff,Nat.reduceBEq,Nat.reduceLeDiff,Nat.reduceAdd,Nat.reduceMul]
  refine alloc_i fun q2 hq2=>?_
  obtain⟨a21,hq2'⟩:=upd_none.1 hq2
  have hl2: ∀{x y:Option ABlk},Le H ((G.upd q1 x).upd q2 y):=fun{x y}=>(hG.updB (hG.none hq1)).updB (hG.none hq2')
  have a12:=a21.symm
  simp(disch:=first|exact Xe|fail)only[cells_IntA,fold_IntA,cells_RefA,fold_RefA,a21,a12,↓Xa,Xb,Xc,↓reduceIte,Nat.reduceLT,Nat.reduceEqDiff,Nat.reduceBEq,Nat.reduceLeDiff,Nat.reduceAdd,Nat.reduceMul]
  refine(hg (zs[i]) (ws[i]) (List.getElem_mem hiz) (List.getElem_mem hi)).call ?_
  by_cases he:zs[i]=ws[i]
  ·simp(disch:=first|exact Xe|fail)only[he,↓Xa,Xb,Xc,↓reduceIte,Nat.reduceLT,Nat.reduceEqDiff,Nat.reduceBEq,Nat.reduceLeDiff,Nat.reduceAdd,Nat.reduceMul]
   refine Settle.now ⟨(i+1,_),by dsimp only;omega,⟨by dsimp only;omega,hl2,?_⟩,rfl⟩
   dsimp only
   rw[← List.take_append_getElem hiz,← List.take_append_getElem hi,ht,he]
  ·have e:decide (zs=ws)=false:=decide_eq_false fun h=>he (by subst h;rfl)
   rw[e]at hq
   simp(disch:=first|exact Xe|fail)only[he,rs105,↓Xa,Xb,Xc,↓reduceIte,Nat.reduceLT,Nat.reduceEqDiff,Nat.reduceBEq,Nat.reduceLeDiff,Nat.reduceAdd,Nat.reduceMul]
   exact SetR.dropTo hl2 (SetR.now hq)
 ·obtain rfl:i=ws.length:=by omega
  have e:decide (zs=ws)=true:=decide_eq_true (by rwa[List.take_of_length_le (by omega),List.take_of_length_le (by omega)]at ht)
  rw[e]at hq
  simp(disch:=first|exact Xe|fail)only[hi,↓Xa,Xb,Xc,↓reduceIte,Nat.reduceLT,Nat.reduceEqDiff,Nat.reduceBEq,Nat.reduceLeDiff,Nat.reduceAdd,Nat.reduceMul]
  refine Settle.now ?_
  simp(disch:=first|exact Xe|fail)only[rs105,↓Xa,Xb,Xc,↓reduceIte,Nat.reduceLT,Nat.reduceEqDiff,Nat.reduceBEq,Nat.reduceLeDiff,Nat.reduceAdd,Nat.reduceMul]
  exact SetR.dropTo hG (SetR.now hq)
theorem block19_fn{zs ws:List Int}{t t':Bool}{k:Nat}(hz:RB4 k zs)(hw:RB4 k ws)(hk:k≤1000000):PFn Tryz.prog 42 [RowA zs t,RefR ws t'] (.bool (decide (zs=ws))):=by
 intro H Q hq
 refine enter42 (by simp) ?_
 simp(disch:=first|exact Xe|fail)only[ac42,↓Xa,Xb,Xc,↓reduceIte,Nat.reduceLT,Nat.reduceEqDiff,Nat.reduceBEq,Nat.reduceLeDiff,Nat.reduceAdd,Nat.reduceMul]
 refine(eqf19_fn (fun x y hx hy=>block1_fn (hz.1 x hx) (hw.1 y hy) hk) hz.2 hw.2).call ?_
 simp(disch:=first|exact Xe|fail)only[rs42,↓Xa,Xb,Xc,↓reduceIte,Nat.reduceLT,Nat.reduceEqDiff,Nat.reduceBEq,Nat.reduceLeDiff,Nat.reduceAdd,Nat.reduceMul]
 exact SetR.now hq
theorem eqfG_fn{a b:List (List Int)}{t t':Bool}{k:Nat}(ha: ∀r,r∈a→RB4 k r)(hb: ∀r,r∈b→RB4 k r)(hk:k≤1000000)(na:a.length<4611686018427387904)(nb:b.length<4611686018427387904):
 PFn Tryz.prog 97 [GIA a t,GA b t',.fn (.func 42) [] []] (.bool (decide (a=b))):=by
 intro H Q hq
 refine enter97 (by simp) ?_
 have na':a.length<9223372036854775808:=by omega
 have nb':b.length<9223372036854775808:=by omega
 by_cases hl:a.length=b.length
 rotate_left
 ·have e:decide (a=b)=false:=decide_eq_false fun h=>hl (congrArg _ h)
  rw[e]at hq
  simp(disch:=first|exact Xe|fail)only[ac97,len_rw,na',nb',hl,rs97,↓Xa,Xb,Xc,↓reduceIte,Nat.reduceLT,Nat.reduceEqDiff,Nat.reduceBEq,Nat.reduceLeDiff,Nat.reduceAdd,Nat.reduceMul]
  exact SetR.now hq
 simp(disch:=first|exact Xe|fail)only[ac97,len_rw,na',nb',hl,↓Xa,Xb,Xc,↓reduceIte,Nat.reduceLT,Nat.reduceEqDiff,Nat.reduceBEq,Nat.reduceLeDiff,Nat.reduceAdd,Nat.reduceMul]
 have hixA: ∀{k:IntKind}{K:AV→Prop}{i:Nat}(h:i<b.length),idxAW 1 (.seq b.length (GI a) t) (.int k (i:Int)) K=K (.cptr ((GI a).drop i)):=fun{k K i} h=>by
  have:=idx_map (f:=rI) (l:=a) (t:=t) (k:=k) (K:=K) (i:=i) (by omega)
  rw[Nat.mul_one,hl]at this;exact this
 have hldA: ∀{M:AHeap}{K:AV→Prop}{i:Nat}(h:i<a.length),loadW M none (.cptr ((GI a).drop i)) K=K (rI (a[i])):=fun{M K i} h=>load_map h
 have hixB: ∀{k:IntKind}{K:AV→Prop}{i:Nat}(h:i<b.length),idxAW 1 (GA b t') (.int k (i:Int)) K=K (.cptr ((GC b).drop i)):=fun{k K i} h=>by
  have:=idx_map (f:=rR) (l:=b) (t:=t') (k:=k) (K:=K) (i:=i) (by omega)
  rw[Nat.mul_one]at this;exact this
 have hldB: ∀{M:AHeap}{K:AV→Prop}{i:Nat}(h:i<b.length),loadW M none (.cptr ((GC b).drop i)) K=K (rR (b[i])):=fun{M K i} h=>load_map h
 refine W_loop (fun s:Nat=>⟨[],[(1,GA b t'),(2,.fn (.func 42) [] []),(15,.seq b.length (GI a) t),(16,.int .i64 (b.length:Int)),(17,.int .i64 s)],H⟩) (fun s=>s≤b.length∧a.take s=b.take s) (fun s=>b.length-s) 0 (Settle.now (by simp only[GIA,hl])) ⟨Nat.zero_le _,rfl⟩ ?_
 rintro i ⟨h1,ht⟩
 by_cases hi:i<b.length
 ·have hia:i<a.length:=by omega
  simp(disch:=first|exact Xe|fail)only[hi,hixA hi,hldA hia,hixB hi,hldB hi,↓Xa,Xb,Xc,↓reduceIte,Nat.reduceLT,Nat.reduceEqDiff,Nat.reduceBEq,Nat.reduceLeDiff,Nat.reduceAdd,Nat.reduceMul]
  refine(block19_fn (ha _ (List.getElem_mem hia)) (hb _ (List.getElem_mem hi)) hk).call ?_
  by_cases he:a[i]=b[i]
  ·simp(disch:=first|exact Xe|fail)only[decide_eq_true he,↓Xa,Xb,Xc,↓reduceIte,Nat.reduceLT,Nat.reduceEqDiff,Nat.reduceBEq,Nat.reduceLeDiff,Nat.reduceAdd,Nat.reduceMul]
   refine Settle.now ⟨i+1,by omega,⟨by omega,?_⟩,rfl⟩
   rw[← List.take_append_getElem hia,← List.take_append_getElem hi,ht,he]
  ·have e:decide (a=b)=false:=decide_eq_false fun h=>he (by subst h;rfl)
   rw[e]at hq
   simp(disch:=first|exact Xe|fail)only[decide_eq_false he,rs97,↓Xa,Xb,Xc,↓reduceIte,Nat.reduceLT,Nat.reduceEqDiff,Nat.reduceBEq,Nat.reduceLeDiff,Nat.reduceAdd,Nat.reduceMul]
   exact SetR.now hq
 ·obtain rfl:i=b.length:=by omega
  have e:decide (a=b)=true:=decide_eq_true (by rwa[List.take_of_length_le (by omega),List.take_of_length_le (by omega)]at ht)
  rw[e]at hq
  simp(disch:=first|exact Xe|fail)only[hi,↓Xa,Xb,Xc,↓reduceIte,Nat.reduceLT,Nat.reduceEqDiff,Nat.reduceBEq,Nat.reduceLeDiff,Nat.reduceAdd,Nat.reduceMul]
  refine Settle.now ?_
  simp(disch:=first|exact Xe|fail)only[rs97,↓Xa,Xb,Xc,↓reduceIte,Nat.reduceLT,Nat.reduceEqDiff,Nat.reduceBEq,Nat.reduceLeDiff,Nat.reduceAdd,Nat.reduceMul]
  exact SetR.now hq
theorem blocks19_fn{a b:List (List Int)}{t t':Bool}{k:Nat}(ha: ∀r,r∈a→RB4 k r)(hb: ∀r,r∈b→RB4 k r)(hk:k≤1000000)(na:a.length<4611686018427387904)(nb:b.length<4611686018427387904):
 PFn Tryz.prog 30 [GIA a t,GA b t'] (.bool (decide (a=b))):=by
 intro H Q hq
 refine enter30 (by simp) ?_
 simp(disch:=first|exact Xe|fail)only[ac30,↓Xa,Xb,Xc,↓reduceIte,Nat.reduceLT,Nat.reduceEqDiff,Nat.reduceBEq,Nat.reduceLeDiff,Nat.reduceAdd,Nat.reduceMul]
 refine(eqfG_fn ha hb hk na nb).call ?_
 simp(disch:=first|exact Xe|fail)only[rs30,↓Xa,Xb,Xc,↓reduceIte,Nat.reduceLT,Nat.reduceEqDiff,Nat.reduceBEq,Nat.reduceLeDiff,Nat.reduceAdd,Nat.reduceMul]
 exact SetR.now hq
def exP:PR:=⟨2,3,[⟨4,2,0,1,0⟩,⟨6,2,2,0,2⟩],[2,0]⟩
theorem exP_ok:exP.ok:=by
 refine⟨by unfold I64;decide,by unfold I64;decide,fun i hi=>?_,by decide,fun n hn=>?_,by decide⟩
 ·simp only[exP,List.mem_cons,List.not_mem_nil,or_false]at hi
  rcases hi with rfl|rfl<;>(unfold Ins.ok I64;decide)
 ·simp only[exP,List.mem_cons,List.not_mem_nil,or_false]at hn
  rcases hn with rfl|rfl<;>(unfold I64;decide)
theorem exP_right:rightP exP:=by decide
theorem Wk.prog{p:PR}{a b:Bool}:Wk (AV.agg [.int .i64 p.ins,.int .i64 p.regs,CodeA p.code a,OutsA p.outs b]) (ProgA p):=fun c v he=>by
 cases he with
 |agg _ vs hlen hc=>
  refine .agg _ _ hlen fun i hi hi'=>?_
  have:=hc i hi hi'
  match i,hi with
  |0,_=>exact this
  |1,_=>exact this
  |2,_=>exact Wk.l0 _ _ this
  |3,_=>exact Wk.l0 _ _ this
theorem example19_fn:PFn Tryz.prog 94 [] (ProgA exP):=by
 refine PFn.weak (r:=AV.agg [.int .i64 exP.ins,.int .i64 exP.regs,CodeA exP.code true,OutsA exP.outs true]) (fun H Q hq=>?_) Wk.prog
 refine enter94 (by simp) ?_
 simp(disch:=first|exact Xe|fail)only[ac94,↓Xa,Xb,Xc,↓reduceIte,Nat.reduceLT,Nat.reduceEqDiff,Nat.reduceBEq,Nat.reduceLeDiff,Nat.reduceAdd,Nat.reduceMul]
 refine alloc_i fun p1 hp1=>?_
 have n1:=hp1
 simp(disch:=first|exact Xe|fail)only[↓Xa,Xb,Xc,↓reduceIte,Nat.reduceLT,Nat.reduceEqDiff,Nat.reduceBEq,Nat.reduceLeDiff,Nat.reduceAdd,Nat.reduceMul]
 have eR:List.drop 5 (List.drop 5 (repA [AV.int .i64 ((0:Nat):Int),.int .i64 ((0:Nat):Int),.int .i64 ((0:Nat):Int),.int .i64 ((0:Nat):Int),.int .i64 ((0:Nat):Int)] 10))=[]:=rfl
 rw[eR]
 simp(disch:=first|exact Xe|fail)only[rs94,↓Xa,Xb,Xc,↓reduceIte,Nat.reduceLT,Nat.reduceEqDiff,Nat.reduceBEq,Nat.reduceLeDiff,Nat.reduceAdd,Nat.reduceMul]
 exact SetR.dropTo ((Le.refl H).updB n1) (SetR.now hq)
theorem ex_a:ansV exP [[7,5],[3,1]]=([[2,2],[7,5]],2,0):=by decide
theorem ex_b:ansV exP [[7,5],[3,2]]=([],1,20):=by decide
theorem works19_fn:PFn Tryz.prog 23 [] (.bool true):=by
 intro H Q hq
 refine enter23 (by simp) ?_
 simp(disch:=first|exact Xe|fail)only[ac23,↓Xa,Xb,Xc,↓reduceIte,Nat.reduceLT,Nat.reduceEqDiff,Nat.reduceBEq,Nat.reduceLeDiff,Nat.reduceAdd,Nat.reduceMul]
 have hw0: ∀a b c d:Int,I64 a→I64 b→I64 c→I64 d→∀r,r∈([[a,b],[c,d]]:List (List Int))→r.length≤100000∧∀n,n∈r→I64 n:=fun a b c d ha hb hc hd r hr=>by
  simp only[List.mem_cons,List.not_mem_nil,or_false]at hr
  rcases hr with rfl|rfl<;>refine⟨by simp,fun n hn=>?_⟩<;>(simp only[List.mem_cons,List.not_mem_nil,or_false]at hn;rcases hn with rfl|rfl<;>assumption)
 have i64: ∀n:Nat,n≤100→I64 (n:Int):=fun n h=>by unfold I64;omega
 have hrb: ∀g:List (List Int),(∀r,r∈g→r.length≤100000∧∀n,n∈r→I64 n)→∀r,r∈g→RB4 2 r:=fun g h r hr=>⟨fun z hz=>Bd.i64 (by have:=(h r hr).2 z hz;unfold I64 at this;omega),by have:=(h r hr).1;omega⟩
 have ga:=hw0 7 5 3 1 (i64 7 (by omega)) (i64 5 (by omega)) (i64 3 (by omega)) (i64 1 (by omega))
 have gb:=hw0 7 5 3 2 (i64 7 (by omega)) (i64 5 (by omega)) (i64 3 (by omega)) (i64 2 (by omega))
 have gc:=hw0 2 2 7 5 (i64 2 (by omega)) (i64 2 (by omega)) (i64 7 (by omega)) (i64 5 (by omega))
 have la:=lists19_fn (g:=[[7,5],[3,1]]) (t1:=true) (t2:=true) (by decide) ga
 have lb:=lists19_fn (g:=[[7,5],[3,2]]) (t1:=true) (t2:=true) (by decide) gb
 refine example19_fn.call ?_
 simp(disch:=first|exact Xe|fail)only[↓Xa,Xb,Xc,↓reduceIte,Nat.reduceLT,Nat.reduceEqDiff,Nat.reduceBEq,Nat.reduceLeDiff,Nat.reduceAdd,Nat.reduceMul]
 refine la.call ?_
 simp(disch:=first|exact Xe|fail)only[↓Xa,Xb,Xc,↓reduceIte,Nat.reduceLT,Nat.reduceEqDiff,Nat.reduceBEq,Nat.reduceLeDiff,Nat.reduceAdd,Nat.reduceMul]
 have no8: ∀{G:AHeap},rightP exP→∀i,i∈exP.code→i.op=8→TzH G:=fun{G} _ i hi h8=>by
  simp only[exP,List.mem_cons,List.not_mem_nil,or_false]at hi
  rcases hi with rfl|rfl<;>simp at h8
 refine run_call (vmrun_run (p:=exP) (g:=[[7,5],[3,1]]) (t:=false) (k0:=2) exP_ok (by decide) (hrb _ ga) (by decide) (fun _=>by decide) no8 fun y M hg=>?_)
 rw[ex_a]at hg
 obtain⟨by1,rfl,hby⟩: ∃by1,y=.own by1 2 0 2 false∧M by1=some (.row 29 1 (GI [[2,2],[7,5]])):=by
  rcases hg with⟨h0,_⟩|⟨_,_,b1,_,rfl,rfl⟩
  ·exact absurd h0 (by decide)
  ·exact⟨b1,rfl,upd_same _ _ _⟩
 have hHM:Le H M:=growC_le hg
 simp(disch:=first|exact Xe|fail)only[ex_a,↓Xa,Xb,Xc,↓reduceIte,Nat.reduceLT,Nat.reduceEqDiff,Nat.reduceBEq,Nat.reduceLeDiff,Nat.reduceAdd,Nat.reduceMul]
 refine example19_fn.call ?_
 simp(disch:=first|exact Xe|fail)only[↓Xa,Xb,Xc,↓reduceIte,Nat.reduceLT,Nat.reduceEqDiff,Nat.reduceBEq,Nat.reduceLeDiff,Nat.reduceAdd,Nat.reduceMul]
 refine lb.call ?_
 simp(disch:=first|exact Xe|fail)only[↓Xa,Xb,Xc,↓reduceIte,Nat.reduceLT,Nat.reduceEqDiff,Nat.reduceBEq,Nat.reduceLeDiff,Nat.reduceAdd,Nat.reduceMul]
 refine run_call (vmrun_run (p:=exP) (g:=[[7,5],[3,2]]) (t:=false) (k0:=2) exP_ok (by decide) (hrb _ gb) (by decide) (fun _=>by decide) no8 fun y2 M2 hg2=>?_)
 rw[ex_b]at hg2
 rcases hg2 with⟨_,_,rfl,rfl⟩|⟨hh,_⟩
 rotate_right
 ·exact absurd hh (by decide)
 simp(disch:=first|exact Xe|fail)only[ex_b,↓Xa,Xb,Xc,↓reduceIte,Nat.reduceLT,Nat.reduceEqDiff,Nat.reduceBEq,Nat.reduceLeDiff,Nat.reduceAdd,Nat.reduceMul]
 refine example19_fn.call ?_
 simp(disch:=first|exact Xe|fail)only[↓Xa,Xb,Xc,↓reduceIte,Nat.reduceLT,Nat.reduceEqDiff,Nat.reduceBEq,Nat.reduceLeDiff,Nat.reduceAdd,Nat.reduceMul]
 have gd: ∀r,r∈([[7],[3]]:List (List Int))→r.length≤100000∧∀n,n∈r→I64 n:=fun r hr=>by
  simp only[List.mem_cons,List.not_mem_nil,or_false]at hr
  rcases hr with rfl|rfl<;>refine⟨by simp,fun n hn=>?_⟩<;>(simp only[List.mem_cons,List.not_mem_nil,or_false]at hn;subst hn;unfold I64;decide)
 refine(lists19_fn (g:=[[7],[3]]) (t1:=true) (t2:=true) (by decide) gd).call ?_
 simp(disch:=first|exact Xe|fail)only[↓Xa,Xb,Xc,↓reduceIte,Nat.reduceLT,Nat.reduceEqDiff,Nat.reduceBEq,Nat.reduceLeDiff,Nat.reduceAdd,Nat.reduceMul]
 refine run_call (new_run (p:=exP) (g:=[[7],[3]]) (t:=false) (L:=1) (N:=3) exP_ok rfl rfl (by decide) (by decide) (fun r hr=>by have:=(gd r hr).1;omega) (fun h=>absurd (by decide) h) fun _ mb br hmb hbr hne=>?_)
 have eRg:regsR exP [[7],[3]] 1=[[7],[3],[0]]:=rfl
 rw[eRg]
 have mi:MachIn ((M2.upd br (some (.row 29 1 (GI [[7],[3],[0]])))).upd mb (some (.row 161 0 (machC exP (.own br 3 0 3 false) 0)))) mb br exP 3 0 1 2 [[7],[3],[0]]:=
  ⟨upd_same _ _ _,by rw[upd_other _ _ (Ne.symm hne),upd_same],hne,rfl,rfl,exP_right,fun r hr=>by
   simp only[List.mem_cons,List.not_mem_nil,or_false]at hr
   rcases hr with rfl|rfl|rfl<;>exact⟨rfl,fun z hz=>by simp only[List.mem_cons,List.not_mem_nil,or_false]at hz;subst hz;exact Bd.i64 (by decide),by decide⟩,by decide,by decide,by decide⟩
 have hb1:=ne_of_some hby hbr
 have hm1:=ne_of_some hby hmb
 have hby3:((M2.upd br (some (.row 29 1 (GI [[7],[3],[0]])))).upd mb (some (.row 161 0 (machC exP (.own br 3 0 3 false) 0)))) by1=some (.row 29 1 (GI [[2,2],[7,5]])):=by
  rw[upd_other _ _ (Ne.symm hm1),upd_other _ _ (Ne.symm hb1)];exact hby
 have hle3:Le M2 ((M2.upd br (some (.row 29 1 (GI [[7],[3],[0]])))).upd mb (some (.row 161 0 (machC exP (.own br 3 0 3 false) 0)))):=((Le.refl _).updB hbr).updB hmb
 generalize hM3:((M2.upd br (some (.row 29 1 (GI [[7],[3],[0]])))).upd mb (some (.row 161 0 (machC exP (.own br 3 0 3 false) 0))))=M3 at*
 have d: ∀n:Nat,decide (((n:Nat):Int)=((n:Nat):Int))=true:=fun n=>decide_eq_true rfl
 simp(disch:=first|exact Xe|fail)only[eql_int,d 0,d 2,↓Xa,Xb,Xc,↓reduceIte,Nat.reduceLT,Nat.reduceEqDiff,Nat.reduceBEq,Nat.reduceLeDiff,Nat.reduceAdd,Nat.reduceMul]
 refine(refs19_fn (g:=[[2,2],[7,5]]) (t1:=true) (t2:=true) (by decide) gc).call ?_
 simp(disch:=first|exact Xe|fail)only[↓Xa,Xb,Xc,↓reduceIte,Nat.reduceLT,Nat.reduceEqDiff,Nat.reduceBEq,Nat.reduceLeDiff,Nat.reduceAdd,Nat.reduceMul]
 have hlent:Lent M3 (.own by1 2 0 2 false) (GIA [[2,2],[7,5]] false):=Lent.own (n:=2) (es:=1) hby3 rfl
 refine PFn.lcall (blocks19_fn (a:=[[2,2],[7,5]]) (b:=[[2,2],[7,5]]) (t:=false) (t':=false) (k:=2) (hrb _ gc) (hrb _ gc) (by decide) (by decide) (by decide)) rfl ⟨hlent,Lent.same,trivial⟩ ?_
 have eb:decide (([[2,2],[7,5]]:List (List Int))=[[2,2],[7,5]])=true:=decide_eq_true rfl
 have lm:live M3 (.ptr mb 6 0):=by simp only[live,mi.m];rfl
 simp(disch:=first|exact Xe|fail)only[eb,eql_int,d 1,d 20,d 0,mi.cells,↓Xa,Xb,Xc,↓reduceIte,Nat.reduceLT,Nat.reduceEqDiff,Nat.reduceBEq,Nat.reduceLeDiff,Nat.reduceAdd,Nat.reduceMul]
 refine run_call (mi.step (by decide) (no8 exP_right) (fun h=>absurd h (by decide)) (fun hn x H' hdo mi' hold=>?_) fun hn h=>absurd h (by show ¬(doR ⟨4,2,0,1,0⟩ [7] [3]=none);decide))
 simp(disch:=first|exact Xe|fail)only[eql_int,d 0,↓Xa,Xb,Xc,↓reduceIte,Nat.reduceLT,Nat.reduceEqDiff,Nat.reduceBEq,Nat.reduceLeDiff,Nat.reduceAdd,Nat.reduceMul]
 refine run_call (next_run mi' ?_)
 simp(disch:=first|exact Xe|fail)only[eql_int,d 1,rs23,↓Xa,Xb,Xc,↓reduceIte,Nat.reduceLT,Nat.reduceEqDiff,Nat.reduceBEq,Nat.reduceLeDiff,Nat.reduceAdd,Nat.reduceMul]
 refine SetR.dropTo (fun o v ho=>?_) (SetR.now hq)
 have ho2:=hHM o v ho
 exact hold o v (by rintro rfl;rw[hmb]at ho2;cases ho2) (by rintro rfl;rw[hbr]at ho2;cases ho2) (hle3 o v ho2)
theorem Fr.row{zs:List Int}{H:AHeap}:Lent H (rI zs) (rI zs):=Lent.same
def sumR(a b:List Int):List Int:=zipI (· + ·) a b
def Add3(L N:Nat)(r s u:List (List Int)):Prop:=r.length=N∧s.length=N∧u.length=N∧∀j,j<N→(r.getD j []).length=L∧(s.getD j []).length=L∧u.getD j []=sumR (r.getD j []) (s.getD j [])
theorem Add3.set{L N:Nat}{r s u:List (List Int)}(h:Add3 L N r s u){k:Nat}(hk:k<N){x y:List Int}(lx:x.length=L)(ly:y.length=L):Add3 L N (r.set k x) (s.set k y) (u.set k (sumR x y)):=by
 obtain⟨h1,h2,h3,h4⟩:=h
 refine⟨by rw[List.length_set,h1],by rw[List.length_set,h2],by rw[List.length_set,h3],fun j hj=>?_⟩
 rw[getD_setL (by omega),getD_setL (by omega),getD_setL (by omega)]
 split
 ·exact⟨lx,ly,rfl⟩
 ·exact h4 j hj
theorem gridE0{p:PR}{g:List (List Int)}:gridE p g=0↔((rightP p∧(g.length:Int)=p.ins)∧(∀r,r∈g→r.length=(g.getD 0 []).length)∧(g.getD 0 []).length≤4096):=by
 unfold gridE
 by_cases c:rightP p∧(g.length:Int)=p.ins
 ·rw[if_pos c]
  by_cases c2:(∀r,r∈g→r.length=(g.getD 0 []).length)∧(g.getD 0 []).length≤4096
  ·rw[if_pos c2];exact⟨fun _=>⟨c,c2⟩,fun _=>rfl⟩
  ·rw[if_neg c2];exact⟨fun h=>absurd h (by decide),fun h=>absurd h.2 c2⟩
 ·have hne:rgtE p (g.length:Int)≠0:=by
   unfold rgtE
   by_cases c2:rightP p
   ·rw[if_pos c2,if_neg fun e=>c ⟨c2,e⟩];decide
   ·rw[if_neg c2];decide
  rw[if_neg c];exact⟨fun h=>absurd h hne,fun h=>absurd h.1 c⟩
def long19(p:PR)(g:List (List Int)):Prop:=(80<p.code.length∧p.code.length≤16384)∨(40<p.regs∧p.regs≤128)∨300<sumN (g.map fun l=>l.length)
instance (p:PR)(g:List (List Int)):Decidable (long19 p g):=by unfold long19;infer_instance
theorem long19_fn{p:PR}(hp:p.ok){g:List (List Int)}{t1 t2:Bool}(hgl:g.length≤1048576)(hs:sumN (g.map fun l=>l.length)≤1048576):PFn Tryz.prog 24 [ProgA p,GT g t1 t2] (.bool (decide (long19 p g))):=by
 intro H Q hq
 have hpc:=hp.2.2.2.1
 have lc:p.code.length<9223372036854775808:=by omega
 have hlen:g.length<9223372036854775808:=by omega
 refine enter24 (by simp) ?_
 simp(disch:=first|exact Xe|fail)only[ac24,cells_ProgA,↓Xa,Xb,Xc,↓reduceIte,Nat.reduceLT,Nat.reduceEqDiff,Nat.reduceBEq,Nat.reduceLeDiff,Nat.reduceAdd,Nat.reduceMul]
 refine alloc_i fun p1 hp1=>?_
 have n1:=hp1
 have G1:(H.upd p1 (some (.row 25 0 [.int .i64 p.ins,.int .i64 p.regs,CodeA p.code false,OutsA p.outs false]))) p1=some (.row 25 0 [.int .i64 p.ins,.int .i64 p.regs,CodeA p.code false,OutsA p.outs false]):=upd_same _ _ _
 generalize hG:(H.upd p1 (some (.row 25 0 [.int .i64 p.ins,.int .i64 p.regs,CodeA p.code false,OutsA p.outs false])))=G at*
 have hHG:Le H G:=hG▸(Le.refl H).updB n1
 simp(disch:=first|exact Xe|fail)only[len_rw,hlen,↓Xa,Xb,Xc,↓reduceIte,Nat.reduceLT,Nat.reduceEqDiff,Nat.reduceBEq,Nat.reduceLeDiff,Nat.reduceAdd,Nat.reduceMul]
 refine W_loop (fun s:Nat=>⟨[],[(2,.ptr p1 4 0),(5,.int .i64 ((sumN ((g.take s).map fun l=>l.length):Nat):Int)),(8,GT g t1 t2),(9,.int .i64 g.length),(10,.int .i64 s)],G⟩) (fun s=>s≤g.length) (fun s=>g.length-s) 0 (Settle.now (by simp[sumN])) (Nat.zero_le _) ?_
 intro i h3
 by_cases hi:i<g.length
 ·have hsucc:sumN ((g.take (i+1)).map fun l=>l.length)=sumN ((g.take i).map fun l=>l.length)+(g[i]).length:=by
   rw[List.map_take,sumN_succ (by simpa using hi),← List.map_take,List.getElem_map]
  have htot:sumN ((g.take (i+1)).map fun l=>l.length)≤sumN (g.map fun l=>l.length):=by rw[List.map_take];exact sumN_take _ _
  have hgi:(g[i]).length<9223372036854775808:=by omega
  simp(disch:=first|exact Xe|fail)only[hi,idx_GT hi,load_GT hi,len_OutsA hgi,↓Xa,Xb,Xc,↓reduceIte,Nat.reduceLT,Nat.reduceEqDiff,Nat.reduceBEq,Nat.reduceLeDiff,Nat.reduceAdd,Nat.reduceMul]
  refine Settle.now ⟨i+1,by omega,by omega,?_⟩
  rw[hsucc]
 ·obtain rfl:i=g.length:=by omega
  rw[List.take_of_length_le (Nat.le_refl _)]
  simp(disch:=first|exact Xe|fail)only[hi,↓Xa,Xb,Xc,↓reduceIte,Nat.reduceLT,Nat.reduceEqDiff,Nat.reduceBEq,Nat.reduceLeDiff,Nat.reduceAdd,Nat.reduceMul]
  refine Settle.now ?_
  generalize hn:sumN (g.map fun l=>l.length)=n at*
  have fin: ∀b:Bool,decide (long19 p g)=b→Q (.bool b) H:=fun b hb=>hb▸hq
  generalize d1:decide (((80:Nat):Int)<((p.code.length:Nat):Int))=b1
  generalize d2:decide (((p.code.length:Nat):Int)≤((16384:Nat):Int))=b2
  generalize d3:decide (((40:Nat):Int)<p.regs)=b3
  generalize d4:decide (p.regs≤((128:Nat):Int))=b4
  generalize d5:decide (((300:Nat):Int)<((n:Nat):Int))=b5
  cases b1<;>cases b2<;>cases b3<;>cases b4<;>cases b5
  all_goals
   simp(disch:=first|exact Xe|fail)only[G1,len_CodeA lc,gtr_int,leqI,d1,d2,d3,d4,d5,rs24,↓Xa,Xb,Xc,↓reduceIte,Nat.reduceLT,Nat.reduceEqDiff,Nat.reduceBEq,Nat.reduceLeDiff,Nat.reduceAdd,Nat.reduceMul]
   simp only[decide_eq_true_eq,decide_eq_false_iff_not]at d1 d2 d3 d4 d5
   exact SetR.dropTo hHG (SetR.now (fin _ (by first|exact decide_eq_true (by unfold long19;omega)|exact decide_eq_false (by unfold long19;omega))))
theorem run_bdR{N L:Nat}(hL:L≤100000): ∀(code:List Ins)(r:List (List Int))(k:Nat),(∀i,i∈code→mayI (N:Int) i)→r.length=N→GoodG k L r→GoodG (k+3*code.length) L (runX doR [] code r).2
 |[],r,k,_,_,h=>h
 |i::l,r,k,hm,hN,h=>by
  have hi:=hm i (by simp)
  have hb:=mayI_b hi
  have ha:=hi.2.2
  have up:GoodG (k+3*(i::l).length) L r:=fun x hx=>⟨(h x hx).1,fun z hz=>((h x hx).2.1 z hz).mono (by omega),(h x hx).2.2⟩
  have at': ∀m:Nat,m<N→(r.getD m []).length=L∧RB4 k (r.getD m []):=fun m hm'=>by
   rw[List.getD_eq_getElem?_getD,List.getElem?_eq_getElem (by omega)];exact h _ (List.getElem_mem _)
  simp only[runX]
  cases e:doR i (r.getD i.a.toNat []) (r.getD i.b.toNat [])with
  |none=>exact up
  |some x=>
   obtain⟨la,ba⟩:=at' i.a.toNat (by omega)
   obtain⟨lb,bb⟩:=at' i.b.toNat (by omega)
   have lx:=(doR_len (by rw[la,lb]) e).trans la
   have hg:GoodG (k+3) L (r.set i.to.toNat x):=fun y hy=>by
    rcases List.mem_or_eq_of_mem_set hy with hy|rfl
    ·exact⟨(h y hy).1,fun z hz=>((h y hy).2.1 z hz).mono (by omega),(h y hy).2.2⟩
    ·refine⟨lx,fun z hz=>?_,by omega⟩
     obtain⟨m,hm',rfl⟩:=List.getElem_of_mem hz
     have q:=doR_at (by rw[la,lb]) e (k:=m) (by omega)
     have e1:(r.getD i.a.toNat []).getD m 0=(r.getD i.a.toNat [])[m]'(by omega):=by rw[List.getD_eq_getElem?_getD,List.getElem?_eq_getElem (by omega)];rfl
     have e2:(r.getD i.b.toNat []).getD m 0=(r.getD i.b.toNat [])[m]'(by omega):=by rw[List.getD_eq_getElem?_getD,List.getElem?_eq_getElem (by omega)];rfl
     have e3:y.getD m 0=y[m]:=by rw[List.getD_eq_getElem?_getD,List.getElem?_eq_getElem (by omega)];rfl
     rw[e1,e2,e3]at q
     exact doZ_bd hi (ba.1 _ (List.getElem_mem _)) (bb.1 _ (List.getElem_mem _)) q
   have:=run_bdR hL l _ (k+3) (fun j hj=>hm j (by simp[hj])) (by simpa using hN) hg
   rw[show k+3*(i::l).length=k+3+3*l.length by simp;omega]
   exact this
theorem ansV_bd{p:PR}{g:List (List Int)}{k:Nat}(hz: ∀r,r∈g→RB4 k r): ∀r,r∈(ansV p g).1→r.length≤4096∧RB4 (k+3*p.code.length) r:=fun r hr=>by
 unfold ansV at hr
 split at hr
 ·rename_i h0
  split at hr
  ·cases hr
  ·obtain⟨⟨hrt,hgl⟩,hga,hgb⟩:=gridE0.1 h0
   generalize(g.getD 0 []).length=L at*
   have hh:=hrt.1
   unfold headP at hh
   have hN:((p.regs.toNat:Nat):Int)=p.regs:=by omega
   have h1:GoodG k L (regsR p g L):=fun x hx=>by
    rcases List.mem_append.1 hx with hx|hx
    ·exact⟨hga x hx,hz x hx⟩
    ·obtain⟨_,rfl⟩:=List.mem_replicate.1 hx
     exact⟨by simp,fun z hz=>by
      obtain⟨_,rfl⟩:=List.mem_replicate.1 hz
      exact Nat.pow_pos (by decide),by simp;omega⟩
   have h2:=run_bdR (N:=p.regs.toNat) (by omega) p.code (regsR p g L) k (fun i hi=>by rw[hN];exact hrt.2.2 i hi) (by simp[regsR];omega) h1
   obtain⟨n,hn,rfl⟩:=List.mem_map.1 hr
   have hn2:=hrt.2.1 n hn
   have hlen:(runX doR [] p.code (regsR p g L)).2.length=p.regs.toNat:=by rw[runX_regs];simp[regsR];omega
   have e:(runX doR [] p.code (regsR p g L)).2.getD n.toNat []=(runX doR [] p.code (regsR p g L)).2[n.toNat]'(by omega):=by rw[List.getD_eq_getElem?_getD,List.getElem?_eq_getElem (by omega)];rfl
   rw[e]
   have q:=h2 _ (List.getElem_mem (by omega:n.toNat<(runX doR [] p.code (regsR p g L)).2.length))
   exact⟨by rw[q.1];omega,q.2⟩
 ·cases hr
def lstF(f:Nat→Option Nat):Nat→Int
 |0=> -1
 |n+1=>match f n with
  |none=>lstF f n
  |some a=>if lstF f n<0∨(a:Int)<lstF f n then(a:Int)else lstF f n
theorem lstF_or(f:Nat→Option Nat): ∀n,(lstF f n= -1∧∀j,j<n→f j=none)∨∃m:Nat,lstF f n=m∧(∃j,j<n∧f j=some m)∧∀j a,j<n→f j=some a→m≤a
 |0=>.inl ⟨rfl,fun j h=>absurd h (by omega)⟩
 |n+1=>by
  have ih:=lstF_or f n
  cases e:f n with
  |none=>
   have el:lstF f (n+1)=lstF f n:=by rw[lstF,e]
   rw[el]
   rcases ih with⟨h1,h2⟩|⟨m,h1,⟨j,hj,hm⟩,h3⟩
   ·refine .inl ⟨h1,fun j hj=>?_⟩
    by_cases ej:j=n
    ·subst ej;exact e
    ·exact h2 j (by omega)
   ·refine .inr ⟨m,h1,⟨j,by omega,hm⟩,fun i a hi ha=>?_⟩
    by_cases ei:i=n
    ·subst ei;rw[e]at ha;cases ha
    ·exact h3 i a (by omega) ha
  |some a=>
   have el:lstF f (n+1)=if lstF f n<0∨(a:Int)<lstF f n then(a:Int)else lstF f n:=by rw[lstF,e]
   rw[el]
   rcases ih with⟨h1,h2⟩|⟨m,h1,⟨j,hj,hm⟩,h3⟩
   ·rw[if_pos (.inl (by omega))]
    refine .inr ⟨a,rfl,⟨n,by omega,e⟩,fun i b hi hb=>?_⟩
    by_cases ei:i=n
    ·subst ei;rw[e]at hb;injection hb with hb;omega
    ·rw[h2 i (by omega)]at hb;cases hb
   ·by_cases hlt:(a:Int)<m
    ·rw[if_pos (.inr (by omega))]
     refine .inr ⟨a,rfl,⟨n,by omega,e⟩,fun i b hi hb=>?_⟩
     by_cases ei:i=n
     ·subst ei;rw[e]at hb;injection hb with hb;omega
     ·have:=h3 i b (by omega) hb;omega
    ·rw[if_neg (by omega)]
     refine .inr ⟨m,h1,⟨j,by omega,hm⟩,fun i b hi hb=>?_⟩
     by_cases ei:i=n
     ·subst ei;rw[e]at hb;injection hb with hb;omega
     ·exact h3 i b (by omega) hb
def colG(g:List (List Int))(j:Nat):List Int:=g.map fun r=>r.getD j 0
theorem col_start{p:PR}{g:List (List Int)}{L N j:Nat}(hN:p.regs.toNat=N)(hgN:g.length≤N)(hg: ∀r,r∈g→r.length=L)(hj:j<L):
 RR (fun(a:List Int) (x:Int)=>a.length=L∧a.getD j 0=x) N [] 0 (regsR p g L) (colG g j++List.replicate (p.regs.toNat-(colG g j).length) 0):=by
 have hc:(colG g j).length=g.length:=by simp[colG]
 refine⟨by simp[regsR];omega,by simp[hc];omega,fun i hi=>?_⟩
 unfold regsR
 rw[hc,hN]
 by_cases h:i<g.length
 ·have e1:(g++List.replicate (N-g.length) (List.replicate L 0)).getD i []=g[i]:=by
   simp[List.getD_eq_getElem?_getD,List.getElem?_append_left h,h]
  have e2:(colG g j++List.replicate (N-g.length) 0).getD i 0=(g[i]).getD j 0:=by
   rw[List.getD_eq_getElem?_getD,List.getElem?_append_left (by omega)];simp[colG,h]
  rw[e1,e2];exact⟨hg _ (List.getElem_mem h),rfl⟩
 ·have e1:(g++List.replicate (N-g.length) (List.replicate L 0)).getD i []=List.replicate L 0:=by
   rw[List.getD_eq_getElem?_getD,List.getElem?_append_right (by omega),List.getElem?_replicate,if_pos (by omega)];rfl
  have e2:(colG g j++List.replicate (N-g.length) 0).getD i 0=0:=by
   rw[List.getD_eq_getElem?_getD,List.getElem?_append_right (by omega),List.getElem?_replicate,if_pos (by omega)];rfl
  rw[e1,e2]
  exact⟨by simp,by simp[List.getD_eq_getElem?_getD,hj]⟩
theorem cols_run{p:PR}{g:List (List Int)}{L:Nat}(hr:rightP p)(hlen:(g.length:Int)=p.ins)(hg: ∀r,r∈g→r.length=L){j:Nat}(hj:j<L):
 (stepsR p g L).length≤(steps10 p (colG g j)).length:=by
 have hh:=hr.1
 unfold headP at hh
 obtain⟨N,hN⟩: ∃N:Nat,p.regs=(N:Int):=⟨p.regs.toNat,by omega⟩
 refine(run_rel (N:=N) p.code _ _ (fun i hi=>by rw[← hN];exact hr.2.2 i hi) ?_ (col_start (by omega) (by omega) hg hj)).1
 rintro i hi a b _ _ x ⟨la,rfl⟩ ⟨lb,rfl⟩ hx
 exact⟨x.getD j 0,doR_at (la.trans lb.symm) hx (by omega),(doR_len (la.trans lb.symm) hx).trans la,rfl⟩
theorem cols_least{p:PR}{g:List (List Int)}{L:Nat}(hr:rightP p)(hlen:(g.length:Int)=p.ins)(hg: ∀r,r∈g→r.length=L)(hl:(stepsR p g L).length<p.code.length):
 ∃j,j<L∧(steps10 p (colG g j)).length=(stepsR p g L).length:=by
 have hh:=hr.1
 unfold headP at hh
 obtain⟨N,hN⟩: ∃N:Nat,p.regs=(N:Int):=⟨p.regs.toNat,by omega⟩
 have hst: ∀k:Fin L,RR (fun(a:List Int) (x:Int)=>a.length=L∧a.getD k.1 0=x) N [] 0 (regsR p g L) (colG g k.1++List.replicate (p.regs.toNat-(colG g k.1).length) 0):=fun k=>col_start (by omega) (by omega) hg k.2
 have hR0:(regsR p g L).length=N:=by simp[regsR];omega
 obtain⟨k,hk⟩:=run_least (κ:=Fin L) (I:=fun a:List Int=>a.length=L) (R:=fun k a x=>a.length=L∧a.getD k.1 0=x) (N:=N) p.code (regsR p g L) (fun k=>colG g k.1++List.replicate (p.regs.toNat-(colG g k.1).length) 0) (d:=doR) (d':=doZ) (z:=[]) (z':=0)
  (fun i hi=>by rw[← hN];exact hr.2.2 i hi) (fun i hi a b x ha hb hx=>(doR_len (ha.trans hb.symm) hx).trans ha) (by
   rintro k i hi a b _ _ x ⟨la,rfl⟩ ⟨lb,rfl⟩ hx
   exact⟨x.getD k.1 0,doR_at (la.trans lb.symm) hx (by omega),(doR_len (la.trans lb.symm) hx).trans la,rfl⟩) (by
   intro i hi a b hno ha hb
   obtain⟨k,hk,hz⟩:=doR_no hno
   refine⟨⟨k,by omega⟩,?_⟩
   rintro a' b' ⟨_,rfl⟩ ⟨_,rfl⟩
   exact hz _) hst hR0 (by
   intro j hj
   by_cases h:j<g.length
   ·have e1:(regsR p g L).getD j []=g[j]:=by simp[regsR,List.getD_eq_getElem?_getD,List.getElem?_append_left h,h]
    rw[e1];exact hg _ (List.getElem_mem h)
   ·have e1:(regsR p g L).getD j []=List.replicate L 0:=by
     rw[List.getD_eq_getElem?_getD,regsR,List.getElem?_append_right (by omega),List.getElem?_replicate,if_pos (by omega)];rfl
    rw[e1];simp) hl
 exact⟨k.1,k.2,hk⟩
def failF(p:PR)(g:List (List Int))(j:Nat):Option Nat:=if(steps10 p (colG g j)).length<p.code.length then some (steps10 p (colG g j)).length else none
theorem columns_plain{p:PR}{g:List (List Int)}(h0:gridE p g=0):(lstF (failF p g) (g.getD 0 []).length<0∧(ansR p g).2=(0,0))∨(0≤lstF (failF p g) (g.getD 0 []).length∧∃k:Nat,(ansR p g).2=(k,20)∧(k:Int)=lstF (failF p g) (g.getD 0 []).length):=by
 obtain⟨hr,hlen,hg,_⟩:=gridE_0 h0
 have ha:ansR p g=(if(stepsR p g (g.getD 0 []).length).length<p.code.length then([],(stepsR p g (g.getD 0 []).length).length,20)else(outsR p g (g.getD 0 []).length,0,0)):=by rw[ansR,if_pos h0]
 generalize(g.getD 0 []).length=L at*
 by_cases hl:(stepsR p g L).length<p.code.length
 ·rw[if_pos hl]at ha
  obtain⟨j,hj,he⟩:=cols_least hr hlen hg hl
  rcases lstF_or (failF p g) L with⟨_,h2⟩|⟨m,h1,⟨i,hi,hm⟩,h3⟩
  ·have:=h2 j hj;unfold failF at this;rw[if_pos (by omega)]at this;cases this
  ·have hle:m≤(stepsR p g L).length:=h3 j _ hj (by unfold failF;rw[if_pos (by omega),he])
   have hge:(stepsR p g L).length≤m:=by
    have:=cols_run hr hlen hg hi
    unfold failF at hm
    split at hm
    ·injection hm with hm;omega
    ·cases hm
   refine .inr ⟨by omega,_,by rw[ha],by omega⟩
 ·rw[if_neg hl]at ha
  refine .inl ⟨?_,by rw[ha]⟩
  rcases lstF_or (failF p g) L with⟨h1,_⟩|⟨m,h1,⟨i,hi,hm⟩,h3⟩
  ·omega
  ·have:=cols_run hr hlen hg hi
   unfold failF at hm
   split at hm
   ·omega
   ·cases hm
end Go.Proofs.YtmndejlpfmmaiaaGreatDoor.Fw
