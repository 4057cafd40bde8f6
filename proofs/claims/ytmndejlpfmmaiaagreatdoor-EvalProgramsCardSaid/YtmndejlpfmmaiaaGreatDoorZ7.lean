/- The texts Sb Sc Sd Se Sf Sh Nd Tb Ya Yb Yc Yd Ye Kf Kg Qn Qa Qb Eb Ec Ed Nc Ta Ua Ub Ym Al10, joined. -/
import Derived.Test.YtmndejlpfmmaiaaGreatDoorZ6
set_option linter.unusedSimpArgs false
set_option linter.unusedVariables false
namespace Go.Proofs.YtmndejlpfmmaiaaGreatDoor.Fw
open Go Go.Proofs.YtmndejlpfmmaiaaGreatDoor.Ma
set_option maxRecDepth 20000
def Sx(l:List UInt8):AV:=.str ⟨l.toArray⟩
theorem zKS{l:List UInt8}:AV.str ⟨l.toArray⟩=Sx l:=id rfl
theorem zEV{l:List UInt8}:(⟨l.toArray⟩:ByteArray).size=l.length:=by simp[ByteArray.size]
section
variable {K:AV→Prop} {K2:AV→AHeap→Prop} {KD:AV→List Nat→Option (Nat×ABlk)→Prop} {l m:List UInt8} {k k':IntKind} {H:AHeap}
theorem zHZ:zEE true (Sx l) K=K (.int .i64 ((l.length:Nat):Int)):=by simp only[Sx,zEE,zEV]
theorem zQi{i:Nat}(h:i<l.length):zGy (Sx l) (.int k (i:Int)) K=K (.int .u8 (((l.getD i 0).toNat:Nat):Int)):=by
 simp[Sx,zGy,zCE,zEV,h]
theorem zOg{a b:Nat}:(⟨l.toArray⟩:ByteArray).extract a b=⟨((l.drop a).take (b-a)).toArray⟩:=by
 apply ByteArray.ext
 rw[ByteArray.data_extract]
 simp[List.extract_toArray]
theorem zYW{a:Nat}(hb:a≤l.length):zIO (Sx l) (some (.int k (a:Int))) none K=K (Sx (l.drop a)):=by
 have h1:(0:Int)≤(a:Int)∧(a:Int)≤((l.length:Nat):Int):=by omega
 have e:(l.drop a).take (l.length-a)=l.drop a:=List.take_of_length_le (by simp)
 simp[Sx,zIO,zDi,zEV,h1,zOg,e]
theorem zYJ{a b:List UInt8}:(a==b)=decide (a=b):=by by_cases h:a=b<;>simp[h]
theorem zRT:zAy .eql (Sx l) (Sx m) K=K (.bool (decide (l=m))):=by
 simp only[Sx,zAy,zNK,ByteArray.toList_eq,List.toList_toArray,zYJ]
theorem zT3:(Sx l).cells=some [Sx l]:=id rfl
theorem zcA{ty:Nat}(h0:0<l.length)(hb:l.length≤70368744177664)(kk: ∀b,H b=none→K2 (.own b l.length 0 l.length false) (H.upd b (some (.row ty 1 (Bt l))))):zK9 H ty 1 1 (.seq 0 [] true) (Sx l) K2:=.inl <| by
 have hal:(Bt l).all AV.cell=true:=by
  rw[List.all_eq_true];intro x hx
  obtain⟨b,_,rfl⟩:=List.mem_map.1 hx;rfl
 refine⟨rfl,?_⟩
 show(zFZ ⟨l.toArray⟩).all AV.cell=true∧_
 rw[zKX,zEV]
 refine⟨hal,rfl,rfl,by omega,by omega,fun e=>by omega,fun _ b hb'=>?_⟩
 simpa using kk b hb'
theorem zci{ty b:Nat}{t:Bool}{o:List UInt8}(hH:H b=some (.row ty 1 (Bt o)))(hb:o.length+l.length≤70368744177664)(kk:K2 (.own b (o++l).length 0 (o++l).length false) (H.upd b (some (.row ty 1 (Bt (o++l)))))):zK9 H ty 1 1 (.own b o.length 0 o.length t) (Sx l) K2:=.inl <| by
 have hal:(Bt l).all AV.cell=true:=by
  rw[List.all_eq_true];intro x hx
  obtain⟨b,_,rfl⟩:=List.mem_map.1 hx;rfl
 refine⟨rfl,?_⟩
 show(zFZ ⟨l.toArray⟩).all AV.cell=true∧_
 rw[zKX,zEV]
 refine⟨hal,?_⟩
 dsimp only
 rw[hH]
 refine⟨zEF,rfl,by omega,rfl,rfl,by omega,by omega,?_⟩
 have e:Bt o++Bt l=Bt (o++l):=by simp[Bt]
 rw[List.length_append]at kk
 rw[Nat.mul_one,e]
 exact kk
end
theorem zSm{l:List UInt8}{c:UInt8}(hl:l.length<9223372036854775808):PFn Tryz.prog 236 [Sx l,.int .u8 ((c.toNat:Nat):Int)] (Sx (l.dropWhile (· ==c))):=by
 intro H Q hq
 refine zT9 (by simp) ?_
 simp(disch:=first|exact Xe|fail)only[zaf,↓Xa,Xb,Xc,↓reduceIte,Nat.reduceLT,Nat.reduceEqDiff,Nat.reduceBEq,Nat.reduceLeDiff,Nat.reduceAdd]
 refine zAO (fun m:List UInt8=>⟨[],[(0,Sx m),(1,.int .u8 ((c.toNat:Nat):Int))],_⟩) (fun m=>m.length≤l.length∧m.dropWhile (· ==c)=l.dropWhile (· ==c)) (fun m=>m.length) l (Settle.now rfl) ⟨Nat.le_refl _,rfl⟩ ?_
 rintro m ⟨hm,h1⟩
 cases m with
 |nil=>
  simp(disch:=first|exact Xe|fail)only[zHZ,List.length_nil,↓Xa,Xb,Xc,↓reduceIte,Nat.reduceLT,Nat.reduceEqDiff,Nat.reduceBEq,Nat.reduceLeDiff,Nat.reduceAdd]
  refine Settle.now ?_
  simp(disch:=first|exact Xe|fail)only[zYy,↓Xa,Xb,Xc,↓reduceIte,Nat.reduceLT,Nat.reduceEqDiff,Nat.reduceBEq,Nat.reduceLeDiff,Nat.reduceAdd]
  rw[← h1]at hq
  exact SetR.now hq
 |cons x m=>
  have hpos:0<m.length+1:=Nat.succ_pos _
  have e:(x::m).getD 0 0=x:=rfl
  have hm':m.length+1≤l.length:=hm
  rw[List.dropWhile_cons]at h1
  by_cases hx:x=c
  ·have hb:(x==c)=true:=by simp[hx]
   have hx':x.toNat=c.toNat:=by rw[hx]
   rw[if_pos hb]at h1
   simp(disch:=first|exact Xe|fail)only[zHZ,hpos,zQi,e,hx',zYW,List.drop_succ_cons,List.drop_zero,↓Xa,Xb,Xc,↓reduceIte,Nat.reduceLT,Nat.reduceEqDiff,Nat.reduceBEq,Nat.reduceLeDiff,Nat.reduceAdd]
   exact Settle.now ⟨m,by simp,⟨by omega,h1⟩,rfl⟩
  ·have hb: ¬(x==c)=true:=by simp[hx]
   have hx': ¬x.toNat=c.toNat:=fun h=>hx (UInt8.toNat_inj.1 h)
   rw[if_neg hb]at h1
   simp(disch:=first|exact Xe|fail)only[zHZ,hpos,zQi,e,hx',↓Xa,Xb,Xc,↓reduceIte,Nat.reduceLT,Nat.reduceEqDiff,Nat.reduceBEq,Nat.reduceLeDiff,Nat.reduceAdd]
   refine Settle.now ?_
   simp(disch:=first|exact Xe|fail)only[zYy,↓Xa,Xb,Xc,↓reduceIte,Nat.reduceLT,Nat.reduceEqDiff,Nat.reduceBEq,Nat.reduceLeDiff,Nat.reduceAdd]
   rw[← h1]at hq
   exact SetR.now hq
theorem zSi{l:List UInt8}{c:UInt8}(hl:l.length<9223372036854775808)(hc:c.toNat<128):PFn Tryz.prog 228 [Sx l,Sx [c]] (Sx (l.dropWhile (· ==c))):=by
 intro H Q hq
 refine zUd (by simp) ?_
 have e:([c]:List UInt8).getD 0 0=c:=rfl
 have h1:([c]=([]:List UInt8))=False:=by simp
 have h2:0<([c]:List UInt8).length:=by simp
 cases l with
 |nil=>
  simp(disch:=first|exact Xe|fail)only[zZD,zKS,zRT,zZg,↓Xa,Xb,Xc,↓reduceIte,Nat.reduceLT,Nat.reduceEqDiff,Nat.reduceBEq,Nat.reduceLeDiff,Nat.reduceAdd]
  exact SetR.now hq
 |cons x l=>
  have h3:(x::l=([]:List UInt8))=False:=by simp
  simp(disch:=first|exact Xe|fail)only[zZD,zKS,zRT,h1,h3,zHZ,zQi,h2,e,hc,↓Xa,Xb,Xc,↓reduceIte,Nat.reduceLT,Nat.reduceEqDiff,Nat.reduceBEq,Nat.reduceLeDiff,Nat.reduceAdd]
  refine(zSm hl).call ?_
  simp(disch:=first|exact Xe|fail)only[zZg,↓Xa,Xb,Xc,↓reduceIte,Nat.reduceLT,Nat.reduceEqDiff,Nat.reduceBEq,Nat.reduceLeDiff,Nat.reduceAdd]
  exact SetR.now hq
theorem zSK{H:AHeap}{p:Nat}{v:AV}{K:AV→AHeap→Prop}(hH:H p=some (.row 257 0 [.nilP,v]))(k:K (.tup []) (H.upd p (some (.row 257 0 [.ptr p 2 0,v])))):Run Tryz.prog 230 [.ptr p 2 0] H K:=by
 refine zMU (by simp) ?_
 simp(disch:=first|exact Xe|fail)only[zZ5,hH,zYF,↓Xa,Xb,Xc,↓reduceIte,Nat.reduceLT,Nat.reduceEqDiff,Nat.reduceBEq,Nat.reduceLeDiff,Nat.reduceAdd]
 exact SetR.now k
theorem zH4{H:AHeap}{p:Nat}{v:AV}{K:AV→AHeap→Prop}(hH:H p=some (.row 257 0 [.ptr p 2 0,v]))(k:K (.tup []) H):Run Tryz.prog 230 [.ptr p 2 0] H K:=by
 refine zMU (by simp) ?_
 simp(disch:=first|exact Xe|fail)only[zZ5,hH,zYF,↓Xa,Xb,Xc,↓reduceIte,Nat.reduceLT,Nat.reduceEqDiff,Nat.reduceBEq,Nat.reduceLeDiff,Nat.reduceAdd]
 exact SetR.now k
def bld(p:Nat)(l:List UInt8)(H0 H:AHeap):Prop:=
 (l=[]∧(H=H0.upd p (some (.row 257 0 [.nilP,.seq 0 [] true]))∨H=H0.upd p (some (.row 257 0 [.ptr p 2 0,.seq 0 [] true]))))∨
 (l≠[]∧∃bb,H0 bb=none∧Ap bb p∧H=(H0.upd p (some (.row 257 0 [.ptr p 2 0,.own bb l.length 0 l.length false]))).upd bb (some (.row 5 1 (Bt l))))
theorem zYG{p:Nat}{H:AHeap}:bld p [] H (H.upd p (some (.row 257 0 [.nilP,.seq 0 [] true]))):=.inl ⟨rfl,.inl rfl⟩
theorem zYt{p q:Nat}{l:List UInt8}{H0 H:AHeap}{x:ABlk}(h:bld p l H0 H)(hq:H q=none):Ap q p∧H0 q=none∧bld p l (H0.upd q (some x)) (H.upd q (some x)):=by
 rcases h with⟨rfl,rfl|rfl⟩|⟨h0,bb,hbb,hap,rfl⟩
 ·obtain⟨a,b⟩:=zAB.1 hq
  exact⟨a,b,.inl ⟨rfl,.inl (zAw _ _ _ (Ap.symm a))⟩⟩
 ·obtain⟨a,b⟩:=zAB.1 hq
  exact⟨a,b,.inl ⟨rfl,.inr (zAw _ _ _ (Ap.symm a))⟩⟩
 ·obtain⟨a1,a2,b⟩:Ap q bb∧Ap q p∧H0 q=none:=by simpa only[zAB]using hq
  refine⟨a2,b,.inr ⟨h0,bb,?_,hap,?_⟩⟩
  ·rw[zBj (Ap.symm a1)];exact hbb
  ·rw[zAw _ _ _ (Ap.symm a1),zAw (b:=p) (b':=q) _ _ _ (Ap.symm a2)]
theorem zMM{p:Nat}{l m:List UInt8}{H0 H:AHeap}{K:AV→AHeap→Prop}(hb:bld p l H0 H)(hl:l.length+m.length≤70368744177664)(hm:0<m.length)
 (k: ∀H',bld p (l++m) H0 H'→K (.tup [.int .i64 ((m.length:Nat):Int),.nilI]) H'):Run Tryz.prog 210 [.ptr p 2 0,Sx m] H K:=by
 refine zUy (by simp) ?_
 simp(disch:=first|exact Xe|fail)only[zOD,↓Xa,Xb,Xc,↓reduceIte,Nat.reduceLT,Nat.reduceEqDiff,Nat.reduceBEq,Nat.reduceLeDiff,Nat.reduceAdd]
 have hne: ∀{x:List UInt8},x++m≠[]:=fun{x} e=>by have:=congrArg List.length e;rw[List.length_append,List.length_nil]at this;omega
 have first: ∀{M:AHeap},M=H0.upd p (some (.row 257 0 [.ptr p 2 0,.seq 0 [] true]))→l=[]→
  W Tryz.prog (zBZ (zBZ zOD)) (zFg zVu K) ⟨[],[(0,.ptr p 2 0),(1,Sx m)],M⟩:=by
  rintro M rfl rfl
  simp(disch:=first|exact Xe|fail)only[zBZ,zOD,↓Xa,Xb,Xc,↓reduceIte,Nat.reduceLT,Nat.reduceEqDiff,Nat.reduceBEq,Nat.reduceLeDiff,Nat.reduceAdd]
  refine zcA hm (by simp at hl;omega) fun b hb=>?_
  obtain⟨a1,a2⟩:=zAB.1 hb
  simp(disch:=first|exact Xe|fail)only[zHZ,zVu,↓Xa,Xb,Xc,↓reduceIte,Nat.reduceLT,Nat.reduceEqDiff,Nat.reduceBEq,Nat.reduceLeDiff,Nat.reduceAdd]
  refine SetR.now (k _ (.inr ⟨by simpa using hne (x:=[]),b,a2,a1,?_⟩))
  simp only[List.nil_append]
 rcases hb with⟨rfl,rfl|rfl⟩|⟨h0,bb,hbb,hap,rfl⟩
 ·refine zAM (zSK (zAC _ _ _) ?_)
  have f:=first rfl rfl
  simp(disch:=first|exact Xe|fail)only[zBZ,zOD,↓Xa,Xb,Xc,↓reduceIte,Nat.reduceLT,Nat.reduceEqDiff,Nat.reduceBEq,Nat.reduceLeDiff,Nat.reduceAdd]at f
  simp(disch:=first|exact Xe|fail)only[↓Xa,Xb,Xc,↓reduceIte,Nat.reduceLT,Nat.reduceEqDiff,Nat.reduceBEq,Nat.reduceLeDiff,Nat.reduceAdd]
  exact f
 ·refine zAM (zH4 (zAC _ _ _) ?_)
  have f:=first rfl rfl
  simp(disch:=first|exact Xe|fail)only[zBZ,zOD,↓Xa,Xb,Xc,↓reduceIte,Nat.reduceLT,Nat.reduceEqDiff,Nat.reduceBEq,Nat.reduceLeDiff,Nat.reduceAdd]at f
  simp(disch:=first|exact Xe|fail)only[↓Xa,Xb,Xc,↓reduceIte,Nat.reduceLT,Nat.reduceEqDiff,Nat.reduceBEq,Nat.reduceLeDiff,Nat.reduceAdd]
  exact f
 ·refine zAM (zH4 (v:=.own bb l.length 0 l.length false) (by rw[zBj (Ap.symm hap),zAC]) ?_)
  simp(disch:=first|exact Xe|fail)only[↓Xa,Xb,Xc,↓reduceIte,Nat.reduceLT,Nat.reduceEqDiff,Nat.reduceBEq,Nat.reduceLeDiff,Nat.reduceAdd]
  refine zci (zAC _ _ _) hl ?_
  simp(disch:=first|exact Xe|fail)only[zHZ,zVu,↓Xa,Xb,Xc,↓reduceIte,Nat.reduceLT,Nat.reduceEqDiff,Nat.reduceBEq,Nat.reduceLeDiff,Nat.reduceAdd]
  refine SetR.now (k _ (.inr ⟨hne,bb,hbb,hap,?_⟩))
  simp only[List.length_append]
theorem zT8{p:Nat}{l:List UInt8}{H0 H:AHeap}{K:AV→AHeap→Prop}(hb:bld p l H0 H)(hp:H0 p=none)(hl:l.length≤70368744177664)(h0:0<l.length)(k: ∀H',Le H0 H'→K (Sx l) H'):Run Tryz.prog 211 [.ptr p 2 0] H K:=by
 refine zSx (by simp) ?_
 rcases hb with⟨rfl,_⟩|⟨h1,bb,hbb,hap,rfl⟩
 ·simp at h0
 ·have hbl:(Bt l).length=l.length:=zEF
  simp(disch:=first|exact Xe|fail)only[zdu,h0,zbX,↓Xa,Xb,Xc,↓reduceIte,Nat.reduceLT,Nat.reduceEqDiff,Nat.reduceBEq,Nat.reduceLeDiff,Nat.reduceAdd]
  exact SetR.now (k _ (((Le.refl H0).updB hp).updB hbb))
theorem zUr{p q:Nat}{l:List UInt8}{H0 H:AHeap}{x:ABlk}(h:bld p l (H0.upd q (some x)) H)(hqp:Ap q p)(hq:H0 q=none): ∃H',bld p l H0 H'∧Le H' H:=by
 have up: ∀{M:AHeap}{r:Option ABlk},M=(H0.upd q (some x)).upd p r→Le (H0.upd p r) M:=fun{M r} e=>by
  rw[e,zAw _ _ _ hqp]
  exact(Le.refl _).updB (by rw[zBj hqp];exact hq)
 rcases h with⟨rfl,rfl|rfl⟩|⟨h0,bb,hbb,hap,rfl⟩
 ·exact⟨_,.inl ⟨rfl,.inl rfl⟩,up rfl⟩
 ·exact⟨_,.inl ⟨rfl,.inr rfl⟩,up rfl⟩
 ·obtain⟨a1,a2⟩:=zAB.1 hbb
  refine⟨_,.inr ⟨h0,bb,a2,hap,rfl⟩,?_⟩
  rw[zAw _ _ _ hqp,zAw (b:=q) (b':=bb) _ _ _ (Ap.symm a1)]
  exact(Le.refl _).updB (by rw[zBj (Ap.symm a1),zBj hqp];exact hq)
theorem zby{H:AHeap}{K2:AV→AHeap→Prop}{b L off ty es c:Nat}{l:List UInt8}(hL:l.length=L)(h:off<L)(hc:c<256):stP H 1 b L off K2 (some [.int .u8 (c:Int)]) (some (.row ty es (Bt l)))=K2 .bot (H.upd b (some (.row ty es (Bt (l.set off (UInt8.ofNat c)))))):=by
 subst hL
 have h1:off+1≤l.length:=h
 have e:zAo (Bt l) off [.int .u8 (c:Int)]=Bt (l.set off (UInt8.ofNat c)):=by
  have e2:(AV.int .u8 (c:Int))=.int .u8 (((UInt8.ofNat c).toNat:Nat):Int):=by
   rw[UInt8.toNat_ofNat',Nat.mod_eq_of_lt hc]
  rw[e2]
  unfold zAo Bt
  rw[List.map_set,List.set_eq_take_append_cons_drop]
  simp[h]
 simp[stP,zEF,h1,e]
def TxI(p j:Nat)(cells:List UInt8)(x:Nat):Prop:=j≤9∧cells=List.replicate j 0++wide (9-j) (p%10^(9-j))∧x=p / 10^(9-j)
theorem TxI.len{p j x:Nat}{cells:List UInt8}(h:TxI p j cells x):cells.length=9:=by
 obtain⟨h1,rfl,_⟩:=h
 rw[List.length_append,List.length_replicate,zUU (Nat.mod_lt _ (Nat.pow_pos (by omega)))];omega
theorem TxI.step{p j x:Nat}{cells:List UInt8}(h:TxI p (j+1) cells x):TxI p j (cells.set j (UInt8.ofNat (48+x%10))) (x / 10):=by
 obtain⟨h1,rfl,rfl⟩:=h
 have e9:9-j=(9-(j+1))+1:=by omega
 refine⟨by omega,?_,?_⟩
 ·rw[e9,zP5]
  rw[List.replicate_succ',List.append_assoc,List.set_append_right _ _ (by simp)]
  simp[chr]
 ·rw[e9,Nat.pow_succ,Nat.div_div_eq_div_mul]
theorem zXz{l:List Nat}(t:Bool)(hl:Lim 4294967296 l)(hn:l.length≤1099511627776):PFn Tryz.prog 197 [LS l t] (Sx (zL9 (val 4294967296 l))):=by
 intro H Q hq
 have hP:(2:Nat)≤1000000000:=by omega
 refine zUR (by simp) ?_
 simp(disch:=first|exact Xe|fail)only[zcX,zKS,↓Xa,Xb,Xc,↓reduceIte,Nat.reduceLT,Nat.reduceEqDiff,Nat.reduceBEq,Nat.reduceLeDiff,Nat.reduceAdd]
 refine(zI0 t (by omega)).call ?_
 rw[zAv (by omega) hl]
 have hN:val 4294967296 l<4294967296^l.length:=zBG hl
 have hp2:(digs 1000000000 (val 4294967296 l)).length≤2*l.length:=zA5 hP _ _ (Nat.lt_of_lt_of_le hN (by rw[Nat.pow_mul];exact Nat.pow_le_pow_left (by omega) _))
 have hdl:(dec (val 4294967296 l)).length≤10*l.length:=zIl (Nat.lt_of_lt_of_le hN (by rw[Nat.pow_mul];exact Nat.pow_le_pow_left (by omega) _))
 generalize hNe:val 4294967296 l=N at*
 simp(disch:=first|exact Xe|fail)only[↓Xa,Xb,Xc,↓reduceIte,Nat.reduceLT,Nat.reduceEqDiff,Nat.reduceBEq,Nat.reduceLeDiff,Nat.reduceAdd]
 refine zAO (fun s:List Nat×AV×AHeap×Nat=>⟨[],[(3,s.2.1),(4,LS (digs 4294967296 s.2.2.2) true)],s.2.2.1⟩) (fun s=>grow H 168 s.1 s.2.1 s.2.2.1∧digs 1000000000 N=s.1++digs 1000000000 s.2.2.2∧s.2.2.2≤N) (fun s=>s.2.2.2)
  ([],.seq 0 [] true,H,N) (Settle.now rfl) ⟨zEB,rfl,Nat.le_refl _⟩ ?_
 rintro⟨done,x,G,n⟩ ⟨hg,he,hle⟩
 dsimp only at hg he hle ⊢
 have hdn:(digs 4294967296 n).length≤l.length:=zA5 (by omega) _ _ (Nat.lt_of_le_of_lt hle (hNe▸hN))
 have hz:=zCx (B:=4294967296) (n:=n) (by omega)
 by_cases hn0:n=0
 ·have h1:(digs 4294967296 n).length=0:=by rw[hz];exact hn0
  simp(disch:=first|exact Xe|fail)only[h1,↓Xa,Xb,Xc,↓reduceIte,Nat.reduceLT,Nat.reduceEqDiff,Nat.reduceBEq,Nat.reduceLeDiff,Nat.reduceAdd]
  refine Settle.grown 3 rfl hg (Settle.now ?_)
  rw[hn0,zAQ,List.append_nil]at he
  subst he
  have hlim:=zAG hP N
  have hdig:=fun k p=>zNw (n:=N) (k:=k) (p:=p)
  have hv:val 1000000000 (digs 1000000000 N)=N:=zAJ hP N
  have hlast:=zBo (B:=1000000000) (n:=N) hP
  have hnil:=zCx (B:=1000000000) (n:=N) hP
  generalize digs 1000000000 N=ps at*
  by_cases hp0:ps.length=0
  ·rw[hnil]at hp0
   have hL:ps.length=0:=by rw[hnil];exact hp0
   simp(disch:=first|exact Xe|fail)only[hL,zKS,zZu,↓Xa,Xb,Xc,↓reduceIte,Nat.reduceLT,Nat.reduceEqDiff,Nat.reduceBEq,Nat.reduceLeDiff,Nat.reduceAdd]
   have e:zL9 N=[48]:=by rw[hp0];rfl
   rw[e]at hq
   exact SetR.now hq
  ·have hN0:0<N:=by rcases Nat.eq_zero_or_pos N with h|h
                    ·exact absurd (hnil▸h) hp0
                    ·exact h
   have eT:zL9 N=dec N:=by unfold zL9;rw[if_neg (by omega)]
   rw[eT]at hq
   obtain⟨L,hL⟩: ∃L,ps.length=L+1:=⟨ps.length-1,by omega⟩
   have hLp:(0<L+1)=True:=by simp
   have hL0:(L+1=0)=False:=by simp
   simp(disch:=first|exact Xe|fail)only[hL,hL0,↓Xa,Xb,Xc,↓reduceIte,Nat.reduceLT,Nat.reduceEqDiff,Nat.reduceBEq,Nat.reduceLeDiff,Nat.reduceAdd]
   refine zAD fun p hp=>?_
   simp(disch:=first|exact Xe|fail)only[hL,zCt,↓Xa,Xb,Xc,↓reduceIte,Nat.reduceLT,Nat.reduceEqDiff,Nat.reduceBEq,Nat.reduceLeDiff,Nat.reduceAdd]
   refine zfA fun M0 hM0=>?_
   refine zAO (fun s:Nat×AHeap=>⟨[],[(3,LS ps false),(8,.ptr p 2 0),(9,.int .i64 (dn s.1))],s.2⟩) (fun s=>s.1≤ps.length∧bld p (dec (val 1000000000 (ps.drop s.1))) H s.2) (fun s=>s.1) (L+1,M0) (Settle.now rfl) ⟨by dsimp only;omega,?_⟩ ?_
   ·dsimp only
    rw[List.drop_of_length_le (by omega),show val 1000000000 []=0 from rfl,zIz,hM0]
    exact zYG
   rintro⟨k,M⟩ ⟨hk,hb⟩
   dsimp only at hk hb ⊢
   cases k with
   |zero=>
    simp(disch:=first|exact Xe|fail)only[zFN,↓Xa,Xb,Xc,↓reduceIte,Nat.reduceLT,Nat.reduceEqDiff,Nat.reduceBEq,Nat.reduceLeDiff,Nat.reduceAdd]
    refine Settle.now ?_
    rw[List.drop_zero,hv]at hb
    simp(disch:=first|exact Xe|fail)only[↓Xa,Xb,Xc,↓reduceIte,Nat.reduceLT,Nat.reduceEqDiff,Nat.reduceBEq,Nat.reduceLeDiff,Nat.reduceAdd]
    have hd0:0<(dec N).length:=List.length_pos_iff.2 (zLP hN0)
    refine zAM (zT8 hb hp (by omega) hd0 fun H' hH'=>?_)
    simp(disch:=first|exact Xe|fail)only[zZu,↓Xa,Xb,Xc,↓reduceIte,Nat.reduceLT,Nat.reduceEqDiff,Nat.reduceBEq,Nat.reduceLeDiff,Nat.reduceAdd]
    exact SetR.dropTo hH' (SetR.now hq)
   |succ k=>
    obtain⟨hlt,hstep⟩:=hdig k _ (by omega) rfl
    have hlt2:ps.getD k 0<1000000000:=hlt
    simp(disch:=first|exact Xe|fail)only[zCt,hL,↓Xa,Xb,Xc,↓reduceIte,Nat.reduceLT,Nat.reduceEqDiff,Nat.reduceBEq,Nat.reduceLeDiff,Nat.reduceAdd]
    refine zAD fun q hq'=>?_
    generalize hpk:ps.getD k 0=pk at*
    simp(disch:=first|exact Xe|fail)only[hpk,zCt,hL,↓Xa,Xb,Xc,↓reduceIte,Nat.reduceLT,Nat.reduceEqDiff,Nat.reduceBEq,Nat.reduceLeDiff,Nat.reduceAdd]
    refine zAO (fun s:Nat×List UInt8×Nat=>⟨[],[(3,LS ps false),(8,.ptr p 2 0),(9,.int .i64 (k:Nat)),(10,.ptr q 9 0),(11,.int .u32 (s.2.2:Nat)),(12,.int .i64 (dn s.1))],M.upd q (some (.row 275 1 (Bt s.2.1)))⟩)
     (fun s=>TxI pk s.1 s.2.1 s.2.2) (fun s=>s.1) (9,List.replicate 9 0,pk) (Settle.now rfl) ⟨Nat.le_refl _,by simp[wide,pad,zAQ,Nat.mod_one],by simp⟩ ?_
    rintro⟨j,cells,x⟩ hx
    dsimp only at hx ⊢
    have hcl:=hx.len
    have hx32:x<4294967296:=by
     have:=hx.2.2
     have:=Nat.div_le_self pk (10^(9-j))
     omega
    cases j with
    |zero=>
     have ecells:cells=wide 9 pk:=by
      rw[hx.2.1];simp[Nat.mod_eq_of_lt hlt2]
     have htk:(Bt cells).take 9=Bt cells:=List.take_of_length_le (by rw[zEF];omega)
     have hbl:(Bt cells).length=9:=by rw[zEF];exact hcl
     simp(disch:=first|exact Xe|fail)only[zFN,↓Xa,Xb,Xc,↓reduceIte,Nat.reduceLT,Nat.reduceEqDiff,Nat.reduceBEq,Nat.reduceLeDiff,Nat.reduceAdd]
     refine Settle.now ?_
     simp(disch:=first|exact Xe|fail)only[htk,zKS,hL,zCt,↓Xa,Xb,Xc,↓reduceIte,Nat.reduceLT,Nat.reduceEqDiff,Nat.reduceBEq,Nat.reduceLeDiff,Nat.reduceAdd]
     refine⟨by decide,?_⟩
     obtain⟨a1,a2,w0⟩:=zYt (x:=.row 275 1 (Bt cells)) hb hq'
     have fin: ∀(m:List UInt8)(M':AHeap),bld p (dec (val 1000000000 (ps.drop (k+1)))++m) (H.upd q (some (.row 275 1 (Bt cells)))) M'→dec (val 1000000000 (ps.drop k))=dec (val 1000000000 (ps.drop (k+1)))++m→
      Settle (fun s'=> ∃x':Nat×AHeap,x'.1<k+1∧(x'.1≤L+1∧bld p (dec (val 1000000000 (ps.drop x'.1))) H x'.2)∧s'=⟨[],[(3,LS ps false),(8,.ptr p 2 0),(9,.int .i64 (dn x'.1))],x'.2⟩) ⟨[],[(3,LS ps false),(8,.ptr p 2 0),(9,.int .i64 (dn k))],M'⟩:=fun m M' hb' e=>by
      obtain⟨M'',h1,h2⟩:=zUr hb' a1 a2
      exact Settle.dropTo h2 (Settle.now ⟨(k,M''),Nat.lt_succ_self k,⟨by dsimp only;omega,by dsimp only;rw[e];exact h1⟩,rfl⟩)
     have hbd:(dec (val 1000000000 (ps.drop (k+1)))).length≤9*ps.length:=by
      refine zIl (Nat.lt_of_lt_of_le (zBG (hlim.drop (k+1))) ?_)
      rw[show(1000000000:Nat)=10^9 from rfl,← Nat.pow_mul]
      exact Nat.pow_le_pow_right (by omega) (Nat.mul_le_mul_left _ (by simp))
     by_cases hkL:k=L
     ·rw[if_pos (by omega)]at hstep
      have hpk0:pk≠0:=by
       have:=hlast hN0
       rwa[hL,Nat.add_sub_cancel,← hkL,hpk]at this
      have hm0:0<(dec pk).length:=List.length_pos_iff.2 (zLP (by omega))
      have hm9:(dec pk).length≤9:=zIl (k:=9) hlt2
      have hd1:decide (k=L+1-1)=true:=by simp[hkL]
      simp(disch:=first|exact Xe|fail)only[hd1,↓Xa,Xb,Xc,↓reduceIte,Nat.reduceLT,Nat.reduceEqDiff,Nat.reduceBEq,Nat.reduceLeDiff,Nat.reduceAdd]
      refine(zSi (c:=48) (l:=cells) (by omega) (by decide)).call ?_
      rw[ecells,zQC,← ecells]
      simp(disch:=first|exact Xe|fail)only[↓Xa,Xb,Xc,↓reduceIte,Nat.reduceLT,Nat.reduceEqDiff,Nat.reduceBEq,Nat.reduceLeDiff,Nat.reduceAdd]
      refine zAM (zMM w0 (by omega) hm0 fun M' hM'=>?_)
      simp(disch:=first|exact Xe|fail)only[↓Xa,Xb,Xc,↓reduceIte,Nat.reduceLT,Nat.reduceEqDiff,Nat.reduceBEq,Nat.reduceLeDiff,Nat.reduceAdd]
      exact fin _ _ hM' hstep
     ·rw[if_neg (by omega)]at hstep
      rw[← ecells]at hstep
      have hd1:decide (k=L+1-1)=false:=by simp[hkL]
      simp(disch:=first|exact Xe|fail)only[hd1,↓Xa,Xb,Xc,↓reduceIte,Nat.reduceLT,Nat.reduceEqDiff,Nat.reduceBEq,Nat.reduceLeDiff,Nat.reduceAdd]
      refine zAM (zMM w0 (by omega) (by omega) fun M' hM'=>?_)
      simp(disch:=first|exact Xe|fail)only[↓Xa,Xb,Xc,↓reduceIte,Nat.reduceLT,Nat.reduceEqDiff,Nat.reduceBEq,Nat.reduceLeDiff,Nat.reduceAdd]
      exact fin _ _ hM' hstep
    |succ j=>
     have hj:j<9:=by have:=hx.1;omega
     have hbl:(Bt cells).length=9:=by rw[zEF];exact hcl
     have hd:x%10<10:=Nat.mod_lt _ (by omega)
     simp(disch:=first|exact Xe|fail)only[zCt,zby,↓Xa,Xb,Xc,↓reduceIte,Nat.reduceLT,Nat.reduceEqDiff,Nat.reduceBEq,Nat.reduceLeDiff,Nat.reduceAdd]
     exact⟨by omega,by omega,Settle.now ⟨(j,_,x / 10),Nat.lt_succ_self j,hx.step,rfl⟩⟩
 ·have h1:0<(digs 4294967296 n).length:=by
   have: ¬(digs 4294967296 n).length=0:=by rw[hz];exact hn0
   omega
  simp(disch:=first|exact Xe|fail)only[h1,↓Xa,Xb,Xc,↓reduceIte,Nat.reduceLT,Nat.reduceEqDiff,Nat.reduceBEq,Nat.reduceLeDiff,Nat.reduceAdd]
  refine(zGq (d:=1000000000) true (zAG (by omega) n) (by omega) (by omega) (by omega)).call ?_
  rw[zAJ (by omega)]
  simp(disch:=first|exact Xe|fail)only[↓Xa,Xb,Xc,↓reduceIte,Nat.reduceLT,Nat.reduceEqDiff,Nat.reduceBEq,Nat.reduceLeDiff,Nat.reduceAdd]
  have hlen:=congrArg List.length he
  rw[List.length_append]at hlen
  refine zBS (m:=[n%1000000000]) hg rfl (by simp) (by simp;omega) fun x' H2 hg2=>?_
  simp(disch:=first|exact Xe|fail)only[↓Xa,Xb,Xc,↓reduceIte,Nat.reduceLT,Nat.reduceEqDiff,Nat.reduceBEq,Nat.reduceLeDiff,Nat.reduceAdd]
  refine Settle.now ⟨(done++[n%1000000000],x',H2,n / 1000000000),Nat.div_lt_self (by omega) (by omega),⟨hg2,?_,Nat.le_trans (Nat.div_le_self _ _) hle⟩,rfl⟩
  dsimp only
  rw[he,zA1 hP (show 0<n by omega),List.append_assoc];rfl
structure Nm(l:List Nat)(n k:Nat):Prop where
 lim:Lim 4294967296 l
 val:val 4294967296 l=n
 len:l.length≤k
theorem Nm.lt{l:List Nat}{n k:Nat}(h:Nm l n k):n<4294967296^k:=by
 rw[← h.val];exact Nat.lt_of_lt_of_le (zBG h.lim) (Nat.pow_le_pow_right (by omega) h.len)
theorem Nm.digs{n k:Nat}(h:n<4294967296^k):Nm (digs 4294967296 n) n k:=⟨zAG (by omega) n,zAJ (by omega) n,zA5 (by omega) k n h⟩
theorem Nm.raw{l:List Nat}{k:Nat}(h:Lim 4294967296 l)(hk:l.length≤k):Nm l (Ma.val 4294967296 l) k:=⟨h,rfl,hk⟩
theorem Nm.mono{l:List Nat}{n k k':Nat}(h:Nm l n k)(hk:k≤k'):Nm l n k':=⟨h.lim,h.val,Nat.le_trans h.len hk⟩
theorem Nm.one{c:Nat}(h:c<4294967296):Nm [c] c 1:=⟨Lim.one h,zFC _ _,Nat.le_refl _⟩
theorem Nm.two{c:Nat}(h:c<4294967296):Nm [c,0] c 2:=⟨Lim.cons h (Lim.one (by omega)),by simp[Ma.val],Nat.le_refl _⟩
end Go.Proofs.YtmndejlpfmmaiaaGreatDoor.Fw
namespace Go.Proofs.YtmndejlpfmmaiaaGreatDoor.Ma
def zIT(b:UInt8):Prop:=48≤b.toNat∧b.toNat≤57
def Good(l:List UInt8):Prop:=l≠[]∧(∀b,b∈l→zIT b)∧(l.length=1∨(l.getD 0 0).toNat≠48)
theorem zR6(n:Nat):Good (zL9 n):=by
 unfold zL9
 split
 ·exact⟨by simp,by simp[zIT],.inl rfl⟩
 ·rename_i h
  have hn:0<n:=by omega
  refine⟨zLP hn,fun b hb=>?_,.inr ?_⟩
  ·unfold dec at hb
   obtain⟨x,hx,rfl⟩:=List.mem_map.1 hb
   have:=zAG (B:=10) (by omega) n x (List.mem_reverse.1 hx)
   unfold zIT;rw[zLh this];omega
  ·have hl:=zBo (B:=10) (by omega) hn
   have hne:digs 10 n≠[]:=fun e=>by have:=(zCi (B:=10) (by omega)).1 e;omega
   obtain⟨l,x,hx⟩: ∃l x,digs 10 n=l++[x]:=⟨_,_,(List.dropLast_concat_getLast hne).symm⟩
   have hx0:x≠0:=by
    rw[hx,zEP (by simp)]at hl
    simpa using hl
   have hx10:x<10:=zAG (B:=10) (by omega) n x (by rw[hx];simp)
   have:dec n=chr x::l.reverse.map chr:=by simp[dec,hx]
   rw[this]
   show(chr x).toNat≠48
   rw[zLh hx10];omega
end Go.Proofs.YtmndejlpfmmaiaaGreatDoor.Ma
namespace Go.Proofs.YtmndejlpfmmaiaaGreatDoor.Fw
open Go Go.Proofs.YtmndejlpfmmaiaaGreatDoor.Ma
set_option maxRecDepth 20000
def spot(e a:Nat):AV:=.agg [.int .i64 (e:Int),.int .i64 (a:Int)]
theorem zdR{H:AHeap}{l:List UInt8}{K:AV→AHeap→Prop}:zaM H (Sx l) K=zfE H ⟨l.toArray⟩ K:=id rfl
theorem zQ2{l:List UInt8}{i:Nat}:zCE ⟨l.toArray⟩ i=(l.getD i 0).toNat:=by simp[zCE]
theorem zcL{H:AHeap}{b pos:Nat}{l:List UInt8}{K:AV→AHeap→Prop}(h:pos<l.length)(hb:(l.getD pos 0).toNat<128):zTT H b K (some (.raw (.stringIter ⟨l.toArray⟩ pos)))=K (.tup [.bool true,.int .i64 (pos:Int),.int .i32 (((l.getD pos 0).toNat:Nat):Int)]) (H.upd b (some (.raw (.stringIter ⟨l.toArray⟩ (pos+1))))):=by
 rw[zPe (by rw[zEV];exact h) (by rw[zQ2];exact hb),zQ2]
theorem zbJ{H:AHeap}{b pos:Nat}{l:List UInt8}{K:AV→AHeap→Prop}(h:l.length≤pos):zTT H b K (some (.raw (.stringIter ⟨l.toArray⟩ pos)))=K (.tup [.bool false]) H:=zRh (by rw[zEV];exact h)
theorem zeO{n:Nat}(h:n<2147483648):IntKind.i32.wrap (n:Int)=(n:Int):=by
 unfold IntKind.wrap;simp only[IntKind.bits,IntKind.signed,Bool.true_and,decide_eq_true_eq,ge_iff_le];split<;>omega
theorem zio{P:Program}{b:Nat}{args:List AV}{H:AHeap}{K:AV→AHeap→Prop}:zBw P (.yld b) args H K=YieldW P b args H K:=id rfl
theorem zY7{H:AHeap}{l:List UInt8}{K:AV→Prop}:zBC H none (.cptr [Sx l]) K=K (Sx l):=by simp[zBC,zBB,Sx]
theorem zJe{l:List UInt8}(hg: ∀b,b∈l→zIT b)(hl:l.length<4611686018427387904):zcO Tryz.prog 198 [.cptr [Sx l]] (fun d:Nat=>[.int .i64 (d:Int)]) (l.map fun b=>b.toNat-48):=by
 intro b J Jx hy A B hd h0
 refine zUe (by simp) ?_
 simp(disch:=first|exact Xe|fail)only[zbr,zdR,zY7,↓Xa,Xb,Xc,↓reduceIte,Nat.reduceLT,Nat.reduceEqDiff,Nat.reduceBEq,Nat.reduceLeDiff,Nat.reduceAdd]
 refine zgw fun q hq=>?_
 obtain⟨qa,qb⟩:=zB4.1 hq
 simp(disch:=first|exact Xe|fail)only[↓Xa,Xb,Xc,↓reduceIte,Nat.reduceLT,Nat.reduceEqDiff,Nat.reduceBEq,Nat.reduceLeDiff,Nat.reduceAdd]
 refine zAO (fun s:Nat×AHeap=>⟨[],[(0,.yld b),(6,.ptr q 0 0)],(Un s.2 B).upd q (some (.raw (.stringIter ⟨l.toArray⟩ s.1)))⟩) (fun s=>s.1≤l.length∧Dj s.2 B∧s.2 q=none∧J ((l.map fun b=>b.toNat-48).take s.1) s.2) (fun s=>l.length-s.1) (0,A) (Settle.now rfl) ⟨Nat.zero_le _,hd,qa,by simpa using h0⟩ ?_
 rintro⟨i,A1⟩ ⟨hi,hd1,hq1,hj⟩
 dsimp only at hi hd1 hq1 hj ⊢
 by_cases h:i<l.length
 ·have hdg:=hg _ (List.getElem_mem h)
  have eg:l.getD i 0=l[i]:=by rw[List.getD_eq_getElem?_getD,List.getElem?_eq_getElem h,Option.getD_some]
  rw[← eg]at hdg
  unfold zIT at hdg
  have h128:(l.getD i 0).toNat<128:=by omega
  have hx:(l.map fun b=>b.toNat-48)=(l.map fun b=>b.toNat-48).take i++((l.getD i 0).toNat-48)::(l.map fun b=>b.toNat-48).drop (i+1):=by
   conv=>lhs;rw[← List.take_append_drop i (l.map fun b=>b.toNat-48)]
   rw[List.drop_eq_getElem_cons (by simpa using h),List.getElem_map,eg]
  have hx2:(l.map fun b=>b.toNat-48).take (i+1)=(l.map fun b=>b.toNat-48).take i++[(l.getD i 0).toNat-48]:=by
   rw[List.take_add_one,List.getElem?_map,List.getElem?_eq_getElem h,eg];rfl
  simp(disch:=first|exact Xe|fail)only[zcL,zeO,zio,↓Xa,Xb,Xc,↓reduceIte,Nat.reduceLT,Nat.reduceEqDiff,Nat.reduceBEq,Nat.reduceLeDiff,Nat.reduceAdd]
  rw[← zBn hq1]
  refine(hy _ _ _ A1 (B.upd q (some (.raw (.stringIter ⟨l.toArray⟩ (i+1))))) hx (zD0 hd1 hq1) hj).mono ?_
  rintro r H' ⟨A2,hd2,rfl,(⟨rfl,hj2⟩|⟨rfl,hj2⟩)⟩
  ·have hq2:A2 q=none:=zDU hd2 (zAC _ _ _)
   rw[zBn hq2]
   simp(disch:=first|exact Xe|fail)only[↓Xa,Xb,Xc,↓reduceIte,Nat.reduceLT,Nat.reduceEqDiff,Nat.reduceBEq,Nat.reduceLeDiff,Nat.reduceAdd]
   refine Settle.keep [0,6] ⟨(i+1,A2),by dsimp only;omega,⟨by dsimp only;omega,?_,hq2,by dsimp only;rw[hx2];exact hj2⟩,rfl⟩
   intro k
   by_cases e:k=q
   ·subst e;exact .inl hq2
   ·have:=hd2 k
    rwa[zAA _ _ e]at this
  ·have hq2:A2 q=none:=zDU hd2 (zAC _ _ _)
   have hd3:Dj A2 B:=fun k=>by
    by_cases e:k=q
    ·subst e;exact .inl hq2
    ·have:=hd2 k
     rwa[zAA _ _ e]at this
   rw[zBn hq2]
   simp(disch:=first|exact Xe|fail)only[zY1,↓Xa,Xb,Xc,↓reduceIte,Nat.reduceLT,Nat.reduceEqDiff,Nat.reduceBEq,Nat.reduceLeDiff,Nat.reduceAdd]
   refine SetR.dropTo ((Le.refl _).upd (zB4.2 ⟨hq2,qb⟩)) (SetR.now ⟨A2,hd3,rfl,.inr hj2⟩)
 ·obtain rfl:i=l.length:=by omega
  simp(disch:=first|exact Xe|fail)only[zbJ,↓Xa,Xb,Xc,↓reduceIte,Nat.reduceLT,Nat.reduceEqDiff,Nat.reduceBEq,Nat.reduceLeDiff,Nat.reduceAdd]
  refine Settle.now ?_
  simp(disch:=first|exact Xe|fail)only[zY1,↓Xa,Xb,Xc,↓reduceIte,Nat.reduceLT,Nat.reduceEqDiff,Nat.reduceBEq,Nat.reduceLeDiff,Nat.reduceAdd]
  rw[List.take_of_length_le (by simp)]at hj
  refine SetR.dropTo ((Le.refl _).upd (zB4.2 ⟨hq1,qb⟩)) (SetR.now ⟨A1,hd1,rfl,.inl hj⟩)
theorem zSM{l:List Nat}(t:Bool)(hl:Lim 4294967296 l)(hn:l.length≤1099511627776):PFn Tryz.prog 133 [LS l t] (.fn (.func 198) [] [.cptr [Sx (zL9 (val 4294967296 l))]]):=by
 intro H Q hq
 refine zVc (by simp) ?_
 simp(disch:=first|exact Xe|fail)only[zb9,↓Xa,Xb,Xc,↓reduceIte,Nat.reduceLT,Nat.reduceEqDiff,Nat.reduceBEq,Nat.reduceLeDiff,Nat.reduceAdd]
 refine(zXz t hl hn).call ?_
 simp(disch:=first|exact Xe|fail)only[↓Xa,Xb,Xc,↓reduceIte,Nat.reduceLT,Nat.reduceEqDiff,Nat.reduceBEq,Nat.reduceLeDiff,Nat.reduceAdd]
 refine zAD fun p1 hp1=>?_
 have n1:=hp1
 simp(disch:=first|exact Xe|fail)only[zT3,zc3,↓Xa,Xb,Xc,↓reduceIte,Nat.reduceLT,Nat.reduceEqDiff,Nat.reduceBEq,Nat.reduceLeDiff,Nat.reduceAdd]
 refine SetR.frzP p1 (zAC _ _ _) ?_
 rw[zAP,zAU _ n1]
 simp[frzP,zHM]
 exact SetR.now hq
def zOF(z:Int):List UInt8:=(if z<0 then[45]else[])++zL9 z.natAbs
theorem zaZ(l m:List UInt8):Bt (l++m)=Bt l++Bt m:=by simp[Bt]
theorem zau{n:Nat}(h:n<256):[AV.int .u8 (n:Int)]=Bt [UInt8.ofNat n]:=by
 simp only[Bt,List.map_cons,List.map_nil]
 rw[UInt8.toNat_ofNat',Nat.mod_eq_of_lt (by omega)]
theorem zUA{n k:Nat}(h:n<10^k)(hk:0<k):(zL9 n).length≤k:=by
 unfold zL9;split
 ·simp;omega
 ·exact zIl h
theorem zYO{x:Int}{k:Nat}(hx:Bd k x):(zL9 x.natAbs).length≤10*k+1:=by
 refine zUA (Nat.lt_of_lt_of_le hx ?_) (by omega)
 calc 4294967296^k≤(10^10)^k:=Nat.pow_le_pow_left (by omega) k
  _=10^(10*k):=by rw[Nat.pow_mul]
  _≤10^(10*k+1):=Nat.pow_le_pow_right (by omega) (by omega)
theorem zc9{n:Nat}(h:n<256):IntKind.u8.wrap (n:Int)=(n:Int):=by
 unfold IntKind.wrap;simp only[IntKind.bits,IntKind.signed,Bool.false_and,Bool.false_eq_true,if_false];omega
theorem zP7{b:UInt8}(h:zIT b):UInt8.ofNat (48+(b.toNat-48))=b:=by
 unfold zIT at h
 rw[show 48+(b.toNat-48)=b.toNat by omega];exact UInt8.ofNat_toNat
theorem zhM{H0 H:AHeap}{p tb ty:Nat}{l:List UInt8}(h:zGT H0 p tb ty 1 l.length (Bt l) H): ∃x,H p=some (.row tb 0 [x])∧AV.cells x=some [x]∧∀H' K,Le H H'→K (Sx l)→zOr H' x K:=by
 obtain⟨x,hx,hc,_⟩:=zGB h
 refine⟨x,hx,?_,?_⟩
 ·rcases hc with⟨rfl,_,_⟩|⟨_,_,b,rfl,_⟩<;>rfl
 ·intro H' K hle k
  rcases hc with⟨rfl,h0,hc⟩|⟨hn,hl,b,rfl,hb⟩
  ·have:l=[]:=List.eq_nil_of_length_eq_zero h0
   subst this
   exact⟨rfl,k⟩
  ·rw[Nat.mul_one,zLd,hle _ _ hb]
   refine⟨by simp[zEF],rfl,by omega,?_⟩
   rw[List.drop_zero,List.take_of_length_le (by simp[zEF]),zC7]
   exact k
def chD(d:Nat):UInt8:=UInt8.ofNat (48+d)
theorem zS9: ∀{l:List UInt8},(∀b,b∈l→zIT b)→(l.map fun b=>b.toNat-48).map chD=l:=by
 intro l h
 rw[List.map_map]
 conv=>rhs;rw[← List.map_id l]
 exact List.map_congr_left fun b hb=>zP7 (h b hb)
theorem zUs{x:Int}{k:Nat}(hx:Bd k x)(hk:k≤1000000):PFn Tryz.prog 67 [zAl x] (Sx (zOF x)):=by
 intro H Q hq
 have hdl:=hx.len
 have hdt:=zYO hx
 have hgd:=zR6 x.natAbs
 refine zYL (by simp) ?_
 simp(disch:=first|exact Xe|fail)only[zaH,zAl,↓Xa,Xb,Xc,↓reduceIte,Nat.reduceLT,Nat.reduceEqDiff,Nat.reduceBEq,Nat.reduceLeDiff,Nat.reduceAdd]
 refine zAD fun p1 hp1=>?_
 have n1:=hp1
 simp(disch:=first|exact Xe|fail)only[↓Xa,Xb,Xc,↓reduceIte,Nat.reduceLT,Nat.reduceEqDiff,Nat.reduceBEq,Nat.reduceLeDiff,Nat.reduceAdd]
 refine zAD fun p2 hp2=>?_
 have n2:=hp2
 simp only[zAB]at n2
 obtain⟨_,n2⟩:=n2
 obtain⟨neg,hneg⟩: ∃b,b=decide (x<0):=⟨_,rfl⟩
 rw[← hneg]at hp2 ⊢
 have tail: ∀(pre:List UInt8)(H2:AHeap)(v:Env),(v=[]∨v=[(6,.bool false)])→pre.length≤1→pre++zL9 x.natAbs=zOF x→zGT (H.upd p1 (some (.row 48 0 [.bool neg,LS (digs 4294967296 x.natAbs) true]))) p2 203 5 1 pre.length (Bt pre) H2→
  W Tryz.prog (zBZ (zBZ (zBZ zaH))) (zFg zf0 Q) ⟨[],[(1,.ptr p1 2 0),(2,Sx []),(3,.ptr p2 1 0)]++v,H2⟩:=by
  intro pre H2 v hv hp1 hpre hg
  have h1:H2 p1=some (.row 48 0 [.bool neg,LS (digs 4294967296 x.natAbs) true]):=by
   obtain⟨_,_,_,hle⟩:=zGB hg
   exact hle _ _ (zAC _ _ _)
  rcases hv with rfl|rfl
  all_goals
   simp(disch:=first|exact Xe|fail)only[zBZ,zaH,h1,↓Xa,Xb,Xc,↓reduceIte,Nat.reduceLT,Nat.reduceEqDiff,Nat.reduceBEq,Nat.reduceLeDiff,Nat.reduceAdd]
   refine(zSM true (zAG (by omega) _) (by omega)).call ?_
   rw[zAJ (by omega)]
   simp(disch:=first|exact Xe|fail)only[↓Xa,Xb,Xc,↓reduceIte,Nat.reduceLT,Nat.reduceEqDiff,Nat.reduceBEq,Nat.reduceLeDiff,Nat.reduceAdd]
   obtain⟨A,hd,rfl,hgA⟩:=zNE hg
   have hle:Le H (H.upd p1 (some (.row 48 0 [.bool neg,LS (digs 4294967296 x.natAbs) true]))):=(Le.refl H).upd n1
   refine zVU (zJe (fun b hb=>hgd.2.1 b hb) (by omega)) (fun _=>rfl) (fun ds A=>zGT zPr p2 203 5 1 (pre++ds.map chD).length (Bt (pre++ds.map chD)) A) (fun _ _=>False) A _ hd rfl (by simpa using hgA) ?_ ?_ (fun _ _ _ _ _ _ h=>h.elim)
   ·intro ds d rest A B hds hdj hj R1 k1
    have hlen:=congrArg List.length hds
    have hd10:d<10:=by
     have:d∈((zL9 x.natAbs).map fun b=>b.toNat-48):=by rw[hds];simp
     obtain⟨b,hb,rfl⟩:=List.mem_map.1 this
     have:=hgd.2.1 b hb
     unfold zIT at this;omega
    simp(disch:=first|exact Xe|fail)only[zIn,↓Xa,Xb,Xc,↓reduceIte,Nat.reduceLT,Nat.reduceEqDiff,Nat.reduceBEq,Nat.reduceLeDiff,Nat.reduceAdd]
    refine k1 _ A hdj fun R2 B1 k2 hd1=>?_
    obtain⟨y,hy,happ⟩:=zJf (m:=1) (bytes:=1) (zM4 hj hd1)
    have e1:IntKind.i64.wrap ((48:Nat)+(d:Int))=((48+d:Nat):Int):=by rw[← Int.natCast_add];exact zR9 (by omega)
    simp(disch:=first|exact Xe|fail)only[hy,zc9,↓Xa,Xb,Xc,↓reduceIte,Nat.reduceLT,Nat.reduceEqDiff,Nat.reduceBEq,Nat.reduceLeDiff,Nat.reduceAdd]
    refine happ rfl rfl (by omega) ?_ ?_ fun x' H' hp hc hg2=>?_
    ·simp at hlen ⊢; omega
    ·simp at hlen ⊢; omega
    simp(disch:=first|exact Xe|fail)only[hp,hc,↓Xa,Xb,Xc,↓reduceIte,Nat.reduceLT,Nat.reduceEqDiff,Nat.reduceBEq,Nat.reduceLeDiff,Nat.reduceAdd]
    refine k2 .normal _ (Settle.now (zNE ?_))
    have e:pre++(ds++[d]).map chD=(pre++ds.map chD)++[chD d]:=by simp
    dsimp only
    rw[e,List.length_append,zaZ,show Bt [chD d]=[AV.int .u8 ((48+d:Nat):Int)]from(zau (by omega)).symm]
    exact hg2
   ·intro d A' hdj hA hB hj
    rw[zS9 hgd.2.1,hpre]at hj
    have hj2:=zM4 hj hdj
    obtain⟨y,hy,hyc,hb2⟩:=zhM hj2
    obtain⟨_,_,_,hle2⟩:=zGB hj2
    have hdn:=zB4.2 ⟨hA,hB⟩
    have hy2:((Un A' (H.upd p1 (some (.row 48 0 [.bool neg,LS (digs 4294967296 x.natAbs) true])))).upd d (some (.raw (.deferred (some []))))) p2=some (.row 203 0 [y]):=by
     rw[zAA _ _ (by rintro rfl;rw[hdn]at hy;cases hy)];exact hy
    simp(disch:=first|exact Xe|fail)only[hy2,↓Xa,Xb,Xc,↓reduceIte,Nat.reduceLT,Nat.reduceEqDiff,Nat.reduceBEq,Nat.reduceLeDiff,Nat.reduceAdd]
    refine hb2 _ _ ((Le.refl _).upd hdn) ?_
    simp(disch:=first|exact Xe|fail)only[zf0,↓Xa,Xb,Xc,↓reduceIte,Nat.reduceLT,Nat.reduceEqDiff,Nat.reduceBEq,Nat.reduceLeDiff,Nat.reduceAdd]
    rw[zAU _ hdn]
    exact SetR.dropTo (fun b x hb=>hle2 _ _ (hle _ _ hb)) (SetR.now hq)
 have g0:=zJO (H0:=H.upd p1 (some (.row 48 0 [.bool neg,LS (digs 4294967296 x.natAbs) true]))) (tb:=203) (ty:=5) (es:=1) hp2
 cases neg with
 |true=>
  simp(disch:=first|exact Xe|fail)only[↓Xa,Xb,Xc,↓reduceIte,Nat.reduceLT,Nat.reduceEqDiff,Nat.reduceBEq,Nat.reduceLeDiff,Nat.reduceAdd]
  obtain⟨y,hy,happ⟩:=zJf (m:=1) (bytes:=1) g0
  obtain rfl:y=.seq 0 [] true:=by rw[zAC]at hy;injection hy with hy;injection hy with _ _ hy;injection hy with hy;exact hy.symm
  refine happ (by rfl) (by rfl) (by omega) (by omega) (by omega) fun x' H' hp hc hg2=>?_
  simp(disch:=first|exact Xe|fail)only[hp,hc,↓Xa,Xb,Xc,↓reduceIte,Nat.reduceLT,Nat.reduceEqDiff,Nat.reduceBEq,Nat.reduceLeDiff,Nat.reduceAdd]
  have tl:=tail [45] _ [] (.inl rfl) (by simp) (by simp[zOF,of_decide_eq_true hneg.symm]) hg2
  simp(disch:=first|exact Xe|fail)only[zBZ,zaH,↓Xa,Xb,Xc,↓reduceIte,Nat.reduceLT,Nat.reduceEqDiff,Nat.reduceBEq,Nat.reduceLeDiff,Nat.reduceAdd]at tl
  exact tl
 |false=>
  have tl:=tail [] _ _ (.inr rfl) (by simp) (by simp[zOF,of_decide_eq_false hneg.symm]) g0
  simp(disch:=first|exact Xe|fail)only[zBZ,zaH,↓Xa,Xb,Xc,↓reduceIte,Nat.reduceLT,Nat.reduceEqDiff,Nat.reduceBEq,Nat.reduceLeDiff,Nat.reduceAdd]at tl
  simp(disch:=first|exact Xe|fail)only[↓Xa,Xb,Xc,↓reduceIte,Nat.reduceLT,Nat.reduceEqDiff,Nat.reduceBEq,Nat.reduceLeDiff,Nat.reduceAdd]
  exact tl
theorem zIt{P:Nat→Prop}(lo:Nat): ∀n,(∃p,lo≤p∧p<lo+n∧P p∧∀j,lo≤j→j<p→¬P j)∨∀j,lo≤j→j<lo+n→¬P j
 |0=>.inr fun j h1 h2=>by omega
 |n+1=>by
  rcases zIt (P:=P) lo n with⟨p,a,b,c,d⟩|h
  ·exact .inl ⟨p,a,by omega,c,d⟩
  ·by_cases hp:P (lo+n)
   ·exact .inl ⟨lo+n,by omega,by omega,hp,h⟩
   ·refine .inr fun j h1 h2=>?_
    by_cases e:j=lo+n
    ·rw[e];exact hp
    ·exact h j h1 (by omega)
abbrev zB7(zs:List Int)(t:Bool):AV:=.seq zs.length (IC zs) t
def RC(zs:List Int):List AV:=zs.flatMap fun z=>[zEA z,zFS z]
abbrev zIe(zs:List Int)(t:Bool):AV:=.seq zs.length (RC zs) t
theorem zR1(zs:List Int):(RC zs).length=zs.length*2:=by
 induction zs with
 |nil=>rfl
 |cons a l ih=>simp only[RC,List.flatMap_cons,List.length_append,List.length_cons,List.length_nil]at *; omega
theorem zZ8(zs:List Int)(z:Int):RC (zs++[z])=RC zs++[zEA z,zFS z]:=by simp[RC,List.flatMap_append]
theorem zPY: ∀(l:List Int)(i:Nat)(h:i<l.length),(RC l).drop (i*2)=zEA (l[i])::zFS (l[i])::(RC l).drop (i*2+2)
 |a::l,0,_=>rfl
 |a::l,i+1,h=>by
  have:=zPY l i (by simpa using h)
  rw[show(i+1)*2=i*2+2 by omega]
  show((zEA a::zFS a::RC l).drop (i*2+2))=_
  simp only[List.drop_succ_cons,List.getElem_cons_succ]
  rw[this]
  show _=_::_::((zEA a::zFS a::RC l).drop (i*2+2+2))
  simp only[List.drop_succ_cons]
section
variable {K:AV→Prop} {H:AHeap} {k:IntKind} {t:Bool} {zs:List Int} {i:Nat}
theorem zEv(h:i<zs.length):zBl 2 (.seq zs.length (IC zs) t) (.int k (i:Int)) K=K (.cptr ((IC zs).drop (i*2))):=zHR (zBU zs) h
theorem zJ5(h:i<zs.length):zBl 2 (.seq zs.length (RC zs) t) (.int k (i:Int)) K=K (.cptr ((RC zs).drop (i*2))):=zHR (zR1 zs) h
theorem zDF(h:i<zs.length):zBC H (some 2) (.cptr ((IC zs).drop (i*2))) K=K (zAl (zs[i])):=by
 simp only[zBC,zBB,zGG zs i h];simp[zFH]
theorem zGA(h:i<zs.length):zBC H (some 2) (.cptr ((RC zs).drop (i*2))) K=K (zBd (zs[i]) false):=by
 simp only[zBC,zBB,zPY zs i h];simp[zBd,zEA,zFS]
end
def RB4(k:Nat)(zs:List Int):Prop:=(∀z,z∈zs→Bd k z)∧zs.length<4611686018427387904
theorem RB4.at{k:Nat}{zs:List Int}(h:RB4 k zs){i:Nat}(hi:i<zs.length):Bd k (zs[i]):=h.1 _ (List.getElem_mem hi)
theorem zIU{a b:AV}:zCM [a,b] 2=[a,b]:=by simp[zCM,List.range,List.range.loop]
theorem zYs{z:Int}:[zB0 z,zB1 z].all AV.cell=true:=rfl
theorem zLU{zs:List Int}{i:Nat}(h:i<zs.length):IC (zs.take (i+1))=IC (zs.take i)++[zB0 (zs[i]),zB1 (zs[i])]:=by
 rw[List.take_add_one,List.getElem?_eq_getElem h,Option.toList_some,zQI]
theorem zIk{f:Go.Fn}{a b:List AV}:(AV.fn f a b).cells=some [.fn f a b]:=id rfl
theorem zFy{P:Program}{f:FuncId}{first caps args:List AV}{H:AHeap}{K:AV→AHeap→Prop}(h:Run P f (first++args++caps) H K):zBw P (.fn (.func f) first caps) args H K:=h
theorem zNT{H:AHeap}{Q:AV→AHeap→Prop}{f:AV}{zs ws:List Int}{t:Bool}{k:Nat}(hz:RB4 k zs)(hlen:ws.length=zs.length)(hbig:zs.length≤1000000)(G:Nat→AHeap)(h0:G 0=H)(hd: ∀i b,G i b=none↔H b=none)
 (hs: ∀i(h:i<zs.length)(M:AHeap)(K:AV→AHeap→Prop),Le (G i) M→(∀M',Le (G (i+1)) M'→(∀b,H b=none→M b≠none→M' b=M b)→K (zAl (ws[i]'(by omega))) M')→zBw Tryz.prog f [zAl (zs[i])] M K)
 (hq: ∀y M,zBI (G zs.length) 48 2 zs.length (IC ws) y M→Q y M):Run Tryz.prog 192 [zB7 zs t,f] H Q:=by
 have nz:zs.length<9223372036854775808:=by have:=hz.2;omega
 refine zTU (by simp) ?_
 simp(disch:=first|exact Xe|fail)only[zaV,zBK,↓Xa,Xb,Xc,↓reduceIte,Nat.reduceLT,Nat.reduceEqDiff,Nat.reduceBEq,Nat.reduceLeDiff,Nat.reduceAdd]
 refine zAO (fun s:Nat×AV×AHeap=>⟨[],[(1,f),(5,s.2.1),(8,zB7 zs t),(9,.int .i64 (zs.length:Int)),(10,.int .i64 s.1)],s.2.2⟩) (fun s=>s.1≤zs.length∧zBI (G s.1) 48 2 s.1 (IC (ws.take s.1)) s.2.1 s.2.2) (fun s=>zs.length-s.1) (0,.seq 0 [] true,H) (Settle.now rfl) ⟨Nat.zero_le _,by rw[← h0];exact zAh⟩ ?_
 rintro⟨i,y,M⟩ ⟨h3,hg⟩
 dsimp only at h3 hg ⊢
 by_cases hi:i<zs.length
 ·simp(disch:=first|exact Xe|fail)only[hi,zEv,zDF,↓Xa,Xb,Xc,↓reduceIte,Nat.reduceLT,Nat.reduceEqDiff,Nat.reduceBEq,Nat.reduceLeDiff,Nat.reduceAdd]
  refine zAD fun q hq1=>?_
  simp(disch:=first|exact Xe|fail)only[zAE,zAI,↓Xa,Xb,Xc,↓reduceIte,Nat.reduceLT,Nat.reduceEqDiff,Nat.reduceBEq,Nat.reduceLeDiff,Nat.reduceAdd]
  have hg1:=zCf (r:=.row 48 0 [zB0 (zs[i]),zB1 (zs[i])]) hg hq1
  refine hs i hi _ _ ((zD9 hg).upd hq1) fun M' hM' hsame=>?_
  obtain⟨H1,hg2,hl2⟩:=zHg hg1 fun b hb hb2=>hsame b ((hd i b).1 (zAB.1 hb).2) hb2
  simp(disch:=first|exact Xe|fail)only[zIU,zAE,↓Xa,Xb,Xc,↓reduceIte,Nat.reduceLT,Nat.reduceEqDiff,Nat.reduceBEq,Nat.reduceLeDiff,Nat.reduceAdd,Nat.reduceMul]
  refine zFV (m:=1) hg2 rfl zYs (by omega) (by omega) (by omega) fun y' M2 hg3=>?_
  rw[← zLU]at hg3
  obtain⟨M3,hg4,hl4⟩:=zBO hg3 (hl2 _ hM' fun b hb=>(hd (i+1) b).2 ((hd i b).1 (zAB.1 hb).2))
  simp(disch:=first|exact Xe|fail)only[↓Xa,Xb,Xc,↓reduceIte,Nat.reduceLT,Nat.reduceEqDiff,Nat.reduceBEq,Nat.reduceLeDiff,Nat.reduceAdd]
  exact Settle.dropTo hl4 (Settle.now ⟨(i+1,y',M3),by dsimp only;omega,⟨by dsimp only;omega,hg4⟩,rfl⟩)
 ·obtain rfl:i=zs.length:=by omega
  rw[List.take_of_length_le (by omega)]at hg
  simp(disch:=first|exact Xe|fail)only[hi,↓Xa,Xb,Xc,↓reduceIte,Nat.reduceLT,Nat.reduceEqDiff,Nat.reduceBEq,Nat.reduceLeDiff,Nat.reduceAdd]
  refine Settle.now ?_
  simp(disch:=first|exact Xe|fail)only[zcF,↓Xa,Xb,Xc,↓reduceIte,Nat.reduceLT,Nat.reduceEqDiff,Nat.reduceBEq,Nat.reduceLeDiff,Nat.reduceAdd]
  exact SetR.now (hq y M hg)
theorem zJa{H:AHeap}{Q:AV→AHeap→Prop}{f:AV}{zs ws:List Int}{t:Bool}{k:Nat}(hz:RB4 k zs)(hlen:ws.length=zs.length)(hbig:zs.length≤1000000)
 (hs: ∀i(h:i<zs.length)(M:AHeap)(K:AV→AHeap→Prop),Le H M→K (zAl (ws[i]'(by omega))) M→zBw Tryz.prog f [zAl (zs[i])] M K)
 (hq: ∀y M,zBI H 48 2 zs.length (IC ws) y M→Q y M):Run Tryz.prog 192 [zB7 zs t,f] H Q:=
 zNT hz hlen hbig (fun _=>H) rfl (fun _ _=>Iff.rfl) (fun i h M K hl hk=>hs i h M K hl (hk M hl fun _ _ _=>rfl)) hq
theorem zTd{H:AHeap}{Q:AV→AHeap→Prop}{zs:List Int}{t:Bool}{k:Nat}(hz:RB4 k zs)(hk:k≤1000000)(hbig:zs.length≤1000000)(hq: ∀y M,zBI H 48 2 zs.length (IC (zs.map (- ·))) y M→Q y M):Run Tryz.prog 180 [zB7 zs t] H Q:=by
 refine zUY (by simp) ?_
 simp(disch:=first|exact Xe|fail)only[zbs,↓Xa,Xb,Xc,↓reduceIte,Nat.reduceLT,Nat.reduceEqDiff,Nat.reduceBEq,Nat.reduceLeDiff,Nat.reduceAdd]
 refine zAM (zJa hz (ws:=zs.map (- ·)) (by simp) hbig (fun i h M K _ hK=>?_) fun y M hg=>?_)
 ·exact(zSA (hz.at h) (by omega)).call (by simpa using hK)
 ·simp(disch:=first|exact Xe|fail)only[zer,↓Xa,Xb,Xc,↓reduceIte,Nat.reduceLT,Nat.reduceEqDiff,Nat.reduceBEq,Nat.reduceLeDiff,Nat.reduceAdd]
  exact SetR.now (hq y M hg)
theorem zPw{H:AHeap}{Q:AV→AHeap→Prop}{zs:List Int}{t:Bool}{c:Int}{k k':Nat}(hz:RB4 k zs)(hc:Bd k' c)(hk:k+k'≤1000000)(hbig:zs.length≤1000000)(hq: ∀y M,zBI H 48 2 zs.length (IC (zs.map (c* ·))) y M→Q y M):Run Tryz.prog 185 [zB7 zs t,zAl c] H Q:=by
 refine zV0 (by simp) ?_
 simp(disch:=first|exact Xe|fail)only[zeZ,zAE,↓Xa,Xb,Xc,↓reduceIte,Nat.reduceLT,Nat.reduceEqDiff,Nat.reduceBEq,Nat.reduceLeDiff,Nat.reduceAdd]
 refine zAD fun p1 hp1=>?_
 have n1:=hp1
 simp(disch:=first|exact Xe|fail)only[zAI,↓Xa,Xb,Xc,↓reduceIte,Nat.reduceLT,Nat.reduceEqDiff,Nat.reduceBEq,Nat.reduceLeDiff,Nat.reduceAdd]
 refine zAM (zJa hz (ws:=zs.map (c* ·)) (by simp) hbig (fun i h M K _ hK=>?_) fun y M hg=>?_)
 ·refine zFy ?_
  exact zIp hc (by omega) (hz.at h) (by omega) _ _ (by simpa using hK)
 ·simp(disch:=first|exact Xe|fail)only[zdC,↓Xa,Xb,Xc,↓reduceIte,Nat.reduceLT,Nat.reduceEqDiff,Nat.reduceBEq,Nat.reduceLeDiff,Nat.reduceAdd]
  obtain⟨M2,hg2,hl⟩:=zBO hg ((Le.refl H).updB n1)
  exact SetR.dropTo hl (SetR.now (hq y M2 hg2))
theorem Le.both{A B:AHeap}{p:Nat}{x:Option ABlk}(h:Le A B):Le (A.upd p x) (B.upd p x):=fun o y ho=>by
 by_cases e:o=p
 ·subst e;rw[zAC]at ho ⊢; exact ho
 ·rw[zAA _ _ e]at ho ⊢; exact h o y ho
theorem zbC{i:Nat}{K:AV→Prop}(h:i<4611686018427387904):zAy .add (.int .i64 ((i:Int)-1)) (.int .i64 ((1:Nat):Int)) K↔K (.int .i64 (i:Int)):=by
 have e:IntKind.i64.wrap ((i:Int)-1+((1:Nat):Int))=(i:Int):=by rw[show((i:Int)-1+((1:Nat):Int))=(i:Int) by omega];exact zCS (by omega) (by omega)
 have: ∀a b:Int,zAy .add (.int .i64 a) (.int .i64 b) K↔K (.int .i64 (IntKind.i64.wrap (a+b))):=fun a b=>by simp[zAy,zAi]
 rw[this,e]
theorem zOy{M:AHeap}{K:AV→AHeap→Prop}{f:AV}{x y z:Int}{ws:List Int}{t':Bool}{i p1 p2 p3 T1 T2 T3:Nat}(m1:M p1=some (.row T1 0 [zB7 ws t']))(m2:M p2=some (.row T2 0 [f]))(m3:M p3=some (.row T3 0 [.int .i64 ((i:Int)-1)]))(h1:Ap p1 p3)(h2:Ap p2 p3)
 (hi:i<ws.length) (hb:ws.length≤1000000) (hy:ws[i]=y)
 (hs: ∀(M2:AHeap)(K:AV→AHeap→Prop),Le (M.upd p3 (some (.row T3 0 [.int .i64 (i:Int)]))) M2→K (zAl z) M2→zBw Tryz.prog f [zAl x,zAl y] M2 K)
 (hK:K (zAl z) (M.upd p3 (some (.row T3 0 [.int .i64 (i:Int)])))):Run Tryz.prog 193 [zAl x,.ptr p3 1 0,.ptr p2 1 0,.ptr p1 1 0] M K:=by
 subst hy
 refine zU0 (by simp) ?_
 simp(disch:=first|exact Xe|fail)only[zbb,zAE,↓Xa,Xb,Xc,↓reduceIte,Nat.reduceLT,Nat.reduceEqDiff,Nat.reduceBEq,Nat.reduceLeDiff,Nat.reduceAdd]
 refine zAD fun a ha=>?_
 have a1:=zAW m1 ha
 have a2:=zAW m2 ha
 have a3:=zAW m3 ha
 simp(disch:=first|exact Xe|fail)only[↓Xa,Xb,Xc,↓reduceIte,Nat.reduceLT,Nat.reduceEqDiff,Nat.reduceBEq,Nat.reduceLeDiff,Nat.reduceAdd]
 refine zAD fun b hb=>?_
 obtain⟨b4,hb'⟩:=zAB.1 hb
 have b1:=zAW m1 hb'
 have b2:=zAW m2 hb'
 have b3:=zAW m3 hb'
 simp(disch:=first|exact Xe|fail)only[m1,m2,m3,zbC,zEv,zDF,zAI,↓Xa,Xb,Xc,↓reduceIte,Nat.reduceLT,Nat.reduceEqDiff,Nat.reduceBEq,Nat.reduceLeDiff,Nat.reduceAdd]
 have hle:Le (M.upd p3 (some (.row T3 0 [.int .i64 (i:Int)]))) (((M.upd a (some (.row 48 0 [zB0 x,zB1 x]))).upd b (some (.row 48 0 [.bool false,.seq 0 [] true]))).upd p3 (some (.row T3 0 [.int .i64 (i:Int)]))):=(((Le.refl M).updB ha).updB hb').both
 refine hs _ _ hle ?_
 simp(disch:=first|exact Xe|fail)only[zAE,zAI,zde,↓Xa,Xb,Xc,↓reduceIte,Nat.reduceLT,Nat.reduceEqDiff,Nat.reduceBEq,Nat.reduceLeDiff,Nat.reduceAdd]
 exact SetR.dropTo (((Le.refl M).updB ha).updB hb').both (SetR.now hK)
theorem zM1{H:AHeap}{Q:AV→AHeap→Prop}{f:AV}{zs ws us:List Int}{t t':Bool}{k:Nat}(hz:RB4 k zs)(hw:RB4 k ws)(hl1:zs.length=ws.length)(hl2:us.length=zs.length)(hbig:zs.length≤1000000)(hfc:f.cells=some [f])
 (hs: ∀i(h:i<zs.length)(M:AHeap)(K:AV→AHeap→Prop),Le H M→K (zAl (us[i]'(by omega))) M→zBw Tryz.prog f [zAl (zs[i]),zAl (ws[i]'(by omega))] M K)
 (hq: ∀y M,zBI H 48 2 zs.length (IC us) y M→Q (.tup [y,.int .i64 ((0:Nat):Int)]) M):Run Tryz.prog 120 [zB7 zs t,zB7 ws t',f] H Q:=by
 have nz:zs.length<9223372036854775808:=by have:=hz.2;omega
 have nw:ws.length<9223372036854775808:=by omega
 have hne:decide (((zs.length:Nat):Int)=((ws.length:Nat):Int))=true:=decide_eq_true (by omega)
 refine zVQ (by simp) ?_
 simp(disch:=first|exact Xe|fail)only[zem,↓Xa,Xb,Xc,↓reduceIte,Nat.reduceLT,Nat.reduceEqDiff,Nat.reduceBEq,Nat.reduceLeDiff,Nat.reduceAdd]
 refine zAD fun p1 hp1=>?_
 have n1:=hp1
 simp(disch:=first|exact Xe|fail)only[hfc,↓Xa,Xb,Xc,↓reduceIte,Nat.reduceLT,Nat.reduceEqDiff,Nat.reduceBEq,Nat.reduceLeDiff,Nat.reduceAdd]
 refine zAD fun p2 hp2=>?_
 have n2:=hp2
 simp only[zAB]at n2
 obtain⟨_,n2⟩:=n2
 simp(disch:=first|exact Xe|fail)only[zBK,zAV,hne,↓Xa,Xb,Xc,↓reduceIte,Nat.reduceLT,Nat.reduceEqDiff,Nat.reduceBEq,Nat.reduceLeDiff,Nat.reduceAdd]
 refine zAD fun p3 hp3=>?_
 have n3:=hp3
 simp only[zAB]at n3
 obtain⟨_,_,n3⟩:=n3
 simp(disch:=first|exact Xe|fail)only[↓Xa,Xb,Xc,↓reduceIte,Nat.reduceLT,Nat.reduceEqDiff,Nat.reduceBEq,Nat.reduceLeDiff,Nat.reduceAdd]
 let G:Nat→AHeap:=fun i=>((H.upd p1 (some (.row 29 0 [zB7 ws t']))).upd p2 (some (.row 144 0 [f]))).upd p3 (some (.row 3 0 [.int .i64 ((i:Int)-1)]))
 have hG: ∀i,G i=((H.upd p1 (some (.row 29 0 [zB7 ws t']))).upd p2 (some (.row 144 0 [f]))).upd p3 (some (.row 3 0 [.int .i64 ((i:Int)-1)])):=fun _=>rfl
 refine zAM (zNT hz hl2 hbig G (by rw[hG];rfl) (fun i b=>by rw[hG];simp only[zAB]) (fun i h M K hM hK=>?_) fun y M hg=>?_)
 ·have m1:M p1=some (.row 29 0 [zB7 ws t']):=hM _ _ (by rw[hG,zAA _ _ (by apply Ne.symm;assumption),zAA _ _ (by apply Ne.symm;assumption),zAC])
  have m2:M p2=some (.row 144 0 [f]):=hM _ _ (by rw[hG,zAA _ _ (by apply Ne.symm;assumption),zAC])
  have m3:M p3=some (.row 3 0 [.int .i64 ((i:Int)-1)]):=hM _ _ (by rw[hG,zAC])
  have hMH:Le H (M.upd p3 (some (.row 3 0 [.int .i64 (i:Int)]))):=fun o x ho=>by
   have e:o≠p3:=by rintro rfl;rw[n3]at ho;cases ho
   rw[zAA _ _ e]
   refine hM o x ?_
   have e1:o≠p1:=by rintro rfl;rw[n1]at ho;cases ho
   have e2:o≠p2:=by rintro rfl;rw[n2]at ho;cases ho
   rw[hG,zAA _ _ e,zAA _ _ e2,zAA _ _ e1];exact ho
  refine zFy (zOy m1 m2 m3 (by apply Ne.symm;assumption) (by apply Ne.symm;assumption) (by omega) (by omega) rfl (fun M2 K2 hM2 hK2=>hs i h M2 K2 (fun o x ho=>hM2 o x (hMH o x ho)) hK2) (hK _ ?_ fun b hb _=>?_))
  ·intro o x ho
   rw[hG]at ho
   by_cases e:o=p3
   ·subst e
    rw[zAC]at ho ⊢
    rw[← ho,show(((i+1:Nat):Int)-1)=(i:Int) by omega]
   ·rw[zAA _ _ e]at ho ⊢
    refine hM o x ?_
    rw[hG,zAA _ _ e];exact ho
  ·exact zAA _ _ (zAB.1 hb).1
 ·have hle:Le H (G zs.length):=by rw[hG];exact(((Le.refl H).updB n1).updB n2).updB n3
  obtain⟨M2,hg2,hl⟩:=zBO hg hle
  simp(disch:=first|exact Xe|fail)only[zba,↓Xa,Xb,Xc,↓reduceIte,Nat.reduceLT,Nat.reduceEqDiff,Nat.reduceBEq,Nat.reduceLeDiff,Nat.reduceAdd]
  exact SetR.dropTo hl (SetR.now (hq y M2 hg2))
section
variable {H:AHeap} {Q:AV→AHeap→Prop} {zs ws:List Int} {t t':Bool} {k:Nat}
theorem zES{f:Int→Int→Int}(h:zs.length=ws.length):(zDe f zs ws).length=zs.length:=by simp[zDe,h]
theorem zMk{f:Int→Int→Int}(h:zs.length=ws.length){i:Nat}(hi:i<zs.length)(hi2:i<(zDe f zs ws).length):(zDe f zs ws)[i]=f (zs[i]) (ws[i]'(by omega)):=by simp[zDe]
theorem zOW(hz:RB4 k zs)(hw:RB4 k ws)(hk:k≤1000000)(hl:zs.length=ws.length)(hbig:zs.length≤1000000)(hq: ∀y M,zBI H 48 2 zs.length (IC (zDe (· + ·) zs ws)) y M→Q (.tup [y,.int .i64 ((0:Nat):Int)]) M):Run Tryz.prog 182 [zB7 zs t,zB7 ws t'] H Q:=by
 refine zTZ (by simp) ?_
 simp(disch:=first|exact Xe|fail)only[zen,↓Xa,Xb,Xc,↓reduceIte,Nat.reduceLT,Nat.reduceEqDiff,Nat.reduceBEq,Nat.reduceLeDiff,Nat.reduceAdd]
 refine zAM (zM1 hz hw hl (zES hl) hbig zIk (fun i h M K _ hK=>(zGd (hz.at h) (by omega) (hw.at (by omega)) (by omega)).call (by rw[zMk hl h]at hK;exact hK)) fun y M hg=>?_)
 simp(disch:=first|exact Xe|fail)only[zeq,↓Xa,Xb,Xc,↓reduceIte,Nat.reduceLT,Nat.reduceEqDiff,Nat.reduceBEq,Nat.reduceLeDiff,Nat.reduceAdd]
 exact SetR.now (hq y M hg)
theorem zNd(hz:RB4 k zs)(hw:RB4 k ws)(hk:k≤1000000)(hl:zs.length=ws.length)(hbig:zs.length≤1000000)(hq: ∀y M,zBI H 48 2 zs.length (IC (zDe (· - ·) zs ws)) y M→Q (.tup [y,.int .i64 ((0:Nat):Int)]) M):Run Tryz.prog 184 [zB7 zs t,zB7 ws t'] H Q:=by
 refine zS7 (by simp) ?_
 simp(disch:=first|exact Xe|fail)only[zd3,↓Xa,Xb,Xc,↓reduceIte,Nat.reduceLT,Nat.reduceEqDiff,Nat.reduceBEq,Nat.reduceLeDiff,Nat.reduceAdd]
 refine zAM (zM1 hz hw hl (zES hl) hbig zIk (fun i h M K _ hK=>(zLb (hz.at h) (by omega) (hw.at (by omega)) (by omega)).call (by rw[zMk hl h]at hK;exact hK)) fun y M hg=>?_)
 simp(disch:=first|exact Xe|fail)only[zcv,↓Xa,Xb,Xc,↓reduceIte,Nat.reduceLT,Nat.reduceEqDiff,Nat.reduceBEq,Nat.reduceLeDiff,Nat.reduceAdd]
 exact SetR.now (hq y M hg)
end
end Go.Proofs.YtmndejlpfmmaiaaGreatDoor.Fw
namespace Go.Proofs.YtmndejlpfmmaiaaGreatDoor.Fw
open Go Go.Proofs.YtmndejlpfmmaiaaGreatDoor.Ma
abbrev QQ:=_root_.Rat
theorem zgq(q:QQ):0<(q.den:Int):=by have:=q.den_pos;omega
theorem zah{n:Int}{d:Nat}(hd:0<d):(mkRat n d).num=n / ((Int.gcd n (d:Int):Nat):Int):=by
 rw[_root_.Rat.num_mkRat,if_neg (by omega),Nat.gcd_comm];rfl
theorem zco{n:Int}{d:Nat}(hd:0<d):(((mkRat n d).den:Nat):Int)=(d:Int) / ((Int.gcd n (d:Int):Nat):Int):=by
 rw[_root_.Rat.den_mkRat,if_neg (by omega),Nat.gcd_comm];rfl
theorem q_lt{p q:QQ}:p<q↔p.num*(q.den:Int)<q.num*(p.den:Int):=_root_.Rat.lt_iff p q
theorem Bd.oneQ(k:Nat):Bd (k+1) 1:=by
 unfold Bd
 have:4294967296^1≤4294967296^(k+1):=Nat.pow_le_pow_right (by omega) (by omega)
 have e:(1:Int).natAbs=1:=rfl
 omega
def RB(k:Nat)(q:QQ):Prop:=Bd k q.num∧Bd k (q.den:Int)
theorem RB.mk{n:Int}{d k:Nat}(hn:Bd k n)(hd:Bd k (d:Int))(h0:0<d):RB k (mkRat n d):=by
 refine⟨?_,?_⟩
 ·rw[zah h0];exact hn.ediv
 ·rw[zco h0];exact hd.ediv
theorem RB.mono{q:QQ}{k k':Nat}(h:RB k q)(hk:k≤k'):RB k' q:=⟨h.1.mono hk,h.2.mono hk⟩
theorem RB.neg{q:QQ}{k:Nat}(h:RB k q):RB k (-q):=⟨h.1.neg,h.2⟩
theorem RB.add{p q:QQ}{k k':Nat}(h:RB k p)(h':RB k' q):RB (k+k'+1) (p+q):=by
 rw[_root_.Rat.add_def']
 refine RB.mk (Bd.add (h.1.mul h'.2) ?_) ?_ (Nat.mul_pos p.den_pos q.den_pos)
 ·have:=h'.1.mul h.2;rw[Nat.add_comm];exact this
 ·rw[Int.natCast_mul];exact(h.2.mul h'.2).mono (by omega)
theorem RB.sub{p q:QQ}{k k':Nat}(h:RB k p)(h':RB k' q):RB (k+k'+1) (p-q):=by
 rw[_root_.Rat.sub_eq_add_neg];exact h.add h'.neg
theorem RB.mul{p q:QQ}{k k':Nat}(h:RB k p)(h':RB k' q):RB (k+k') (p*q):=by
 rw[_root_.Rat.mul_def']
 refine RB.mk (h.1.mul h'.1) ?_ (Nat.mul_pos p.den_pos q.den_pos)
 rw[Int.natCast_mul];exact h.2.mul h'.2
theorem RB.int{z:Int}{k:Nat}(h:Bd (k+1) z):RB (k+1) (z:QQ):=⟨h,Bd.oneQ k⟩
theorem RB.less{q:QQ}{k:Nat}(h:RB k q):Bd k ((q.den:Int)-1):=h.2.le (by have:=zgq q;omega)
end Go.Proofs.YtmndejlpfmmaiaaGreatDoor.Fw
namespace Go.Proofs.YtmndejlpfmmaiaaGreatDoor.Fw
open Go Go.Proofs.YtmndejlpfmmaiaaGreatDoor.Ma
set_option maxRecDepth 20000
end Go.Proofs.YtmndejlpfmmaiaaGreatDoor.Fw
namespace Go.Proofs.YtmndejlpfmmaiaaGreatDoor.Fw
open Go Go.Proofs.YtmndejlpfmmaiaaGreatDoor.Ma
def cst(i:Ins):Int:=if i.op=5∨i.op=6 then i.c else 2^i.c.toNat
def doZ(i:Ins)(a b:Int):Option Int:=
 if i.op=2 then some (-a)else if i.op=3 then some (a+b)else if i.op=4 then some (a-b)
 else if i.op=5∨i.op=7 then some (cst i*a)else if i.op=6∨i.op=8 then(if a%cst i=0 then some (a / cst i)else none)else some a
def doR(i:Ins)(a b:List Int):Option (List Int):=
 if i.op=2 then some (a.map (- ·))else if i.op=3 then some (zDe (· + ·) a b)else if i.op=4 then some (zDe (· - ·) a b)
 else if i.op=5∨i.op=7 then some (a.map (cst i* ·))else if i.op=6∨i.op=8 then(if(∀z,z∈a→z%cst i=0)then some (a.map (· / cst i))else none)else some a
def zCO{α:Type}(d:Ins→α→α→Option α)(z:α):List Ins→List α→List α×List α
 |[],r=>([],r)
 |i::l,r=>match d i (r.getD i.a.toNat z) (r.getD i.b.toNat z)with
  |none=>([],r)
  |some x=>let q:=zCO d z l (r.set i.to.toNat x);(x::q.1,q.2)
theorem zIh{α:Type}{d:Ins→α→α→Option α}{z:α}: ∀(l:List Ins)(r:List α),(zCO d z l r).1.length≤l.length
 |[],r=>Nat.le_refl _
 |i::l,r=>by
  unfold zCO
  split
  ·exact Nat.zero_le _
  ·exact Nat.succ_le_succ (zIh l _)
theorem zJZ{α:Type}{d:Ins→α→α→Option α}{z:α}: ∀(l:List Ins)(r:List α),(zCO d z l r).2.length=r.length
 |[],r=>rfl
 |i::l,r=>by
  unfold zCO
  split
  ·rfl
  ·dsimp only;rw[zJZ l,List.length_set]
theorem zPl{α:Type}{d:Ins→α→α→Option α}{z:α}{l:List Ins}{k:Nat}(hk:k<l.length)(r:List α){x:α}(hx:d l[k] (r.getD l[k].a.toNat z) (r.getD l[k].b.toNat z)=some x):zCO d z (l.drop k) r=(x::(zCO d z (l.drop (k+1)) (r.set l[k].to.toNat x)).1,(zCO d z (l.drop (k+1)) (r.set l[k].to.toNat x)).2):=by
 rw[List.drop_eq_getElem_cons hk,zCO,hx]
theorem zRt{α:Type}{d:Ins→α→α→Option α}{z:α}{l:List Ins}{k:Nat}(hk:k<l.length)(r:List α)(hx:d l[k] (r.getD l[k].a.toNat z) (r.getD l[k].b.toNat z)=none):zCO d z (l.drop k) r=([],r):=by
 rw[List.drop_eq_getElem_cons hk,zCO,hx]
def zCe(n:Int)(i:Ins):Prop:=1≤i.op∧i.op≤8∧0≤i.to∧i.to<n∧0≤i.a∧i.a<n∧
 (if i.op=3∨i.op=4 then 0≤i.b∧i.b<n∧i.c=0 else i.b=0∧(if i.op=5∨i.op=6 then i.c≠0∧ -512≤i.c∧i.c≤512 else if i.op=7∨i.op=8 then 1≤i.c∧i.c≤64 else i.c=0))
instance (n:Int)(i:Ins):Decidable (zCe n i):=by unfold zCe;infer_instance
def zC5(p:PR):Prop:=1≤p.ins∧p.ins≤p.regs∧p.regs≤128∧p.code.length≤16384∧1≤p.outs.length∧p.outs.length≤128
instance (p:PR):Decidable (zC5 p):=by unfold zC5;infer_instance
def zBV(p:PR):Prop:=zC5 p∧(∀n,n∈p.outs→0≤n∧n<p.regs)∧∀i,i∈p.code→zCe p.regs i
instance (p:PR):Decidable (zBV p):=by unfold zBV;infer_instance
theorem zIE{n:Int}{i:Ins}(h:zCe n i):0≤i.b∧i.b<n:=by
 obtain⟨_,_,_,_,h1,h2,h3⟩:=h
 split at h3
 ·exact⟨h3.1,h3.2.1⟩
 ·omega
theorem zXL{n:Int}{i:Ins}(h:zCe n i):cst i≠0:=by
 unfold cst
 split
 ·rename_i h5
  obtain⟨_,_,_,_,_,_,h3⟩:=h
  rw[if_neg (by omega),if_pos h5]at h3
  exact h3.2.1
 ·exact Int.ne_of_gt (Int.pow_pos (by omega))
theorem zY3:(2:Nat)^64=4294967296^2:=by decide
theorem zHv{n:Int}{i:Ins}(h:zCe n i)(h5:5≤i.op):Bd 3 (cst i):=by
 obtain⟨_,_,_,_,_,_,h3⟩:=h
 rw[if_neg (by omega)]at h3
 unfold cst Bd
 by_cases e:i.op=5∨i.op=6
 ·rw[if_pos e]
  rw[if_pos e]at h3
  have:(4294967296:Nat)^1≤4294967296^3:=Nat.pow_le_pow_right (by omega) (by omega)
  omega
 ·rw[if_neg e]
  rw[if_neg e,if_pos (by omega)]at h3
  rw[Int.natAbs_pow]
  have h1:(2:Nat)^i.c.toNat≤2^64:=Nat.pow_le_pow_right (by omega) (by omega)
  rw[zY3]at h1
  have h2:(4294967296:Nat)^2<4294967296^3:=Nat.pow_lt_pow_right (by omega) (by omega)
  exact Nat.lt_of_le_of_lt h1 h2
theorem zXH{n:Int}{i:Ins}(h:zCe n i){a b x:Int}{k:Nat}(ha:Bd k a)(hb:Bd k b)(hx:doZ i a b=some x):Bd (k+3) x:=by
 unfold doZ at hx
 split at hx
 ·injection hx with hx;subst hx;exact ha.neg.mono (by omega)
 ·split at hx
  ·injection hx with hx;subst hx;exact(ha.add hb).mono (by omega)
  ·split at hx
   ·injection hx with hx;subst hx;exact(ha.sub hb).mono (by omega)
   ·split at hx
    ·injection hx with hx;subst hx;exact((zHv h (by omega)).mul ha).mono (by omega)
    ·split at hx
     ·split at hx
      ·injection hx with hx;subst hx;exact(ha.ediv).mono (by omega)
      ·cases hx
     ·injection hx with hx;subst hx;exact ha.mono (by omega)
theorem zIQ{f:Int→Int}{l:List Int}{k:Nat}(h:k<l.length):(l.map f).getD k 0=f (l.getD k 0):=by
 simp[List.getD_eq_getElem?_getD,h]
theorem zM3{f:Int→Int→Int}{l m:List Int}{k:Nat}(h:k<l.length)(h':l.length=m.length):(zDe f l m).getD k 0=f (l.getD k 0) (m.getD k 0):=by
 have h2:k<m.length:=by omega
 simp[zDe,List.getD_eq_getElem?_getD,List.getElem?_zipWith,h,h2]
theorem zG2{i:Ins}{a b r:List Int}(h:a.length=b.length)(hr:doR i a b=some r):r.length=a.length:=by
 unfold doR at hr
 repeat' split at hr
 all_goals first|(injection hr with hr;subst hr;simp[zDe,h])|cases hr
theorem zM0{i:Ins}{a b r:List Int}(h:a.length=b.length)(hr:doR i a b=some r){k:Nat}(hk:k<a.length):doZ i (a.getD k 0) (b.getD k 0)=some (r.getD k 0):=by
 unfold doR at hr
 unfold doZ
 split at hr
 ·rename_i e;rw[if_pos e];injection hr with hr;subst hr;rw[zIQ hk]
 rename_i e2;rw[if_neg e2]
 split at hr
 ·rename_i e;rw[if_pos e];injection hr with hr;subst hr;rw[zM3 hk h]
 rename_i e3;rw[if_neg e3]
 split at hr
 ·rename_i e;rw[if_pos e];injection hr with hr;subst hr;rw[zM3 hk h]
 rename_i e4;rw[if_neg e4]
 split at hr
 ·rename_i e;rw[if_pos e];injection hr with hr;subst hr;rw[zIQ hk]
 rename_i e5;rw[if_neg e5]
 split at hr
 ·rename_i e;rw[if_pos e]
  split at hr
  ·rename_i ha
   injection hr with hr;subst hr
   have hm:a.getD k 0∈a:=by rw[List.getD_eq_getElem?_getD,List.getElem?_eq_getElem hk];exact List.getElem_mem hk
   rw[if_pos (ha _ hm),zIQ hk]
  ·cases hr
 ·rename_i e;rw[if_neg e];injection hr with hr;subst hr;rfl
theorem zdY{i:Ins}{a b:List Int}(hr:doR i a b=none): ∃k,k<a.length∧∀y,doZ i (a.getD k 0) y=none:=by
 unfold doR at hr
 split at hr
 ·cases hr
 split at hr
 ·cases hr
 split at hr
 ·cases hr
 split at hr
 ·cases hr
 rename_i e2 e3 e4 e5
 split at hr
 ·rename_i e
  split at hr
  ·cases hr
  ·rename_i ha
   obtain⟨z,hz⟩:=Classical.not_forall.1 ha
   obtain⟨hm,hz⟩:=Classical.not_imp.1 hz
   obtain⟨k,hk,rfl⟩:=List.getElem_of_mem hm
   refine⟨k,hk,fun y=>?_⟩
   rw[List.getD_eq_getElem?_getD,List.getElem?_eq_getElem hk,Option.getD_some]
   unfold doZ
   rw[if_neg e2,if_neg e3,if_neg e4,if_neg e5,if_pos e,if_neg hz]
 ·cases hr
def RR{α β:Type}(R:α→β→Prop)(N:Nat)(z:α)(z':β)(r:List α)(r':List β):Prop:=r.length=N∧r'.length=N∧∀j,j<N→R (r.getD j z) (r'.getD j z')
theorem zBM{α:Type}{r:List α}{j k:Nat}{x z:α}(hk:k<r.length):(r.set k x).getD j z=if j=k then x else r.getD j z:=by
 simp only[List.getD_eq_getElem?_getD,List.getElem?_set]
 by_cases h:j=k
 ·subst h;simp[hk]
 ·rw[if_neg (Ne.symm h),if_neg h]
theorem RR.set{α β:Type}{R:α→β→Prop}{N:Nat}{z:α}{z':β}{r:List α}{r':List β}(h:RR R N z z' r r'){k:Nat}(hk:k<N){x:α}{x':β}(hx:R x x'):RR R N z z' (r.set k x) (r'.set k x'):=by
 obtain⟨h1,h2,h3⟩:=h
 refine⟨by rw[List.length_set,h1],by rw[List.length_set,h2],fun j hj=>?_⟩
 rw[zBM (by omega),zBM (by omega)]
 split
 ·exact hx
 ·exact h3 j hj
theorem zRO{α β:Type}{R:α→β→Prop}{N:Nat}{z:α}{z':β}{d:Ins→α→α→Option α}{d':Ins→β→β→Option β}: ∀(code:List Ins)(r:List α)(r':List β),(∀i,i∈code→zCe (N:Int) i)→
 (∀i,i∈code→∀a b a' b' x,R a a'→R b b'→d i a b=some x→∃x',d' i a' b'=some x'∧R x x')→RR R N z z' r r'→
 (zCO d z code r).1.length≤(zCO d' z' code r').1.length∧(∀j,j<(zCO d z code r).1.length→R ((zCO d z code r).1.getD j z) ((zCO d' z' code r').1.getD j z'))∧((zCO d z code r).1.length=code.length→RR R N z z' (zCO d z code r).2 (zCO d' z' code r').2)
 |[],r,r',_,_,h=>⟨Nat.le_refl _,fun j hj=>absurd hj (by simp[zCO]),fun _=>h⟩
 |i::l,r,r',hm,hd,h=>by
  have hi:=hm i (by simp)
  have hb:=zIE hi
  have ha:=hi.2.2
  simp only[zCO]
  cases e:d i (r.getD i.a.toNat z) (r.getD i.b.toNat z)with
  |none=>exact⟨Nat.zero_le _,fun j hj=>absurd hj (by simp),fun e=>by simp at e⟩
  |some x=>
   obtain⟨x',e',hx⟩:=hd i (by simp) _ _ _ _ x (h.2.2 _ (by omega)) (h.2.2 _ (by omega)) e
   rw[e']
   obtain⟨g1,g2,g3⟩:=zRO l _ _ (fun j hj=>hm j (by simp[hj])) (fun j hj=>hd j (by simp[hj])) (h.set (k:=i.to.toNat) (by omega) hx)
   refine⟨by simpa using g1,fun j hj=>?_,fun e=>g3 (by simpa using e)⟩
   cases j with
   |zero=>exact hx
   |succ j=>exact g2 j (by simpa using hj)
end Go.Proofs.YtmndejlpfmmaiaaGreatDoor.Fw
namespace Go.Proofs.YtmndejlpfmmaiaaGreatDoor.Fw
open Go Go.Proofs.YtmndejlpfmmaiaaGreatDoor.Ma
set_option maxRecDepth 20000
def zFh(i:Ins):AV:=.agg [.int .i64 i.op,.int .i64 i.to,.int .i64 i.a,.int .i64 i.b,.int .i64 i.c]
theorem zAr{i:Ins}:(zFh i).cells=some [.int .i64 i.op,.int .i64 i.to,.int .i64 i.a,.int .i64 i.b,.int .i64 i.c]:=id rfl
theorem zA8{i:Ins}:AV.agg [.int .i64 i.op,.int .i64 i.to,.int .i64 i.a,.int .i64 i.b,.int .i64 i.c]=zFh i:=id rfl
theorem zAq{p:PR}:(zCV p).cells=some [.int .i64 p.ins,.int .i64 p.regs,zAf p.code false,zAa p.outs false]:=id rfl
theorem zBL{p:PR}:AV.agg [.int .i64 p.ins,.int .i64 p.regs,zAf p.code false,zAa p.outs false]=zCV p:=id rfl
section
variable {H:AHeap} {K:AV→Prop} {k:IntKind} {t:Bool} {l:List Ins} {i:Nat}
theorem zAZ(h:l.length<9223372036854775808):zEE false (zAf l t) K=K (.int .i64 ((l.length:Nat):Int)):=zBK h
theorem zBN(h:i<l.length):zBl 5 (zAf l t) (.int k (i:Int)) K=K (.cptr ((l.flatMap zDC).drop (i*5))):=zHR (zDE zCo l) h
theorem zBb(h:i<l.length):zBC H (some 5) (.cptr ((l.flatMap zDC).drop (i*5))) K=K (zFh (l[i])):=by
 rw[zC0 zCo l i h];simp[zBC,zBB,zDC,zFh]
theorem zDx(h:i<l.length):zBC H none (.cptr ((l.flatMap zDC).drop (i*5))) K=K (.int .i64 (l[i]).op):=by
 rw[zC0 zCo l i h];simp[zBC,zBB,zDC]
theorem zAY{l:List Int}(h:l.length<9223372036854775808):zEE false (zAa l t) K=K (.int .i64 ((l.length:Nat):Int)):=zBK h
theorem zBJ{l:List Int}(h:i<l.length):zBl 1 (zAa l t) (.int k (i:Int)) K=K (.cptr ((l.map fun n=>AV.int .i64 n).drop i)):=by rw[zHR (by simp) h,Nat.mul_one]
theorem zA3{l:List Int}(h:i<l.length):zBC H none (.cptr ((l.map fun n=>AV.int .i64 n).drop i)) K=K (.int .i64 (l[i])):=by
 rw[List.drop_eq_getElem_cons (by simpa using h)];simp[zBC,zBB]
end
theorem zBt{k:IntKind}{n m:Int}{K:AV→Prop}:zAy .geq (.int k n) (.int k m) K↔K (.bool (decide (m≤n))):=by simp[zAy,zAi]
theorem zDc{k:IntKind}{n m:Int}{K:AV→Prop}:zAy .leq (.int k n) (.int k m) K↔K (.bool (decide (n≤m))):=by simp[zAy,zAi]
theorem zbT{n:Int}:PFn Tryz.prog 219 [.int .i64 n] (.bool (decide (n=3∨n=4))):=by
 intro H Q hq
 refine zUg (by simp) ?_
 by_cases h:n=3
 ·rw[decide_eq_true (show n=3∨n=4 from .inl h)]at hq
  have c1:decide (n=((3:Nat):Int))=true:=decide_eq_true h
  simp(disch:=first|exact Xe|fail)only[zYK,zX2,zAF,c1,↓Xa,Xb,Xc,↓reduceIte,Nat.reduceLT,Nat.reduceEqDiff,Nat.reduceBEq,Nat.reduceLeDiff,Nat.reduceAdd]
  exact SetR.now hq
 ·have c1:decide (n=((3:Nat):Int))=false:=decide_eq_false h
  have c2:decide (n=((4:Nat):Int))=decide (n=3∨n=4):=decide_eq_decide.2 (by omega)
  simp(disch:=first|exact Xe|fail)only[zYK,zX2,zAF,c1,c2,↓Xa,Xb,Xc,↓reduceIte,Nat.reduceLT,Nat.reduceEqDiff,Nat.reduceBEq,Nat.reduceLeDiff,Nat.reduceAdd]
  exact SetR.now hq
def zKn(i:Ins):Prop:=if i.op=5∨i.op=6 then i.c≠0∧ -512≤i.c∧i.c≤512 else if i.op=7∨i.op=8 then 1≤i.c∧i.c≤64 else i.c=0
instance (i:Ins):Decidable (zKn i):=by unfold zKn;infer_instance
theorem zKr(i:Ins):PFn Tryz.prog 220 [zFh i] (.bool (decide (zKn i))):=by
 intro H Q hq
 refine zV5 (by simp) ?_
 have big:(i.op=5∨i.op=6)→∀(p:Nat)(x:Option ABlk),H p=none→SetR Q (.bool (!decide (i.c=((0:Nat):Int))&&(decide (-512≤i.c)&&decide (i.c≤((512:Nat):Int))))) (H.upd p x):=fun h p x hp=>by
  have hc:zKn i↔i.c≠0∧ -512≤i.c∧i.c≤512:=by unfold zKn;rw[if_pos h]
  have e:decide (zKn i)=(!decide (i.c=((0:Nat):Int))&&(decide (-512≤i.c)&&decide (i.c≤((512:Nat):Int)))):=by
   rw[Bool.eq_iff_iff]
   simp only[decide_eq_true_eq,Bool.and_eq_true,Bool.not_eq_true',decide_eq_false_iff_not]
   exact hc
  rw[e]at hq
  exact SetR.dropTo ((Le.refl H).updB hp) (SetR.now hq)
 have sml: ¬(i.op=5∨i.op=6)→(i.op=7∨i.op=8)→∀(p:Nat)(x:Option ABlk),H p=none→SetR Q (.bool (decide (((1:Nat):Int)≤i.c)&&decide (i.c≤((64:Nat):Int)))) (H.upd p x):=fun h h' p x hp=>by
  have hc:zKn i↔1≤i.c∧i.c≤64:=by unfold zKn;rw[if_neg h,if_pos h']
  have e:decide (zKn i)=(decide (((1:Nat):Int)≤i.c)&&decide (i.c≤((64:Nat):Int))):=by
   rw[Bool.eq_iff_iff]
   simp only[decide_eq_true_eq,Bool.and_eq_true]
   exact hc
  rw[e]at hq
  exact SetR.dropTo ((Le.refl H).updB hp) (SetR.now hq)
 simp(disch:=first|exact Xe|fail)only[zeu,zAr,↓Xa,Xb,Xc,↓reduceIte,Nat.reduceLT,Nat.reduceEqDiff,Nat.reduceBEq,Nat.reduceLeDiff,Nat.reduceAdd]
 refine zAD fun p1 hp1=>?_
 have n1:=hp1
 simp(disch:=first|exact Xe|fail)only[zAF,↓Xa,Xb,Xc,↓reduceIte,Nat.reduceLT,Nat.reduceEqDiff,Nat.reduceBEq,Nat.reduceLeDiff,Nat.reduceAdd]
 have c512: ∀b,b=decide (i.c=((0:Nat):Int))→True:=fun _ _=>trivial
 by_cases h5:i.op=5
 ·have f:=big (.inl h5)
  have e5:decide (i.op=((5:Nat):Int))=true:=decide_eq_true h5
  by_cases z1:i.c=((0:Nat):Int)
  ·rw[decide_eq_true z1]at f
   simp(disch:=first|exact Xe|fail)only[zAF,e5,zAV,zBt,zDc,decide_eq_true z1,zFn,↓Xa,Xb,Xc,↓reduceIte,Nat.reduceLT,Nat.reduceEqDiff,Nat.reduceBEq,Nat.reduceLeDiff,Nat.reduceAdd]
   exact f _ _ n1
  ·rw[decide_eq_false z1]at f
   by_cases z2: -512≤i.c
   ·rw[decide_eq_true z2]at f
    simp(disch:=first|exact Xe|fail)only[zAF,e5,zAV,zBt,zDc,decide_eq_false z1,decide_eq_true z2,zFn,↓Xa,Xb,Xc,↓reduceIte,Nat.reduceLT,Nat.reduceEqDiff,Nat.reduceBEq,Nat.reduceLeDiff,Nat.reduceAdd]
    exact f _ _ n1
   ·rw[decide_eq_false z2]at f
    simp(disch:=first|exact Xe|fail)only[zAF,e5,zAV,zBt,zDc,decide_eq_false z1,decide_eq_false z2,zFn,↓Xa,Xb,Xc,↓reduceIte,Nat.reduceLT,Nat.reduceEqDiff,Nat.reduceBEq,Nat.reduceLeDiff,Nat.reduceAdd]
    exact f _ _ n1
 have e5:decide (i.op=((5:Nat):Int))=false:=decide_eq_false h5
 by_cases h6:i.op=6
 ·have f:=big (.inr h6)
  have e6:decide (i.op=((6:Nat):Int))=true:=decide_eq_true h6
  by_cases z1:i.c=((0:Nat):Int)
  ·rw[decide_eq_true z1]at f
   simp(disch:=first|exact Xe|fail)only[zAF,e5,e6,zAV,zBt,zDc,decide_eq_true z1,zFn,↓Xa,Xb,Xc,↓reduceIte,Nat.reduceLT,Nat.reduceEqDiff,Nat.reduceBEq,Nat.reduceLeDiff,Nat.reduceAdd]
   exact f _ _ n1
  ·rw[decide_eq_false z1]at f
   by_cases z2: -512≤i.c
   ·rw[decide_eq_true z2]at f
    simp(disch:=first|exact Xe|fail)only[zAF,e5,e6,zAV,zBt,zDc,decide_eq_false z1,decide_eq_true z2,zFn,↓Xa,Xb,Xc,↓reduceIte,Nat.reduceLT,Nat.reduceEqDiff,Nat.reduceBEq,Nat.reduceLeDiff,Nat.reduceAdd]
    exact f _ _ n1
   ·rw[decide_eq_false z2]at f
    simp(disch:=first|exact Xe|fail)only[zAF,e5,e6,zAV,zBt,zDc,decide_eq_false z1,decide_eq_false z2,zFn,↓Xa,Xb,Xc,↓reduceIte,Nat.reduceLT,Nat.reduceEqDiff,Nat.reduceBEq,Nat.reduceLeDiff,Nat.reduceAdd]
    exact f _ _ n1
 have e6:decide (i.op=((6:Nat):Int))=false:=decide_eq_false h6
 have n56: ¬(i.op=5∨i.op=6):=by omega
 by_cases h7:i.op=7
 ·have f:=sml n56 (.inl h7)
  have e7:decide (i.op=((7:Nat):Int))=true:=decide_eq_true h7
  by_cases z1:((1:Nat):Int)≤i.c
  ·rw[decide_eq_true z1]at f
   simp(disch:=first|exact Xe|fail)only[zAF,e5,e6,e7,zBt,zDc,decide_eq_true z1,zFn,↓Xa,Xb,Xc,↓reduceIte,Nat.reduceLT,Nat.reduceEqDiff,Nat.reduceBEq,Nat.reduceLeDiff,Nat.reduceAdd]
   exact f _ _ n1
  ·rw[decide_eq_false z1]at f
   simp(disch:=first|exact Xe|fail)only[zAF,e5,e6,e7,zBt,zDc,decide_eq_false z1,zFn,↓Xa,Xb,Xc,↓reduceIte,Nat.reduceLT,Nat.reduceEqDiff,Nat.reduceBEq,Nat.reduceLeDiff,Nat.reduceAdd]
   exact f _ _ n1
 have e7:decide (i.op=((7:Nat):Int))=false:=decide_eq_false h7
 by_cases h8:i.op=8
 ·have f:=sml n56 (.inr h8)
  have e8:decide (i.op=((8:Nat):Int))=true:=decide_eq_true h8
  by_cases z1:((1:Nat):Int)≤i.c
  ·rw[decide_eq_true z1]at f
   simp(disch:=first|exact Xe|fail)only[zAF,e5,e6,e7,e8,zBt,zDc,decide_eq_true z1,zFn,↓Xa,Xb,Xc,↓reduceIte,Nat.reduceLT,Nat.reduceEqDiff,Nat.reduceBEq,Nat.reduceLeDiff,Nat.reduceAdd]
   exact f _ _ n1
  ·rw[decide_eq_false z1]at f
   simp(disch:=first|exact Xe|fail)only[zAF,e5,e6,e7,e8,zBt,zDc,decide_eq_false z1,zFn,↓Xa,Xb,Xc,↓reduceIte,Nat.reduceLT,Nat.reduceEqDiff,Nat.reduceBEq,Nat.reduceLeDiff,Nat.reduceAdd]
   exact f _ _ n1
 have e8:decide (i.op=((8:Nat):Int))=false:=decide_eq_false h8
 have e:decide (zKn i)=decide (i.c=((0:Nat):Int)):=decide_eq_decide.2 (by unfold zKn;rw[if_neg n56,if_neg (by omega)];rfl)
 rw[e]at hq
 simp(disch:=first|exact Xe|fail)only[zAF,e5,e6,e7,e8,zAF,zFn,↓Xa,Xb,Xc,↓reduceIte,Nat.reduceLT,Nat.reduceEqDiff,Nat.reduceBEq,Nat.reduceLeDiff,Nat.reduceAdd]
 exact SetR.dropTo ((Le.refl H).updB n1) (SetR.now hq)
def zCs(i:Ins):List Int:=if i.op=3∨i.op=4 then[i.a,i.b]else if 1≤i.op∧i.op≤8 then[i.a]else[]
theorem zZP(i:Ins)(h1:1≤i.op)(h2:i.op≤8):PFn Tryz.prog 221 [zFh i] (zAa (zCs i) true):=by
 intro H Q hq
 refine zSq (by simp) ?_
 simp(disch:=first|exact Xe|fail)only[zdk,zAr,↓Xa,Xb,Xc,↓reduceIte,Nat.reduceLT,Nat.reduceEqDiff,Nat.reduceBEq,Nat.reduceLeDiff,Nat.reduceAdd]
 refine zAD fun p1 hp1=>?_
 have n1:=hp1
 simp(disch:=first|exact Xe|fail)only[zAF,↓Xa,Xb,Xc,↓reduceIte,Nat.reduceLT,Nat.reduceEqDiff,Nat.reduceBEq,Nat.reduceLeDiff,Nat.reduceAdd]
 have r1: ∀{x:AV},zCM [x] 1=[x]:=by simp[zCM,List.range,List.range.loop]
 have r2: ∀{x y:AV},zCM [x] 2=[x,x]:=by simp[zCM,List.range,List.range.loop]
 have fin: ∀{p:Nat}{x:Option ABlk},H p=none→SetR Q (zAa (zCs i) true) (H.upd p x):=fun hp=>SetR.dropTo ((Le.refl H).updB hp) (SetR.now hq)
 have e0: ∀m:Int,i.op=m→decide (i.op=m)=true:=fun m h=>decide_eq_true h
 by_cases h3:i.op=3
 ·unfold zCs at fin
  rw[if_pos (.inl h3)]at fin
  have e3:decide (i.op=((3:Nat):Int))=true:=decide_eq_true h3
  simp(disch:=first|exact Xe|fail)only[zAF,e3,zCM,List.range,List.range.loop,zI7,↓Xa,Xb,Xc,↓reduceIte,Nat.reduceLT,Nat.reduceEqDiff,Nat.reduceBEq,Nat.reduceLeDiff,Nat.reduceAdd,Nat.reduceMul]
  exact fin n1
 have e3:decide (i.op=((3:Nat):Int))=false:=decide_eq_false h3
 by_cases h4:i.op=4
 ·unfold zCs at fin
  rw[if_pos (.inr h4)]at fin
  have e4:decide (i.op=((4:Nat):Int))=true:=decide_eq_true h4
  simp(disch:=first|exact Xe|fail)only[zAF,e3,e4,zCM,List.range,List.range.loop,zI7,↓Xa,Xb,Xc,↓reduceIte,Nat.reduceLT,Nat.reduceEqDiff,Nat.reduceBEq,Nat.reduceLeDiff,Nat.reduceAdd,Nat.reduceMul]
  exact fin n1
 have e4:decide (i.op=((4:Nat):Int))=false:=decide_eq_false h4
 unfold zCs at fin
 rw[if_neg (by omega),if_pos ⟨h1,h2⟩]at fin
 by_cases g1:i.op=1
 ·have e5:decide (i.op=((1:Nat):Int))=true:=decide_eq_true g1
  simp(disch:=first|exact Xe|fail)only[zAF,e3,e4,e5,r1,zI7,↓Xa,Xb,Xc,↓reduceIte,Nat.reduceLT,Nat.reduceEqDiff,Nat.reduceBEq,Nat.reduceLeDiff,Nat.reduceAdd]
  exact fin n1
 have f1:decide (i.op=((1:Nat):Int))=false:=decide_eq_false g1
 by_cases g2:i.op=2
 ·have e5:decide (i.op=((2:Nat):Int))=true:=decide_eq_true g2
  simp(disch:=first|exact Xe|fail)only[zAF,e3,e4,f1,e5,r1,zI7,↓Xa,Xb,Xc,↓reduceIte,Nat.reduceLT,Nat.reduceEqDiff,Nat.reduceBEq,Nat.reduceLeDiff,Nat.reduceAdd]
  exact fin n1
 have f2:decide (i.op=((2:Nat):Int))=false:=decide_eq_false g2
 by_cases g5:i.op=5
 ·have e5:decide (i.op=((5:Nat):Int))=true:=decide_eq_true g5
  simp(disch:=first|exact Xe|fail)only[zAF,e3,e4,f1,f2,e5,r1,zI7,↓Xa,Xb,Xc,↓reduceIte,Nat.reduceLT,Nat.reduceEqDiff,Nat.reduceBEq,Nat.reduceLeDiff,Nat.reduceAdd]
  exact fin n1
 have f5:decide (i.op=((5:Nat):Int))=false:=decide_eq_false g5
 by_cases g6:i.op=6
 ·have e5:decide (i.op=((6:Nat):Int))=true:=decide_eq_true g6
  simp(disch:=first|exact Xe|fail)only[zAF,e3,e4,f1,f2,f5,e5,r1,zI7,↓Xa,Xb,Xc,↓reduceIte,Nat.reduceLT,Nat.reduceEqDiff,Nat.reduceBEq,Nat.reduceLeDiff,Nat.reduceAdd]
  exact fin n1
 have f6:decide (i.op=((6:Nat):Int))=false:=decide_eq_false g6
 by_cases g7:i.op=7
 ·have e5:decide (i.op=((7:Nat):Int))=true:=decide_eq_true g7
  simp(disch:=first|exact Xe|fail)only[zAF,e3,e4,f1,f2,f5,f6,e5,r1,zI7,↓Xa,Xb,Xc,↓reduceIte,Nat.reduceLT,Nat.reduceEqDiff,Nat.reduceBEq,Nat.reduceLeDiff,Nat.reduceAdd]
  exact fin n1
 have f7:decide (i.op=((7:Nat):Int))=false:=decide_eq_false g7
 have e5:decide (i.op=((8:Nat):Int))=true:=decide_eq_true (by omega)
 simp(disch:=first|exact Xe|fail)only[zAF,e3,e4,f1,f2,f5,f6,f7,e5,r1,zI7,↓Xa,Xb,Xc,↓reduceIte,Nat.reduceLT,Nat.reduceEqDiff,Nat.reduceBEq,Nat.reduceLeDiff,Nat.reduceAdd]
 exact fin n1
theorem zSv(n:Int)(i:Ins):zCe n i↔1≤i.op∧i.op≤8∧0≤i.to∧i.to<n∧(¬(i.op=3∨i.op=4)→i.b=0)∧zKn i∧∀r,r∈zCs i→0≤r∧r<n:=by
 unfold zCe zKn zCs
 by_cases h:i.op=3∨i.op=4
 ·rw[if_pos h,if_neg (by omega),if_neg (by omega),if_pos h]
  simp;omega
 ·rw[if_neg h,if_neg h]
  constructor
  ·rintro⟨a,b,c,d,e,f,g,k⟩
   refine⟨a,b,c,d,fun _=>g,k,fun r hr=>?_⟩
   rw[if_pos ⟨a,b⟩]at hr
   rw[List.mem_singleton.1 hr];exact⟨e,f⟩
  ·rintro⟨a,b,c,d,g,k,m⟩
   rw[if_pos ⟨a,b⟩]at m
   have:=m i.a (by simp)
   exact⟨a,b,c,d,this.1,this.2,g h,k⟩
theorem zXr(i:Ins)(n:Int):PFn Tryz.prog 163 [zFh i,.int .i64 n] (.bool (decide (zCe n i))):=by
 intro H Q hq
 have bad: ¬zCe n i→∀{p:Nat}{x:Option ABlk},H p=none→SetR Q (.bool false) (H.upd p x):=fun h p x hp=>by
  rw[decide_eq_false h]at hq
  exact SetR.dropTo ((Le.refl H).updB hp) (SetR.now hq)
 have hm:=zSv n i
 have tw:=zbT (n:=i.op)
 refine zVg (by simp) ?_
 simp(disch:=first|exact Xe|fail)only[zNs,zAr,↓Xa,Xb,Xc,↓reduceIte,Nat.reduceLT,Nat.reduceEqDiff,Nat.reduceBEq,Nat.reduceLeDiff,Nat.reduceAdd]
 refine zAD fun p1 hp1=>?_
 have n1:=hp1
 by_cases h1:i.op<((1:Nat):Int)
 ·simp(disch:=first|exact Xe|fail)only[zAN,decide_eq_true h1,zFm,↓Xa,Xb,Xc,↓reduceIte,Nat.reduceLT,Nat.reduceEqDiff,Nat.reduceBEq,Nat.reduceLeDiff,Nat.reduceAdd]
  exact bad (fun h=>by have:=hm.1 h;omega) n1
 by_cases h2:((8:Nat):Int)<i.op
 ·simp(disch:=first|exact Xe|fail)only[zAN,zAb,decide_eq_false h1,decide_eq_true h2,zFm,↓Xa,Xb,Xc,↓reduceIte,Nat.reduceLT,Nat.reduceEqDiff,Nat.reduceBEq,Nat.reduceLeDiff,Nat.reduceAdd]
  exact bad (fun h=>by have:=hm.1 h;omega) n1
 by_cases h3:i.to<((0:Nat):Int)
 ·simp(disch:=first|exact Xe|fail)only[zAN,zAb,decide_eq_false h1,decide_eq_false h2,decide_eq_true h3,zFm,↓Xa,Xb,Xc,↓reduceIte,Nat.reduceLT,Nat.reduceEqDiff,Nat.reduceBEq,Nat.reduceLeDiff,Nat.reduceAdd]
  exact bad (fun h=>by have:=hm.1 h;omega) n1
 by_cases h4:n≤i.to
 ·simp(disch:=first|exact Xe|fail)only[zAN,zAb,zBt,decide_eq_false h1,decide_eq_false h2,decide_eq_false h3,decide_eq_true h4,zFm,↓Xa,Xb,Xc,↓reduceIte,Nat.reduceLT,Nat.reduceEqDiff,Nat.reduceBEq,Nat.reduceLeDiff,Nat.reduceAdd]
  exact bad (fun h=>by have:=hm.1 h;omega) n1
 simp(disch:=first|exact Xe|fail)only[zAN,zAb,zBt,decide_eq_false h1,decide_eq_false h2,decide_eq_false h3,decide_eq_false h4,↓Xa,Xb,Xc,↓reduceIte,Nat.reduceLT,Nat.reduceEqDiff,Nat.reduceBEq,Nat.reduceLeDiff,Nat.reduceAdd]
 refine tw.call ?_
 have rest:(¬(i.op=3∨i.op=4)→i.b=0)→zKn i→∀M,M=H.upd p1 (some (.row 76 0 [.int .i64 i.op,.int .i64 i.to,.int .i64 i.a,.int .i64 i.b,.int .i64 i.c]))→
  W Tryz.prog (zBZ (zBZ zNs)) (zFg zFm Q) ⟨[],[(1,.int .i64 n),(2,.ptr p1 5 0)],M⟩:=by
  rintro hb hc M rfl
  have la:(zCs i).length<9223372036854775808:=by unfold zCs;split;simp;split<;>simp
  simp(disch:=first|exact Xe|fail)only[zBZ,zNs,zA8,↓Xa,Xb,Xc,↓reduceIte,Nat.reduceLT,Nat.reduceEqDiff,Nat.reduceBEq,Nat.reduceLeDiff,Nat.reduceAdd]
  refine(zZP i (by omega) (by omega)).call ?_
  simp(disch:=first|exact Xe|fail)only[zAY,la,↓Xa,Xb,Xc,↓reduceIte,Nat.reduceLT,Nat.reduceEqDiff,Nat.reduceBEq,Nat.reduceLeDiff,Nat.reduceAdd]
  refine zAO (fun s:Nat=>⟨[],[(1,.int .i64 n),(43,zAa (zCs i) true),(44,.int .i64 (zCs i).length),(45,.int .i64 s)],H.upd p1 (some (.row 76 0 [.int .i64 i.op,.int .i64 i.to,.int .i64 i.a,.int .i64 i.b,.int .i64 i.c]))⟩)
   (fun s=>s≤(zCs i).length∧∀j(h:j<(zCs i).length),j<s→0≤(zCs i)[j]∧(zCs i)[j]<n) (fun s=>(zCs i).length-s) 0 (Settle.now rfl) ⟨Nat.zero_le _,fun j _ h=>absurd h (by omega)⟩ ?_
  rintro s ⟨h5,h6⟩
  by_cases hi:s<(zCs i).length
  ·simp(disch:=first|exact Xe|fail)only[hi,zBJ,zA3,↓Xa,Xb,Xc,↓reduceIte,Nat.reduceLT,Nat.reduceEqDiff,Nat.reduceBEq,Nat.reduceLeDiff,Nat.reduceAdd]
   have hmem:=List.getElem_mem hi
   have nb: ¬(0≤(zCs i)[s]∧(zCs i)[s]<n)→¬zCe n i:=fun h hm2=>h ((hm.1 hm2).2.2.2.2.2.2 _ hmem)
   by_cases c1:(zCs i)[s]<((0:Nat):Int)
   ·simp(disch:=first|exact Xe|fail)only[zAN,decide_eq_true c1,zFm,↓Xa,Xb,Xc,↓reduceIte,Nat.reduceLT,Nat.reduceEqDiff,Nat.reduceBEq,Nat.reduceLeDiff,Nat.reduceAdd]
    exact bad (nb (by omega)) n1
   by_cases c2:n≤(zCs i)[s]
   ·simp(disch:=first|exact Xe|fail)only[zAN,zBt,decide_eq_false c1,decide_eq_true c2,zFm,↓Xa,Xb,Xc,↓reduceIte,Nat.reduceLT,Nat.reduceEqDiff,Nat.reduceBEq,Nat.reduceLeDiff,Nat.reduceAdd]
    exact bad (nb (by omega)) n1
   simp(disch:=first|exact Xe|fail)only[zAN,zBt,decide_eq_false c1,decide_eq_false c2,↓Xa,Xb,Xc,↓reduceIte,Nat.reduceLT,Nat.reduceEqDiff,Nat.reduceBEq,Nat.reduceLeDiff,Nat.reduceAdd]
   refine Settle.now ⟨s+1,by omega,⟨by omega,fun j hj hjs=>?_⟩,rfl⟩
   by_cases e:j=s
   ·subst e;omega
   ·exact h6 j hj (by omega)
  ·simp(disch:=first|exact Xe|fail)only[hi,↓Xa,Xb,Xc,↓reduceIte,Nat.reduceLT,Nat.reduceEqDiff,Nat.reduceBEq,Nat.reduceLeDiff,Nat.reduceAdd]
   refine Settle.now ?_
   have hyes:zCe n i:=hm.2 ⟨by omega,by omega,by omega,by omega,hb,hc,fun r hr=>by
    obtain⟨j,hj,rfl⟩:=List.getElem_of_mem hr
    exact h6 j hj (by omega)⟩
   rw[decide_eq_true hyes]at hq
   simp(disch:=first|exact Xe|fail)only[zFm,↓Xa,Xb,Xc,↓reduceIte,Nat.reduceLT,Nat.reduceEqDiff,Nat.reduceBEq,Nat.reduceLeDiff,Nat.reduceAdd]
   exact SetR.dropTo ((Le.refl H).updB n1) (SetR.now hq)
 have cf:=zKr i
 by_cases ht:i.op=3∨i.op=4
 ·rw[decide_eq_true ht]
  by_cases hc:zKn i
  ·rw[decide_eq_true hc]at cf
   simp(disch:=first|exact Xe|fail)only[zA8,↓Xa,Xb,Xc,↓reduceIte,Nat.reduceLT,Nat.reduceEqDiff,Nat.reduceBEq,Nat.reduceLeDiff,Nat.reduceAdd]
   refine cf.call ?_
   have r:=rest (fun h=>absurd ht h) hc _ rfl
   simp(disch:=first|exact Xe|fail)only[zBZ,zNs,zA8,↓Xa,Xb,Xc,↓reduceIte,Nat.reduceLT,Nat.reduceEqDiff,Nat.reduceBEq,Nat.reduceLeDiff,Nat.reduceAdd]at r
   simp(disch:=first|exact Xe|fail)only[zA8,↓Xa,Xb,Xc,↓reduceIte,Nat.reduceLT,Nat.reduceEqDiff,Nat.reduceBEq,Nat.reduceLeDiff,Nat.reduceAdd]
   exact r
  ·rw[decide_eq_false hc]at cf
   simp(disch:=first|exact Xe|fail)only[zA8,↓Xa,Xb,Xc,↓reduceIte,Nat.reduceLT,Nat.reduceEqDiff,Nat.reduceBEq,Nat.reduceLeDiff,Nat.reduceAdd]
   refine cf.call ?_
   simp(disch:=first|exact Xe|fail)only[zA8,zFm,↓Xa,Xb,Xc,↓reduceIte,Nat.reduceLT,Nat.reduceEqDiff,Nat.reduceBEq,Nat.reduceLeDiff,Nat.reduceAdd]
   exact bad (fun h=>hc (hm.1 h).2.2.2.2.2.1) n1
 ·rw[decide_eq_false ht]
  by_cases hb:i.b=((0:Nat):Int)
  ·by_cases hc:zKn i
   ·rw[decide_eq_true hc]at cf
    simp(disch:=first|exact Xe|fail)only[zAV,decide_eq_true hb,zA8,↓Xa,Xb,Xc,↓reduceIte,Nat.reduceLT,Nat.reduceEqDiff,Nat.reduceBEq,Nat.reduceLeDiff,Nat.reduceAdd]
    refine cf.call ?_
    have r:=rest (fun _=>hb) hc _ rfl
    simp(disch:=first|exact Xe|fail)only[zBZ,zNs,zA8,↓Xa,Xb,Xc,↓reduceIte,Nat.reduceLT,Nat.reduceEqDiff,Nat.reduceBEq,Nat.reduceLeDiff,Nat.reduceAdd]at r
    simp(disch:=first|exact Xe|fail)only[zA8,↓Xa,Xb,Xc,↓reduceIte,Nat.reduceLT,Nat.reduceEqDiff,Nat.reduceBEq,Nat.reduceLeDiff,Nat.reduceAdd]
    exact r
   ·rw[decide_eq_false hc]at cf
    simp(disch:=first|exact Xe|fail)only[zAV,decide_eq_true hb,zA8,↓Xa,Xb,Xc,↓reduceIte,Nat.reduceLT,Nat.reduceEqDiff,Nat.reduceBEq,Nat.reduceLeDiff,Nat.reduceAdd]
    refine cf.call ?_
    simp(disch:=first|exact Xe|fail)only[zA8,zFm,↓Xa,Xb,Xc,↓reduceIte,Nat.reduceLT,Nat.reduceEqDiff,Nat.reduceBEq,Nat.reduceLeDiff,Nat.reduceAdd]
    exact bad (fun h=>hc (hm.1 h).2.2.2.2.2.1) n1
  ·simp(disch:=first|exact Xe|fail)only[zAV,decide_eq_false hb,zFm,↓Xa,Xb,Xc,↓reduceIte,Nat.reduceLT,Nat.reduceEqDiff,Nat.reduceBEq,Nat.reduceLeDiff,Nat.reduceAdd]
   exact bad (fun h=>hb ((hm.1 h).2.2.2.2.1 ht)) n1
theorem zNB(p:PR)(hp:p.ok): ∃k:Int,PFn Tryz.prog 99 [zCV p] (.tup [.int .i64 k,.int .i64 (((if zBV p then 0 else 80:Nat)):Int)]):=by
 obtain⟨hp1,hp2,hp3,hp4,hp5,hp6⟩:=hp
 have lc:p.code.length<9223372036854775808:=by omega
 have lo:p.outs.length<9223372036854775808:=by omega
 by_cases hh:zC5 p
 rotate_left
 ·refine⟨-1,fun H Q hq=>?_⟩
  rw[if_neg (fun h=>hh h.1)]at hq
  have out: ∀(q:Nat)(x:Option ABlk),H q=none→SetR Q (.tup [.int .i64 (-1),.int .i64 ((80:Nat):Int)]) (H.upd q x):=fun q x h=>SetR.dropTo ((Le.refl H).updB h) (SetR.now hq)
  refine zQO (by simp) ?_
  simp(disch:=first|exact Xe|fail)only[zQa,zAq,↓Xa,Xb,Xc,↓reduceIte,Nat.reduceLT,Nat.reduceEqDiff,Nat.reduceBEq,Nat.reduceLeDiff,Nat.reduceAdd]
  refine zAD fun p1 hp1=>?_
  have n1:=hp1
  unfold zC5 at hh
  by_cases h1:p.ins<((1:Nat):Int)
  ·simp(disch:=first|exact Xe|fail)only[zAN,decide_eq_true h1,zOC,↓Xa,Xb,Xc,↓reduceIte,Nat.reduceLT,Nat.reduceEqDiff,Nat.reduceBEq,Nat.reduceLeDiff,Nat.reduceAdd]
   exact out _ _ n1
  by_cases h2:p.regs<p.ins
  ·simp(disch:=first|exact Xe|fail)only[zAN,zAb,decide_eq_false h1,decide_eq_true h2,zOC,↓Xa,Xb,Xc,↓reduceIte,Nat.reduceLT,Nat.reduceEqDiff,Nat.reduceBEq,Nat.reduceLeDiff,Nat.reduceAdd]
   exact out _ _ n1
  by_cases h3:((128:Nat):Int)<p.regs
  ·simp(disch:=first|exact Xe|fail)only[zAN,zAb,decide_eq_false h1,decide_eq_false h2,decide_eq_true h3,zOC,↓Xa,Xb,Xc,↓reduceIte,Nat.reduceLT,Nat.reduceEqDiff,Nat.reduceBEq,Nat.reduceLeDiff,Nat.reduceAdd]
   exact out _ _ n1
  by_cases h4:((16384:Nat):Int)<((p.code.length:Nat):Int)
  ·simp(disch:=first|exact Xe|fail)only[zAN,zAb,decide_eq_false h1,decide_eq_false h2,decide_eq_false h3,zAZ,lc,decide_eq_true h4,zOC,↓Xa,Xb,Xc,↓reduceIte,Nat.reduceLT,Nat.reduceEqDiff,Nat.reduceBEq,Nat.reduceLeDiff,Nat.reduceAdd]
   exact out _ _ n1
  by_cases h5:((p.outs.length:Nat):Int)<((1:Nat):Int)
  ·simp(disch:=first|exact Xe|fail)only[zAN,zAb,decide_eq_false h1,decide_eq_false h2,decide_eq_false h3,zAZ,lc,decide_eq_false h4,zAY,lo,decide_eq_true h5,zOC,↓Xa,Xb,Xc,↓reduceIte,Nat.reduceLT,Nat.reduceEqDiff,Nat.reduceBEq,Nat.reduceLeDiff,Nat.reduceAdd]
   exact out _ _ n1
  have h6:((128:Nat):Int)<((p.outs.length:Nat):Int):=by
   have:=fun h=>hh h
   omega
  simp(disch:=first|exact Xe|fail)only[zAN,zAb,decide_eq_false h1,decide_eq_false h2,decide_eq_false h3,zAZ,lc,decide_eq_false h4,zAY,lo,decide_eq_false h5,decide_eq_true h6,zOC,↓Xa,Xb,Xc,↓reduceIte,Nat.reduceLT,Nat.reduceEqDiff,Nat.reduceBEq,Nat.reduceLeDiff,Nat.reduceAdd]
  exact out _ _ n1
 ·have hh':=hh
  unfold zC5 at hh'
  have h1: ¬p.ins<((1:Nat):Int):=by omega
  have h2: ¬p.regs<p.ins:=by omega
  have h3: ¬((128:Nat):Int)<p.regs:=by omega
  have h4: ¬((16384:Nat):Int)<((p.code.length:Nat):Int):=by omega
  have h5: ¬((p.outs.length:Nat):Int)<((1:Nat):Int):=by omega
  have h6: ¬((128:Nat):Int)<((p.outs.length:Nat):Int):=by omega
  have start: ∀{H:AHeap}{Q:AV→AHeap→Prop},(∀p1,H p1=none→W Tryz.prog (zBZ (zBZ zQa)) (zFg zOC Q) ⟨[],[(1,.ptr p1 4 0)],H.upd p1 (some (.row 25 0 [.int .i64 p.ins,.int .i64 p.regs,zAf p.code false,zAa p.outs false]))⟩)→Run Tryz.prog 99 [zCV p] H Q:=by
   intro H Q hw
   refine zQO (by simp) ?_
   simp(disch:=first|exact Xe|fail)only[zQa,zAq,↓Xa,Xb,Xc,↓reduceIte,Nat.reduceLT,Nat.reduceEqDiff,Nat.reduceBEq,Nat.reduceLeDiff,Nat.reduceAdd]
   refine zAD fun p1 hp1=>?_
   have n1:=hp1
   have r:=hw p1 n1
   simp(disch:=first|exact Xe|fail)only[zBZ,zQa,zAY,lo,↓Xa,Xb,Xc,↓reduceIte,Nat.reduceLT,Nat.reduceEqDiff,Nat.reduceBEq,Nat.reduceLeDiff,Nat.reduceAdd]at r
   simp(disch:=first|exact Xe|fail)only[zAN,zAb,decide_eq_false h1,decide_eq_false h2,decide_eq_false h3,zAZ,lc,decide_eq_false h4,zAY,lo,decide_eq_false h5,decide_eq_false h6,↓Xa,Xb,Xc,↓reduceIte,Nat.reduceLT,Nat.reduceEqDiff,Nat.reduceBEq,Nat.reduceLeDiff,Nat.reduceAdd]
   exact r
  by_cases ho: ∀n,n∈p.outs→0≤n∧n<p.regs
  rotate_left
  ·refine⟨-1,fun H Q hq=>start fun p1 n1=>?_⟩
   rw[if_neg (fun h=>ho h.2.1)]at hq
   simp(disch:=first|exact Xe|fail)only[zBZ,zQa,zAY,lo,↓Xa,Xb,Xc,↓reduceIte,Nat.reduceLT,Nat.reduceEqDiff,Nat.reduceBEq,Nat.reduceLeDiff,Nat.reduceAdd]
   refine zAO (fun s:Nat=>⟨[],[(1,.ptr p1 4 0),(42,zAa p.outs false),(43,.int .i64 p.outs.length),(44,.int .i64 s)],H.upd p1 (some (.row 25 0 [.int .i64 p.ins,.int .i64 p.regs,zAf p.code false,zAa p.outs false]))⟩)
    (fun s=>s≤p.outs.length∧∀j(h:j<p.outs.length),j<s→0≤p.outs[j]∧p.outs[j]<p.regs) (fun s=>p.outs.length-s) 0 (Settle.now rfl) ⟨Nat.zero_le _,fun j _ h=>absurd h (by omega)⟩ ?_
   rintro s ⟨g1,g2⟩
   by_cases hi:s<p.outs.length
   ·simp(disch:=first|exact Xe|fail)only[hi,zBJ,zA3,↓Xa,Xb,Xc,↓reduceIte,Nat.reduceLT,Nat.reduceEqDiff,Nat.reduceBEq,Nat.reduceLeDiff,Nat.reduceAdd]
    by_cases c1:p.outs[s]<((0:Nat):Int)
    ·simp(disch:=first|exact Xe|fail)only[zAN,decide_eq_true c1,zOC,↓Xa,Xb,Xc,↓reduceIte,Nat.reduceLT,Nat.reduceEqDiff,Nat.reduceBEq,Nat.reduceLeDiff,Nat.reduceAdd]
     exact SetR.dropTo ((Le.refl H).updB n1) (SetR.now hq)
    by_cases c2:p.regs≤p.outs[s]
    ·simp(disch:=first|exact Xe|fail)only[zAN,zBt,decide_eq_false c1,decide_eq_true c2,zOC,↓Xa,Xb,Xc,↓reduceIte,Nat.reduceLT,Nat.reduceEqDiff,Nat.reduceBEq,Nat.reduceLeDiff,Nat.reduceAdd]
     exact SetR.dropTo ((Le.refl H).updB n1) (SetR.now hq)
    simp(disch:=first|exact Xe|fail)only[zAN,zBt,decide_eq_false c1,decide_eq_false c2,↓Xa,Xb,Xc,↓reduceIte,Nat.reduceLT,Nat.reduceEqDiff,Nat.reduceBEq,Nat.reduceLeDiff,Nat.reduceAdd]
    refine Settle.now ⟨s+1,by omega,⟨by omega,fun j hj hjs=>?_⟩,rfl⟩
    by_cases e:j=s
    ·subst e;omega
    ·exact g2 j hj (by omega)
   ·exact absurd (fun n hn=>by
     obtain⟨j,hj,rfl⟩:=List.getElem_of_mem hn
     exact g2 j hj (by omega)) ho
  have start2: ∀{H:AHeap}{Q:AV→AHeap→Prop},(∀p1,H p1=none→W Tryz.prog (zBZ (zBZ (zBZ zQa))) (zFg zOC Q) ⟨[],[(1,.ptr p1 4 0),(42,zAa p.outs false),(43,.int .i64 p.outs.length),(44,.int .i64 p.outs.length),(45,.bool false)],H.upd p1 (some (.row 25 0 [.int .i64 p.ins,.int .i64 p.regs,zAf p.code false,zAa p.outs false]))⟩)→Run Tryz.prog 99 [zCV p] H Q:=by
   intro H Q hw
   refine start fun p1 n1=>?_
   have r:=hw p1 n1
   simp(disch:=first|exact Xe|fail)only[zBZ,zQa,zAZ,lc,↓Xa,Xb,Xc,↓reduceIte,Nat.reduceLT,Nat.reduceEqDiff,Nat.reduceBEq,Nat.reduceLeDiff,Nat.reduceAdd]at r
   simp(disch:=first|exact Xe|fail)only[zBZ,zQa,zAY,lo,↓Xa,Xb,Xc,↓reduceIte,Nat.reduceLT,Nat.reduceEqDiff,Nat.reduceBEq,Nat.reduceLeDiff,Nat.reduceAdd]
   refine zAO (fun s:Nat=>⟨[],[(1,.ptr p1 4 0),(42,zAa p.outs false),(43,.int .i64 p.outs.length),(44,.int .i64 s)],H.upd p1 (some (.row 25 0 [.int .i64 p.ins,.int .i64 p.regs,zAf p.code false,zAa p.outs false]))⟩)
    (fun s=>s≤p.outs.length) (fun s=>p.outs.length-s) 0 (Settle.now rfl) (Nat.zero_le _) ?_
   rintro s g1
   by_cases hi:s<p.outs.length
   ·have hm:=ho _ (List.getElem_mem hi)
    have c1: ¬p.outs[s]<((0:Nat):Int):=by omega
    have c2: ¬p.regs≤p.outs[s]:=by omega
    simp(disch:=first|exact Xe|fail)only[hi,zBJ,zA3,↓Xa,Xb,Xc,↓reduceIte,Nat.reduceLT,Nat.reduceEqDiff,Nat.reduceBEq,Nat.reduceLeDiff,Nat.reduceAdd]
    simp(disch:=first|exact Xe|fail)only[zAN,zBt,decide_eq_false c1,decide_eq_false c2,↓Xa,Xb,Xc,↓reduceIte,Nat.reduceLT,Nat.reduceEqDiff,Nat.reduceBEq,Nat.reduceLeDiff,Nat.reduceAdd]
    exact Settle.now ⟨s+1,by omega,by omega,rfl⟩
   ·obtain rfl:s=p.outs.length:=by omega
    simp(disch:=first|exact Xe|fail)only[hi,↓Xa,Xb,Xc,↓reduceIte,Nat.reduceLT,Nat.reduceEqDiff,Nat.reduceBEq,Nat.reduceLeDiff,Nat.reduceAdd]
    refine Settle.now ?_
    simp(disch:=first|exact Xe|fail)only[zAZ,lc,↓Xa,Xb,Xc,↓reduceIte,Nat.reduceLT,Nat.reduceEqDiff,Nat.reduceBEq,Nat.reduceLeDiff,Nat.reduceAdd]
    exact r
  have step: ∀{H:AHeap}{p1 s:Nat},H p1=none→True:=fun _=>trivial
  rcases zIt (P:=fun j=> ∃h:j<p.code.length,¬zCe p.regs (p.code[j])) 0 p.code.length with⟨c,_,hc,⟨hc',hbad⟩,hmin⟩|hall
  ·refine⟨(c:Int),fun H Q hq=>start2 fun p1 n1=>?_⟩
   rw[if_neg (fun h=>hbad (h.2.2 _ (List.getElem_mem hc')))]at hq
   simp(disch:=first|exact Xe|fail)only[zBZ,zQa,zAZ,lc,↓Xa,Xb,Xc,↓reduceIte,Nat.reduceLT,Nat.reduceEqDiff,Nat.reduceBEq,Nat.reduceLeDiff,Nat.reduceAdd]
   refine zAO (fun s:Nat=>⟨[],[(1,.ptr p1 4 0),(58,zAf p.code false),(59,.int .i64 p.code.length),(60,.int .i64 s)],H.upd p1 (some (.row 25 0 [.int .i64 p.ins,.int .i64 p.regs,zAf p.code false,zAa p.outs false]))⟩)
    (fun s=>s≤c) (fun s=>p.code.length-s) 0 (Settle.now rfl) (Nat.zero_le _) ?_
   rintro s g1
   have hs:s<p.code.length:=by omega
   have mf:=zXr (p.code[s]) p.regs
   simp(disch:=first|exact Xe|fail)only[hs,zBN,zBb,↓Xa,Xb,Xc,↓reduceIte,Nat.reduceLT,Nat.reduceEqDiff,Nat.reduceBEq,Nat.reduceLeDiff,Nat.reduceAdd]
   refine zAD fun p2 hp2=>?_
   have n2:=hp2
   simp only[zAB]at n2
   obtain⟨_,n2⟩:=n2
   simp(disch:=first|exact Xe|fail)only[zAr,zA8,↓Xa,Xb,Xc,↓reduceIte,Nat.reduceLT,Nat.reduceEqDiff,Nat.reduceBEq,Nat.reduceLeDiff,Nat.reduceAdd]
   by_cases e:s=c
   ·subst e
    rw[decide_eq_false hbad]at mf
    refine mf.call ?_
    simp(disch:=first|exact Xe|fail)only[zOC,↓Xa,Xb,Xc,↓reduceIte,Nat.reduceLT,Nat.reduceEqDiff,Nat.reduceBEq,Nat.reduceLeDiff,Nat.reduceAdd]
    exact SetR.dropTo (((Le.refl H).updB n1).updB n2) (SetR.now hq)
   ·have hok:zCe p.regs (p.code[s]):=Classical.not_not.1 fun h=>hmin s (by omega) (by omega) ⟨hs,h⟩
    rw[decide_eq_true hok]at mf
    refine mf.call ?_
    simp(disch:=first|exact Xe|fail)only[↓Xa,Xb,Xc,↓reduceIte,Nat.reduceLT,Nat.reduceEqDiff,Nat.reduceBEq,Nat.reduceLeDiff,Nat.reduceAdd]
    refine Settle.dropTo ((Le.refl _).updB (zAB.2 ⟨by assumption,n2⟩)) ?_
    exact Settle.now ⟨s+1,by omega,by omega,rfl⟩
  ·refine⟨0,fun H Q hq=>start2 fun p1 n1=>?_⟩
   have hok: ∀i,i∈p.code→zCe p.regs i:=fun i hi=>by
    obtain⟨j,hj,rfl⟩:=List.getElem_of_mem hi
    exact Classical.not_not.1 fun h=>hall j (by omega) (by omega) ⟨hj,h⟩
   rw[if_pos ⟨hh,ho,hok⟩]at hq
   simp(disch:=first|exact Xe|fail)only[zBZ,zQa,zAZ,lc,↓Xa,Xb,Xc,↓reduceIte,Nat.reduceLT,Nat.reduceEqDiff,Nat.reduceBEq,Nat.reduceLeDiff,Nat.reduceAdd]
   refine zAO (fun s:Nat=>⟨[],[(1,.ptr p1 4 0),(58,zAf p.code false),(59,.int .i64 p.code.length),(60,.int .i64 s)],H.upd p1 (some (.row 25 0 [.int .i64 p.ins,.int .i64 p.regs,zAf p.code false,zAa p.outs false]))⟩)
    (fun s=>s≤p.code.length) (fun s=>p.code.length-s) 0 (Settle.now rfl) (Nat.zero_le _) ?_
   rintro s g1
   by_cases hs:s<p.code.length
   ·have mf:=zXr (p.code[s]) p.regs
    rw[decide_eq_true (hok _ (List.getElem_mem hs))]at mf
    simp(disch:=first|exact Xe|fail)only[hs,zBN,zBb,↓Xa,Xb,Xc,↓reduceIte,Nat.reduceLT,Nat.reduceEqDiff,Nat.reduceBEq,Nat.reduceLeDiff,Nat.reduceAdd]
    refine zAD fun p2 hp2=>?_
    have n2:=hp2
    simp only[zAB]at n2
    obtain⟨_,n2⟩:=n2
    simp(disch:=first|exact Xe|fail)only[zAr,zA8,↓Xa,Xb,Xc,↓reduceIte,Nat.reduceLT,Nat.reduceEqDiff,Nat.reduceBEq,Nat.reduceLeDiff,Nat.reduceAdd]
    refine mf.call ?_
    simp(disch:=first|exact Xe|fail)only[↓Xa,Xb,Xc,↓reduceIte,Nat.reduceLT,Nat.reduceEqDiff,Nat.reduceBEq,Nat.reduceLeDiff,Nat.reduceAdd]
    refine Settle.dropTo ((Le.refl _).updB (zAB.2 ⟨by assumption,n2⟩)) ?_
    exact Settle.now ⟨s+1,by omega,by omega,rfl⟩
   ·simp(disch:=first|exact Xe|fail)only[hs,↓Xa,Xb,Xc,↓reduceIte,Nat.reduceLT,Nat.reduceEqDiff,Nat.reduceBEq,Nat.reduceLeDiff,Nat.reduceAdd]
    refine Settle.now ?_
    simp(disch:=first|exact Xe|fail)only[zOC,↓Xa,Xb,Xc,↓reduceIte,Nat.reduceLT,Nat.reduceEqDiff,Nat.reduceBEq,Nat.reduceLeDiff,Nat.reduceAdd]
    exact SetR.dropTo ((Le.refl H).updB n1) (SetR.now hq)
theorem zPf(i:Ins)(n:Int):PFn Tryz.prog 153 [zFh i,.int .i64 n] (.bool (decide (zCe n i))):=by
 intro H Q hq
 have bad: ¬zCe n i→∀(p:Nat)(x:Option ABlk),H p=none→SetR Q (.bool false) (H.upd p x):=fun h p x hp=>by
  rw[decide_eq_false h]at hq
  exact SetR.dropTo ((Le.refl H).updB hp) (SetR.now hq)
 have say: ∀(b:Bool),(zCe n i↔b=true)→∀(p:Nat)(x:Option ABlk),H p=none→SetR Q (.bool b) (H.upd p x):=fun b h p x hp=>by
  have e:decide (zCe n i)=b:=by
   cases b
   ·exact decide_eq_false fun h2=>by have:=h.1 h2;cases this
   ·exact decide_eq_true (h.2 rfl)
  rw[e]at hq
  exact SetR.dropTo ((Le.refl H).updB hp) (SetR.now hq)
 refine zTe (by simp) ?_
 simp(disch:=first|exact Xe|fail)only[zX3,zAr,↓Xa,Xb,Xc,↓reduceIte,Nat.reduceLT,Nat.reduceEqDiff,Nat.reduceBEq,Nat.reduceLeDiff,Nat.reduceAdd]
 refine zAD fun p1 hp1=>?_
 have n1:=hp1
 by_cases h1:i.op<((1:Nat):Int)
 ·simp(disch:=first|exact Xe|fail)only[zAN,decide_eq_true h1,zCJ,↓Xa,Xb,Xc,↓reduceIte,Nat.reduceLT,Nat.reduceEqDiff,Nat.reduceBEq,Nat.reduceLeDiff,Nat.reduceAdd]
  exact bad (fun h=>by have:=h.1;omega) _ _ n1
 by_cases h2:((8:Nat):Int)<i.op
 ·simp(disch:=first|exact Xe|fail)only[zAN,zAb,decide_eq_false h1,decide_eq_true h2,zCJ,↓Xa,Xb,Xc,↓reduceIte,Nat.reduceLT,Nat.reduceEqDiff,Nat.reduceBEq,Nat.reduceLeDiff,Nat.reduceAdd]
  exact bad (fun h=>by have:=h.2.1;omega) _ _ n1
 by_cases h3:i.to<((0:Nat):Int)
 ·simp(disch:=first|exact Xe|fail)only[zAN,zAb,decide_eq_false h1,decide_eq_false h2,decide_eq_true h3,zCJ,↓Xa,Xb,Xc,↓reduceIte,Nat.reduceLT,Nat.reduceEqDiff,Nat.reduceBEq,Nat.reduceLeDiff,Nat.reduceAdd]
  exact bad (fun h=>by have:=h.2.2.1;omega) _ _ n1
 by_cases h4:n≤i.to
 ·simp(disch:=first|exact Xe|fail)only[zAN,zAb,zBt,decide_eq_false h1,decide_eq_false h2,decide_eq_false h3,decide_eq_true h4,zCJ,↓Xa,Xb,Xc,↓reduceIte,Nat.reduceLT,Nat.reduceEqDiff,Nat.reduceBEq,Nat.reduceLeDiff,Nat.reduceAdd]
  exact bad (fun h=>by have:=h.2.2.2.1;omega) _ _ n1
 by_cases h5:i.a<((0:Nat):Int)
 ·simp(disch:=first|exact Xe|fail)only[zAN,zAb,zBt,decide_eq_false h1,decide_eq_false h2,decide_eq_false h3,decide_eq_false h4,decide_eq_true h5,zCJ,↓Xa,Xb,Xc,↓reduceIte,Nat.reduceLT,Nat.reduceEqDiff,Nat.reduceBEq,Nat.reduceLeDiff,Nat.reduceAdd]
  exact bad (fun h=>by have:=h.2.2.2.2.1;omega) _ _ n1
 by_cases h6:n≤i.a
 ·simp(disch:=first|exact Xe|fail)only[zAN,zAb,zBt,decide_eq_false h1,decide_eq_false h2,decide_eq_false h3,decide_eq_false h4,decide_eq_false h5,decide_eq_true h6,zCJ,↓Xa,Xb,Xc,↓reduceIte,Nat.reduceLT,Nat.reduceEqDiff,Nat.reduceBEq,Nat.reduceLeDiff,Nat.reduceAdd]
  exact bad (fun h=>by have:=h.2.2.2.2.2.1;omega) _ _ n1
 simp(disch:=first|exact Xe|fail)only[zAN,zAb,zBt,decide_eq_false h1,decide_eq_false h2,decide_eq_false h3,decide_eq_false h4,decide_eq_false h5,decide_eq_false h6,↓Xa,Xb,Xc,↓reduceIte,Nat.reduceLT,Nat.reduceEqDiff,Nat.reduceBEq,Nat.reduceLeDiff,Nat.reduceAdd]
 have hm:zCe n i↔(if i.op=3∨i.op=4 then 0≤i.b∧i.b<n∧i.c=0 else i.b=0∧(if i.op=5∨i.op=6 then i.c≠0∧ -512≤i.c∧i.c≤512 else if i.op=7∨i.op=8 then 1≤i.c∧i.c≤64 else i.c=0)):=
  ⟨fun h=>h.2.2.2.2.2.2,fun h=>⟨by omega,by omega,by omega,by omega,by omega,by omega,h⟩⟩
 have two:(i.op=3∨i.op=4)→W Tryz.prog (zBZ (zBZ (zBZ zX3))) (zFg zCJ Q) ⟨[],[(1,.int .i64 n),(2,.ptr p1 5 0)],H.upd p1 (some (.row 76 0 [.int .i64 i.op,.int .i64 i.to,.int .i64 i.a,.int .i64 i.b,.int .i64 i.c]))⟩→True:=fun _ _=>trivial
 by_cases t3:i.op=3∨i.op=4
 ·rw[if_pos t3]at hm
  by_cases a1:((0:Nat):Int)≤i.b
  ·by_cases a2:i.b<n
   ·have hm2:zCe n i↔decide (i.c=((0:Nat):Int))=true:=by rw[decide_eq_true_iff];exact hm.trans ⟨fun h=>h.2.2,fun h=>⟨a1,a2,h⟩⟩
    by_cases e3:i.op=((3:Nat):Int)
    ·simp(disch:=first|exact Xe|fail)only[zAF,decide_eq_true e3,↓Xa,Xb,Xc,↓reduceIte,Nat.reduceLT,Nat.reduceEqDiff,Nat.reduceBEq,Nat.reduceLeDiff,Nat.reduceAdd]
     simp(disch:=first|exact Xe|fail)only[zAF,zBt,zAN,decide_eq_true a1,decide_eq_true a2,zCJ,↓Xa,Xb,Xc,↓reduceIte,Nat.reduceLT,Nat.reduceEqDiff,Nat.reduceBEq,Nat.reduceLeDiff,Nat.reduceAdd]
     exact say _ hm2 _ _ n1
    ·have e4:i.op=((4:Nat):Int):=by omega
     simp(disch:=first|exact Xe|fail)only[zAF,decide_eq_false e3,decide_eq_true e4,↓Xa,Xb,Xc,↓reduceIte,Nat.reduceLT,Nat.reduceEqDiff,Nat.reduceBEq,Nat.reduceLeDiff,Nat.reduceAdd]
     simp(disch:=first|exact Xe|fail)only[zAF,zBt,zAN,decide_eq_true a1,decide_eq_true a2,zCJ,↓Xa,Xb,Xc,↓reduceIte,Nat.reduceLT,Nat.reduceEqDiff,Nat.reduceBEq,Nat.reduceLeDiff,Nat.reduceAdd]
     exact say _ hm2 _ _ n1
   ·have hb: ¬zCe n i:=fun h=>a2 (hm.1 h).2.1
    by_cases e3:i.op=((3:Nat):Int)
    ·simp(disch:=first|exact Xe|fail)only[zAF,decide_eq_true e3,↓Xa,Xb,Xc,↓reduceIte,Nat.reduceLT,Nat.reduceEqDiff,Nat.reduceBEq,Nat.reduceLeDiff,Nat.reduceAdd]
     simp(disch:=first|exact Xe|fail)only[zAF,zBt,zAN,decide_eq_true a1,decide_eq_false a2,zCJ,↓Xa,Xb,Xc,↓reduceIte,Nat.reduceLT,Nat.reduceEqDiff,Nat.reduceBEq,Nat.reduceLeDiff,Nat.reduceAdd]
     exact bad hb _ _ n1
    ·have e4:i.op=((4:Nat):Int):=by omega
     simp(disch:=first|exact Xe|fail)only[zAF,decide_eq_false e3,decide_eq_true e4,↓Xa,Xb,Xc,↓reduceIte,Nat.reduceLT,Nat.reduceEqDiff,Nat.reduceBEq,Nat.reduceLeDiff,Nat.reduceAdd]
     simp(disch:=first|exact Xe|fail)only[zAF,zBt,zAN,decide_eq_true a1,decide_eq_false a2,zCJ,↓Xa,Xb,Xc,↓reduceIte,Nat.reduceLT,Nat.reduceEqDiff,Nat.reduceBEq,Nat.reduceLeDiff,Nat.reduceAdd]
     exact bad hb _ _ n1
  ·have hb: ¬zCe n i:=fun h=>a1 (hm.1 h).1
   by_cases e3:i.op=((3:Nat):Int)
   ·simp(disch:=first|exact Xe|fail)only[zAF,decide_eq_true e3,↓Xa,Xb,Xc,↓reduceIte,Nat.reduceLT,Nat.reduceEqDiff,Nat.reduceBEq,Nat.reduceLeDiff,Nat.reduceAdd]
    simp(disch:=first|exact Xe|fail)only[zAF,zBt,zAN,decide_eq_false a1,zCJ,↓Xa,Xb,Xc,↓reduceIte,Nat.reduceLT,Nat.reduceEqDiff,Nat.reduceBEq,Nat.reduceLeDiff,Nat.reduceAdd]
    exact bad hb _ _ n1
   ·have e4:i.op=((4:Nat):Int):=by omega
    simp(disch:=first|exact Xe|fail)only[zAF,decide_eq_false e3,decide_eq_true e4,↓Xa,Xb,Xc,↓reduceIte,Nat.reduceLT,Nat.reduceEqDiff,Nat.reduceBEq,Nat.reduceLeDiff,Nat.reduceAdd]
    simp(disch:=first|exact Xe|fail)only[zAF,zBt,zAN,decide_eq_false a1,zCJ,↓Xa,Xb,Xc,↓reduceIte,Nat.reduceLT,Nat.reduceEqDiff,Nat.reduceBEq,Nat.reduceLeDiff,Nat.reduceAdd]
    exact bad hb _ _ n1
 rw[if_neg t3]at hm
 have e3: ¬i.op=((3:Nat):Int):=fun h=>t3 (.inl h)
 have e4: ¬i.op=((4:Nat):Int):=fun h=>t3 (.inr h)
 simp(disch:=first|exact Xe|fail)only[zAF,decide_eq_false e3,decide_eq_false e4,↓Xa,Xb,Xc,↓reduceIte,Nat.reduceLT,Nat.reduceEqDiff,Nat.reduceBEq,Nat.reduceLeDiff,Nat.reduceAdd]
 by_cases hb0:i.b=((0:Nat):Int)
 rotate_left
 ·simp(disch:=first|exact Xe|fail)only[zAV,decide_eq_false hb0,zCJ,↓Xa,Xb,Xc,↓reduceIte,Nat.reduceLT,Nat.reduceEqDiff,Nat.reduceBEq,Nat.reduceLeDiff,Nat.reduceAdd]
  exact bad (fun h=>hb0 (hm.1 h).1) _ _ n1
 have hm:zCe n i↔(if i.op=5∨i.op=6 then i.c≠0∧ -512≤i.c∧i.c≤512 else if i.op=7∨i.op=8 then 1≤i.c∧i.c≤64 else i.c=0):=hm.trans ⟨fun h=>h.2,fun h=>⟨hb0,h⟩⟩
 simp(disch:=first|exact Xe|fail)only[zAV,decide_eq_true hb0,Bool.not_true,↓Xa,Xb,Xc,↓reduceIte,Nat.reduceLT,Nat.reduceEqDiff,Nat.reduceBEq,Nat.reduceLeDiff,Nat.reduceAdd]
 by_cases t5:i.op=5∨i.op=6
 ·rw[if_pos t5]at hm
  have c56:i.op=((5:Nat):Int)∨(¬i.op=((5:Nat):Int)∧i.op=((6:Nat):Int)):=by omega
  by_cases a0:i.c=((0:Nat):Int)
  ·have hb: ¬zCe n i:=fun h=>(hm.1 h).1 a0
   rcases c56 with e5|⟨e5,e6⟩
   ·simp(disch:=first|exact Xe|fail)only[zAF,decide_eq_true e5,↓Xa,Xb,Xc,↓reduceIte,Nat.reduceLT,Nat.reduceEqDiff,Nat.reduceBEq,Nat.reduceLeDiff,Nat.reduceAdd]
    simp(disch:=first|exact Xe|fail)only[zAV,zBt,zDc,decide_eq_true a0,Bool.not_true,zCJ,↓Xa,Xb,Xc,↓reduceIte,Nat.reduceLT,Nat.reduceEqDiff,Nat.reduceBEq,Nat.reduceLeDiff,Nat.reduceAdd]
    exact bad hb _ _ n1
   ·simp(disch:=first|exact Xe|fail)only[zAF,decide_eq_false e5,decide_eq_true e6,↓Xa,Xb,Xc,↓reduceIte,Nat.reduceLT,Nat.reduceEqDiff,Nat.reduceBEq,Nat.reduceLeDiff,Nat.reduceAdd]
    simp(disch:=first|exact Xe|fail)only[zAV,zBt,zDc,decide_eq_true a0,Bool.not_true,zCJ,↓Xa,Xb,Xc,↓reduceIte,Nat.reduceLT,Nat.reduceEqDiff,Nat.reduceBEq,Nat.reduceLeDiff,Nat.reduceAdd]
    exact bad hb _ _ n1
  by_cases a1: -512≤i.c
  ·have hm2:zCe n i↔decide (i.c≤((512:Nat):Int))=true:=by rw[decide_eq_true_iff];exact hm.trans ⟨fun h=>h.2.2,fun h=>⟨a0,a1,h⟩⟩
   rcases c56 with e5|⟨e5,e6⟩
   ·simp(disch:=first|exact Xe|fail)only[zAF,decide_eq_true e5,↓Xa,Xb,Xc,↓reduceIte,Nat.reduceLT,Nat.reduceEqDiff,Nat.reduceBEq,Nat.reduceLeDiff,Nat.reduceAdd]
    simp(disch:=first|exact Xe|fail)only[zAV,zBt,zDc,decide_eq_false a0,decide_eq_true a1,Bool.not_false,zCJ,↓Xa,Xb,Xc,↓reduceIte,Nat.reduceLT,Nat.reduceEqDiff,Nat.reduceBEq,Nat.reduceLeDiff,Nat.reduceAdd]
    exact say _ hm2 _ _ n1
   ·simp(disch:=first|exact Xe|fail)only[zAF,decide_eq_false e5,decide_eq_true e6,↓Xa,Xb,Xc,↓reduceIte,Nat.reduceLT,Nat.reduceEqDiff,Nat.reduceBEq,Nat.reduceLeDiff,Nat.reduceAdd]
    simp(disch:=first|exact Xe|fail)only[zAV,zBt,zDc,decide_eq_false a0,decide_eq_true a1,Bool.not_false,zCJ,↓Xa,Xb,Xc,↓reduceIte,Nat.reduceLT,Nat.reduceEqDiff,Nat.reduceBEq,Nat.reduceLeDiff,Nat.reduceAdd]
    exact say _ hm2 _ _ n1
  ·have hb: ¬zCe n i:=fun h=>a1 (hm.1 h).2.1
   rcases c56 with e5|⟨e5,e6⟩
   ·simp(disch:=first|exact Xe|fail)only[zAF,decide_eq_true e5,↓Xa,Xb,Xc,↓reduceIte,Nat.reduceLT,Nat.reduceEqDiff,Nat.reduceBEq,Nat.reduceLeDiff,Nat.reduceAdd]
    simp(disch:=first|exact Xe|fail)only[zAV,zBt,zDc,decide_eq_false a0,decide_eq_false a1,Bool.not_false,zCJ,↓Xa,Xb,Xc,↓reduceIte,Nat.reduceLT,Nat.reduceEqDiff,Nat.reduceBEq,Nat.reduceLeDiff,Nat.reduceAdd]
    exact bad hb _ _ n1
   ·simp(disch:=first|exact Xe|fail)only[zAF,decide_eq_false e5,decide_eq_true e6,↓Xa,Xb,Xc,↓reduceIte,Nat.reduceLT,Nat.reduceEqDiff,Nat.reduceBEq,Nat.reduceLeDiff,Nat.reduceAdd]
    simp(disch:=first|exact Xe|fail)only[zAV,zBt,zDc,decide_eq_false a0,decide_eq_false a1,Bool.not_false,zCJ,↓Xa,Xb,Xc,↓reduceIte,Nat.reduceLT,Nat.reduceEqDiff,Nat.reduceBEq,Nat.reduceLeDiff,Nat.reduceAdd]
    exact bad hb _ _ n1
 rw[if_neg t5]at hm
 have e5: ¬i.op=((5:Nat):Int):=fun h=>t5 (.inl h)
 have e6: ¬i.op=((6:Nat):Int):=fun h=>t5 (.inr h)
 simp(disch:=first|exact Xe|fail)only[zAF,decide_eq_false e5,decide_eq_false e6,↓Xa,Xb,Xc,↓reduceIte,Nat.reduceLT,Nat.reduceEqDiff,Nat.reduceBEq,Nat.reduceLeDiff,Nat.reduceAdd]
 by_cases t7:i.op=7∨i.op=8
 ·rw[if_pos t7]at hm
  have c78:i.op=((7:Nat):Int)∨(¬i.op=((7:Nat):Int)∧i.op=((8:Nat):Int)):=by omega
  by_cases a1:((1:Nat):Int)≤i.c
  ·have hm2:zCe n i↔decide (i.c≤((64:Nat):Int))=true:=by rw[decide_eq_true_iff];exact hm.trans ⟨fun h=>h.2,fun h=>⟨a1,h⟩⟩
   rcases c78 with e7|⟨e7,e8⟩
   ·simp(disch:=first|exact Xe|fail)only[zAF,decide_eq_true e7,↓Xa,Xb,Xc,↓reduceIte,Nat.reduceLT,Nat.reduceEqDiff,Nat.reduceBEq,Nat.reduceLeDiff,Nat.reduceAdd]
    simp(disch:=first|exact Xe|fail)only[zBt,zDc,decide_eq_true a1,zCJ,↓Xa,Xb,Xc,↓reduceIte,Nat.reduceLT,Nat.reduceEqDiff,Nat.reduceBEq,Nat.reduceLeDiff,Nat.reduceAdd]
    exact say _ hm2 _ _ n1
   ·simp(disch:=first|exact Xe|fail)only[zAF,decide_eq_false e7,decide_eq_true e8,↓Xa,Xb,Xc,↓reduceIte,Nat.reduceLT,Nat.reduceEqDiff,Nat.reduceBEq,Nat.reduceLeDiff,Nat.reduceAdd]
    simp(disch:=first|exact Xe|fail)only[zBt,zDc,decide_eq_true a1,zCJ,↓Xa,Xb,Xc,↓reduceIte,Nat.reduceLT,Nat.reduceEqDiff,Nat.reduceBEq,Nat.reduceLeDiff,Nat.reduceAdd]
    exact say _ hm2 _ _ n1
  ·have hb: ¬zCe n i:=fun h=>a1 (hm.1 h).1
   rcases c78 with e7|⟨e7,e8⟩
   ·simp(disch:=first|exact Xe|fail)only[zAF,decide_eq_true e7,↓Xa,Xb,Xc,↓reduceIte,Nat.reduceLT,Nat.reduceEqDiff,Nat.reduceBEq,Nat.reduceLeDiff,Nat.reduceAdd]
    simp(disch:=first|exact Xe|fail)only[zBt,zDc,decide_eq_false a1,zCJ,↓Xa,Xb,Xc,↓reduceIte,Nat.reduceLT,Nat.reduceEqDiff,Nat.reduceBEq,Nat.reduceLeDiff,Nat.reduceAdd]
    exact bad hb _ _ n1
   ·simp(disch:=first|exact Xe|fail)only[zAF,decide_eq_false e7,decide_eq_true e8,↓Xa,Xb,Xc,↓reduceIte,Nat.reduceLT,Nat.reduceEqDiff,Nat.reduceBEq,Nat.reduceLeDiff,Nat.reduceAdd]
    simp(disch:=first|exact Xe|fail)only[zBt,zDc,decide_eq_false a1,zCJ,↓Xa,Xb,Xc,↓reduceIte,Nat.reduceLT,Nat.reduceEqDiff,Nat.reduceBEq,Nat.reduceLeDiff,Nat.reduceAdd]
    exact bad hb _ _ n1
 rw[if_neg t7]at hm
 have e7: ¬i.op=((7:Nat):Int):=fun h=>t7 (.inl h)
 have e8: ¬i.op=((8:Nat):Int):=fun h=>t7 (.inr h)
 have hm2:zCe n i↔decide (i.c=((0:Nat):Int))=true:=by rw[decide_eq_true_iff];exact hm
 simp(disch:=first|exact Xe|fail)only[zAF,decide_eq_false e7,decide_eq_false e8,zCJ,↓Xa,Xb,Xc,↓reduceIte,Nat.reduceLT,Nat.reduceEqDiff,Nat.reduceBEq,Nat.reduceLeDiff,Nat.reduceAdd]
 exact say _ hm2 _ _ n1
theorem zPZ(p:PR)(hp:p.ok): ∃k:Int,PFn Tryz.prog 88 [zCV p] (.tup [.int .i64 k,.bool (!decide (zBV p))]):=by
 obtain⟨hp1,hp2,hp3,hp4,hp5,hp6⟩:=hp
 have lc:p.code.length<9223372036854775808:=by omega
 have lo:p.outs.length<9223372036854775808:=by omega
 by_cases hh:zC5 p
 rotate_left
 ·refine⟨-1,fun H Q hq=>?_⟩
  rw[decide_eq_false (fun h=>hh h.1)]at hq
  have out: ∀(q:Nat)(x:Option ABlk),H q=none→SetR Q (.tup [.int .i64 (-1),.bool true]) (H.upd q x):=fun q x h=>SetR.dropTo ((Le.refl H).updB h) (SetR.now hq)
  refine zSC (by simp) ?_
  simp(disch:=first|exact Xe|fail)only[zPK,zAq,↓Xa,Xb,Xc,↓reduceIte,Nat.reduceLT,Nat.reduceEqDiff,Nat.reduceBEq,Nat.reduceLeDiff,Nat.reduceAdd]
  refine zAD fun p1 hp1=>?_
  have n1:=hp1
  unfold zC5 at hh
  by_cases h1:p.ins<((1:Nat):Int)
  ·simp(disch:=first|exact Xe|fail)only[zAN,decide_eq_true h1,zNp,↓Xa,Xb,Xc,↓reduceIte,Nat.reduceLT,Nat.reduceEqDiff,Nat.reduceBEq,Nat.reduceLeDiff,Nat.reduceAdd]
   exact out _ _ n1
  by_cases h2:p.regs<p.ins
  ·simp(disch:=first|exact Xe|fail)only[zAN,zAb,decide_eq_false h1,decide_eq_true h2,zNp,↓Xa,Xb,Xc,↓reduceIte,Nat.reduceLT,Nat.reduceEqDiff,Nat.reduceBEq,Nat.reduceLeDiff,Nat.reduceAdd]
   exact out _ _ n1
  by_cases h3:((128:Nat):Int)<p.regs
  ·simp(disch:=first|exact Xe|fail)only[zAN,zAb,decide_eq_false h1,decide_eq_false h2,decide_eq_true h3,zNp,↓Xa,Xb,Xc,↓reduceIte,Nat.reduceLT,Nat.reduceEqDiff,Nat.reduceBEq,Nat.reduceLeDiff,Nat.reduceAdd]
   exact out _ _ n1
  by_cases h4:((16384:Nat):Int)<((p.code.length:Nat):Int)
  ·simp(disch:=first|exact Xe|fail)only[zAN,zAb,decide_eq_false h1,decide_eq_false h2,decide_eq_false h3,zAZ,lc,decide_eq_true h4,zNp,↓Xa,Xb,Xc,↓reduceIte,Nat.reduceLT,Nat.reduceEqDiff,Nat.reduceBEq,Nat.reduceLeDiff,Nat.reduceAdd]
   exact out _ _ n1
  by_cases h5:((p.outs.length:Nat):Int)<((1:Nat):Int)
  ·simp(disch:=first|exact Xe|fail)only[zAN,zAb,decide_eq_false h1,decide_eq_false h2,decide_eq_false h3,zAZ,lc,decide_eq_false h4,zAY,lo,decide_eq_true h5,zNp,↓Xa,Xb,Xc,↓reduceIte,Nat.reduceLT,Nat.reduceEqDiff,Nat.reduceBEq,Nat.reduceLeDiff,Nat.reduceAdd]
   exact out _ _ n1
  have h6:((128:Nat):Int)<((p.outs.length:Nat):Int):=by
   have:=fun h=>hh h
   omega
  simp(disch:=first|exact Xe|fail)only[zAN,zAb,decide_eq_false h1,decide_eq_false h2,decide_eq_false h3,zAZ,lc,decide_eq_false h4,zAY,lo,decide_eq_false h5,decide_eq_true h6,zNp,↓Xa,Xb,Xc,↓reduceIte,Nat.reduceLT,Nat.reduceEqDiff,Nat.reduceBEq,Nat.reduceLeDiff,Nat.reduceAdd]
  exact out _ _ n1
 ·have hh':=hh
  unfold zC5 at hh'
  have h1: ¬p.ins<((1:Nat):Int):=by omega
  have h2: ¬p.regs<p.ins:=by omega
  have h3: ¬((128:Nat):Int)<p.regs:=by omega
  have h4: ¬((16384:Nat):Int)<((p.code.length:Nat):Int):=by omega
  have h5: ¬((p.outs.length:Nat):Int)<((1:Nat):Int):=by omega
  have h6: ¬((128:Nat):Int)<((p.outs.length:Nat):Int):=by omega
  have start: ∀{H:AHeap}{Q:AV→AHeap→Prop},(∀p1,H p1=none→W Tryz.prog (zBZ (zBZ zPK)) (zFg zNp Q) ⟨[],[(1,.ptr p1 4 0),(38,.bool false)],H.upd p1 (some (.row 25 0 [.int .i64 p.ins,.int .i64 p.regs,zAf p.code false,zAa p.outs false]))⟩)→Run Tryz.prog 88 [zCV p] H Q:=by
   intro H Q hw
   refine zSC (by simp) ?_
   simp(disch:=first|exact Xe|fail)only[zPK,zAq,↓Xa,Xb,Xc,↓reduceIte,Nat.reduceLT,Nat.reduceEqDiff,Nat.reduceBEq,Nat.reduceLeDiff,Nat.reduceAdd]
   refine zAD fun p1 hp1=>?_
   have n1:=hp1
   have r:=hw p1 n1
   simp(disch:=first|exact Xe|fail)only[zBZ,zPK,↓Xa,Xb,Xc,↓reduceIte,Nat.reduceLT,Nat.reduceEqDiff,Nat.reduceBEq,Nat.reduceLeDiff,Nat.reduceAdd]at r
   simp(disch:=first|exact Xe|fail)only[zAN,zAb,decide_eq_false h1,decide_eq_false h2,decide_eq_false h3,zAZ,lc,decide_eq_false h4,zAY,lo,decide_eq_false h5,decide_eq_false h6,↓Xa,Xb,Xc,↓reduceIte,Nat.reduceLT,Nat.reduceEqDiff,Nat.reduceBEq,Nat.reduceLeDiff,Nat.reduceAdd]
   exact r
  by_cases ho: ∀n,n∈p.outs→0≤n∧n<p.regs
  rotate_left
  ·refine⟨-1,fun H Q hq=>start fun p1 n1=>?_⟩
   rw[decide_eq_false (fun h=>ho h.2.1)]at hq
   simp(disch:=first|exact Xe|fail)only[zBZ,zPK,↓Xa,Xb,Xc,↓reduceIte,Nat.reduceLT,Nat.reduceEqDiff,Nat.reduceBEq,Nat.reduceLeDiff,Nat.reduceAdd]
   refine zAO (fun s:Nat=>⟨[],[(1,.ptr p1 4 0),(4,.int .i64 s)],H.upd p1 (some (.row 25 0 [.int .i64 p.ins,.int .i64 p.regs,zAf p.code false,zAa p.outs false]))⟩)
    (fun s=>s≤p.outs.length∧∀j(h:j<p.outs.length),j<s→0≤p.outs[j]∧p.outs[j]<p.regs) (fun s=>p.outs.length-s) 0 (Settle.now rfl) ⟨Nat.zero_le _,fun j _ h=>absurd h (by omega)⟩ ?_
   rintro s ⟨g1,g2⟩
   by_cases hi:s<p.outs.length
   ·simp(disch:=first|exact Xe|fail)only[hi,zAY,lo,zBJ,zA3,↓Xa,Xb,Xc,↓reduceIte,Nat.reduceLT,Nat.reduceEqDiff,Nat.reduceBEq,Nat.reduceLeDiff,Nat.reduceAdd]
    by_cases c1:p.outs[s]<((0:Nat):Int)
    ·simp(disch:=first|exact Xe|fail)only[zAN,decide_eq_true c1,zNp,↓Xa,Xb,Xc,↓reduceIte,Nat.reduceLT,Nat.reduceEqDiff,Nat.reduceBEq,Nat.reduceLeDiff,Nat.reduceAdd]
     exact SetR.dropTo ((Le.refl H).updB n1) (SetR.now hq)
    by_cases c2:p.regs≤p.outs[s]
    ·simp(disch:=first|exact Xe|fail)only[zAN,zBt,hi,zBJ,zA3,decide_eq_false c1,decide_eq_true c2,zNp,↓Xa,Xb,Xc,↓reduceIte,Nat.reduceLT,Nat.reduceEqDiff,Nat.reduceBEq,Nat.reduceLeDiff,Nat.reduceAdd]
     exact SetR.dropTo ((Le.refl H).updB n1) (SetR.now hq)
    simp(disch:=first|exact Xe|fail)only[zAN,zBt,hi,zBJ,zA3,decide_eq_false c1,decide_eq_false c2,↓Xa,Xb,Xc,↓reduceIte,Nat.reduceLT,Nat.reduceEqDiff,Nat.reduceBEq,Nat.reduceLeDiff,Nat.reduceAdd]
    refine Settle.now ⟨s+1,by omega,⟨by omega,fun j hj hjs=>?_⟩,rfl⟩
    by_cases e:j=s
    ·subst e;omega
    ·exact g2 j hj (by omega)
   ·exact absurd (fun n hn=>by
     obtain⟨j,hj,rfl⟩:=List.getElem_of_mem hn
     exact g2 j hj (by omega)) ho
  have start2: ∀{H:AHeap}{Q:AV→AHeap→Prop},(∀p1,H p1=none→W Tryz.prog (zBZ (zBZ (zBZ zPK))) (zFg zNp Q) ⟨[],[(1,.ptr p1 4 0),(4,.int .i64 p.outs.length),(43,.bool false)],H.upd p1 (some (.row 25 0 [.int .i64 p.ins,.int .i64 p.regs,zAf p.code false,zAa p.outs false]))⟩)→Run Tryz.prog 88 [zCV p] H Q:=by
   intro H Q hw
   refine start fun p1 n1=>?_
   have r:=hw p1 n1
   simp(disch:=first|exact Xe|fail)only[zBZ,zPK,↓Xa,Xb,Xc,↓reduceIte,Nat.reduceLT,Nat.reduceEqDiff,Nat.reduceBEq,Nat.reduceLeDiff,Nat.reduceAdd]at r
   simp(disch:=first|exact Xe|fail)only[zBZ,zPK,↓Xa,Xb,Xc,↓reduceIte,Nat.reduceLT,Nat.reduceEqDiff,Nat.reduceBEq,Nat.reduceLeDiff,Nat.reduceAdd]
   refine zAO (fun s:Nat=>⟨[],[(1,.ptr p1 4 0),(4,.int .i64 s)],H.upd p1 (some (.row 25 0 [.int .i64 p.ins,.int .i64 p.regs,zAf p.code false,zAa p.outs false]))⟩)
    (fun s=>s≤p.outs.length) (fun s=>p.outs.length-s) 0 (Settle.now rfl) (Nat.zero_le _) ?_
   rintro s g1
   by_cases hi:s<p.outs.length
   ·have hm:=ho _ (List.getElem_mem hi)
    have c1: ¬p.outs[s]<((0:Nat):Int):=by omega
    have c2: ¬p.regs≤p.outs[s]:=by omega
    simp(disch:=first|exact Xe|fail)only[hi,zAY,lo,zBJ,zA3,↓Xa,Xb,Xc,↓reduceIte,Nat.reduceLT,Nat.reduceEqDiff,Nat.reduceBEq,Nat.reduceLeDiff,Nat.reduceAdd]
    simp(disch:=first|exact Xe|fail)only[zAN,zBt,hi,zBJ,zA3,decide_eq_false c1,decide_eq_false c2,↓Xa,Xb,Xc,↓reduceIte,Nat.reduceLT,Nat.reduceEqDiff,Nat.reduceBEq,Nat.reduceLeDiff,Nat.reduceAdd]
    exact Settle.now ⟨s+1,by omega,by omega,rfl⟩
   ·obtain rfl:s=p.outs.length:=by omega
    simp(disch:=first|exact Xe|fail)only[hi,zAY,lo,↓Xa,Xb,Xc,↓reduceIte,Nat.reduceLT,Nat.reduceEqDiff,Nat.reduceBEq,Nat.reduceLeDiff,Nat.reduceAdd]
    refine Settle.now ?_
    simp(disch:=first|exact Xe|fail)only[↓Xa,Xb,Xc,↓reduceIte,Nat.reduceLT,Nat.reduceEqDiff,Nat.reduceBEq,Nat.reduceLeDiff,Nat.reduceAdd]
    exact r
  rcases zIt (P:=fun j=> ∃h:j<p.code.length,¬zCe p.regs (p.code[j])) 0 p.code.length with⟨c,_,hc,⟨hc',hbad⟩,hmin⟩|hall
  ·refine⟨(c:Int),fun H Q hq=>start2 fun p1 n1=>?_⟩
   rw[decide_eq_false (fun h=>hbad (h.2.2 _ (List.getElem_mem hc')))]at hq
   simp(disch:=first|exact Xe|fail)only[zBZ,zPK,↓Xa,Xb,Xc,↓reduceIte,Nat.reduceLT,Nat.reduceEqDiff,Nat.reduceBEq,Nat.reduceLeDiff,Nat.reduceAdd]
   refine zAO (fun s:Nat=>⟨[],[(1,.ptr p1 4 0),(5,.int .i64 s)],H.upd p1 (some (.row 25 0 [.int .i64 p.ins,.int .i64 p.regs,zAf p.code false,zAa p.outs false]))⟩)
    (fun s=>s≤c) (fun s=>p.code.length-s) 0 (Settle.now rfl) (Nat.zero_le _) ?_
   rintro s g1
   have hs:s<p.code.length:=by omega
   have mf:=zPf (p.code[s]) p.regs
   simp(disch:=first|exact Xe|fail)only[hs,zAZ,lc,zBN,zBb,↓Xa,Xb,Xc,↓reduceIte,Nat.reduceLT,Nat.reduceEqDiff,Nat.reduceBEq,Nat.reduceLeDiff,Nat.reduceAdd]
   by_cases e:s=c
   ·subst e
    rw[decide_eq_false hbad]at mf
    refine mf.call ?_
    simp(disch:=first|exact Xe|fail)only[zNp,↓Xa,Xb,Xc,↓reduceIte,Nat.reduceLT,Nat.reduceEqDiff,Nat.reduceBEq,Nat.reduceLeDiff,Nat.reduceAdd]
    exact SetR.dropTo ((Le.refl H).updB n1) (SetR.now hq)
   ·have hok:zCe p.regs (p.code[s]):=Classical.not_not.1 fun h=>hmin s (by omega) (by omega) ⟨hs,h⟩
    rw[decide_eq_true hok]at mf
    refine mf.call ?_
    simp(disch:=first|exact Xe|fail)only[↓Xa,Xb,Xc,↓reduceIte,Nat.reduceLT,Nat.reduceEqDiff,Nat.reduceBEq,Nat.reduceLeDiff,Nat.reduceAdd]
    exact Settle.now ⟨s+1,by omega,by omega,rfl⟩
  ·refine⟨0,fun H Q hq=>start2 fun p1 n1=>?_⟩
   have hok: ∀i,i∈p.code→zCe p.regs i:=fun i hi=>by
    obtain⟨j,hj,rfl⟩:=List.getElem_of_mem hi
    exact Classical.not_not.1 fun h=>hall j (by omega) (by omega) ⟨hj,h⟩
   rw[decide_eq_true (show zBV p from⟨hh,ho,hok⟩)]at hq
   simp(disch:=first|exact Xe|fail)only[zBZ,zPK,↓Xa,Xb,Xc,↓reduceIte,Nat.reduceLT,Nat.reduceEqDiff,Nat.reduceBEq,Nat.reduceLeDiff,Nat.reduceAdd]
   refine zAO (fun s:Nat=>⟨[],[(1,.ptr p1 4 0),(5,.int .i64 s)],H.upd p1 (some (.row 25 0 [.int .i64 p.ins,.int .i64 p.regs,zAf p.code false,zAa p.outs false]))⟩)
    (fun s=>s≤p.code.length) (fun s=>p.code.length-s) 0 (Settle.now rfl) (Nat.zero_le _) ?_
   rintro s g1
   by_cases hs:s<p.code.length
   ·have mf:=zPf (p.code[s]) p.regs
    rw[decide_eq_true (hok _ (List.getElem_mem hs))]at mf
    simp(disch:=first|exact Xe|fail)only[hs,zAZ,lc,zBN,zBb,↓Xa,Xb,Xc,↓reduceIte,Nat.reduceLT,Nat.reduceEqDiff,Nat.reduceBEq,Nat.reduceLeDiff,Nat.reduceAdd]
    refine mf.call ?_
    simp(disch:=first|exact Xe|fail)only[↓Xa,Xb,Xc,↓reduceIte,Nat.reduceLT,Nat.reduceEqDiff,Nat.reduceBEq,Nat.reduceLeDiff,Nat.reduceAdd]
    exact Settle.now ⟨s+1,by omega,by omega,rfl⟩
   ·simp(disch:=first|exact Xe|fail)only[hs,zAZ,lc,↓Xa,Xb,Xc,↓reduceIte,Nat.reduceLT,Nat.reduceEqDiff,Nat.reduceBEq,Nat.reduceLeDiff,Nat.reduceAdd]
    refine Settle.now ?_
    simp(disch:=first|exact Xe|fail)only[zNp,↓Xa,Xb,Xc,↓reduceIte,Nat.reduceLT,Nat.reduceEqDiff,Nat.reduceBEq,Nat.reduceLeDiff,Nat.reduceAdd]
    exact SetR.dropTo ((Le.refl H).updB n1) (SetR.now hq)
theorem zNx(p:PR)(hp:p.ok):PFn Tryz.prog 19 [zCV p] (.bool (decide (zBV p))):=by
 intro H Q hq
 obtain⟨k,hf⟩:=zPZ p hp
 refine zYT (by simp) ?_
 simp(disch:=first|exact Xe|fail)only[zhi,zAq,↓Xa,Xb,Xc,↓reduceIte,Nat.reduceLT,Nat.reduceEqDiff,Nat.reduceBEq,Nat.reduceLeDiff,Nat.reduceAdd]
 refine zAD fun p1 hp1=>?_
 have n1:=hp1
 simp(disch:=first|exact Xe|fail)only[zBL,↓Xa,Xb,Xc,↓reduceIte,Nat.reduceLT,Nat.reduceEqDiff,Nat.reduceBEq,Nat.reduceLeDiff,Nat.reduceAdd]
 refine hf.call ?_
 simp(disch:=first|exact Xe|fail)only[↓Xa,Xb,Xc,↓reduceIte,Nat.reduceLT,Nat.reduceEqDiff,Nat.reduceBEq,Nat.reduceLeDiff,Nat.reduceAdd]
 cases h:decide (zBV p)
 ·rw[h]at hq
  simp(disch:=first|exact Xe|fail)only[Bool.not_false,zgv,↓Xa,Xb,Xc,↓reduceIte,Nat.reduceLT,Nat.reduceEqDiff,Nat.reduceBEq,Nat.reduceLeDiff,Nat.reduceAdd]
  exact SetR.dropTo ((Le.refl H).updB n1) (SetR.now hq)
 ·rw[h]at hq
  simp(disch:=first|exact Xe|fail)only[Bool.not_true,zgv,↓Xa,Xb,Xc,↓reduceIte,Nat.reduceLT,Nat.reduceEqDiff,Nat.reduceBEq,Nat.reduceLeDiff,Nat.reduceAdd]
  exact SetR.dropTo ((Le.refl H).updB n1) (SetR.now hq)
end Go.Proofs.YtmndejlpfmmaiaaGreatDoor.Fw
namespace Go.Proofs.YtmndejlpfmmaiaaGreatDoor.Ma
def tz(n:Nat):Nat:=if h:n=0∨n%2=1 then 0 else tz (n / 2)+1
termination_by n
decreasing_by omega
theorem zWL{n:Nat}(h:n%2=1):tz n=0:=by rw[tz];simp[h]
theorem zZn:tz 0=0:=by rw[tz];simp
theorem zWy{n:Nat}(h:0<n):tz (2*n)=tz n+1:=by
 rw[tz,dif_neg (by omega),Nat.mul_div_cancel_left _ (by omega)]
theorem zdI(k m:Nat):tz (2^k*(2*m+1))=k:=by
 induction k with
 |zero=>rw[Nat.pow_zero,Nat.one_mul];exact zWL (by omega)
 |succ k ih=>
  have e:2^(k+1)*(2*m+1)=2*(2^k*(2*m+1)):=by rw[Nat.pow_succ,Nat.mul_comm (2^k) 2,Nat.mul_assoc]
  rw[e,zWy (Nat.mul_pos (Nat.pow_pos (by omega)) (by omega)),ih]
theorem zJH(n:Nat):0<n→∃m,n=2^tz n*(2*m+1):=by
 induction n using Nat.strongRecOn with
 |_ n ih=>
  intro h
  by_cases ho:n%2=1
  ·exact⟨n / 2,by rw[zWL ho,Nat.pow_zero,Nat.one_mul];omega⟩
  ·obtain⟨m,hm⟩:=ih (n / 2) (by omega) (by omega)
   have e:n=2*(n / 2):=by omega
   refine⟨m,?_⟩
   have e2:tz n=tz (n / 2)+1:=by
    conv=>lhs;rw[e]
    exact zWy (by omega)
   rw[e2,Nat.pow_succ,Nat.mul_comm (2^_) 2,Nat.mul_assoc,← hm]
   exact e
theorem zVn{n k:Nat}(h:0<n)(hn:n<2^k):tz n<k:=by
 obtain⟨m,hm⟩:=zJH n h
 have h1:2^tz n≤n:=by
  conv=>rhs;rw[hm]
  exact Nat.le_mul_of_pos_right _ (by omega)
 exact(Nat.pow_lt_pow_iff_right (by omega)).1 (Nat.lt_of_le_of_lt h1 hn)
theorem zZy{x:Nat}(h:0<x)(hx:x<4294967296):x &&& (4294967296-x)=2^tz x:=by
 obtain⟨m,hm⟩:=zJH x h
 have hk:=zVn (k:=32) h hx
 generalize tz x=k at*
 have hp:(4294967296:Nat)=2^k*2^(32-k):=by rw[← Nat.pow_add,show k+(32-k)=32 by omega]
 have hlt:2*m+1<2^(32-k):=by
  rw[hm,hp]at hx
  exact Nat.lt_of_mul_lt_mul_left hx
 obtain⟨j,hj⟩: ∃j,32-k=j+1:=⟨31-k,by omega⟩
 rw[hj]at hlt hp
 have hm2:m<2^j:=by rw[Nat.pow_succ]at hlt;omega
 have e1:x=(2*m+1) <<< k:=by rw[Nat.shiftLeft_eq,hm,Nat.mul_comm]
 have e2:4294967296-x=(2*(2^j-(m+1))+1) <<< k:=by
  rw[Nat.shiftLeft_eq,hm,hp,← Nat.mul_sub,Nat.mul_comm]
  congr 1
  rw[Nat.pow_succ];omega
 rw[e2]
 conv=>lhs;lhs;rw[e1]
 rw[← Nat.shiftLeft_and_distrib,Nat.shiftLeft_eq]
 have e3:(2*m+1) &&& (2*(2^j-(m+1))+1)=1:=by
  apply Nat.eq_of_testBit_eq
  intro i
  rw[Nat.testBit_and]
  cases i with
  |zero=>simp
  |succ i=>
   have a1:(2*m+1).testBit (i+1)=m.testBit i:=by rw[Nat.testBit_succ];congr 1;omega
   have a2:(2*(2^j-(m+1))+1).testBit (i+1)=(2^j-(m+1)).testBit i:=by rw[Nat.testBit_succ];congr 1;omega
   rw[a1,a2,Nat.testBit_two_pow_sub_succ hm2]
   cases m.testBit i<;>simp[Nat.testBit_succ]
 rw[e3,Nat.one_mul]
def deB:List Nat:=[0,1,28,2,29,14,24,3,30,22,20,15,25,17,4,8,31,27,13,23,21,19,16,7,26,12,18,6,11,5,10,9]
theorem zcW{k:Nat}(h:k<32):deB.getD (2^k*125613361%4294967296 / 134217728) 0=k:=by
 have: ∀k,k<32→deB.getD (2^k*125613361%4294967296 / 134217728) 0=k:=by decide
 exact this k h
theorem zbw{k:Nat}(h:k<32):2^k*125613361%4294967296 / 134217728<32:=by omega
theorem zUa{a:List Nat}{i:Nat}(ha:Lim 4294967296 a)(hi:i<a.length)(h0:val 4294967296 (a.take i)=0)(hx:0<a.getD i 0):tz (val 4294967296 a)=32*i+tz (a.getD i 0)∧0<val 4294967296 a:=by
 have hxl:=ha.getD (by omega) i
 have hk:=zVn (k:=32) hx hxl
 obtain⟨m,hm⟩:=zJH _ hx
 have e:=zCc 4294967296 a i (by omega)
 rw[h0,Nat.zero_add,zBr 4294967296 hi]at e
 generalize a.getD i 0=x at*
 generalize val 4294967296 (a.drop (i+1))=r at*
 generalize tz x=k at*
 obtain⟨j,hj⟩: ∃j,32=k+(j+1):=⟨31-k,by omega⟩
 have e2:val 4294967296 a=2^(32*i+k)*(2*(m+2^j*r)+1):=by
  rw[e,hm,show(4294967296:Nat)=2^32 from rfl,← Nat.pow_mul,Nat.pow_add,Nat.mul_assoc]
  congr 1
  conv=>lhs;rw[hj]
  rw[Nat.pow_add,Nat.pow_succ,Nat.mul_assoc,← Nat.mul_add]
  congr 1
  rw[Nat.mul_add 2,← Nat.mul_assoc 2,Nat.mul_comm 2 (2^j)]
  omega
 exact⟨by rw[e2,zdI],by rw[e2];exact Nat.mul_pos (Nat.pow_pos (by omega)) (by omega)⟩
end Go.Proofs.YtmndejlpfmmaiaaGreatDoor.Ma
namespace Go.Proofs.YtmndejlpfmmaiaaGreatDoor.Fw
open Go Go.Proofs.YtmndejlpfmmaiaaGreatDoor.Ma
set_option maxRecDepth 20000
def zaJ:List AV:=deB.map fun(n:Nat)=>AV.int .u8 (n:Int)
def TzH(H:AHeap):Prop:=H 0=some (.glob 0 zaJ)
theorem TzH.le{H H':AHeap}(h:TzH H)(hl:Le H H'):TzH H':=hl _ _ h
theorem zZr{i:Nat}(h:i<32):(zaJ.drop i).take 1=[.int .u8 ((deB.getD i 0:Nat):Int)]:=by
 have hl:zaJ.length=32:=rfl
 rw[List.drop_eq_getElem_cons (by omega),List.take_succ_cons,List.take_zero]
 simp only[zaJ,List.getElem_map]
 rw[List.getD_eq_getElem?_getD,List.getElem?_eq_getElem (show i<deB.length from h),Option.getD_some]
theorem zXF{g n es i:Nat}{K:AV→Prop}{cells:List AV}(h:i<n):zew g n es K (i:Int) (some (.glob g cells))=K (.ptr g cells.length (i*es)):=by
 simp[zew,h]
theorem zTM{H:AHeap}{x:Nat}{K:AV→AHeap→Prop}(hH:TzH H)(h0:0<x)(hx:x<4294967296)(k:K (.int .i64 ((tz x:Nat):Int)) H):Run Tryz.prog 225 [.int .u32 (x:Int)] H K:=by
 refine zTh (by simp) ?_
 have hH':H 0=some (.glob 0 zaJ):=hH
 have hk:=zVn (k:=32) h0 hx
 have hlt:=zbw hk
 have hat:=zcW hk
 have han:=zZy h0 hx
 generalize tz x=t at*
 have hne: ¬x=0:=by omega
 have c1: ∀K,unW .neg (.int .u32 (x:Int)) K↔K (.int .u32 ((4294967296-x:Nat):Int)):=fun K=>by
  simp only[unW,zI2];rw[show(0-(x:Int))%4294967296=((4294967296-x:Nat):Int) by omega]
 have c2: ∀K,zAy .and (.int .u32 (x:Int)) (.int .u32 ((4294967296-x:Nat):Int)) K↔K (.int .u32 ((2^t:Nat):Int)):=fun K=>by
  rw[zGm .u32 (by simp[IntKind.bits];omega) (by simp[IntKind.bits];omega),han,zE6 (by
   have:2^t<2^32:=Nat.pow_lt_pow_right (by omega) hk
   omega)]
 simp(disch:=first|exact Xe|fail)only[zeU,hne,c1,c2,hH',zXF,zNL,↓Xa,Xb,Xc,↓reduceIte,Nat.reduceLT,Nat.reduceEqDiff,Nat.reduceBEq,Nat.reduceLeDiff,Nat.reduceAdd]
 have e27:(2:Nat)^27=134217728:=by decide
 rw[e27]
 have hl:zaJ.length=32:=rfl
 refine⟨by omega,?_⟩
 rw[zZr hlt,hat]
 simp(disch:=first|exact Xe|fail)only[zdp,↓Xa,Xb,Xc,↓reduceIte,Nat.reduceLT,Nat.reduceEqDiff,Nat.reduceBEq,Nat.reduceLeDiff,Nat.reduceAdd]
 exact SetR.now k
theorem zHP{a:List Nat}{i:Nat}(h:val 4294967296 (a.take i)=0)(h0:a.getD i 0=0):val 4294967296 (a.take (i+1))=0:=by
 rw[zAg,h,h0];omega
theorem zVl{H:AHeap}{a:List Nat}{t:Bool}{K:AV→AHeap→Prop}(hH:TzH H)(ha:Lim 4294967296 a)(hl:a.length≤1099511627776)(k:K (.int .i64 ((tz (val 4294967296 a):Nat):Int)) H):Run Tryz.prog 235 [LS a t] H K:=by
 refine zTY (by simp) ?_
 simp(disch:=first|exact Xe|fail)only[zc8,↓Xa,Xb,Xc,↓reduceIte,Nat.reduceLT,Nat.reduceEqDiff,Nat.reduceBEq,Nat.reduceLeDiff,Nat.reduceAdd]
 refine zAO (fun i:Nat=>⟨[],[(5,LS a t),(6,.int .i64 (a.length:Nat)),(7,.int .i64 (i:Nat))],H⟩) (fun i=>i≤a.length∧val 4294967296 (a.take i)=0) (fun i=>a.length-i) 0 (Settle.now rfl) ⟨by simp,by simp[val]⟩ ?_
 rintro i ⟨h1,h2⟩
 by_cases hi:i<a.length
 ·have hxl:=ha.getD (by omega) i
  by_cases hx:0<a.getD i 0
  ·obtain⟨e1,e2⟩:=zUa ha hi h2 hx
   have hk:=zVn (k:=32) hx hxl
   simp(disch:=first|exact Xe|fail)only[hi,hx,↓Xa,Xb,Xc,↓reduceIte,Nat.reduceLT,Nat.reduceEqDiff,Nat.reduceBEq,Nat.reduceLeDiff,Nat.reduceAdd]
   refine zAM (zTM hH hx hxl ?_)
   rw[e1]at k
   simp(disch:=first|exact Xe|fail)only[zXv,↓Xa,Xb,Xc,↓reduceIte,Nat.reduceLT,Nat.reduceEqDiff,Nat.reduceBEq,Nat.reduceLeDiff,Nat.reduceAdd]
   exact SetR.now k
  ·have hx0:a.getD i 0=0:=by omega
   simp(disch:=first|exact Xe|fail)only[hi,hx,↓Xa,Xb,Xc,↓reduceIte,Nat.reduceLT,Nat.reduceEqDiff,Nat.reduceBEq,Nat.reduceLeDiff,Nat.reduceAdd]
   exact Settle.now ⟨i+1,by omega,⟨by omega,zHP h2 hx0⟩,rfl⟩
 ·rw[List.take_of_length_le (by omega)]at h2
  rw[h2,zZn]at k
  simp(disch:=first|exact Xe|fail)only[hi,↓Xa,Xb,Xc,↓reduceIte,Nat.reduceLT,Nat.reduceEqDiff,Nat.reduceBEq,Nat.reduceLeDiff,Nat.reduceAdd]
  refine Settle.now ?_
  simp(disch:=first|exact Xe|fail)only[zXv,↓Xa,Xb,Xc,↓reduceIte,Nat.reduceLT,Nat.reduceEqDiff,Nat.reduceBEq,Nat.reduceLeDiff,Nat.reduceAdd]
  exact SetR.now k
def twV(x:Int):Int:=if x=0 then -1 else((tz x.natAbs:Nat):Int)
theorem zRN{H:AHeap}{Q:AV→AHeap→Prop}{x:Int}{k:Nat}(hH:TzH H)(hx:Bd k x)(hk:k≤1000000)(hq:Q (.int .i64 (twV x)) H):Run Tryz.prog 223 [zAl x] H Q:=by
 have hl:=hx.len
 refine zUC (by simp) ?_
 simp(disch:=first|exact Xe|fail)only[zea,zAE,↓Xa,Xb,Xc,↓reduceIte,Nat.reduceLT,Nat.reduceEqDiff,Nat.reduceBEq,Nat.reduceLeDiff,Nat.reduceAdd]
 refine zAD fun p1 hp1=>?_
 have n1:=hp1
 have fin: ∀{v:AV}{a:Option ABlk},Q v H→SetR Q v (H.upd p1 a):=fun h=>SetR.dropTo ((Le.refl H).updB n1) (SetR.now h)
 simp(disch:=first|exact Xe|fail)only[zAI,↓Xa,Xb,Xc,↓reduceIte,Nat.reduceLT,Nat.reduceEqDiff,Nat.reduceBEq,Nat.reduceLeDiff,Nat.reduceAdd]
 refine(zGa hx (by omega)).call ?_
 unfold twV at hq
 by_cases h0:x=0
 ·rw[if_pos h0]at hq
  have e:decide (x=0)=true:=decide_eq_true h0
  simp(disch:=first|exact Xe|fail)only[zFx,e,zZ7,↓Xa,Xb,Xc,↓reduceIte,Nat.reduceLT,Nat.reduceEqDiff,Nat.reduceBEq,Nat.reduceLeDiff,Nat.reduceAdd]
  exact fin hq
 ·rw[if_neg h0]at hq
  have e:decide (x=0)=false:=decide_eq_false h0
  simp(disch:=first|exact Xe|fail)only[zFx,e,zR4,zR5,zRm,zQx,↓Xa,Xb,Xc,↓reduceIte,Nat.reduceLT,Nat.reduceEqDiff,Nat.reduceBEq,Nat.reduceLeDiff,Nat.reduceAdd]
  refine zAM (zVl (hH.le ((Le.refl H).updB n1)) (zAG (by omega) _) (by omega) ?_)
  rw[zAJ (by omega)]
  simp(disch:=first|exact Xe|fail)only[zZ7,↓Xa,Xb,Xc,↓reduceIte,Nat.reduceLT,Nat.reduceEqDiff,Nat.reduceBEq,Nat.reduceLeDiff,Nat.reduceAdd]
  exact fin hq
theorem zbg{x:Int}{n k:Nat}(hx:Bd k x)(hn:n≤32*(k+2048))(j:Nat)(hj:n≤32*j):Bd (k+(j+1)) (x*2^n):=by
 refine Bd.mul hx ?_
 unfold Bd
 rw[Int.natAbs_pow,show(4294967296:Nat)=2^32 from rfl,← Nat.pow_mul]
 exact Nat.pow_lt_pow_right (by omega) (by omega)
theorem zWI{x:Int}{n:Nat}:sg (decide (x<0)) (x.natAbs*2^n)=x*2^n:=by
 have h:((x.natAbs*2^n:Nat):Int)=(x.natAbs:Int)*2^n:=by push_cast;rfl
 unfold sg
 by_cases hx:x<0
 ·rw[decide_eq_true hx,if_pos rfl,h,← Int.neg_mul];congr 1;omega
 ·rw[decide_eq_false hx,if_neg (by simp),h];congr 1;omega
theorem zQy{x:Int}{n k:Nat}(hx:Bd k x)(hk:k≤1000000)(hn:n≤65536):PFn Tryz.prog 174 [zAl x,.int .i64 (n:Int)] (.tup [zAl (x*2^n),.int .i64 ((0:Nat):Int)]):=by
 intro H Q hq
 have hl:=hx.len
 have hbs:=(zbg hx (n:=n) (by omega) 2048 (by omega)).len
 have hbe:(x*2^n).natAbs=x.natAbs*2^n:=by rw[← zWI,zCq]
 rw[hbe]at hbs
 refine zTm (by simp) ?_
 simp(disch:=first|exact Xe|fail)only[zek,zAE,↓Xa,Xb,Xc,↓reduceIte,Nat.reduceLT,Nat.reduceEqDiff,Nat.reduceBEq,Nat.reduceLeDiff,Nat.reduceAdd]
 refine zAD fun p1 hp1=>?_
 have n1:=hp1
 simp(disch:=first|exact Xe|fail)only[↓Xa,Xb,Xc,↓reduceIte,Nat.reduceLT,Nat.reduceEqDiff,Nat.reduceBEq,Nat.reduceLeDiff,Nat.reduceAdd]
 refine zAD fun p2 hp2=>?_
 have n2:=hp2
 simp only[zAB]at n2
 obtain⟨_,n2⟩:=n2
 have fin: ∀{v:AV}{a b:Option ABlk},Q v H→SetR Q v ((H.upd p1 a).upd p2 b):=fun h=>SetR.dropTo (((Le.refl H).updB n1).updB n2) (SetR.now h)
 simp(disch:=first|exact Xe|fail)only[zB1,zB0,↓Xa,Xb,Xc,↓reduceIte,Nat.reduceLT,Nat.reduceEqDiff,Nat.reduceBEq,Nat.reduceLeDiff,Nat.reduceAdd]
 refine(zQW true (zAG (by omega) _) hn (by omega)).call ?_
 rw[zAJ (by omega)]
 simp(disch:=first|exact Xe|fail)only[zB1,zB0,↓Xa,Xb,Xc,↓reduceIte,Nat.reduceLT,Nat.reduceEqDiff,Nat.reduceBEq,Nat.reduceLeDiff,Nat.reduceAdd]
 refine(zCP _ _ (by omega)).call ?_
 rw[zWI]
 simp(disch:=first|exact Xe|fail)only[zAE,zAI,zcI,↓Xa,Xb,Xc,↓reduceIte,Nat.reduceLT,Nat.reduceEqDiff,Nat.reduceBEq,Nat.reduceLeDiff,Nat.reduceAdd]
 exact fin hq
theorem zee{x:Int}{n:Nat}(h:(2:Int)^n ∣ x):sg (decide (x<0)) (x.natAbs / 2^n)=x / 2^n:=by
 obtain⟨y,rfl⟩:=h
 have hp:(0:Int)<2^n:=Int.pow_pos (by omega)
 rw[Int.mul_ediv_cancel_left _ (by omega),Int.natAbs_mul,Int.natAbs_pow,show(2:Int).natAbs=2 from rfl,Nat.mul_div_cancel_left _ (Nat.pow_pos (by omega))]
 have:decide (2^n*y<0)=decide (y<0):=decide_eq_decide.2 ⟨fun h=>by
  by_cases h0:y<0
  ·exact h0
  ·exact absurd (Int.mul_nonneg (Int.le_of_lt hp) (by omega:0≤y)) (by omega),fun h=>Int.mul_neg_of_pos_of_neg hp h⟩
 rw[this,zZQ]
theorem zXW{x:Int}{n:Nat}(h0:x≠0):(2:Int)^n ∣ x↔n≤tz x.natAbs:=by
 have hp:0<x.natAbs:=by omega
 rw[show((2:Int)^n ∣ x)↔2^n ∣ x.natAbs by rw[← Int.natAbs_dvd_natAbs,Int.natAbs_pow];rfl]
 obtain⟨m,hm⟩:=zJH x.natAbs hp
 constructor
 ·intro h
  apply Nat.le_of_not_lt
  intro hlt
  have h1:2^(tz x.natAbs+1) ∣ x.natAbs:=Nat.dvd_trans (Nat.pow_dvd_pow 2 hlt) h
  rw[hm,zdI,Nat.pow_succ]at h1
  have h2:=(Nat.mul_dvd_mul_iff_left (Nat.pow_pos (n:=tz x.natAbs) (show 0<2 by omega))).1 h1
  omega
 ·intro h
  rw[hm]
  exact Nat.dvd_trans (Nat.pow_dvd_pow 2 h) (Nat.dvd_mul_right _ _)
def ze9(x:Int)(n:Int):AV:=
 if n<0 then .tup [zAl 0,.int .i64 ((2:Nat):Int)]else if x=0 then .tup [zAl 0,.int .i64 ((0:Nat):Int)]
 else if twV x<n then .tup [zAl 0,.int .i64 ((20:Nat):Int)]else .tup [zAl (x / 2^n.toNat),.int .i64 ((0:Nat):Int)]
theorem zTj{H:AHeap}{Q:AV→AHeap→Prop}{x n:Int}{k:Nat}(hH:TzH H)(hx:Bd k x)(hk:k≤1000000)(hn:n<9223372036854775808)(hq:Q (ze9 x n) H):Run Tryz.prog 176 [zAl x,.int .i64 n] H Q:=by
 have hl:=hx.len
 refine zSd (by simp) ?_
 simp(disch:=first|exact Xe|fail)only[zeb,zAE,↓Xa,Xb,Xc,↓reduceIte,Nat.reduceLT,Nat.reduceEqDiff,Nat.reduceBEq,Nat.reduceLeDiff,Nat.reduceAdd]
 refine zAD fun p1 hp1=>?_
 have n1:=hp1
 simp(disch:=first|exact Xe|fail)only[↓Xa,Xb,Xc,↓reduceIte,Nat.reduceLT,Nat.reduceEqDiff,Nat.reduceBEq,Nat.reduceLeDiff,Nat.reduceAdd]
 refine zAD fun p2 hp2=>?_
 have n2:=hp2
 simp only[zAB]at n2
 obtain⟨_,n2⟩:=n2
 have fin: ∀{v:AV}{a b:Option ABlk},Q v H→SetR Q v ((H.upd p1 a).upd p2 b):=fun h=>SetR.dropTo (((Le.refl H).updB n1).updB n2) (SetR.now h)
 have hT: ∀a b,TzH ((H.upd p1 a).upd p2 b):=fun a b=>hH.le (((Le.refl H).updB n1).updB n2)
 unfold ze9 at hq
 by_cases h1:n<0
 ·rw[if_pos h1]at hq
  have e:decide (n<0)=true:=decide_eq_true h1
  simp(disch:=first|exact Xe|fail)only[zIq,e,zMy,zAE,zAI,zPi,↓Xa,Xb,Xc,↓reduceIte,Nat.reduceLT,Nat.reduceEqDiff,Nat.reduceBEq,Nat.reduceLeDiff,Nat.reduceAdd]
  exact fin hq
 rw[if_neg h1]at hq
 have e1:decide (n<0)=false:=decide_eq_false h1
 simp(disch:=first|exact Xe|fail)only[zIq,e1,zAI,↓Xa,Xb,Xc,↓reduceIte,Nat.reduceLT,Nat.reduceEqDiff,Nat.reduceBEq,Nat.reduceLeDiff,Nat.reduceAdd]
 refine(zGa hx (by omega)).call ?_
 by_cases h2:x=0
 ·rw[if_pos h2]at hq
  have e:decide (x=0)=true:=decide_eq_true h2
  simp(disch:=first|exact Xe|fail)only[zFx,e,zMy,zAE,zAI,zPi,↓Xa,Xb,Xc,↓reduceIte,Nat.reduceLT,Nat.reduceEqDiff,Nat.reduceBEq,Nat.reduceLeDiff,Nat.reduceAdd]
  exact fin hq
 rw[if_neg h2]at hq
 have e2:decide (x=0)=false:=decide_eq_false h2
 simp(disch:=first|exact Xe|fail)only[zFx,e2,zAI,↓Xa,Xb,Xc,↓reduceIte,Nat.reduceLT,Nat.reduceEqDiff,Nat.reduceBEq,Nat.reduceLeDiff,Nat.reduceAdd]
 refine zAM (zRN (hT _ _) hx hk ?_)
 have c3: ∀K,zAy .lss (.int .i64 (twV x)) (.int .i64 n) K↔K (.bool (decide (twV x<n))):=fun K=>by
  simp only[zAy,zAi,true_and]
 by_cases h3:twV x<n
 ·rw[if_pos h3]at hq
  rw[decide_eq_true h3]at c3
  simp(disch:=first|exact Xe|fail)only[c3,zMy,zAE,zAI,zPi,↓Xa,Xb,Xc,↓reduceIte,Nat.reduceLT,Nat.reduceEqDiff,Nat.reduceBEq,Nat.reduceLeDiff,Nat.reduceAdd]
  exact fin hq
 ·rw[if_neg h3]at hq
  rw[decide_eq_false h3]at c3
  obtain⟨m,rfl⟩: ∃m:Nat,n=(m:Int):=⟨n.toNat,by omega⟩
  have hd:(2:Int)^m ∣ x:=(zXW h2).2 (by unfold twV at h3;rw[if_neg h2]at h3;omega)
  have hle:(digs 4294967296 (x.natAbs / 2^m)).length≤k:=zA5 (by omega) _ _ (Nat.lt_of_le_of_lt (Nat.div_le_self _ _) hx)
  simp(disch:=first|exact Xe|fail)only[c3,zB1,zB0,↓Xa,Xb,Xc,↓reduceIte,Nat.reduceLT,Nat.reduceEqDiff,Nat.reduceBEq,Nat.reduceLeDiff,Nat.reduceAdd]
  refine(zXX true (zAG (by omega) _) (by omega) (by omega)).call ?_
  rw[zAJ (by omega)]
  simp(disch:=first|exact Xe|fail)only[zB1,zB0,↓Xa,Xb,Xc,↓reduceIte,Nat.reduceLT,Nat.reduceEqDiff,Nat.reduceBEq,Nat.reduceLeDiff,Nat.reduceAdd]
  refine(zCP _ _ (by omega)).call ?_
  rw[zee hd]
  simp(disch:=first|exact Xe|fail)only[zAE,zAI,zPi,↓Xa,Xb,Xc,↓reduceIte,Nat.reduceLT,Nat.reduceEqDiff,Nat.reduceBEq,Nat.reduceLeDiff,Nat.reduceAdd]
  exact fin hq
def zDz(n:Nat):List Nat:=(List.replicate (n / 16+1) 0).set (n / 16) (2^(n%16))
theorem zEy{n:Nat}:(zDz n).length=n / 16+1:=by simp[zDz]
theorem zKR{n:Nat}:Lim 65536 (zDz n):=zCu (fun x hx=>by rw[(List.mem_replicate.1 hx).2];omega) _ _ (by
 have:=Nat.pow_lt_pow_right (a:=2) (by omega) (show n%16<16 by omega)
 exact this)
theorem zRF{n:Nat}:val 65536 (zDz n)=2^n:=by
 have h:=zEU (B:=65536) (l:=List.replicate (n / 16+1) 0) (i:=n / 16) (2^(n%16)) (by simp)
 have h0:val 65536 (List.replicate (n / 16+1) 0)=0:=zCz _ _
 have h1:(List.replicate (n / 16+1) 0).getD (n / 16) 0=0:=by simp[List.getD_eq_getElem?_getD]
 rw[h0,h1]at h
 have e:2^n=65536^(n / 16)*2^(n%16):=by
  conv=>lhs;rw[← Nat.div_add_mod n 16,Nat.pow_add,Nat.pow_mul]
 unfold zDz
 rw[e];omega
theorem zPG{n:Nat}(hn:n≤65536):PFn Tryz.prog 215 [.int .i64 (n:Int)] (zBd (2^n) false):=by
 intro H Q hq
 have hp16:=Nat.pow_le_pow_right (n:=2) (by omega) (show n%16≤15 by omega)
 refine zVv (by simp) ?_
 simp(disch:=first|exact Xe|fail)only[zaU,ne_eq,Nat.reduceEqDiff,↓Xa,Xb,Xc,↓reduceIte,Nat.reduceLT,Nat.reduceEqDiff,Nat.reduceBEq,Nat.reduceLeDiff,Nat.reduceAdd]
 refine zAD fun p1 hp1=>?_
 have n1:=hp1
 simp(disch:=first|exact Xe|fail)only[ne_eq,Nat.reduceEqDiff,↓Xa,Xb,Xc,↓reduceIte,Nat.reduceLT,Nat.reduceEqDiff,Nat.reduceBEq,Nat.reduceLeDiff,Nat.reduceAdd]
 refine zDW fun o ho=>?_
 obtain⟨a1,a2⟩:=zAB.1 ho
 simp(disch:=first|exact Xe|fail)only[Nat.one_mul,zGo,ne_eq,Nat.reduceEqDiff,↓Xa,Xb,Xc,↓reduceIte,Nat.reduceLT,Nat.reduceEqDiff,Nat.reduceBEq,Nat.reduceLeDiff,Nat.reduceAdd]
 have hrow:(List.replicate (n / 16+1) 0).set (n / 16) (2^(n%16))=zDz n:=rfl
 rw[hrow]
 refine zAM (zG0 false true (zAC _ _ _) zEy (fun ti=>?_) zKR (by rw[zEy];omega))
 have htr:tr (zDz n)=digs 65536 (2^n):=by rw[zAv (by omega) zKR,zRF]
 rw[Bool.false_and]
 simp(disch:=first|exact Xe|fail)only[zIL,zbL,↓Xa,Xb,Xc,↓reduceIte,Nat.reduceLT,Nat.reduceEqDiff,Nat.reduceBEq,Nat.reduceLeDiff,Nat.reduceAdd]
 refine SetR.frz o (es:=1) (cells:=U (zDz n)) (zAC _ _ _) ?_
 have hle:(tr (zDz n)).length≤n / 16+1:=by rw[← zEy (n:=n)];exact zFe _
 have htk:(zDz n).take (tr (zDz n)).length=tr (zDz n):=by
  obtain⟨m,hm⟩:=zMS (zDz n)
  generalize tr (zDz n)=x at*
  rw[hm];simp
 have e:frz o 1 (U (zDz n)) (.agg [.bool false,.own o (n / 16+1) 0 (tr (zDz n)).length ti])=.agg [.bool false,LS (tr (zDz n)) ti]:=by
  simp[frz,zF0,zCy,LS,zEy,hle,← zFc,htk]
 rw[e,htr]
 refine SetR.dropTo (H:=H) ?_ (SetR.loose ?_)
 ·exact(((Le.refl H).updB n1).updB a2).updB a2
 ·have e2:decide (((2:Int)^n)<0)=false:=decide_eq_false (by have:=Int.pow_pos (n:=2) (m:=n) (by omega);omega)
  have e3:((2:Int)^n).natAbs=2^n:=by rw[Int.natAbs_pow];rfl
  unfold zBd at hq
  rw[e2,e3]at hq
  exact SetR.now hq
end Go.Proofs.YtmndejlpfmmaiaaGreatDoor.Fw
namespace Go.Proofs.YtmndejlpfmmaiaaGreatDoor.Fw
open Go
set_option maxRecDepth 100000
def zhv:ACode:=Js [Jo 4 (.mov (.k (.bool false)))] [0,1] (.seq (Js [Jo 11 (Jc 57 []),Jo 12 (.un .not (.t 11))] [0,1,12] (.cond (.t 12) (Js [Jo 4 (.mov (.k (.bool false)))] [4] .ret) .skip)) (Js [Jm 14 0,Jm 15 1,Jo 16 (Jc 59 [.t 15]),Jo 17 (Jc 58 [.t 14,.t 16]),Jm 13 17,Je 18 13 0,Je 19 13 1,Jo 5 (.alloc 25 0 [Jn 0,Jn 0,.seq 0 [] true,.seq 0 [] true]),⟨none,none,.store 4 (.t 5) (.t 18)⟩,Jm 6 19] [0,1,5,6] (Js [Jm 21 0,Jm 22 1,Jo 23 (Jc 58 [.t 21,.t 22]),Jm 20 23,Je 24 20 0,Je 25 20 1,Jo 7 (.alloc 25 0 [Jn 0,Jn 0,.seq 0 [] true,.seq 0 [] true]),⟨none,none,.store 4 (.t 7) (.t 24)⟩,Jm 8 25] [0,1,5,6,7,8] (.seq (Js [Jm 26 0,Jm 27 1,Jo 28 (Jc 60 [.t 26,.t 27]),Jo 29 (.un .not (.t 28))] [0,1,5,6,7,8,29] (.cond (.t 29) (Js [Jm 30 6,Jo 31 (.bin .eql (.t 30) (Jk 2)),Jm 32 31,⟨some 33,some (32,true),.mov (.t 8)⟩,⟨some 34,some (32,true),.bin .eql (.t 33) (Jk 2)⟩,Jo 35 (.pick (.t 32) (.t 34) (.k (.bool false))),Jm 36 35,⟨some 37,some (36,true),.load (some 4) (.t 5)⟩,⟨some 38,some (36,true),.build [Jn 0,Jn 0,.seq 0 [] true,.seq 0 [] true] []⟩,⟨some 39,some (36,true),Jc 61 [.t 37,.t 38]⟩,Jo 40 (.pick (.t 36) (.t 39) (.k (.bool false))),Jm 4 40] [4] .ret) .skip)) (.seq (Js [Jm 41 6,Jo 42 (.bin .neq (.t 41) (Jk 0)),Jm 43 42,⟨some 44,some (43,false),.mov (.t 8)⟩,⟨some 45,some (43,false),.bin .neq (.t 44) (Jk 0)⟩,Jo 46 (.pick (.t 43) (.k (.bool true)) (.t 45)),Jm 47 46,⟨some 48,some (47,false),.load (some 4) (.t 5)⟩,⟨some 49,some (47,false),.load (some 4) (.t 7)⟩,⟨some 50,some (47,false),Jc 61 [.t 48,.t 49]⟩,⟨some 51,some (47,false),.un .not (.t 50)⟩,Jo 52 (.pick (.t 47) (.k (.bool true)) (.t 51)),Jm 53 52,⟨some 54,some (53,false),.load (some 4) (.t 5)⟩,⟨some 55,some (53,false),Jc 19 [.t 54]⟩,⟨some 56,some (53,false),.un .not (.t 55)⟩,Jo 57 (.pick (.t 53) (.k (.bool true)) (.t 56)),Jm 58 57,⟨some 59,some (58,false),.load (some 4) (.t 5)⟩,⟨some 60,some (58,false),.mov (.t 0)⟩,⟨some 61,some (58,false),.mov (.t 1)⟩,⟨some 62,some (58,false),Jc 62 [.t 59,.t 60,.t 61]⟩,⟨some 63,some (58,false),.un .not (.t 62)⟩,Jo 64 (.pick (.t 58) (.k (.bool true)) (.t 63))] [0,1,5,64] (.cond (.t 64) (Js [Jo 4 (.mov (.k (.bool false)))] [4] .ret) .skip)) (.seq (Js [Jf 65 2 5,Jl 66 65,Jv 67 66,Jo 68 (.mov (Jk 0))] [0,1,5,66,67,68] (.block 0 (.loop (Js [Jb 69 .lss 68 67] [0,1,5,66,67,68,69] (.seq (.cond (.t 69) .skip (.exit 0)) (.seq (.block 1 (Js [Ji 70 5 66 68,Jo 71 (.load (some 5) (.t 70)),Jo 10 (.alloc 76 0 [Jn 0,Jn 0,Jn 0,Jn 0,Jn 0]),⟨none,none,.store 5 (.t 10) (.t 71)⟩] [0,1,5,10,66,67,68] (Js [Jf 72 0 10,Jl 73 72,Jo 74 (.bin .eql (.t 73) (Jk 5)),Jm 75 74,⟨some 76,some (75,true),.fldA 4 (.t 10)⟩,⟨some 77,some (75,true),.load none (.t 76)⟩,⟨some 78,some (75,true),.bin .lss (.t 77) (.k (.int .i64 (-16)))⟩,⟨some 79,some (75,true),.mov (.t 78)⟩,⟨some 80,some (79,false),.fldA 4 (.t 10)⟩,⟨some 81,some (79,false),.load none (.t 80)⟩,⟨some 82,some (79,false),.bin .gtr (.t 81) (Jk 16)⟩,⟨some 83,some (75,true),.pick (.t 79) (.k (.bool true)) (.t 82)⟩,Jo 84 (.pick (.t 75) (.t 83) (.k (.bool false))),Jm 85 84,⟨some 86,some (85,false),.fldA 0 (.t 10)⟩,⟨some 87,some (85,false),.load none (.t 86)⟩,⟨some 88,some (85,false),.bin .eql (.t 87) (Jk 7)⟩,⟨some 89,some (85,false),.mov (.t 88)⟩,⟨some 90,some (89,true),.fldA 4 (.t 10)⟩,⟨some 91,some (89,true),.load none (.t 90)⟩,⟨some 92,some (89,true),.bin .gtr (.t 91) (Jk 4)⟩,⟨some 93,some (85,false),.pick (.t 89) (.t 92) (.k (.bool false))⟩,Jo 94 (.pick (.t 85) (.k (.bool true)) (.t 93))] [0,1,5,66,67,68,94] (.cond (.t 94) (Js [Jo 4 (.mov (.k (.bool false)))] [4] .ret) .skip)))) (.reg [Jo 95 (.bin .add (.t 68) (Jk 1)),Jm 68 95] [0,1,5,66,67,68]))))))) (Js [Jf 96 1 5,Jl 97 96,Jm 98 0,Jm 99 1,Jv 100 99,Jb 101 .add 98 100,Jo 102 (.bin .add (.t 101) (Jk 2)),Jb 103 .leq 97 102,Jm 104 103,⟨some 105,some (104,true),.fldA 2 (.t 5)⟩,⟨some 106,some (104,true),.load none (.t 105)⟩,⟨some 107,some (104,true),.len false (.t 106)⟩,⟨some 108,some (104,true),.mov (.t 1)⟩,⟨some 109,some (104,true),.len false (.t 108)⟩,⟨some 110,some (104,true),.mov (.t 0)⟩,⟨some 111,some (104,true),.bin .mul (.t 109) (.t 110)⟩,⟨some 112,some (104,true),.mov (.t 0)⟩,⟨some 113,some (104,true),.bin .add (.t 112) (Jk 3)⟩,⟨some 114,some (104,true),.bin .mul (.t 111) (.t 113)⟩,⟨some 115,some (104,true),.bin .quo (.t 114) (Jk 2)⟩,⟨some 116,some (104,true),.bin .leq (.t 107) (.t 115)⟩,Jo 117 (.pick (.t 104) (.t 116) (.k (.bool false))),Jm 4 117] [4] .ret)))))))
def zf6:List RV:=[.t 4]
theorem zYP:EnT Tryz.prog 10 118 zhv zf6:=Ent ziP zAL Tryz.func10
end Go.Proofs.YtmndejlpfmmaiaaGreatDoor.Fw
