/- The texts Lay156 Kj Kh Kk Kl Km Ko Kp Kq Kr Ks Kt Ku Kv Kw Ee Ef Eg Eh Ei Ej Kx Ek El Em Er Es Et Eu Ey Ez Ga, joined. -/
import Derived.Test.YtmndejlpfmmaiaaDoorZ6
import Derived.Shelf.Strings.OnBuilder
import Derived.Test.YtmndejlpfmmaiaaDoorProg
import Derived.Lib.SmallJoins
set_option linter.unusedSimpArgs false
set_option linter.unusedVariables false
namespace Go.Proofs.YtmndejlpfmmaiaaDoor.Fw
open Go Go.Shelf Go.Proofs
def lay156_ren:Ren:=
 {
  f:=fun x=>
   match x with
   |156=>108
   |165=>140
   |166=>141
   |169=>142
   |240=>155
   |241=>156
   |276=>162
   |277=>163
   |n=>n,
  t:=fun x=>
   match x with
   |31=>161
   |9=>9
   |3=>3
   |4=>4
   |0=>0
   |20=>20
   |72=>183
   |76=>187
   |70=>181
   |37=>139
   |75=>186
   |127=>197
   |164=>208
   |5=>5
   |80=>81
   |n=>n,
  g:=fun x=>
   have n:=x;
   n }
theorem lay156:Lays.n156 Tryd.prog lay156_ren:=
 { mixed:=Eq.refl true,f156:=Eq.trans Tryd.func108 (congrArg some (Eq.refl (Body.n156 lay156_ren))),
   f165:=Eq.trans Tryd.func140 (congrArg some (Eq.refl (Body.n165 lay156_ren))),
   f166:=Eq.trans Tryd.func141 (congrArg some (Eq.refl (Body.n166 lay156_ren))),
   f169:=Eq.trans Tryd.func142 (congrArg some (Eq.refl (Body.n169 lay156_ren))),
   f240:=Eq.trans Tryd.func155 (congrArg some (Eq.refl (Body.n240 lay156_ren))),
   f241:=Eq.trans Tryd.func156 (congrArg some (Eq.refl (Body.n241 lay156_ren))),
   f276:=Eq.trans Tryd.func162 (congrArg some (Eq.refl (Body.n276 lay156_ren))),
   f277:=Eq.trans Tryd.func163 (congrArg some (Eq.refl (Body.n277 lay156_ren))),t0:=Tryd.underlying0,
   a0:=Tryd.isAgg0,z0:=Tryd.sizeOf0,v0:=Tryd.zeroValue0,t3:=Tryd.underlying3,a3:=Tryd.isAgg3,
   z3:=Tryd.sizeOf3,v3:=Tryd.zeroValue3,t4:=Tryd.underlying4,a4:=Tryd.isAgg4,z4:=Tryd.sizeOf4,
   v4:=Tryd.zeroValue4,t9:=Tryd.underlying9,a9:=Tryd.isAgg9,z9:=Tryd.sizeOf9,v9:=Tryd.zeroValue9,
   t20:=Tryd.underlying20,a20:=Tryd.isAgg20,z20:=Tryd.sizeOf20,v20:=Tryd.zeroValue20,
   t31:=Tryd.underlying161,a31:=Tryd.isAgg161,z31:=Tryd.sizeOf161,v31:=Tryd.zeroValue161,
   t37:=Tryd.underlying139,a37:=Tryd.isAgg139,z37:=Tryd.sizeOf139,v37:=Tryd.zeroValue139,
   t70:=Tryd.underlying181,a70:=Tryd.isAgg181,z70:=Tryd.sizeOf181,v70:=Tryd.zeroValue181,
   t72:=Tryd.underlying183,a72:=Tryd.isAgg183,z72:=Tryd.sizeOf183,v72:=Tryd.zeroValue183,
   t75:=Tryd.underlying186,a75:=Tryd.isAgg186,z75:=Tryd.sizeOf186,v75:=Tryd.zeroValue186,
   t76:=Tryd.underlying187,a76:=Tryd.isAgg187,z76:=Tryd.sizeOf187,v76:=Tryd.zeroValue187,
   t127:=Tryd.underlying197,a127:=Tryd.isAgg197,z127:=Tryd.sizeOf197,v127:=Tryd.zeroValue197,
   t164:=Tryd.underlying208,a164:=Tryd.isAgg208,z164:=Tryd.sizeOf208,v164:=Tryd.zeroValue208 }
end Go.Proofs.YtmndejlpfmmaiaaDoor.Fw
namespace Go.Proofs.YtmndejlpfmmaiaaDoor.Fw
open Go Go.Proofs.YtmndejlpfmmaiaaDoor.Ma Go.Shelf
set_option maxRecDepth 20000
theorem pfn_calls{P:Program}{f:FuncId}{args:List AV}{r:AV}(hf: ∃fn,P.funcs[f]? =some fn∧(fn.name=="runtime.NumGoroutine")=false∧fn.body.isNone=false)
 (h: ∀(c:Ctx)(vs:Array Value),Ok c→vs.size=args.length→(∀i(h:i<args.length)(h':i<vs.size),Enc c (args[i]) (vs[i]))→Calls P f vs c.w fun e w'=> ∃v,e=.returned v∧(∀c',Enc c' r v)∧Go.RowKit.Below c.w.heap.size c.w w'):PFn P f args r:=by
 intro H Q hq
 refine⟨hf,fun c vs hH hok hs he=>(h c vs hok hs he).mono ?_⟩
 rintro e w' ⟨v,rfl,hr,hb⟩
 let c2:Ctx:={ c with w:=w' }
 have hsz: ∀i x,c.H i=some x→c.μ i<c.w.heap.size:=fun i x e=>by
  have:=hok.blk i x e
  cases x with
  |row ty es cells=>obtain⟨arr,h1,_⟩:=this;exact(Array.getElem?_eq_some_iff.1 h1).1
  |raw o=>exact(Array.getElem?_eq_some_iff.1 this.1).1
  |glob g cells=>rw[this.1];exact this.2.1
  |loop st pend fn ps assign body n E=>obtain⟨tm,dd,h1,_⟩:=this;exact(Array.getElem?_eq_some_iff.1 h1).1
 have later:Later c c2:=by
  refine⟨⟨hb.size,hb.os,hb.tape,hb.output,fun _ h=>h,?_,fun k hk hm=>⟨hb.block k hk,hm⟩⟩,fun _ h=>⟨h,fun k=>k⟩⟩
  intro i x' _ hx'
  exact⟨x',hx',Nat.le_refl _,fun _=>⟨rfl,fun ty' es' cells' e=>⟨cells',e,fun arr ha=>⟨arr,(hb.block _ (hsz i x' hx')).trans ha,rfl⟩⟩⟩⟩
 have ok:Ok c2:=⟨hok.used,hok.fin,hok.inj,fun b x hx=>(hok.blk b x hx).later later rfl (hb.block _ (hsz b x hx))⟩
 exact⟨c2,v,r,rfl,rfl,ok,later,hr c2,by show Q r c.H;rw[hH];exact hq⟩
theorem joinX:Builder.Extra Tryd.prog lay156_ren where
 sizeBuilder:=by kernel_rfl
 liesBuilder:=by kernel_rfl
 t5:=Tryd.underlying5
 a5:=Tryd.isAgg5
 z5:=Tryd.sizeOf5
 v5:=Tryd.zeroValue5
 infoByte:=by kernel_rfl
 cellsByte:=by kernel_rfl
 sizeByte:=by kernel_rfl
 neB5:=by decide
theorem join_fn(xs:List (List UInt8))(sep:List UInt8)(t:Bool)(hN:xs.length≤1000000)(hlen:(Lib.join xs sep).length≤140737488355328):PFn Tryd.prog 108 [.seq xs.length (xs.map Sx) t,Sx sep] (Sx (Lib.join xs sep)):=by
 by_cases h0:xs=[]
 ·subst h0
  intro H Q hq
  refine enter108 (by simp) ?_
  have e:Lib.join ([]:List (List UInt8)) sep=[]:=rfl
  rw[e]at hq
  have l0:([]:List (List UInt8)).length=0:=rfl
  simp(disch:=first|exact Xe|fail)only[ac108,l0,len_rw,rs108,↓Xa,Xb,Xc,↓reduceIte,Nat.reduceLT,Nat.reduceEqDiff,Nat.reduceBEq,Nat.reduceLeDiff,Nat.reduceAdd,Nat.reduceMul]
  exact SetR.now hq
 ·refine pfn_calls ⟨_,Tryd.func108,by kernel_rfl,by kernel_rfl⟩ fun c vs hok hs he=>?_
  obtain⟨v0,v1,rfl⟩: ∃v0 v1,vs= #[v0,v1]:=Go.Joins.array2 hs
  have e0:Enc c (.seq xs.length (xs.map Sx) t) v0:=he 0 (by simp) (by simp)
  have e1:Enc c (Sx sep) v1:=he 1 (by simp) (by simp)
  cases e1
  cases e0 with
  |seq _ _ _ base cap cv hlen' hcap hmax ht hb hn hc=>
   obtain⟨k,off,rfl,hmu,hk,hcell⟩:=hb (by simpa using List.length_pos_iff.2 h0)
   have hce: ∀(j:Nat) x,(xs.map fun l=>(⟨l.toArray⟩:ByteArray))[j]? =some x→c.w.cell? ⟨k,off+j,none⟩=some (.string x):=fun j x hx=>by
    rw[List.getElem?_map]at hx
    obtain⟨y,hy,rfl⟩:=Option.map_eq_some_iff.1 hx
    obtain⟨hj,hy⟩:=List.getElem?_eq_some_iff.1 hy
    have h1:=hcell j (by simpa using hj)
    have h2:=hc j (by simpa using hj)
    rw[List.getElem_map,hy]at h2
    generalize cv j=u at h1 h2
    cases h2
    exact h1
   have hm:(xs.map fun l=>(⟨l.toArray⟩:ByteArray)).map (·.data.toList)=xs:=by
    rw[List.map_map]
    exact(List.map_congr_left fun l _=>by simp).trans (List.map_id xs)
   have:=Any.strings_Join (P:=Tryd.prog) (ρ:=lay156_ren) lay156 joinX k off cap (xs.map fun l=>(⟨l.toArray⟩:ByteArray)) ⟨sep.toArray⟩ c.w hce hk (by simpa using Nat.le_trans hN (by omega)) (by simpa using hcap) (by rw[hm];simpa using hlen)
   rw[hm,List.length_map]at this
   refine this.mono fun e w' ⟨h1,h2⟩=>⟨_,h1,fun c'=>?_,h2⟩
   simp only[Sx]
   exact .str _
end Go.Proofs.YtmndejlpfmmaiaaDoor.Fw
namespace Go.Proofs.YtmndejlpfmmaiaaDoor.Fw
open Go Go.Proofs.YtmndejlpfmmaiaaDoor.Ma
set_option maxRecDepth 20000
theorem repF0{a:AV}:repA [a] 1=[a]:=by simp[repA,List.range,List.range.loop]
theorem load_map{α:Type}{f:α→AV}{l:List α}{H:AHeap}{K:AV→Prop}{i:Nat}(h:i<l.length):loadW H none (.cptr ((l.map f).drop i)) K=K (f (l[i])):=by
 have hi:i<(l.map f).length:=by simpa using h
 simp only[loadW,cellsAt,List.drop_eq_getElem_cons hi]
 simp
theorem idx_map{α:Type}{f:α→AV}{l:List α}{t:Bool}{k:IntKind}{K:AV→Prop}{i:Nat}(h:i<l.length):idxAW 1 (.seq l.length (l.map f) t) (.int k (i:Int)) K=K (.cptr ((l.map f).drop (i*1))):=idx_rw (by simp) h
abbrev iA(n:Int):AV:=.int .i64 n
theorem rowof_run{l:List Int}{t:Bool}(hb: ∀n,n∈l→ -9223372036854775808≤n∧n<9223372036854775808)(hbig:l.length≤1000000){H:AHeap}{Q:AV→AHeap→Prop}(hq: ∀y M,growC H 34 2 l.length (IC l) y M→Q y M):Run Tryd.prog 64 [.seq l.length (l.map iA) t] H Q:=by
 refine enter64 (by simp) ?_
 simp(disch:=first|exact Xe|fail)only[ac64,len_rw,↓Xa,Xb,Xc,↓reduceIte,Nat.reduceLT,Nat.reduceEqDiff,Nat.reduceBEq,Nat.reduceLeDiff,Nat.reduceAdd,Nat.reduceMul]
 refine W_loop (fun s:Nat×AV×AHeap=>⟨[],[(3,s.2.1),(6,.seq l.length (l.map iA) t),(7,.int .i64 (l.length:Int)),(8,.int .i64 s.1)],s.2.2⟩) (fun s=>s.1≤l.length∧growC H 34 2 s.1 (IC (l.take s.1)) s.2.1 s.2.2) (fun s=>l.length-s.1) (0,.seq 0 [] true,H) (Settle.now rfl) ⟨Nat.zero_le _,growC_nil⟩ ?_
 rintro⟨i,y,M⟩ ⟨h3,hg⟩
 dsimp only at h3 hg ⊢
 by_cases hi:i<l.length
 ·simp(disch:=first|exact Xe|fail)only[hi,idx_map,load_map,↓Xa,Xb,Xc,↓reduceIte,Nat.reduceLT,Nat.reduceEqDiff,Nat.reduceBEq,Nat.reduceLeDiff,Nat.reduceAdd,Nat.reduceMul]
  refine(of_fn (hb _ (List.getElem_mem hi))).call ?_
  simp(disch:=first|exact Xe|fail)only[repI1,cells_IntA,↓Xa,Xb,Xc,↓reduceIte,Nat.reduceLT,Nat.reduceEqDiff,Nat.reduceBEq,Nat.reduceLeDiff,Nat.reduceAdd,Nat.reduceMul]
  refine app_C (m:=1) hg rfl cellI (by omega) (by omega) (by omega) fun y' M2 hg3=>?_
  rw[← IC_take]at hg3
  simp(disch:=first|exact Xe|fail)only[↓Xa,Xb,Xc,↓reduceIte,Nat.reduceLT,Nat.reduceEqDiff,Nat.reduceBEq,Nat.reduceLeDiff,Nat.reduceAdd,Nat.reduceMul]
  exact Settle.now ⟨(i+1,y',M2),by dsimp only;omega,⟨by dsimp only;omega,hg3⟩,rfl⟩
 ·obtain rfl:i=l.length:=by omega
  rw[List.take_of_length_le (by omega)]at hg
  simp(disch:=first|exact Xe|fail)only[hi,↓Xa,Xb,Xc,↓reduceIte,Nat.reduceLT,Nat.reduceEqDiff,Nat.reduceBEq,Nat.reduceLeDiff,Nat.reduceAdd,Nat.reduceMul]
  refine Settle.now ?_
  simp(disch:=first|exact Xe|fail)only[rs64,↓Xa,Xb,Xc,↓reduceIte,Nat.reduceLT,Nat.reduceEqDiff,Nat.reduceBEq,Nat.reduceLeDiff,Nat.reduceAdd,Nat.reduceMul]
  exact SetR.now (hq y M hg)
def joinT:List (List UInt8)→List UInt8
 |[]=>[]
 |[x]=>x
 |x::y::r=>x++32::joinT (y::r)
theorem joinT_eq: ∀xs:List (List UInt8),Lib.join xs [32]=joinT xs
 |[]=>rfl
 |[x]=>by simp[Lib.join,joinT,List.intercalate]
 |x::y::r=>by
  have:=joinT_eq (y::r)
  simp only[Lib.join,joinT,List.intercalate]at this ⊢
  rw[← this]
  simp
theorem joinT_len{k:Nat}: ∀xs:List (List UInt8),(∀x,x∈xs→x.length≤k)→(joinT xs).length≤xs.length*(k+1)
 |[],_=>by simp[joinT]
 |[x],h=>by have:=h x (by simp);simp[joinT];omega
 |x::y::r,h=>by
  have h1:=joinT_len (y::r) fun z hz=>h z (by simp at hz ⊢; exact .inr hz)
  have h2:=h x (by simp)
  simp only[joinT,List.length_append,List.length_cons]at h1 ⊢
  rw[Nat.add_mul];omega
def rowT(zs:List Int):List UInt8:=91::joinT (zs.map iText)++[93]
theorem joinI_len{k:Nat}{zs:List Int}(hz:RB4 k zs)(hk:k≤1000000)(hbig:zs.length≤1000000):(joinT (zs.map iText)).length≤1000000*10000003:=by
 refine Nat.le_trans (joinT_len (k:=10*k+2) _ fun x hx=>?_) ?_
 ·obtain⟨z,hm,rfl⟩:=List.mem_map.1 hx
  exact iText_len (hz.1 z hm)
 ·rw[List.length_map];exact Nat.mul_le_mul hbig (by omega)
theorem cell_Sx1{l:List UInt8}:[Sx l].all AV.cell=true:=rfl
theorem rowt_fn{zs:List Int}{t:Bool}{k:Nat}(hz:RB4 k zs)(hk:k≤1000000)(hbig:zs.length≤1000000):PFn Tryd.prog 65 [RowA zs t] (Sx (rowT zs)):=by
 intro H Q hq
 have nz:zs.length<9223372036854775808:=by omega
 have hjl:=joinI_len hz hk hbig
 refine enter65 (by simp) ?_
 simp(disch:=first|exact Xe|fail)only[ac65,len_rw,↓Xa,Xb,Xc,↓reduceIte,Nat.reduceLT,Nat.reduceEqDiff,Nat.reduceBEq,Nat.reduceLeDiff,Nat.reduceAdd,Nat.reduceMul]
 refine W_loop (fun s:Nat×AV×AHeap=>⟨[],[(3,s.2.1),(6,RowA zs t),(7,.int .i64 (zs.length:Int)),(8,.int .i64 s.1)],s.2.2⟩) (fun s=>s.1≤zs.length∧growC H 9 1 s.1 ((zs.take s.1).map fun z=>Sx (iText z)) s.2.1 s.2.2) (fun s=>zs.length-s.1) (0,.seq 0 [] true,H) (Settle.now rfl) ⟨Nat.zero_le _,growC_nil⟩ ?_
 rintro⟨i,y,M⟩ ⟨h3,hg⟩
 dsimp only at h3 hg ⊢
 by_cases hi:i<zs.length
 ·simp(disch:=first|exact Xe|fail)only[hi,idx_IC,load_IC,↓Xa,Xb,Xc,↓reduceIte,Nat.reduceLT,Nat.reduceEqDiff,Nat.reduceBEq,Nat.reduceLeDiff,Nat.reduceAdd,Nat.reduceMul]
  refine alloc_i fun q hq1=>?_
  simp(disch:=first|exact Xe|fail)only[cells_IntA,fold_IntA,↓Xa,Xb,Xc,↓reduceIte,Nat.reduceLT,Nat.reduceEqDiff,Nat.reduceBEq,Nat.reduceLeDiff,Nat.reduceAdd,Nat.reduceMul]
  have hg1:=growC_upd (r:=.row 34 0 [IntB (zs[i]),IntD (zs[i])]) hg hq1
  refine(itext_fn (hz.at hi) hk).call ?_
  simp(disch:=first|exact Xe|fail)only[repF0,cells_Sx,str_Sx,↓Xa,Xb,Xc,↓reduceIte,Nat.reduceLT,Nat.reduceEqDiff,Nat.reduceBEq,Nat.reduceLeDiff,Nat.reduceAdd,Nat.reduceMul]
  refine app_C (m:=1) hg1 rfl cell_Sx1 (by omega) (by omega) (by omega) fun y' M2 hg3=>?_
  have e:(zs.take (i+1)).map (fun z=>Sx (iText z))=(zs.take i).map (fun z=>Sx (iText z))++[Sx (iText (zs[i]))]:=by
   rw[List.take_add_one,List.getElem?_eq_getElem hi,Option.toList_some,List.map_append];rfl
  rw[← e]at hg3
  obtain⟨M3,hg4,hl4⟩:=growC_le2 hg3 ((Le.refl H).upd (growC_none hg hq1))
  simp(disch:=first|exact Xe|fail)only[↓Xa,Xb,Xc,↓reduceIte,Nat.reduceLT,Nat.reduceEqDiff,Nat.reduceBEq,Nat.reduceLeDiff,Nat.reduceAdd,Nat.reduceMul]
  exact Settle.dropTo hl4 (Settle.now ⟨(i+1,y',M3),by dsimp only;omega,⟨by dsimp only;omega,hg4⟩,rfl⟩)
 ·obtain rfl:i=zs.length:=by omega
  rw[List.take_of_length_le (by omega)]at hg
  simp(disch:=first|exact Xe|fail)only[hi,↓Xa,Xb,Xc,↓reduceIte,Nat.reduceLT,Nat.reduceEqDiff,Nat.reduceBEq,Nat.reduceLeDiff,Nat.reduceAdd,Nat.reduceMul]
  refine Settle.grownC 3 rfl hg (Settle.now ?_)
  have hj:=join_fn (zs.map iText) [32] false (by simpa using hbig) (by rw[joinT_eq];omega)
  rw[joinT_eq,List.length_map,List.map_map]at hj
  have s1:AV.str ⟨#[91]⟩=Sx [91]:=rfl
  have s2:AV.str ⟨#[93]⟩=Sx [93]:=rfl
  have s3:AV.str ⟨#[32]⟩=Sx [32]:=rfl
  have e1: ∀K,binW .add (Sx [91]) (Sx (joinT (zs.map iText))) K=K (Sx (91::joinT (zs.map iText))):=fun K=>add_Sx (by simp only[List.length_cons,List.length_append,List.length_nil];omega)
  have e2: ∀K,binW .add (Sx (91::joinT (zs.map iText))) (Sx [93]) K=K (Sx (rowT zs)):=fun K=>by rw[add_Sx (by simp only[List.length_cons,List.length_append,List.length_nil];omega)];rfl
  simp(disch:=first|exact Xe|fail)only[s3,↓Xa,Xb,Xc,↓reduceIte,Nat.reduceLT,Nat.reduceEqDiff,Nat.reduceBEq,Nat.reduceLeDiff,Nat.reduceAdd,Nat.reduceMul]
  refine hj.call ?_
  simp(disch:=first|exact Xe|fail)only[s1,s2,e1,e2,rs65,↓Xa,Xb,Xc,↓reduceIte,Nat.reduceLT,Nat.reduceEqDiff,Nat.reduceBEq,Nat.reduceLeDiff,Nat.reduceAdd,Nat.reduceMul]
  exact SetR.now hq
def sumN:List Nat→Nat
 |[]=>0
 |a::l=>a+sumN l
section
variable {K:AV→Prop} {H:AHeap} {k:IntKind} {t:Bool} {l:List NumV} {i:Nat}
end
theorem PFn.loose1{P:Program}{f:FuncId}{x:AV}{rest:List AV}{r:AV}(h:PFn P f (loose x::rest) r):PFn P f (x::rest) r:=fun H Q hq=>
 ⟨(h H Q hq).1,fun c vs hH hok hs he=>(h H Q hq).2 c vs hH hok (by simpa using hs) fun i hi hi'=>by
  match i,hi with
  |0,_=>exact enc_loose _ _ (he 0 (by simp) hi')
  |i+1,hi=>exact he (i+1) (by simpa using hi) hi'⟩
theorem rowover_run{H:AHeap}{Q:AV→AHeap→Prop}{zs:List Int}{t:Bool}{c:Int}{k:Nat}(hz:RB4 k zs)(hc:Bd k c)(hk:k≤1000000)(hc0:c≠0)(hbig:zs.length≤1000000)
 (hq:(∀z,z∈zs→z%c=0)→∀y M,growC H 34 2 zs.length (IC (zs.map (· / c))) y M→Q (.tup [y,.int .i64 ((0:Nat):Int)]) M)
 (hn:(∃z,z∈zs∧z%c≠0)→Q (.tup [.seq 0 [] true,.int .i64 ((20:Nat):Int)]) H):Run Tryd.prog 121 [RowA zs t,IntA c] H Q:=by
 have nz:zs.length<9223372036854775808:=by omega
 have hs:decide (sgnI c=((0:Nat):Int))=false:=decide_eq_false (by unfold sgnI;rw[if_neg hc0];split<;>omega)
 refine enter121 (by simp) ?_
 simp(disch:=first|exact Xe|fail)only[ac121,cells_IntA,↓Xa,Xb,Xc,↓reduceIte,Nat.reduceLT,Nat.reduceEqDiff,Nat.reduceBEq,Nat.reduceLeDiff,Nat.reduceAdd,Nat.reduceMul]
 refine alloc_i fun p1 hp1=>?_
 have n1:=hp1
 simp(disch:=first|exact Xe|fail)only[fold_IntA,↓Xa,Xb,Xc,↓reduceIte,Nat.reduceLT,Nat.reduceEqDiff,Nat.reduceBEq,Nat.reduceLeDiff,Nat.reduceAdd,Nat.reduceMul]
 refine(sign_fn hc (by omega)).call ?_
 simp(disch:=first|exact Xe|fail)only[eql_int,hs,len_rw,↓Xa,Xb,Xc,↓reduceIte,Nat.reduceLT,Nat.reduceEqDiff,Nat.reduceBEq,Nat.reduceLeDiff,Nat.reduceAdd,Nat.reduceMul]
 refine W_loop (fun s:Nat×AV×AHeap=>⟨[],[(3,.ptr p1 2 0),(6,s.2.1),(15,RowA zs t),(16,.int .i64 (zs.length:Int)),(17,.int .i64 s.1)],s.2.2⟩)
  (fun s=>s.1≤zs.length∧(∀z,z∈zs.take s.1→z%c=0)∧growC (H.upd p1 (some (.row 34 0 [IntB c,IntD c]))) 34 2 s.1 (IC ((zs.map (· / c)).take s.1)) s.2.1 s.2.2) (fun s=>zs.length-s.1) (0,.seq 0 [] true,_) (Settle.now rfl) ⟨Nat.zero_le _,by simp,growC_nil⟩ ?_
 rintro⟨i,y,M⟩ ⟨h3,hall,hg⟩
 dsimp only at h3 hall hg ⊢
 have m1:M p1=some (.row 34 0 [IntB c,IntD c]):=growC_old hg (upd_same _ _ _)
 by_cases hi:i<zs.length
 ·have hi2:i<(zs.map (· / c)).length:=by simpa using hi
  simp(disch:=first|exact Xe|fail)only[hi,idx_IC,load_IC,↓Xa,Xb,Xc,↓reduceIte,Nat.reduceLT,Nat.reduceEqDiff,Nat.reduceBEq,Nat.reduceLeDiff,Nat.reduceAdd,Nat.reduceMul]
  refine alloc_i fun q1 hq1=>?_
  have a1:=ne_of_some m1 hq1
  simp(disch:=first|exact Xe|fail)only[cells_IntA,fold_IntA,m1,↓Xa,Xb,Xc,↓reduceIte,Nat.reduceLT,Nat.reduceEqDiff,Nat.reduceBEq,Nat.reduceLeDiff,Nat.reduceAdd,Nat.reduceMul]
  have hg1:=growC_upd (r:=.row 34 0 [IntB (zs[i]),IntD (zs[i])]) hg hq1
  refine(idivmod_fn (hz.at hi) (by omega) hc (by omega) hc0).call ?_
  simp(disch:=first|exact Xe|fail)only[↓Xa,Xb,Xc,↓reduceIte,Nat.reduceLT,Nat.reduceEqDiff,Nat.reduceBEq,Nat.reduceLeDiff,Nat.reduceAdd,Nat.reduceMul]
  refine alloc_i fun q2 hq2=>?_
  have a2:=ne_of_some m1 (upd_none.1 hq2).2
  simp(disch:=first|exact Xe|fail)only[↓Xa,Xb,Xc,↓reduceIte,Nat.reduceLT,Nat.reduceEqDiff,Nat.reduceBEq,Nat.reduceLeDiff,Nat.reduceAdd,Nat.reduceMul]
  refine alloc_i fun q3 hq3=>?_
  have a3:=ne_of_some m1 (upd_none.1 (upd_none.1 hq3).2).2
  have a32:=(upd_none.1 hq3).1
  simp(disch:=first|exact Xe|fail)only[cells_IntA,fold_IntA,↓Xa,Xb,Xc,↓reduceIte,Nat.reduceLT,Nat.reduceEqDiff,Nat.reduceBEq,Nat.reduceLeDiff,Nat.reduceAdd,Nat.reduceMul]
  have hg2:=growC_upd (r:=.row 34 0 [IntB (zs[i] / c),IntD (zs[i] / c)]) hg1 hq2
  have hq3':((M.upd q1 (some (.row 34 0 [IntB (zs[i]),IntD (zs[i])]))).upd q2 (some (.row 34 0 [IntB (zs[i] / c),IntD (zs[i] / c)]))) q3=none:=upd_none.2 ⟨a32,(upd_none.1 hq3).2⟩
  have hg3:=growC_upd (r:=.row 34 0 [IntB (zs[i]%c),IntD (zs[i]%c)]) hg2 hq3'
  have br:Bd k (zs[i]%c):=by
   have h1:=Int.emod_lt (zs[i]) hc0
   have h2:=Int.emod_nonneg (zs[i]) hc0
   unfold Bd at hc ⊢; omega
  refine(sign_fn br (by omega)).call ?_
  by_cases h0:zs[i]%c=0
  ·simp(disch:=first|exact Xe|fail)only[sgn_neq0,h0,repI1,cells_IntA,fold_IntA,↓Xa,Xb,Xc,↓reduceIte,Nat.reduceLT,Nat.reduceEqDiff,Nat.reduceBEq,Nat.reduceLeDiff,Nat.reduceAdd,Nat.reduceMul]
   rw[h0]at hg3
   refine app_C (m:=1) hg3 rfl cellI (by omega) (by omega) (by omega) fun y' M2 hg4=>?_
   have et:(zs.map (· / c))[i]=zs[i] / c:=by simp
   rw[← et,← IC_take hi2]at hg4
   have hle:Le (H.upd p1 (some (.row 34 0 [IntB c,IntD c]))) ((((H.upd p1 (some (.row 34 0 [IntB c,IntD c]))).upd q1 (some (.row 34 0 [IntB (zs[i]),IntD (zs[i])]))).upd q2 (some (.row 34 0 [IntB ((zs.map (· / c))[i]),IntD ((zs.map (· / c))[i])]))).upd q3 (some (.row 34 0 [IntB 0,IntD 0]))):=
    (((Le.refl _).updB (growC_none hg hq1)).updB (growC_none hg (upd_none.1 hq2).2)).updB (growC_none hg (upd_none.1 (upd_none.1 hq3).2).2)
   obtain⟨M3,hg5,hl5⟩:=growC_le2 hg4 hle
   simp(disch:=first|exact Xe|fail)only[↓Xa,Xb,Xc,↓reduceIte,Nat.reduceLT,Nat.reduceEqDiff,Nat.reduceBEq,Nat.reduceLeDiff,Nat.reduceAdd,Nat.reduceMul]
   refine Settle.dropTo hl5 (Settle.now ⟨(i+1,y',M3),by dsimp only;omega,⟨by dsimp only;omega,fun z hm=>?_,hg5⟩,rfl⟩)
   dsimp only at hm
   rw[List.take_add_one,List.getElem?_eq_getElem hi,Option.toList_some]at hm
   rcases List.mem_append.1 hm with hm|hm
   ·exact hall z hm
   ·rw[List.mem_singleton.1 hm];exact h0
  ·simp(disch:=first|exact Xe|fail)only[sgn_neq0,h0,rs121,↓Xa,Xb,Xc,↓reduceIte,Nat.reduceLT,Nat.reduceEqDiff,Nat.reduceBEq,Nat.reduceLeDiff,Nat.reduceAdd,Nat.reduceMul]
   refine SetR.dropTo ?_ (SetR.now (hn ⟨_,List.getElem_mem hi,h0⟩))
   have hH:Le H M:=fun o x ho=>growC_le hg o x (((Le.refl H).updB n1) o x ho)
   exact((hH.upd hq1).upd hq2).upd hq3'
 ·obtain rfl:i=zs.length:=by omega
  rw[List.take_of_length_le (by omega)]at hall
  rw[List.take_of_length_le (by simp)]at hg
  simp(disch:=first|exact Xe|fail)only[hi,↓Xa,Xb,Xc,↓reduceIte,Nat.reduceLT,Nat.reduceEqDiff,Nat.reduceBEq,Nat.reduceLeDiff,Nat.reduceAdd,Nat.reduceMul]
  refine Settle.now ?_
  simp(disch:=first|exact Xe|fail)only[rs121,↓Xa,Xb,Xc,↓reduceIte,Nat.reduceLT,Nat.reduceEqDiff,Nat.reduceBEq,Nat.reduceLeDiff,Nat.reduceAdd,Nat.reduceMul]
  obtain⟨M3,hg5,hl5⟩:=growC_le2 hg ((Le.refl H).updB n1)
  exact SetR.dropTo hl5 (SetR.now (hq hall y M3 hg5))
theorem RB4.map{k k':Nat}{zs:List Int}{f:Int→Int}(h:RB4 k zs)(hf: ∀z,Bd k z→Bd k' (f z)):RB4 k' (zs.map f):=
 ⟨fun z hz=>by obtain⟨y,hy,rfl⟩:=List.mem_map.1 hz;exact hf y (h.1 y hy),by rw[List.length_map];exact h.2⟩
theorem RB4.zip{k k1 k2:Nat}{zs ws:List Int}{f:Int→Int→Int}(h:RB4 k1 zs)(h2:RB4 k2 ws)(hl:zs.length=ws.length)(hf: ∀z w,Bd k1 z→Bd k2 w→Bd k (f z w)):RB4 k (zipI f zs ws):=
 ⟨fun z hz=>by
  obtain⟨i,hi,rfl⟩:=List.getElem_of_mem hz
  have hi2:i<zs.length:=by rw[zip_len hl]at hi;exact hi
  rw[zip_at hl hi2]
  exact hf _ _ (h.at hi2) (h2.at (by omega)),by rw[zip_len hl];exact h.2⟩
theorem RB4.mono{k k':Nat}{zs:List Int}(h:RB4 k zs)(hk:k≤k'):RB4 k' zs:=⟨fun z hz=>(h.1 z hz).mono hk,h.2⟩
theorem Bd.sums{k:Nat}: ∀{l:List Int}{s:Int}{j:Nat},Bd (k+j) s→(∀z,z∈l→Bd k z)→Bd (k+(j+l.length)) (l.foldl (· + ·) s)
 |[],s,j,h,_=>h
 |z::l,s,j,h,h2=>by
  have:=Bd.sums (l:=l) (s:=s+z) (j:=j+1) ((h.add ((h2 z (by simp)).mono (by omega))).mono (by omega)) fun y hy=>h2 y (by simp[hy])
  exact this.mono (by simp only[List.length_cons];omega)
theorem Bd.dotF{k k1 k2:Nat}{zs ws:List Int}(h:RB4 k1 zs)(h2:RB4 k2 ws)(hl:zs.length=ws.length)(hk:k1+k2+zs.length≤k):Bd k (dotF 0 zs ws):=by
 have hz:=RB4.zip (f:=(· * ·)) h h2 hl (fun z w a b=>a.mul b)
 have:=Bd.sums (k:=k1+k2) (l:=zipI (· * ·) zs ws) (s:=0) (j:=0) (Bd.zero _) hz.1
 rw[zip_len hl]at this
 exact this.mono (by omega)
section
variable {zs ws:List Int} {t t':Bool} {k:Nat}
end
theorem stP_row{H:AHeap}{n b L off ty es:Nat}{cells l:List AV}{K:AV→AHeap→Prop}(hL:cells.length=L)(hl:l.length=n)(ho:off+n≤L):stP H n b L off K (some l) (some (.row ty es cells))↔K .bot (H.upd b (some (.row ty es (splice cells off l)))):=by
 simp[stP,hL,hl,ho]
def RowO(M:AHeap)(y:AV)(zs:List Int):Prop:=(zs=[]∧y=.seq 0 [] true)∨(0<zs.length∧∃b,y=.own b (zs.length*2) 0 zs.length false∧M b=some (.row 34 2 (IC zs)))
theorem RowO.of{H M:AHeap}{n:Nat}{y:AV}{zs:List Int}(h:growC H 34 2 n (IC zs) y M)(hn:zs.length=n):RowO M y zs:=by
 subst hn
 rcases h with⟨h1,_,rfl,rfl⟩|⟨hn,_,b,hb,rfl,rfl⟩
 ·exact .inl ⟨List.length_eq_zero_iff.1 h1,rfl⟩
 ·exact .inr ⟨hn,b,rfl,upd_same _ _ _⟩
theorem RowO.le{M M':AHeap}{y:AV}{zs:List Int}(h:RowO M y zs)(hl:Le M M'):RowO M' y zs:=by
 rcases h with h|⟨hn,b,e,hb⟩
 ·exact .inl h
 ·exact .inr ⟨hn,b,e,hl _ _ hb⟩
theorem RowO.lent{M:AHeap}{y:AV}{zs:List Int}(h:RowO M y zs):Lent M y (RowA zs false):=by
 rcases h with⟨rfl,rfl⟩|⟨hn,b,rfl,hb⟩
 ·intro c _ _ v he
  exact enc_loose _ _ (he.later (c.dropTo_later le_nil))
 ·exact Lent.own hb (IC_len zs)
theorem RowO.len{M:AHeap}{y:AV}{zs:List Int}(h:RowO M y zs)(hn:zs.length<9223372036854775808){K:AV→Prop}:lenW false y K=K (.int .i64 ((zs.length:Nat):Int)):=by
 rcases h with⟨rfl,rfl⟩|⟨h0,b,rfl,hb⟩<;>simp[lenW,hn]
section
variable {zs ws:List Int} {t t':Bool} {k:Nat}
end
theorem IC_app(a b:List Int):IC (a++b)=IC a++IC b:=by simp[IC,List.flatMap_append]
theorem repI(n:Nat):repA [.bool false,.seq 0 [] true] (n*2)=IC (List.replicate n 0):=by
 induction n with
 |zero=>simp[repA,IC]
 |succ n ih=>
  have e1:n*2%2=0:=by omega
  have e2:(n*2+1)%2=1:=by omega
  rw[List.replicate_succ',IC_snoc,← ih,show(n+1)*2=n*2+1+1 by omega]
  simp only[repA,List.range_succ,List.map_append,List.map_cons,List.map_nil,List.length_cons,List.length_nil,e1,e2]
  simp[IntB,IntD,digs_zero,LS,U,e1,e2]
theorem mks_I{H:AHeap}{ty n:Nat}{K:AV→AHeap→Prop}(h:n≤100000):mksW H ty 2 32 [.bool false,.seq 0 [] true] (.int .i64 (n:Int)) (.int .i64 (n:Int)) K↔∀b,H b=none→K (.own b (n*2) 0 n true) (H.upd b (some (.row ty 2 (IC (List.replicate n 0))))):=by
 have h1:(32:Int)*n≤281474976710656:=by omega
 have h2:(n:Int)<9223372036854775808:=by omega
 simp[mksW,h1,h2,repI]
theorem IC_tk{zs:List Int}{k:Nat}(h:k≤zs.length):(IC zs).take (k*2)=IC (zs.take k):=by
 conv=>lhs;rw[← List.take_append_drop k zs,IC_app]
 exact List.take_left' (by rw[IC_len,List.length_take];omega)
theorem IC_dp{zs:List Int}{k:Nat}(h:k≤zs.length):(IC zs).drop (k*2)=IC (zs.drop k):=by
 conv=>lhs;rw[← List.take_append_drop k zs,IC_app]
 exact List.drop_left' (by rw[IC_len,List.length_take];omega)
theorem IC_set{zs:List Int}{k:Nat}{v:Int}(h:k<zs.length):(IC zs).take (k*2)++[IntB v,IntD v]++(IC zs).drop (k*2+2)=IC (zs.set k v):=by
 rw[IC_tk (by omega),show k*2+2=(k+1)*2 by omega,IC_dp (by omega),List.set_eq_take_append_cons_drop,if_pos h,IC_app]
 simp[IC]
theorem idx_own2{G:AHeap}{b m i ty:Nat}{t:Bool}{cells:List AV}(hG:G b=some (.row ty 2 cells))(hl:cells.length=m*2)(hi:i<m){k:IntKind}{K:AV→Prop}:(liveS G (.own b (m*2) 0 m t)∧idxAW 2 (.own b (m*2) 0 m t) (.int k (i:Int)) K)↔K (.ptr b (m*2) (i*2)):=by simp[liveS,idxAW,hG,hl,hi]
theorem ldP_IC{ty m j:Nat}{zs:List Int}{K:AV→Prop}(hl:zs.length=m)(hj:j<zs.length):ldP (some 2) (m*2) (j*2) K (some (.row ty 2 (IC zs)))↔K (IntA (zs[j])):=by
 have h1:(IC zs).length=m*2:=by rw[IC_len,hl]
 have h2:j*2+2≤m*2:=by omega
 simp[ldP,ldC,h1,h2,IC_drop zs j hj,IntA_eq]
def minB(M:AHeap)(y:AV):AHeap:=fun o=>if o∈blkOf y then none else M o
theorem RowO.blk{M:AHeap}{y:AV}{zs:List Int}(h:RowO M y zs){b:Nat}(hb:b∈blkOf y):M b≠none:=by
 rcases h with⟨_,rfl⟩|⟨_,c,rfl,hc⟩
 ·simp[blkOf]at hb
 ·rw[List.mem_singleton.1 hb,hc];simp
theorem RowO.min{M:AHeap}{y z:AV}{zs:List Int}(h:RowO M y zs)(ha: ∀b,b∈blkOf z→b∉blkOf y):RowO (minB M z) y zs:=by
 rcases h with h|⟨hn,b,rfl,hb⟩
 ·exact .inl h
 ·refine .inr ⟨hn,b,rfl,?_⟩
  unfold minB
  rw[if_neg fun hz=>ha b hz (by simp[blkOf])];exact hb
def rgtE(p:PR)(n:Int):Nat:=if rightP p then(if n=p.ins then 0 else 5)else 80
theorem right10_fn(p:PR)(hp:p.ok)(n:Int):PFn Tryd.prog 67 [ProgA p,.int .i64 n] (.int .i64 ((rgtE p n:Nat):Int)):=by
 intro H Q hq
 obtain⟨k,hf⟩:=check_fn p hp
 refine enter67 (by simp) ?_
 simp(disch:=first|exact Xe|fail)only[ac67,cells_ProgA,↓Xa,Xb,Xc,↓reduceIte,Nat.reduceLT,Nat.reduceEqDiff,Nat.reduceBEq,Nat.reduceLeDiff,Nat.reduceAdd,Nat.reduceMul]
 refine alloc_i fun p1 hp1=>?_
 have n1:=hp1
 simp(disch:=first|exact Xe|fail)only[fold_ProgA,↓Xa,Xb,Xc,↓reduceIte,Nat.reduceLT,Nat.reduceEqDiff,Nat.reduceBEq,Nat.reduceLeDiff,Nat.reduceAdd,Nat.reduceMul]
 refine hf.call ?_
 unfold rgtE at hq
 by_cases h:rightP p
 ·rw[if_pos h]at hq ⊢
  have e0:decide (((0:Nat):Int)=((0:Nat):Int))=true:=rfl
  by_cases hn:n=p.ins
  ·rw[if_pos hn]at hq
   simp(disch:=first|exact Xe|fail)only[neq_int,e0,decide_eq_true hn,Bool.not_true,rs67,↓Xa,Xb,Xc,↓reduceIte,Nat.reduceLT,Nat.reduceEqDiff,Nat.reduceBEq,Nat.reduceLeDiff,Nat.reduceAdd,Nat.reduceMul]
   exact SetR.dropTo ((Le.refl H).updB n1) (SetR.now hq)
  ·rw[if_neg hn]at hq
   simp(disch:=first|exact Xe|fail)only[neq_int,e0,decide_eq_false hn,Bool.not_true,Bool.not_false,rs67,↓Xa,Xb,Xc,↓reduceIte,Nat.reduceLT,Nat.reduceEqDiff,Nat.reduceBEq,Nat.reduceLeDiff,Nat.reduceAdd,Nat.reduceMul]
   exact SetR.dropTo ((Le.refl H).updB n1) (SetR.now hq)
 ·rw[if_neg h]at hq ⊢
  have e0:decide (((80:Nat):Int)=((0:Nat):Int))=false:=rfl
  simp(disch:=first|exact Xe|fail)only[neq_int,e0,Bool.not_false,rs67,↓Xa,Xb,Xc,↓reduceIte,Nat.reduceLT,Nat.reduceEqDiff,Nat.reduceBEq,Nat.reduceLeDiff,Nat.reduceAdd,Nat.reduceMul]
  exact SetR.dropTo ((Le.refl H).updB n1) (SetR.now hq)
def WaysN:AV:=.agg [.fn (.func 96) [] [],.fn (.func 13) [] [],.fn (.func 97) [] [],.fn (.func 39) [] [],.fn (.func 111) [] []]
theorem cells_WaysN:WaysN.cells=some [.fn (.func 96) [] [],.fn (.func 13) [] [],.fn (.func 97) [] [],.fn (.func 39) [] [],.fn (.func 111) [] []]:=id rfl
theorem fold_WaysN:AV.agg [.fn (.func 96) [] [],.fn (.func 13) [] [],.fn (.func 97) [] [],.fn (.func 39) [] [],.fn (.func 111) [] []]=WaysN:=id rfl
theorem numbers10_fn:PFn Tryd.prog 69 [] WaysN:=by
 intro H Q hq
 refine enter69 (by simp) ?_
 simp(disch:=first|exact Xe|fail)only[ac69,↓Xa,Xb,Xc,↓reduceIte,Nat.reduceLT,Nat.reduceEqDiff,Nat.reduceBEq,Nat.reduceLeDiff,Nat.reduceAdd,Nat.reduceMul]
 refine alloc_i fun p1 hp1=>?_
 have n1:=hp1
 simp(disch:=first|exact Xe|fail)only[fn_cells,↓Xa,Xb,Xc,↓reduceIte,Nat.reduceLT,Nat.reduceEqDiff,Nat.reduceBEq,Nat.reduceLeDiff,Nat.reduceAdd,Nat.reduceMul]
 simp(disch:=first|exact Xe|fail)only[cells_WaysN,fold_WaysN,rs69,↓Xa,Xb,Xc,↓reduceIte,Nat.reduceLT,Nat.reduceEqDiff,Nat.reduceBEq,Nat.reduceLeDiff,Nat.reduceAdd,Nat.reduceMul]
 exact SetR.dropTo ((Le.refl H).updB n1) (SetR.now hq)
theorem over10_fn{a c:Int}{k k':Nat}(ha:Bd k a)(hc:Bd k' c)(hk:k≤1000000)(hk':k'≤1000000)(h0:c≠0):PFn Tryd.prog 111 [IntA a,IntA c] (.tup [IntA (a / c),.bool (decide (a%c=0))]):=by
 intro H Q hq
 have br:Bd k' (a%c):=by
  have h1:=Int.emod_lt a h0
  have h2:=Int.emod_nonneg a h0
  unfold Bd at hc ⊢; omega
 refine enter111 (by simp) ?_
 simp(disch:=first|exact Xe|fail)only[ac111,cells_IntA,↓Xa,Xb,Xc,↓reduceIte,Nat.reduceLT,Nat.reduceEqDiff,Nat.reduceBEq,Nat.reduceLeDiff,Nat.reduceAdd,Nat.reduceMul]
 refine alloc_i fun p1 hp1=>?_
 have n1:=hp1
 simp(disch:=first|exact Xe|fail)only[cells_IntA,↓Xa,Xb,Xc,↓reduceIte,Nat.reduceLT,Nat.reduceEqDiff,Nat.reduceBEq,Nat.reduceLeDiff,Nat.reduceAdd,Nat.reduceMul]
 refine alloc_i fun p2 hp2=>?_
 have n2:=hp2
 simp only[upd_none]at n2
 obtain⟨_,n2⟩:=n2
 simp(disch:=first|exact Xe|fail)only[↓Xa,Xb,Xc,↓reduceIte,Nat.reduceLT,Nat.reduceEqDiff,Nat.reduceBEq,Nat.reduceLeDiff,Nat.reduceAdd,Nat.reduceMul]
 refine alloc_i fun p3 hp3=>?_
 have n3:=hp3
 simp only[upd_none]at n3
 obtain⟨_,_,n3⟩:=n3
 simp(disch:=first|exact Xe|fail)only[fold_IntA,↓Xa,Xb,Xc,↓reduceIte,Nat.reduceLT,Nat.reduceEqDiff,Nat.reduceBEq,Nat.reduceLeDiff,Nat.reduceAdd,Nat.reduceMul]
 refine(idivmod_fn ha (by omega) hc (by omega) h0).call ?_
 simp(disch:=first|exact Xe|fail)only[↓Xa,Xb,Xc,↓reduceIte,Nat.reduceLT,Nat.reduceEqDiff,Nat.reduceBEq,Nat.reduceLeDiff,Nat.reduceAdd,Nat.reduceMul]
 refine alloc_i fun p4 hp4=>?_
 have n4:=hp4
 simp only[upd_none]at n4
 obtain⟨_,_,_,n4⟩:=n4
 simp(disch:=first|exact Xe|fail)only[↓Xa,Xb,Xc,↓reduceIte,Nat.reduceLT,Nat.reduceEqDiff,Nat.reduceBEq,Nat.reduceLeDiff,Nat.reduceAdd,Nat.reduceMul]
 refine alloc_i fun p5 hp5=>?_
 have n5:=hp5
 simp only[upd_none]at n5
 obtain⟨_,_,_,_,n5⟩:=n5
 simp(disch:=first|exact Xe|fail)only[cells_IntA,fold_IntA,↓Xa,Xb,Xc,↓reduceIte,Nat.reduceLT,Nat.reduceEqDiff,Nat.reduceBEq,Nat.reduceLeDiff,Nat.reduceAdd,Nat.reduceMul]
 refine PFn.dcall (sign_fn br (by omega)) ?_
 simp(disch:=first|exact Xe|fail)only[sgn_eql0,cells_IntA,fold_IntA,rs111,↓Xa,Xb,Xc,↓reduceIte,Nat.reduceLT,Nat.reduceEqDiff,Nat.reduceBEq,Nat.reduceLeDiff,Nat.reduceAdd,Nat.reduceMul]
 exact SetR.dropTo ((((((Le.refl H).updB n1).updB n2).updB n3).updB n4).updB n5) (SetR.now hq)
theorem power10_fn{n:Nat}(hn:n≤65536):PFn Tryd.prog 143 [.int .i64 (n:Int)] (IntA (2^n)):=by
 intro H Q hq
 refine enter143 (by simp) ?_
 simp(disch:=first|exact Xe|fail)only[ac143,↓Xa,Xb,Xc,↓reduceIte,Nat.reduceLT,Nat.reduceEqDiff,Nat.reduceBEq,Nat.reduceLeDiff,Nat.reduceAdd,Nat.reduceMul]
 refine alloc_i fun p1 hp1=>?_
 have n1:=hp1
 simp(disch:=first|exact Xe|fail)only[↓Xa,Xb,Xc,↓reduceIte,Nat.reduceLT,Nat.reduceEqDiff,Nat.reduceBEq,Nat.reduceLeDiff,Nat.reduceAdd,Nat.reduceMul]
 refine(of_fn (n:=((1:Nat):Int)) (by omega)).call ?_
 simp(disch:=first|exact Xe|fail)only[↓Xa,Xb,Xc,↓reduceIte,Nat.reduceLT,Nat.reduceEqDiff,Nat.reduceBEq,Nat.reduceLeDiff,Nat.reduceAdd,Nat.reduceMul]
 refine(ishl_fn (Bd.i64 (n:=((1:Nat):Int)) (by omega)) (by omega) hn).call ?_
 rw[show((1:Nat):Int)*2^n=2^n from Int.one_mul _]
 simp(disch:=first|exact Xe|fail)only[↓Xa,Xb,Xc,↓reduceIte,Nat.reduceLT,Nat.reduceEqDiff,Nat.reduceBEq,Nat.reduceLeDiff,Nat.reduceAdd,Nat.reduceMul]
 refine alloc_i fun p2 hp2=>?_
 have n2:=hp2
 simp only[upd_none]at n2
 obtain⟨_,n2⟩:=n2
 simp(disch:=first|exact Xe|fail)only[cells_IntA,fold_IntA,rs143,↓Xa,Xb,Xc,↓reduceIte,Nat.reduceLT,Nat.reduceEqDiff,Nat.reduceBEq,Nat.reduceLeDiff,Nat.reduceAdd,Nat.reduceMul]
 exact SetR.dropTo (((Le.refl H).updB n1).updB n2) (SetR.now hq)
theorem idx_own2'{G:AHeap}{b m i ty:Nat}{t:Bool}{cells:List AV}(hG:G b=some (.row ty 2 cells))(hl:cells.length=m*2)(hi:i<m){k:IntKind}{K:AV→Prop}:(liveS G (.own b (m*2) 0 m t)∧idxAW 2 (.own b (m*2) 0 m t) (.int k (i:Int)) K)↔K (.ptr b (m*2) (i*2)):=idx_own2 hG hl hi
theorem do10_run{H:AHeap}{Q:AV→AHeap→Prop}{b N k ty:Nat}{t:Bool}{regs:List Int}{i:Ins}(hb:H b=some (.row ty 2 (IC regs)))(hN:regs.length=N)(hm:mayI (N:Int) i)(hz: ∀z,z∈regs→Bd k z)(hk:k≤100000)
 (hq: ∀x ok,(ok=true→doZ i (regs.getD i.a.toNat 0) (regs.getD i.b.toNat 0)=some x)→(ok=false→doZ i (regs.getD i.a.toNat 0) (regs.getD i.b.toNat 0)=none)→Bd (k+3) x→Q (.tup [IntA x,.bool ok]) H):
 Run Tryd.prog 110 [WaysN,.own b (N*2) 0 N t,InsA i] H Q:=by
 have hmb:=mayI_b hm
 have hma:=hm.2.2
 obtain⟨a,ha⟩: ∃a:Nat,i.a=(a:Int):=⟨i.a.toNat,by omega⟩
 obtain⟨c,hc⟩: ∃c:Nat,i.b=(c:Int):=⟨i.b.toNat,by omega⟩
 have haN:a<regs.length:=by omega
 have hcN:c<regs.length:=by omega
 have ga:regs.getD i.a.toNat 0=regs[a]:=by rw[ha,Int.toNat_natCast,List.getD_eq_getElem?_getD,List.getElem?_eq_getElem haN];rfl
 have gc:regs.getD i.b.toNat 0=regs[c]:=by rw[hc,Int.toNat_natCast,List.getD_eq_getElem?_getD,List.getElem?_eq_getElem hcN];rfl
 rw[ga,gc]at hq
 have bx:=hz _ (List.getElem_mem haN)
 have by':=hz _ (List.getElem_mem hcN)
 have hl:(IC regs).length=N*2:=by rw[IC_len,hN]
 refine enter110 (by simp) ?_
 simp(disch:=first|exact Xe|fail)only[ac110,cells_WaysN,↓Xa,Xb,Xc,↓reduceIte,Nat.reduceLT,Nat.reduceEqDiff,Nat.reduceBEq,Nat.reduceLeDiff,Nat.reduceAdd,Nat.reduceMul]
 refine alloc_i fun p1 n1=>?_
 have a1:=ne_of_some hb n1
 simp(disch:=first|exact Xe|fail)only[cells_InsA,↓Xa,Xb,Xc,↓reduceIte,Nat.reduceLT,Nat.reduceEqDiff,Nat.reduceBEq,Nat.reduceLeDiff,Nat.reduceAdd,Nat.reduceMul]
 refine alloc_i fun p2 hp2=>?_
 have n2:=(upd_none.1 hp2).2
 have a2:=ne_of_some hb n2
 have d21:=(upd_none.1 hp2).1
 simp(disch:=first|exact Xe|fail)only[↓Xa,Xb,Xc,↓reduceIte,Nat.reduceLT,Nat.reduceEqDiff,Nat.reduceBEq,Nat.reduceLeDiff,Nat.reduceAdd,Nat.reduceMul]
 refine alloc_i fun p3 hp3=>?_
 have n3:=(upd_none.1 (upd_none.1 hp3).2).2
 have a3:=ne_of_some hb n3
 have d32:=(upd_none.1 hp3).1
 have d31:=(upd_none.1 (upd_none.1 hp3).2).1
 simp(disch:=first|exact Xe|fail)only[ha,hc,hb,idx_own2',hl,ldP_IC hN haN,ldP_IC hN hcN,↓Xa,Xb,Xc,↓reduceIte,Nat.reduceLT,Nat.reduceEqDiff,Nat.reduceBEq,Nat.reduceLeDiff,Nat.reduceAdd,Nat.reduceMul]
 refine dalloc_i fun p4 hp4=>?_
 have n4:=(upd_none.1 (upd_none.1 (upd_none.1 hp4).2).2).2
 have a4:=ne_of_some hb n4
 have d43:=(upd_none.1 hp4).1
 have d42:=(upd_none.1 (upd_none.1 hp4).2).1
 have d41:=(upd_none.1 (upd_none.1 (upd_none.1 hp4).2).2).1
 simp(disch:=first|exact Xe|fail)only[↓Xa,Xb,Xc,↓reduceIte,Nat.reduceLT,Nat.reduceEqDiff,Nat.reduceBEq,Nat.reduceLeDiff,Nat.reduceAdd,Nat.reduceMul]
 refine dalloc_i fun p5 hp5=>?_
 have n5:=(upd_none.1 (upd_none.1 (upd_none.1 (upd_none.1 hp5).2).2).2).2
 have a5:=ne_of_some hb n5
 have d54:=(upd_none.1 hp5).1
 have d53:=(upd_none.1 (upd_none.1 hp5).2).1
 have d52:=(upd_none.1 (upd_none.1 (upd_none.1 hp5).2).2).1
 have d51:=(upd_none.1 (upd_none.1 (upd_none.1 (upd_none.1 hp5).2).2).2).1
 generalize regs[a]=x at*
 generalize regs[c]=y at*
 have fin: ∀{r:AV}{x1 x2 x3 x4 x5:ABlk},Q r H→SetR Q r (((((H.upd p1 (some x1)).upd p2 (some x2)).upd p3 (some x3)).upd p4 (some x4)).upd p5 (some x5)):=fun h=>
  SetR.dropTo ((((((Le.refl H).updB n1).updB n2).updB n3).updB n4).updB n5) (SetR.now h)
 have ok1: ∀{z:Int},doZ i x y=some z→Bd (k+3) z→Q (.tup [IntA z,.bool true]) H:=fun h hb=>hq _ true (fun _=>h) (fun e=>by cases e) hb
 have ok2: ∀{z:Int},doZ i x y=some z→Q (.tup [IntA z,.bool true]) H:=fun h=>ok1 h (doZ_bd hm bx by' h)
 simp(disch:=first|exact Xe|fail)only[cells_IntA,↓Xa,Xb,Xc,↓reduceIte,Nat.reduceLT,Nat.reduceEqDiff,Nat.reduceBEq,Nat.reduceLeDiff,Nat.reduceAdd,Nat.reduceMul]
 by_cases o2:i.op=2
 ·have e2:decide (i.op=((2:Nat):Int))=true:=decide_eq_true o2
  simp(disch:=first|exact Xe|fail)only[eql_int,e2,fold_IntA,↓Xa,Xb,Xc,↓reduceIte,Nat.reduceLT,Nat.reduceEqDiff,Nat.reduceBEq,Nat.reduceLeDiff,Nat.reduceAdd,Nat.reduceMul]
  refine(neg_fn bx (by omega)).call ?_
  simp(disch:=first|exact Xe|fail)only[cells_IntA,fold_IntA,rs110,↓Xa,Xb,Xc,↓reduceIte,Nat.reduceLT,Nat.reduceEqDiff,Nat.reduceBEq,Nat.reduceLeDiff,Nat.reduceAdd,Nat.reduceMul]
  exact fin (ok2 (by unfold doZ;rw[if_pos o2]))
 have e2:decide (i.op=((2:Nat):Int))=false:=decide_eq_false o2
 by_cases o3:i.op=3
 ·have e3:decide (i.op=((3:Nat):Int))=true:=decide_eq_true o3
  simp(disch:=first|exact Xe|fail)only[eql_int,e2,e3,fold_IntA,↓Xa,Xb,Xc,↓reduceIte,Nat.reduceLT,Nat.reduceEqDiff,Nat.reduceBEq,Nat.reduceLeDiff,Nat.reduceAdd,Nat.reduceMul]
  refine(addi_fn bx (by omega) by' (by omega)).call ?_
  simp(disch:=first|exact Xe|fail)only[cells_IntA,fold_IntA,rs110,↓Xa,Xb,Xc,↓reduceIte,Nat.reduceLT,Nat.reduceEqDiff,Nat.reduceBEq,Nat.reduceLeDiff,Nat.reduceAdd,Nat.reduceMul]
  exact fin (ok2 (by unfold doZ;rw[if_neg o2,if_pos o3]))
 have e3:decide (i.op=((3:Nat):Int))=false:=decide_eq_false o3
 by_cases o4:i.op=4
 ·have e4:decide (i.op=((4:Nat):Int))=true:=decide_eq_true o4
  simp(disch:=first|exact Xe|fail)only[eql_int,e2,e3,e4,fold_IntA,↓Xa,Xb,Xc,↓reduceIte,Nat.reduceLT,Nat.reduceEqDiff,Nat.reduceBEq,Nat.reduceLeDiff,Nat.reduceAdd,Nat.reduceMul]
  refine(subi_fn bx (by omega) by' (by omega)).call ?_
  simp(disch:=first|exact Xe|fail)only[cells_IntA,fold_IntA,rs110,↓Xa,Xb,Xc,↓reduceIte,Nat.reduceLT,Nat.reduceEqDiff,Nat.reduceBEq,Nat.reduceLeDiff,Nat.reduceAdd,Nat.reduceMul]
  exact fin (ok2 (by unfold doZ;rw[if_neg o2,if_neg o3,if_pos o4]))
 have e4:decide (i.op=((4:Nat):Int))=false:=decide_eq_false o4
 have hcst:=cst_ne hm
 have h3:=hm.2.2.2.2.2.2
 rw[if_neg (by omega)]at h3
 by_cases o5:i.op=5
 ·have e5:decide (i.op=((5:Nat):Int))=true:=decide_eq_true o5
  have hcs:cst i=i.c:=by unfold cst;rw[if_pos (.inl o5)]
  rw[if_pos (.inl o5)]at h3
  simp(disch:=first|exact Xe|fail)only[eql_int,e2,e3,e4,e5,fold_IntA,↓Xa,Xb,Xc,↓reduceIte,Nat.reduceLT,Nat.reduceEqDiff,Nat.reduceBEq,Nat.reduceLeDiff,Nat.reduceAdd,Nat.reduceMul]
  refine PFn.dcall (of_fn (n:=i.c) (by omega)) ?_
  simp(disch:=first|exact Xe|fail)only[↓Xa,Xb,Xc,↓reduceIte,Nat.reduceLT,Nat.reduceEqDiff,Nat.reduceBEq,Nat.reduceLeDiff,Nat.reduceAdd,Nat.reduceMul]
  refine(muli_fn bx (by omega) (Bd.i64 (n:=i.c) (by omega)) (by omega)).call ?_
  simp(disch:=first|exact Xe|fail)only[cells_IntA,fold_IntA,rs110,↓Xa,Xb,Xc,↓reduceIte,Nat.reduceLT,Nat.reduceEqDiff,Nat.reduceBEq,Nat.reduceLeDiff,Nat.reduceAdd,Nat.reduceMul]
  exact fin (ok2 (by unfold doZ;rw[if_neg o2,if_neg o3,if_neg o4,if_pos (.inl o5),hcs,Int.mul_comm]))
 have e5:decide (i.op=((5:Nat):Int))=false:=decide_eq_false o5
 by_cases o7:i.op=7
 ·have e7:decide (i.op=((7:Nat):Int))=true:=decide_eq_true o7
  have hcs:cst i=2^i.c.toNat:=by unfold cst;rw[if_neg (by omega)]
  rw[if_neg (by omega),if_pos (.inl o7)]at h3
  obtain⟨m,hmc⟩: ∃m:Nat,i.c=(m:Int):=⟨i.c.toNat,by omega⟩
  rw[hmc,Int.toNat_natCast]at hcs
  have hcb:=cst_bd hm (by omega)
  rw[hcs]at hcb
  simp(disch:=first|exact Xe|fail)only[eql_int,e2,e3,e4,e5,e7,hmc,fold_IntA,↓Xa,Xb,Xc,↓reduceIte,Nat.reduceLT,Nat.reduceEqDiff,Nat.reduceBEq,Nat.reduceLeDiff,Nat.reduceAdd,Nat.reduceMul]
  refine PFn.dcall (power10_fn (n:=m) (by omega)) ?_
  simp(disch:=first|exact Xe|fail)only[↓Xa,Xb,Xc,↓reduceIte,Nat.reduceLT,Nat.reduceEqDiff,Nat.reduceBEq,Nat.reduceLeDiff,Nat.reduceAdd,Nat.reduceMul]
  refine(muli_fn bx (by omega) hcb (by omega)).call ?_
  simp(disch:=first|exact Xe|fail)only[cells_IntA,fold_IntA,rs110,↓Xa,Xb,Xc,↓reduceIte,Nat.reduceLT,Nat.reduceEqDiff,Nat.reduceBEq,Nat.reduceLeDiff,Nat.reduceAdd,Nat.reduceMul]
  exact fin (ok2 (by unfold doZ;rw[if_neg o2,if_neg o3,if_neg o4,if_pos (.inr o7),hcs,Int.mul_comm]))
 have e7:decide (i.op=((7:Nat):Int))=false:=decide_eq_false o7
 by_cases o6:i.op=6
 ·have e6:decide (i.op=((6:Nat):Int))=true:=decide_eq_true o6
  have hcs:cst i=i.c:=by unfold cst;rw[if_pos (.inr o6)]
  rw[if_pos (.inr o6)]at h3
  simp(disch:=first|exact Xe|fail)only[eql_int,e2,e3,e4,e5,e7,e6,fold_IntA,↓Xa,Xb,Xc,↓reduceIte,Nat.reduceLT,Nat.reduceEqDiff,Nat.reduceBEq,Nat.reduceLeDiff,Nat.reduceAdd,Nat.reduceMul]
  refine PFn.dcall (of_fn (n:=i.c) (by omega)) ?_
  simp(disch:=first|exact Xe|fail)only[↓Xa,Xb,Xc,↓reduceIte,Nat.reduceLT,Nat.reduceEqDiff,Nat.reduceBEq,Nat.reduceLeDiff,Nat.reduceAdd,Nat.reduceMul]
  refine PFn.dcall (over10_fn bx (Bd.i64 (n:=i.c) (by omega)) (by omega) (by omega) h3.2.1) ?_
  simp(disch:=first|exact Xe|fail)only[cells_IntA,fold_IntA,rs110,↓Xa,Xb,Xc,↓reduceIte,Nat.reduceLT,Nat.reduceEqDiff,Nat.reduceBEq,Nat.reduceLeDiff,Nat.reduceAdd,Nat.reduceMul]
  have hd:doZ i x y=if x%i.c=0 then some (x / i.c)else none:=by unfold doZ;rw[if_neg o2,if_neg o3,if_neg o4,if_neg (by omega),if_pos (.inl o6),hcs]
  refine fin (hq _ _ (fun h=>by rw[hd,if_pos (of_decide_eq_true h)]) (fun h=>by rw[hd,if_neg (of_decide_eq_false h)]) ?_)
  exact(bx.ediv).mono (by omega)
 have e6:decide (i.op=((6:Nat):Int))=false:=decide_eq_false o6
 by_cases o8:i.op=8
 ·have e8:decide (i.op=((8:Nat):Int))=true:=decide_eq_true o8
  have hcs:cst i=2^i.c.toNat:=by unfold cst;rw[if_neg (by omega)]
  rw[if_neg (by omega),if_pos (.inr o8)]at h3
  obtain⟨m,hmc⟩: ∃m:Nat,i.c=(m:Int):=⟨i.c.toNat,by omega⟩
  rw[hmc,Int.toNat_natCast]at hcs
  have hcb:=cst_bd hm (by omega)
  rw[hcs]at hcb hcst
  simp(disch:=first|exact Xe|fail)only[eql_int,e2,e3,e4,e5,e7,e6,e8,hmc,fold_IntA,↓Xa,Xb,Xc,↓reduceIte,Nat.reduceLT,Nat.reduceEqDiff,Nat.reduceBEq,Nat.reduceLeDiff,Nat.reduceAdd,Nat.reduceMul]
  refine PFn.dcall (power10_fn (n:=m) (by omega)) ?_
  simp(disch:=first|exact Xe|fail)only[↓Xa,Xb,Xc,↓reduceIte,Nat.reduceLT,Nat.reduceEqDiff,Nat.reduceBEq,Nat.reduceLeDiff,Nat.reduceAdd,Nat.reduceMul]
  refine PFn.dcall (over10_fn bx hcb (by omega) (by omega) hcst) ?_
  simp(disch:=first|exact Xe|fail)only[cells_IntA,fold_IntA,rs110,↓Xa,Xb,Xc,↓reduceIte,Nat.reduceLT,Nat.reduceEqDiff,Nat.reduceBEq,Nat.reduceLeDiff,Nat.reduceAdd,Nat.reduceMul]
  have hd:doZ i x y=if x%2^m=0 then some (x / 2^m)else none:=by unfold doZ;rw[if_neg o2,if_neg o3,if_neg o4,if_neg (by omega),if_pos (.inr o8),hcs]
  refine fin (hq _ _ (fun h=>by rw[hd,if_pos (of_decide_eq_true h)]) (fun h=>by rw[hd,if_neg (of_decide_eq_false h)]) ?_)
  exact(bx.ediv).mono (by omega)
 have e8:decide (i.op=((8:Nat):Int))=false:=decide_eq_false o8
 simp(disch:=first|exact Xe|fail)only[eql_int,e2,e3,e4,e5,e7,e6,e8,cells_IntA,fold_IntA,rs110,↓Xa,Xb,Xc,↓reduceIte,Nat.reduceLT,Nat.reduceEqDiff,Nat.reduceBEq,Nat.reduceLeDiff,Nat.reduceAdd,Nat.reduceMul]
 exact fin (ok2 (by unfold doZ;rw[if_neg o2,if_neg o3,if_neg o4,if_neg (by omega),if_neg (by omega)]))
theorem un_atR{A B:AHeap}{b:Nat}(h:A b=none):Un A B b=B b:=by simp[Un,h]
theorem le_unR{A B B':AHeap}(h:Le B B'):Le (Un A B) (Un A B'):=fun o x ho=>by
 unfold Un at ho ⊢
 cases e:A o with
 |some y=>rw[e]at ho;exact ho
 |none=>rw[e]at ho;exact h o x ho
theorem dj_le{A B B':AHeap}(h:Dj A B')(hl:Le B B'):Dj A B:=fun i=>by
 rcases h i with h|h
 ·exact .inl h
 ·right
  cases e:B i with
  |none=>rfl
  |some x=>have:=hl i x e;rw[h]at this;cases this
theorem callW_mono{P:Program}{f:AV}{args:List AV}{H:AHeap}{K K':AV→AHeap→Prop}(h:callW P f args H K)(hk: ∀r H',K r H'→K' r H'):callW P f args H K':=by
 unfold callW at h ⊢
 split at h
 ·exact Run.mono h hk
 ·exact YieldW.mono h hk
 ·exact h.elim
theorem stP_IC{H:AHeap}{b N w ty:Nat}{x:Int}{regs:List Int}{K:AV→AHeap→Prop}(hN:regs.length=N)(hw:w<N):stP H 2 b (N*2) (w*2) K (some [IntB x,IntD x]) (some (.row ty 2 (IC regs)))↔K .bot (H.upd b (some (.row ty 2 (IC (regs.set w x))))):=by
 rw[stP_row (n:=2) (l:=[IntB x,IntD x]) (by rw[IC_len,hN]) rfl (by omega)]
 have e:splice (IC regs) (w*2) [IntB x,IntD x]=IC (regs.set w x):=IC_set (by omega)
 rw[e]
def CodeV(C:AHeap)(v:AV)(l:List Ins):Prop:=v.cell=true∧(∀K,lenW false v K=K (.int .i64 ((l.length:Nat):Int)))∧∃qf:Nat→AV,∀G,Le C G→Lent G v (CodeA l false)∧∀i(h:i<l.length),(∀k K,(liveS G v∧idxAW 5 v (.int k (i:Int)) K)↔K (qf i))∧∀K,loadW G (some 5) (qf i) K↔K (InsA (l[i]))
def OutsV(C:AHeap)(v:AV)(l:List Int):Prop:=v.cell=true∧(∀K,lenW false v K=K (.int .i64 ((l.length:Nat):Int)))∧∃qf:Nat→AV,∀G,Le C G→Lent G v (OutsA l false)∧∀i(h:i<l.length),(∀k K,(liveS G v∧idxAW 1 v (.int k (i:Int)) K)↔K (qf i))∧∀K,loadW G none (qf i) K↔K (.int .i64 (l[i]))
theorem Lent.loose{G:AHeap}{n:Nat}{cells:List AV}{t:Bool}:Lent G (.seq n cells t) (.seq n cells false):=fun c _ _ _ h=>enc_loose _ _ (h.later (c.dropTo_later le_nil))
theorem CodeV.seq{C:AHeap}{l:List Ins}{t:Bool}(hl:l.length<9223372036854775808):CodeV C (CodeA l t) l:=⟨rfl,fun K=>len_CodeA hl,fun i=>.cptr ((l.flatMap insC).drop (i*5)),fun G _=>⟨Lent.loose,fun i h=>⟨fun k K=>by rw[idx_CodeA h];simp[liveS],fun K=>by rw[load_CodeA h]⟩⟩⟩
theorem OutsV.seq{C:AHeap}{l:List Int}{t:Bool}(hl:l.length<9223372036854775808):OutsV C (OutsA l t) l:=⟨rfl,fun K=>len_OutsA hl,fun i=>.cptr ((l.map fun n=>AV.int .i64 n).drop i),fun G _=>⟨Lent.loose,fun i h=>⟨fun k K=>by rw[idx_OutsA h];simp[liveS],fun K=>by rw[load_OutsA h]⟩⟩⟩
theorem lenW_own{b L n:Nat}{t:Bool}(hn:n<9223372036854775808){K:AV→Prop}:lenW false (.own b L 0 n t) K=K (.int .i64 ((n:Nat):Int)):=by simp[lenW,hn]
def ProgO(p:PR)(cv ov:AV):AV:=.agg [.int .i64 p.ins,.int .i64 p.regs,cv,ov]
theorem cells_ProgO{p:PR}{cv ov:AV}(h1:cv.cell=true)(h2:ov.cell=true):(ProgO p cv ov).cells=some [.int .i64 p.ins,.int .i64 p.regs,cv,ov]:=by
 have e:([.int .i64 p.ins,.int .i64 p.regs,cv,ov]:List AV).all AV.cell=true:=by
  rw[List.all_cons,List.all_cons,List.all_cons,List.all_cons,h1,h2];rfl
 show(if([.int .i64 p.ins,.int .i64 p.regs,cv,ov]:List AV).all AV.cell=true then _ else _)=_
 rw[if_pos e]
theorem fold_ProgO{p:PR}{cv ov:AV}:AV.agg [.int .i64 p.ins,.int .i64 p.regs,cv,ov]=ProgO p cv ov:=id rfl
theorem le_unB{A B:AHeap}(h:Dj A B):Le B (Un A B):=fun o x ho=>by rw[un_atR (dj_atR h ho),ho]
theorem run10_run{H C:AHeap}{cv ov:AV}{b N k0 ty:Nat}{t:Bool}{p:PR}{f:AV}{regs0 S:List Int}{A B:AHeap}{J:List Int→AHeap→Prop}{Jx:AHeap→Prop}{Q:AV→AHeap→Prop}(hH:H=Un A B)
 (hS:S=(runX doZ 0 p.code regs0).1) (hd:Dj A B) (hb:B b=some (.row ty 2 (IC regs0))) (hN:regs0.length=N) (hr: ∀i,i∈p.code→mayI (N:Int) i) (hz: ∀z,z∈regs0→Bd k0 z) (hk:k0+3*p.code.length≤100000)
 (hJ:J [] A) (hcv:CodeV C cv p.code) (hov:ov.cell=true) (hCB:Le C B) (hCb:C b=none)
 (hf: ∀pre x rest A B,S=pre++x::rest→Dj A B→J pre A→callW Tryd.prog f [.int .i64 ((pre.length:Nat):Int),IntA x] (Un A B) fun r H'=> ∃A',Dj A' B∧H'=Un A' B∧((r=.bool true∧J (pre++[x]) A')∨(r=.bool false∧Jx A')))
 (hq: ∀r A' regs',regs'.length=N→(∀z,z∈regs'→Bd (k0+3*p.code.length) z)→Dj A' (B.upd b (some (.row ty 2 (IC regs'))))→((r= -1∧S.length=p.code.length∧J S A'∧regs'=(runX doZ 0 p.code regs0).2)∨(r=(S.length:Int)∧S.length<p.code.length∧J S A')∨(r= -1∧Jx A'))→Q (.int .i64 r) (Un A' (B.upd b (some (.row ty 2 (IC regs')))))):
 Run Tryd.prog 68 [WaysN,ProgO p cv ov,.own b (N*2) 0 N t,f] H Q:=by
 subst hH
 obtain⟨hcc,hcl,qf,hcq⟩:=hcv
 have lc:p.code.length<9223372036854775808:=by omega
 have hAb:A b=none:=dj_atR hd hb
 refine enter68 (by simp) ?_
 simp(disch:=first|exact Xe|fail)only[ac68,cells_WaysN,↓Xa,Xb,Xc,↓reduceIte,Nat.reduceLT,Nat.reduceEqDiff,Nat.reduceBEq,Nat.reduceLeDiff,Nat.reduceAdd,Nat.reduceMul]
 refine alloc_i fun p4 hp4=>?_
 obtain⟨a4,b4⟩:=un_none.1 hp4
 simp(disch:=first|exact Xe|fail)only[cells_ProgO hcc hov,↓Xa,Xb,Xc,↓reduceIte,Nat.reduceLT,Nat.reduceEqDiff,Nat.reduceBEq,Nat.reduceLeDiff,Nat.reduceAdd,Nat.reduceMul]
 refine alloc_i fun p5 hp5=>?_
 have d54:=(upd_none.1 hp5).1
 obtain⟨a5,b5⟩:=un_none.1 (upd_none.1 hp5).2
 have eb4:Ap p4 b:=ne_of_some hb b4
 have eb5:Ap p5 b:=ne_of_some hb b5
 simp(disch:=first|exact Xe|fail)only[hcl,↓Xa,Xb,Xc,↓reduceIte,Nat.reduceLT,Nat.reduceEqDiff,Nat.reduceBEq,Nat.reduceLeDiff,Nat.reduceAdd,Nat.reduceMul]
 generalize hwv:(ABlk.row 124 0 [.fn (.func 96) [] [],.fn (.func 13) [] [],.fn (.func 97) [] [],.fn (.func 39) [] [],.fn (.func 111) [] []])=wv
 have eB:B.upd b (some (.row ty 2 (IC regs0)))=B:=funext fun o=>by
  by_cases e:o=b
  ·subst e;rw[upd_same,hb]
  ·rw[upd_other _ _ e]
 have fin: ∀(M:AHeap)(A':AHeap)(regs':List Int)(r:Int),Le (Un A' (B.upd b (some (.row ty 2 (IC regs'))))) M→Q (.int .i64 r) (Un A' (B.upd b (some (.row ty 2 (IC regs')))))→SetR Q (.int .i64 r) M:=fun M A' regs' r hl h=>SetR.dropTo hl (SetR.now h)
 refine W_loop (fun s:Nat×List Int×AHeap=>⟨[],[(2,.own b (N*2) 0 N t),(3,f),(4,.ptr p4 5 0),(14,cv),(15,.int .i64 p.code.length),(16,.int .i64 s.1)],Un s.2.2 ((B.upd b (some (.row ty 2 (IC s.2.1)))).upd p4 (some wv))⟩)
  (fun s=>s.1≤p.code.length∧s.1≤S.length∧s.2.1.length=N∧Dj s.2.2 ((B.upd b (some (.row ty 2 (IC s.2.1)))).upd p4 (some wv))∧J (S.take s.1) s.2.2∧runX doZ 0 (p.code.drop s.1) s.2.1=(S.drop s.1,(runX doZ 0 p.code regs0).2)∧∀z,z∈s.2.1→Bd (k0+3*s.1) z) (fun s=>p.code.length-s.1) (0,regs0,A) ?_ ⟨Nat.zero_le _,Nat.zero_le _,hN,?_,by simpa using hJ,?_,by simpa using hz⟩ ?_
 ·dsimp only
  rw[eB]
  refine Settle.dropTo (Le.updB ?_ ?_) (Settle.now rfl)
  ·rw[un_updR a4];exact Le.refl _
  ·rw[un_updR a4];exact upd_none.2 ⟨d54,un_none.2 ⟨a5,b5⟩⟩
 ·dsimp only
  rw[eB];exact dj_updR hd a4
 ·dsimp only
  rw[List.drop_zero,List.drop_zero,hS]
 rintro⟨j,regs,A'⟩ ⟨h1,h2,h3,h4,h5,h6,h7⟩
 dsimp only at h1 h2 h3 h4 h5 h6 h7 ⊢
 have gb4:b≠p4:=Ne.symm eb4
 have m4:Un A' ((B.upd b (some (.row ty 2 (IC regs)))).upd p4 (some wv)) p4=some wv:=by rw[un_atR (dj_atR h4 (upd_same _ _ _)),upd_same]
 have mb:Un A' ((B.upd b (some (.row ty 2 (IC regs)))).upd p4 (some wv)) b=some (.row ty 2 (IC regs)):=by
  have e:((B.upd b (some (.row ty 2 (IC regs)))).upd p4 (some wv)) b=some (.row ty 2 (IC regs)):=by rw[upd_other _ _ gb4,upd_same]
  rw[un_atR (dj_atR h4 e),e]
 have hA'4:A' p4=none:=dj_atR h4 (upd_same _ _ _)
 have hA'b:A' b=none:=dj_atR h4 (show _=some (ABlk.row ty 2 (IC regs)) by rw[upd_other _ _ gb4,upd_same])
 generalize hM:Un A' ((B.upd b (some (.row ty 2 (IC regs)))).upd p4 (some wv))=M at*
 by_cases hj:j<p.code.length
 ·have hmi:=hr _ (List.getElem_mem hj)
  have hma:=hmi.2.2
  obtain⟨w,hw⟩: ∃w:Nat,(p.code[j]).to=(w:Int):=⟨(p.code[j]).to.toNat,by omega⟩
  have hCM:Le C M:=fun o x ho=>by
   have ob:o≠b:=by rintro rfl;rw[hCb]at ho;cases ho
   have o4:o≠p4:=by rintro rfl;rw[hCB.none b4]at ho;cases ho
   have e:((B.upd b (some (.row ty 2 (IC regs)))).upd p4 (some wv)) o=some x:=by rw[upd_other _ _ o4,upd_other _ _ ob];exact hCB o x ho
   rw[← hM];exact le_unB h4 o x e
  have hix:=(((hcq M hCM).2 j hj).1)
  have hlx:=(((hcq M hCM).2 j hj).2)
  simp(disch:=first|exact Xe|fail)only[hj,hix,hlx,↓Xa,Xb,Xc,↓reduceIte,Nat.reduceLT,Nat.reduceEqDiff,Nat.reduceBEq,Nat.reduceLeDiff,Nat.reduceAdd,Nat.reduceMul]
  refine alloc_i fun q1 hq1=>?_
  have u1:=ne_of_some mb hq1
  have u2:=ne_of_some m4 hq1
  have m4':=m4
  rw[← hwv]at m4'
  simp(disch:=first|exact Xe|fail)only[cells_InsA,fold_InsA,m4',fold_WaysN,↓Xa,Xb,Xc,↓reduceIte,Nat.reduceLT,Nat.reduceEqDiff,Nat.reduceBEq,Nat.reduceLeDiff,Nat.reduceAdd,Nat.reduceMul]
  refine run_call (do10_run (b:=b) (N:=N) (k:=k0+3*j) (ty:=ty) (regs:=regs) (by rw[upd_other _ _ (Ne.symm u1)];exact mb) h3 hmi h7 (by omega) ?_)
  intro x ok ho1 ho2 hbx
  simp(disch:=first|exact Xe|fail)only[↓Xa,Xb,Xc,↓reduceIte,Nat.reduceLT,Nat.reduceEqDiff,Nat.reduceBEq,Nat.reduceLeDiff,Nat.reduceAdd,Nat.reduceMul]
  refine alloc_i fun q2 hq2=>?_
  have v1:=(upd_none.1 hq2).1
  have v2:=(upd_none.1 hq2).2
  have v3:=ne_of_some mb v2
  have v4:=ne_of_some m4 v2
  have hdb:Dj A' (B.upd b (some (.row ty 2 (IC regs)))):=dj_le h4 ((Le.refl _).updB (upd_none.2 ⟨eb4,b4⟩))
  have hlM:Le (Un A' (B.upd b (some (.row ty 2 (IC regs))))) M:=hM▸le_unR ((Le.refl _).updB (upd_none.2 ⟨eb4,b4⟩))
  have hz': ∀z,z∈regs→Bd (k0+3*p.code.length) z:=fun z hm=>(h7 z hm).mono (by omega)
  cases ok with
  |false=>
   have hno:=runX_no hj regs (ho2 rfl)
   rw[h6]at hno
   have hS0:S.drop j=[]:=congrArg Prod.fst hno
   have hSl:S.length≤j:=by
    have:=congrArg List.length hS0
    simp at this;omega
   obtain rfl:j=S.length:=by omega
   rw[List.take_of_length_le (Nat.le_refl _)]at h5
   simp(disch:=first|exact Xe|fail)only[cells_IntA,rs68,↓Xa,Xb,Xc,↓reduceIte,Nat.reduceLT,Nat.reduceEqDiff,Nat.reduceBEq,Nat.reduceLeDiff,Nat.reduceAdd,Nat.reduceMul]
   refine fin _ A' regs _ ((hlM.updB (hlM.none hq1)).updB (hlM.none v2)) (hq _ A' regs h3 hz' hdb (.inr (.inl ⟨rfl,hj,h5⟩)))
  |true=>
  have hdo:=ho1 rfl
  have hat:=runX_at hj regs hdo
  rw[h6]at hat
  have hS1:S.drop j=x::(runX doZ 0 (p.code.drop (j+1)) (regs.set (p.code[j]).to.toNat x)).1:=congrArg Prod.fst hat
  have hjS:j<S.length:=by
   have:=congrArg List.length hS1
   simp at this;omega
  have hSx:S=S.take j++x::S.drop (j+1):=by
   conv=>lhs;rw[← List.take_append_drop j S]
   rw[List.drop_eq_getElem_cons hjS]at hS1
   rw[List.drop_eq_getElem_cons hjS]
   injection hS1 with e1 e2
   rw[e1]
  have hS2:S.drop (j+1)=(runX doZ 0 (p.code.drop (j+1)) (regs.set (p.code[j]).to.toNat x)).1:=by
   rw[List.drop_eq_getElem_cons hjS]at hS1
   injection hS1
  have hlt:(S.take j).length=j:=by rw[List.length_take];omega
  have hl2:(IC regs).length=N*2:=by rw[IC_len,h3]
  have mb2:((M.upd q1 (some (.row 88 0 [.int .i64 (p.code[j]).op,.int .i64 (p.code[j]).to,.int .i64 (p.code[j]).a,.int .i64 (p.code[j]).b,.int .i64 (p.code[j]).c]))).upd q2 (some (.row 34 0 [IntB x,IntD x]))) b=some (.row ty 2 (IC regs)):=by
   rw[upd_other _ _ (Ne.symm v3),upd_other _ _ (Ne.symm u1)];exact mb
  have hwN:w<N:=by omega
  have hwr:w<regs.length:=by omega
  simp(disch:=first|exact Xe|fail)only[cells_IntA,hw,mb,idx_own2',hl2,↓Xa,Xb,Xc,↓reduceIte,Nat.reduceLT,Nat.reduceEqDiff,Nat.reduceBEq,Nat.reduceLeDiff,Nat.reduceAdd,Nat.reduceMul]
  refine(stP_IC h3 hwN).2 ?_
  generalize hX1:(some (ABlk.row 88 0 [.int .i64 (p.code[j]).op,.int .i64 (w:Int),.int .i64 (p.code[j]).a,.int .i64 (p.code[j]).b,.int .i64 (p.code[j]).c]))=X1 at*
  generalize hX2:(some (ABlk.row 34 0 [IntB x,IntD x]))=X2 at*
  have qa1:A' q1=none:=(un_none.1 (hM▸hq1)).1
  have qa2:A' q2=none:=(un_none.1 (hM▸v2)).1
  have eH:((M.upd q1 X1).upd q2 X2).upd b (some (.row ty 2 (IC (regs.set w x))))=Un A' ((((B.upd b (some (.row ty 2 (IC (regs.set w x))))).upd p4 (some wv)).upd q1 X1).upd q2 X2):=by
   rw[un_updR qa2,un_updR qa1,upd_comm _ _ _ (show q2≠b from v3),upd_comm _ _ _ (show q1≠b from u1),← hM,← un_updR hA'b,upd_comm _ _ _ (show p4≠b from eb4),upd_upd]
  rw[eH]
  have nb1:=(upd_none.1 (upd_none.1 (un_none.1 (hM▸hq1:Un A' _ q1=none)).2).2).2
  have nb2:=(upd_none.1 (upd_none.1 (un_none.1 (hM▸v2:Un A' _ q2=none)).2).2).2
  have hle1:Le (B.upd b (some (.row ty 2 (IC (regs.set w x))))) ((((B.upd b (some (.row ty 2 (IC (regs.set w x))))).upd p4 (some wv)).upd q1 X1).upd q2 X2):=by
   rw[← hX1,← hX2]
   exact(((Le.refl _).updB (upd_none.2 ⟨eb4,b4⟩)).updB (upd_none.2 ⟨u1,nb1⟩)).updB (upd_none.2 ⟨v3,nb2⟩)
  have hle2:Le ((B.upd b (some (.row ty 2 (IC (regs.set w x))))).upd p4 (some wv)) ((((B.upd b (some (.row ty 2 (IC (regs.set w x))))).upd p4 (some wv)).upd q1 X1).upd q2 X2):=by
   rw[← hX1,← hX2]
   exact((Le.refl _).updB (upd_none.2 ⟨u2,upd_none.2 ⟨u1,nb1⟩⟩)).updB (upd_none.2 ⟨v4,upd_none.2 ⟨v3,nb2⟩⟩)
  have hd2:Dj A' ((((B.upd b (some (.row ty 2 (IC (regs.set w x))))).upd p4 (some wv)).upd q1 X1).upd q2 X2):=by
   refine dj_updR (dj_updR (dj_updR ?_ hA'4) qa1) qa2
   have h:=dj_updR (x:=some (.row ty 2 (IC (regs.set w x)))) hdb hA'b
   rwa[upd_upd]at h
  generalize hB2:((((B.upd b (some (.row ty 2 (IC (regs.set w x))))).upd p4 (some wv)).upd q1 X1).upd q2 X2)=B2 at*
  have mq2:Un A' B2 q2=some (ABlk.row 34 0 [IntB x,IntD x]):=by rw[un_atR qa2,← hB2,upd_same,hX2]
  have hf':=hf (S.take j) x (S.drop (j+1)) A' B2 hSx hd2 h5
  rw[hlt]at hf'
  have hlen':(regs.set w x).length=N:=by rw[List.length_set,h3]
  have hbd': ∀z,z∈regs.set w x→Bd (k0+3*(j+1)) z:=fun z hm=>by
   rcases List.mem_or_eq_of_mem_set hm with hm|rfl
   ·exact(h7 z hm).mono (by omega)
   ·exact hbx.mono (by omega)
  simp(disch:=first|exact Xe|fail)only[mq2,↓Xa,Xb,Xc,↓reduceIte,Nat.reduceLT,Nat.reduceEqDiff,Nat.reduceBEq,Nat.reduceLeDiff,Nat.reduceAdd,Nat.reduceMul]
  refine callW_mono hf' ?_
  rintro r H' ⟨A'',hd3,rfl,⟨rfl,hJ'⟩|⟨rfl,hJ'⟩⟩
  ·simp(disch:=first|exact Xe|fail)only[↓Xa,Xb,Xc,↓reduceIte,Nat.reduceLT,Nat.reduceEqDiff,Nat.reduceBEq,Nat.reduceLeDiff,Nat.reduceAdd,Nat.reduceMul]
   have ew:(p.code[j]).to.toNat=w:=by omega
   rw[ew]at hat hS2
   refine Settle.dropTo (le_unR hle2) (Settle.now ⟨(j+1,regs.set w x,A''),by dsimp only;omega,⟨hj,hjS,hlen',dj_le hd3 hle2,?_,?_,hbd'⟩,rfl⟩)
   ·dsimp only
    rw[List.take_succ_eq_append_getElem hjS]
    have e:S[j]=x:=by
     rw[List.drop_eq_getElem_cons hjS]at hS1
     injection hS1
    rw[e];exact hJ'
   ·dsimp only
    rw[hS2,congrArg Prod.snd hat]
  ·simp(disch:=first|exact Xe|fail)only[rs68,↓Xa,Xb,Xc,↓reduceIte,Nat.reduceLT,Nat.reduceEqDiff,Nat.reduceBEq,Nat.reduceLeDiff,Nat.reduceAdd,Nat.reduceMul]
   refine Settle.now ?_
   simp(disch:=first|exact Xe|fail)only[rs68,↓Xa,Xb,Xc,↓reduceIte,Nat.reduceLT,Nat.reduceEqDiff,Nat.reduceBEq,Nat.reduceLeDiff,Nat.reduceAdd,Nat.reduceMul]
   exact fin _ A'' _ _ (le_unR hle1) (hq _ A'' _ hlen' (fun z hm=>(hbd' z hm).mono (by omega)) (dj_le hd3 hle1) (.inr (.inr ⟨rfl,hJ'⟩)))
 ·obtain rfl:j=p.code.length:=by omega
  have hS0:S.drop p.code.length=[]∧(runX doZ 0 p.code regs0).2=regs:=by
   rw[List.drop_of_length_le (Nat.le_refl _)]at h6
   exact⟨(congrArg Prod.fst h6).symm,(congrArg Prod.snd h6).symm⟩
  have hSl:S.length=p.code.length:=by
   have:=congrArg List.length hS0.1
   simp at this;omega
  have hlM:Le (Un A' (B.upd b (some (.row ty 2 (IC regs))))) M:=hM▸le_unR ((Le.refl _).updB (upd_none.2 ⟨eb4,b4⟩))
  have hdb:Dj A' (B.upd b (some (.row ty 2 (IC regs)))):=dj_le h4 ((Le.refl _).updB (upd_none.2 ⟨eb4,b4⟩))
  rw[← hSl,List.take_of_length_le (Nat.le_refl _)]at h5
  simp(disch:=first|exact Xe|fail)only[hj,rs68,↓Xa,Xb,Xc,↓reduceIte,Nat.reduceLT,Nat.reduceEqDiff,Nat.reduceBEq,Nat.reduceLeDiff,Nat.reduceAdd,Nat.reduceMul]
  refine Settle.now ?_
  simp(disch:=first|exact Xe|fail)only[rs68,↓Xa,Xb,Xc,↓reduceIte,Nat.reduceLT,Nat.reduceEqDiff,Nat.reduceBEq,Nat.reduceLeDiff,Nat.reduceAdd,Nat.reduceMul]
  exact fin _ A' _ _ hlM (hq _ A' _ h3 h7 hdb (.inl ⟨rfl,hSl,h5,hS0.2.symm⟩))
theorem Lent.agg{H:AHeap}{xs ys:List AV}(h:LentL H xs ys):Lent H (.agg xs) (.agg ys):=by
 intro c hc hok v he
 cases he with
 |agg _ vs hlen hcs=>exact .agg _ _ (hlen.trans h.len.symm) fun i hi hi'=>h.get i (by have:=h.len;omega) hi c hc hok _ (hcs i (by have:=h.len;omega) hi')
theorem CodeV.le{C C':AHeap}{v:AV}{l:List Ins}(h:CodeV C v l)(hl:Le C C'):CodeV C' v l:=⟨h.1,h.2.1,h.2.2.choose,fun G hG=>h.2.2.choose_spec G (hl.trans hG)⟩
theorem OutsV.le{C C':AHeap}{v:AV}{l:List Int}(h:OutsV C v l)(hl:Le C C'):OutsV C' v l:=⟨h.1,h.2.1,h.2.2.choose,fun G hG=>h.2.2.choose_spec G (hl.trans hG)⟩
theorem ProgO.lent{C G:AHeap}{p:PR}{cv ov:AV}(h1:CodeV C cv p.code)(h2:OutsV C ov p.outs)(hl:Le C G):Lent G (ProgO p cv ov) (ProgA p):=
 Lent.agg ⟨Lent.same,Lent.same,(h1.2.2.choose_spec G hl).1,(h2.2.2.choose_spec G hl).1,trivial⟩
theorem cpy_IC{H:AHeap}{b ty N:Nat}{t:Bool}{o xs:List Int}{y:AV}{K:AV→AHeap→Prop}(hH:H b=some (.row ty 2 (IC o)))(ho:o.length=N)(hy:RowO H y xs)(h:xs.length≤N)(k:K (.int .i64 ((xs.length:Nat):Int)) (H.upd b (some (.row ty 2 (IC (xs++o.drop xs.length)))))):
 cpyW H 2 (.own b (N*2) 0 N t) y K:=by
 have hlo:(IC o).length=N*2:=by rw[IC_len,ho]
 rcases hy with⟨rfl,rfl⟩|⟨h0,b',rfl,hb'⟩
 ·have e:H.upd b (some (.row ty 2 (IC o)))=H:=funext fun i=>by
   by_cases e:i=b
   ·subst e;rw[upd_same,hH]
   ·rw[upd_other _ _ e]
  simp only[List.nil_append,List.length_nil,List.drop_zero]at k
  simp[cpyW,srcW,hH,hlo,splice]
  simpa using k
 ·simp[cpyW,srcW,hH,hlo,hb',IC_len]
  have em:xs.length.min N=xs.length:=Nat.min_eq_left h
  have et:List.take (xs.length*2) (IC xs)=IC xs:=List.take_of_length_le (by rw[IC_len];omega)
  have es:splice (IC o) 0 (IC xs)=IC (xs++o.drop xs.length):=by
   unfold splice
   rw[List.take_zero,List.nil_append,Nat.zero_add,IC_len,IC_app,IC_dp (by omega)]
  rw[em,et,et,es]
  refine⟨fun x hx=>?_,k⟩
  simp only[IC,List.mem_flatMap]at hx
  obtain⟨z,-,hx⟩:=hx
  have:=List.all_eq_true.1 (cellI (z:=z)) x hx
  exact this
theorem cpy_ICf{H:AHeap}{b ty N:Nat}{t t':Bool}{o xs:List Int}{K:AV→AHeap→Prop}(hH:H b=some (.row ty 2 (IC o)))(ho:o.length=N)(h:xs.length≤N)(k:K (.int .i64 ((xs.length:Nat):Int)) (H.upd b (some (.row ty 2 (IC (xs++o.drop xs.length)))))):
 cpyW H 2 (.own b (N*2) 0 N t) (RowA xs t') K:=by
 have hlo:(IC o).length=N*2:=by rw[IC_len,ho]
 simp[cpyW,srcW,hH,hlo,IC_len]
 have em:xs.length.min N=xs.length:=Nat.min_eq_left h
 have et:List.take (xs.length*2) (IC xs)=IC xs:=List.take_of_length_le (by rw[IC_len];omega)
 have es:splice (IC o) 0 (IC xs)=IC (xs++o.drop xs.length):=by
  unfold splice
  rw[List.take_zero,List.nil_append,Nat.zero_add,IC_len,IC_app,IC_dp (by omega)]
 rw[em,et,es]
 refine⟨fun x hx=>?_,k⟩
 simp only[IC,List.mem_flatMap]at hx
 obtain⟨z,-,hx⟩:=hx
 exact List.all_eq_true.1 (cellI (z:=z)) x hx
def RowV(M:AHeap)(y:AV)(zs:List Int):Prop:=RowO M y zs∨∃t,y=RowA zs t
theorem RowV.le{M M':AHeap}{y:AV}{zs:List Int}(h:RowV M y zs)(hl:Le M M'):RowV M' y zs:=h.imp (·.le hl) id
theorem RowV.len{M:AHeap}{y:AV}{zs:List Int}(h:RowV M y zs)(hn:zs.length<9223372036854775808){K:AV→Prop}:lenW false y K=K (.int .i64 ((zs.length:Nat):Int)):=by
 rcases h with h|⟨t,rfl⟩
 ·exact h.len hn
 ·exact len_rw hn
theorem cpy_IV{H:AHeap}{b ty N:Nat}{t:Bool}{o xs:List Int}{y:AV}{K:AV→AHeap→Prop}(hH:H b=some (.row ty 2 (IC o)))(ho:o.length=N)(hy:RowV H y xs)(h:xs.length≤N)(k:K (.int .i64 ((xs.length:Nat):Int)) (H.upd b (some (.row ty 2 (IC (xs++o.drop xs.length)))))):
 cpyW H 2 (.own b (N*2) 0 N t) y K:=by
 rcases hy with hy|⟨t',rfl⟩
 ·exact cpy_IC hH ho hy h k
 ·exact cpy_ICf hH ho h k
theorem told10_fn{n:Int}{x:Int}:PFn Tryd.prog 70 [.int .i64 n,IntA x] (.bool true):=by
 intro H Q hq
 refine enter70 (by simp) ?_
 simp(disch:=first|exact Xe|fail)only[ac70,cells_IntA,↓Xa,Xb,Xc,↓reduceIte,Nat.reduceLT,Nat.reduceEqDiff,Nat.reduceBEq,Nat.reduceLeDiff,Nat.reduceAdd,Nat.reduceMul]
 refine alloc_i fun q hq'=>?_
 simp(disch:=first|exact Xe|fail)only[rs70,↓Xa,Xb,Xc,↓reduceIte,Nat.reduceLT,Nat.reduceEqDiff,Nat.reduceBEq,Nat.reduceLeDiff,Nat.reduceAdd,Nat.reduceMul]
 exact SetR.dropTo ((Le.refl H).updB hq') (SetR.now hq)
def outs10(p:PR)(xs:List Int):List Int:=p.outs.map fun r=>(runX doZ 0 p.code (xs++List.replicate (p.regs.toNat-xs.length) 0)).2.getD r.toNat 0
def steps10(p:PR)(xs:List Int):List Int:=(runX doZ 0 p.code (xs++List.replicate (p.regs.toNat-xs.length) 0)).1
theorem run10{H:AHeap}{p:PR}{cv ov y:AV}{xs:List Int}{k0:Nat}{Q:AV→AHeap→Prop}(hp:p.ok)(hcv:CodeV H cv p.code)(hov:OutsV H ov p.outs)(hy:RowV H y xs)(hz: ∀z,z∈xs→Bd k0 z)(hxl:xs.length<9223372036854775808)
 (hk:rightP p→xs.length=p.ins→k0+3*p.code.length≤100000)
 (hq1:(¬rightP p∨(xs.length:Int)≠p.ins)→Q (.tup [.seq 0 [] true,.int .i64 ((0:Nat):Int),.int .i64 ((rgtE p xs.length:Nat):Int)]) H)
 (hq2:rightP p→xs.length=p.ins→(steps10 p xs).length<p.code.length→Q (.tup [.seq 0 [] true,.int .i64 (((steps10 p xs).length:Nat):Int),.int .i64 ((20:Nat):Int)]) H)
 (hq3:rightP p→xs.length=p.ins→(steps10 p xs).length=p.code.length→∀r M,growC H 34 2 p.outs.length (IC (outs10 p xs)) r M→Q (.tup [r,.int .i64 ((0:Nat):Int),.int .i64 ((0:Nat):Int)]) M):
 Run Tryd.prog 33 [ProgO p cv ov,y] H Q:=by
 refine enter33 (by simp) ?_
 simp(disch:=first|exact Xe|fail)only[ac33,cells_ProgO hcv.1 hov.1,↓Xa,Xb,Xc,↓reduceIte,Nat.reduceLT,Nat.reduceEqDiff,Nat.reduceBEq,Nat.reduceLeDiff,Nat.reduceAdd,Nat.reduceMul]
 refine alloc_i fun p2 hp2=>?_
 have hl2:Le H (H.upd p2 (some (.row 25 0 [.int .i64 p.ins,.int .i64 p.regs,cv,ov]))):=(Le.refl H).updB hp2
 simp(disch:=first|exact Xe|fail)only[fold_ProgO,hy.len hxl,↓Xa,Xb,Xc,↓reduceIte,Nat.reduceLT,Nat.reduceEqDiff,Nat.reduceBEq,Nat.reduceLeDiff,Nat.reduceAdd,Nat.reduceMul]
 refine PFn.lcall (right10_fn p hp xs.length) rfl ⟨ProgO.lent hcv hov hl2,Lent.same,trivial⟩ ?_
 by_cases hr:rightP p∧(xs.length:Int)=p.ins
 ·have e0:rgtE p xs.length=0:=by simp[rgtE,hr.1,hr.2]
  rw[e0]
  obtain⟨hr1,hr2⟩:=hr
  have hh:=hr1.1
  unfold headP at hh
  obtain⟨N,hN⟩: ∃N:Nat,p.regs=(N:Int):=⟨p.regs.toNat,by omega⟩
  have hxN:xs.length≤N:=by omega
  simp(disch:=first|exact Xe|fail)only[neq_int,hN,↓Xa,Xb,Xc,↓reduceIte,Nat.reduceLT,Nat.reduceEqDiff,Nat.reduceBEq,Nat.reduceLeDiff,Nat.reduceAdd,Nat.reduceMul]
  rw[mks_I (by omega)]
  intro b hb
  have hbp:=(upd_none.1 hb).1
  have hbH:=(upd_none.1 hb).2
  have hyM:RowV ((H.upd p2 (some (.row 25 0 [.int .i64 p.ins,.int .i64 (N:Int),cv,ov]))).upd b (some (.row 34 2 (IC (List.replicate N 0))))) y xs:=hy.le (((Le.refl H).updB hp2).trans ((Le.refl _).updB hb))
  simp(disch:=first|exact Xe|fail)only[↓Xa,Xb,Xc,↓reduceIte,Nat.reduceLT,Nat.reduceEqDiff,Nat.reduceBEq,Nat.reduceLeDiff,Nat.reduceAdd,Nat.reduceMul]
  refine cpy_IV (upd_same _ _ _) (by simp) hyM hxN ?_
  simp(disch:=first|exact Xe|fail)only[fold_ProgO,↓Xa,Xb,Xc,↓reduceIte,Nat.reduceLT,Nat.reduceEqDiff,Nat.reduceBEq,Nat.reduceLeDiff,Nat.reduceAdd,Nat.reduceMul]
  have eP:AV.agg [.int .i64 p.ins,.int .i64 (N:Int),cv,ov]=ProgO p cv ov:=by rw[ProgO,hN]
  have eD:xs++List.drop xs.length (List.replicate N 0)=xs++List.replicate (p.regs.toNat-xs.length) 0:=by
   rw[List.drop_replicate,hN];rfl
  refine PFn.dcall numbers10_fn ?_
  simp(disch:=first|exact Xe|fail)only[eP,eD,↓Xa,Xb,Xc,↓reduceIte,Nat.reduceLT,Nat.reduceEqDiff,Nat.reduceBEq,Nat.reduceLeDiff,Nat.reduceAdd,Nat.reduceMul]
  have hb2:(H.upd p2 (some (.row 25 0 [.int .i64 p.ins,.int .i64 (N:Int),cv,ov]))) b=none:=hb
  refine run_call (run10_run (C:=H) (A:=nilH) (k0:=k0) (S:=steps10 p xs) (J:=fun _ A=>A=nilH) (Jx:=fun _=>False) un_nil.symm rfl dj_nil (upd_same _ _ _) (by simp;omega) (fun i hi=>by rw[← hN];exact hr1.2.2 i hi) ?_ (hk hr1 hr2) rfl hcv hov.1 (((Le.refl H).updB hp2).trans ((Le.refl _).updB hb)) hbH ?_ ?_)
  ·intro z hm
   rcases List.mem_append.1 hm with hm|hm
   ·exact hz z hm
   ·rw[List.mem_replicate]at hm;rw[hm.2];exact Bd.zero _
  ·rintro pre x rest A B-hd rfl
   exact told10_fn.call ⟨nilH,hd,rfl,.inl ⟨rfl,rfl⟩⟩
  intro r A' regs' hl' hbd hdj hcase
  have gm1:decide (((0:Nat):Int)≤ -1)=false:=by decide
  have hlN:(IC regs').length=N*2:=by rw[IC_len,hl']
  rcases hcase with⟨rfl,hSl,rfl,hre⟩|⟨rfl,hSl,rfl⟩|⟨_,h⟩
  ·rw[un_nil,upd_upd]
   have hou:outs10 p xs=p.outs.map fun r=>regs'.getD r.toNat 0:=by rw[hre];rfl
   have hol:(outs10 p xs).length=p.outs.length:=by simp[outs10]
   obtain⟨hoc,hon,qf,hoq⟩:=hov
   simp(disch:=first|exact Xe|fail)only[geqI,gm1,hon,↓Xa,Xb,Xc,↓reduceIte,Nat.reduceLT,Nat.reduceEqDiff,Nat.reduceBEq,Nat.reduceLeDiff,Nat.reduceAdd,Nat.reduceMul]
   have hlG:Le H ((H.upd p2 (some (.row 25 0 [.int .i64 p.ins,.int .i64 (N:Int),cv,ov]))).upd b (some (.row 34 2 (IC regs')))):=((Le.refl H).updB hp2).updB hbH
   generalize hG:((H.upd p2 (some (.row 25 0 [.int .i64 p.ins,.int .i64 (N:Int),cv,ov]))).upd b (some (.row 34 2 (IC regs'))))=G at*
   have hGb:G b=some (.row 34 2 (IC regs')):=by rw[← hG,upd_same]
   refine W_loop (fun s:Nat×AV×AHeap=>⟨[],[(8,.own b (N*2) 0 N true),(10,s.2.1),(34,ov),(35,.int .i64 p.outs.length),(36,.int .i64 s.1)],s.2.2⟩)
    (fun s=>s.1≤p.outs.length∧growC G 34 2 s.1 (IC ((outs10 p xs).take s.1)) s.2.1 s.2.2) (fun s=>p.outs.length-s.1) (0,.seq 0 [] true,G) (Settle.now rfl) ⟨Nat.zero_le _,growC_nil⟩ ?_
   rintro⟨j,z,M⟩ ⟨h1,hg⟩
   dsimp only at h1 hg ⊢
   by_cases hj:j<p.outs.length
   ·have hjo:=hr1.2.1 _ (List.getElem_mem hj)
    obtain⟨w,hw⟩: ∃w:Nat,p.outs[j]=(w:Int):=⟨(p.outs[j]).toNat,by omega⟩
    have hwN:w<N:=by omega
    have hwr:w<regs'.length:=by omega
    have hGM:=hlG.trans (growC_le hg)
    have hix:=((hoq M hGM).2 j hj).1
    have hlx:=((hoq M hGM).2 j hj).2
    have mb:M b=some (.row 34 2 (IC regs')):=growC_old hg hGb
    simp(disch:=first|exact Xe|fail)only[hj,hix,hlx,hw,mb,idx_own2',hlN,ldP_IC hl' hwr,fold_IntA,cells_IntA,repI1,↓Xa,Xb,Xc,↓reduceIte,Nat.reduceLT,Nat.reduceEqDiff,Nat.reduceBEq,Nat.reduceLeDiff,Nat.reduceAdd,Nat.reduceMul]
    refine app_C (m:=1) hg rfl cellI (by omega) (by omega) (by omega) fun y' M2 hg4=>?_
    have et:(outs10 p xs)[j]'(by omega)=regs'[w]:=by
     simp only[hou,List.getElem_map,hw]
     simp[List.getD_eq_getElem?_getD,List.getElem?_eq_getElem hwr]
    rw[← et,← IC_take (by omega)]at hg4
    simp(disch:=first|exact Xe|fail)only[↓Xa,Xb,Xc,↓reduceIte,Nat.reduceLT,Nat.reduceEqDiff,Nat.reduceBEq,Nat.reduceLeDiff,Nat.reduceAdd,Nat.reduceMul]
    exact Settle.now ⟨(j+1,y',M2),by dsimp only;omega,⟨by dsimp only;omega,hg4⟩,rfl⟩
   ·obtain rfl:j=p.outs.length:=by omega
    rw[List.take_of_length_le (by omega)]at hg
    simp(disch:=first|exact Xe|fail)only[hj,↓Xa,Xb,Xc,↓reduceIte,Nat.reduceLT,Nat.reduceEqDiff,Nat.reduceBEq,Nat.reduceLeDiff,Nat.reduceAdd,Nat.reduceMul]
    refine Settle.now ?_
    simp(disch:=first|exact Xe|fail)only[rs33,↓Xa,Xb,Xc,↓reduceIte,Nat.reduceLT,Nat.reduceEqDiff,Nat.reduceBEq,Nat.reduceLeDiff,Nat.reduceAdd,Nat.reduceMul]
    obtain⟨M2,hg2,hl3⟩:=growC_le2 hg hlG
    exact SetR.dropTo hl3 (SetR.now (hq3 hr1 hr2 hSl _ _ hg2))
  ·rw[un_nil,upd_upd]
   have hge:decide (((0:Nat):Int)≤(((steps10 p xs).length:Nat):Int))=true:=decide_eq_true (by omega)
   simp(disch:=first|exact Xe|fail)only[geqI,hge,rs33,↓Xa,Xb,Xc,↓reduceIte,Nat.reduceLT,Nat.reduceEqDiff,Nat.reduceBEq,Nat.reduceLeDiff,Nat.reduceAdd,Nat.reduceMul]
   exact SetR.dropTo (((Le.refl H).updB hp2).updB hbH) (SetR.now (hq2 hr1 hr2 hSl))
  ·exact h.elim
 ·have e0: ∃n:Nat,rgtE p xs.length=n+1:=by
   unfold rgtE
   split
   ·rw[if_neg (fun e=>hr ⟨‹_›,e⟩)];exact⟨_,rfl⟩
   ·exact⟨_,rfl⟩
  obtain⟨n,e0⟩:=e0
  have hd:decide (((n+1:Nat):Int)=((0:Nat):Int))=false:=decide_eq_false (by omega)
  rw[e0]
  simp(disch:=first|exact Xe|fail)only[neq_int,hd,rs33,↓Xa,Xb,Xc,↓reduceIte,Nat.reduceLT,Nat.reduceEqDiff,Nat.reduceBEq,Nat.reduceLeDiff,Nat.reduceAdd,Nat.reduceMul]
  refine SetR.dropTo hl2 (SetR.now ?_)
  rw[← e0];exact hq1 (by by_cases h:rightP p;exact .inr fun e=>hr ⟨h,e⟩;exact .inl h)
def liveI:PR:=⟨((2:Nat):Int),((2:Nat):Int),[⟨((4:Nat):Int),((0:Nat):Int),((0:Nat):Int),((1:Nat):Int),((0:Nat):Int)⟩,⟨((6:Nat):Int),((0:Nat):Int),((0:Nat):Int),((0:Nat):Int),((2:Nat):Int)⟩],[((0:Nat):Int)]⟩
theorem liveI_ok:liveI.ok:=by
 refine⟨by unfold I64;decide,by unfold I64;decide,?_,by decide,?_,by decide⟩
 ·intro i hi
  simp only[liveI,List.mem_cons,List.not_mem_nil,or_false]at hi
  rcases hi with rfl|rfl<;>(unfold Ins.ok I64;decide)
 ·intro n hn
  simp only[liveI,List.mem_cons,List.not_mem_nil,or_false]at hn
  subst hn;unfold I64;decide
theorem liveI_right:rightP liveI:=by decide
theorem live10_t:rowT [2]=[91,50,93]:=by simp[rowT,joinT,iText,decT,dec,digs,chr]
theorem live10_fn:PFn Tryd.prog 27 [] (.bool true):=by
 intro H Q hq
 refine enter27 (by simp) ?_
 simp(disch:=first|exact Xe|fail)only[ac27,↓Xa,Xb,Xc,↓reduceIte,Nat.reduceLT,Nat.reduceEqDiff,Nat.reduceBEq,Nat.reduceLeDiff,Nat.reduceAdd,Nat.reduceMul]
 refine run_call (rowof_run (l:=[((7:Nat):Int),((3:Nat):Int)]) (t:=true) (by decide) (by decide) fun y M hg=>?_)
 simp(disch:=first|exact Xe|fail)only[↓Xa,Xb,Xc,↓reduceIte,Nat.reduceLT,Nat.reduceEqDiff,Nat.reduceBEq,Nat.reduceLeDiff,Nat.reduceAdd,Nat.reduceMul]
 have hr:=RowO.of hg rfl
 refine run_call (run10 (p:=liveI) (cv:=CodeA liveI.code true) (ov:=OutsA liveI.outs true) (xs:=[((7:Nat):Int),((3:Nat):Int)]) (k0:=2) liveI_ok (CodeV.seq (by decide)) (OutsV.seq (by decide)) (.inl hr) ?_ (by decide) (fun _ _=>by decide) ?_ ?_ ?_)
 ·intro z hm
  simp only[List.mem_cons,List.not_mem_nil,or_false]at hm
  rcases hm with rfl|rfl<;>exact Bd.i64 (by decide)
 ·rintro(h|h)
  ·exact absurd liveI_right h
  ·exact absurd rfl h
 ·intro _ _ h
  exact absurd h (by decide)
 ·intro _ _ _ r M2 hg2
  have e:outs10 liveI [((7:Nat):Int),((3:Nat):Int)]=[2]:=by decide
  rw[e]at hg2
  have hr2:=RowO.of hg2 rfl
  simp(disch:=first|exact Xe|fail)only[↓Xa,Xb,Xc,↓reduceIte,Nat.reduceLT,Nat.reduceEqDiff,Nat.reduceBEq,Nat.reduceLeDiff,Nat.reduceAdd,Nat.reduceMul]
  refine PFn.lcall (rowt_fn (zs:=[2]) (t:=false) (k:=2) ⟨fun z hz=>by simp at hz;subst hz;exact Bd.i64 (by decide),by decide⟩ (by omega) (by decide)) rfl ⟨hr2.lent,trivial⟩ ?_
  have s1:AV.str ⟨#[91,50,93]⟩=Sx [91,50,93]:=rfl
  simp(disch:=first|exact Xe|fail)only[s1,live10_t,eql_Sx,rs27,↓Xa,Xb,Xc,↓reduceIte,Nat.reduceLT,Nat.reduceEqDiff,Nat.reduceBEq,Nat.reduceLeDiff,Nat.reduceAdd,Nat.reduceMul]
  exact SetR.dropTo ((growC_le hg).trans (growC_le hg2)) (SetR.now hq)
def gridN(g:List (List Int)):Nat:=sumN (g.map fun l=>1+l.length)
def shN(l:List Ins):Nat:=sumN (l.map fun i=>if i.op=7 then 1 else 0)
def longP(p:PR)(g:List (List Int))(n:Nat):Prop:=400<n+gridN g∨60<p.code.length∨128<p.outs.length∨12<shN p.code
instance (p:PR)(g:List (List Int))(n:Nat):Decidable (longP p g n):=by unfold longP;infer_instance
theorem idx_ownR{G:AHeap}{b m i ty:Nat}{t:Bool}{cells:List AV}(hG:G b=some (.row ty 1 cells))(hl:cells.length=m)(hi:i<m){k:IntKind}{K:AV→Prop}:(liveS G (.own b m 0 m t)∧idxAW 1 (.own b m 0 m t) (.int k (i:Int)) K)↔K (.ptr b m i):=by simp[liveS,idxAW,hG,hl,hi]
def GoodG(k L:Nat)(g:List (List Int)):Prop:= ∀r,r∈g→r.length=L∧RB4 k r
theorem Wk.cells{n:Nat}{a b:List AV}{t:Bool}(hl:a.length=b.length)(h: ∀i(h1:i<a.length)(h2:i<b.length),Wk (a[i]) (b[i])):Wk (.seq n a t) (.seq n b false):=fun c v he=>by
 cases he with
 |seq _ _ _ base cap cv hlen hcap hmax ht hb hn hce=>
  exact .seq n b false base cap cv (fun e=>List.length_eq_zero_iff.1 (by rw[← hl,hlen e];rfl)) hcap hmax (fun e=>by cases e) (fun hp=>by rw[← hl]at hp ⊢; exact hb hp) hn fun i hi=>h i (by omega) hi c _ (hce i (by omega))
theorem Wk.l0{n:Nat}{cells:List AV}{t:Bool}:Wk (.seq n cells t) (.seq n cells false):=fun _ _ h=>enc_loose _ _ h
def regsR(p:PR)(grid:List (List Int))(L:Nat):List (List Int):=grid++List.replicate (p.regs.toNat-grid.length) (List.replicate L 0)
def stepsR(p:PR)(grid:List (List Int))(L:Nat):List (List Int):=(runX doR [] p.code (regsR p grid L)).1
def outsR(p:PR)(grid:List (List Int))(L:Nat):List (List Int):=p.outs.map fun r=>(runX doR [] p.code (regsR p grid L)).2.getD r.toNat []
theorem mks_R{H:AHeap}{ty n:Nat}{K:AV→AHeap→Prop}(h:n≤100000):mksW H ty 1 24 [.seq 0 [] true] (.int .i64 (n:Int)) (.int .i64 (n:Int)) K↔∀b,H b=none→K (.own b n 0 n true) (H.upd b (some (.row ty 1 (List.replicate n (.seq 0 [] true))))):=by
 have h1:(24:Int)*n≤281474976710656:=by omega
 have h2:(n:Int)<9223372036854775808:=by omega
 have e:repA [.seq 0 [] true] n=List.replicate n (.seq 0 [] true):=by
  have e0:(fun i:Nat=>[AV.seq 0 [] true].getD (i%1) .bot)=fun _=>AV.seq 0 [] true:=funext fun i=>by rw[Nat.mod_one];rfl
  unfold repA
  have e1:n*[AV.seq 0 [] true].length=n:=by simp
  simp only[e1,List.length_cons,List.length_nil,Nat.zero_add]
  rw[e0,List.map_const',List.length_range]
 simp[mksW,h1,h2,e]
theorem splice1{l:List AV}{i:Nat}{x:AV}(h:i<l.length):splice l i [x]=l.set i x:=by
 unfold splice
 rw[List.set_eq_take_append_cons_drop,if_pos h];simp
theorem stP_1{H:AHeap}{b N j ty:Nat}{x:AV}{cells:List AV}{K:AV→AHeap→Prop}(hN:cells.length=N)(hj:j<N):stP H 1 b N j K (some [x]) (some (.row ty 1 cells))↔K .bot (H.upd b (some (.row ty 1 (cells.set j x)))):=by
 rw[stP_row (n:=1) (l:=[x]) hN rfl (by omega),splice1 (by omega)]
theorem Settle.frzC{K:St→Prop}{D:List Nat}{E:Env}{H:AHeap}(r b:Nat){ty es ty' es':Nat}{cells cs:List AV}(cs':List AV)(hl:cs'.length=cs.length)(hw: ∀i(h:i<cs.length)(h':i<cs'.length),Wk (frz1 b es cells (cs[i])) (cs'[i]))(hb:H b=some (.row ty es cells))(hr:H r=some (.row ty' es' cs))(hne:r≠b)(h:Settle K ⟨D,E.map (Fw.frz b es cells),(H.upd b none).upd r (some (.row ty' es' cs'))⟩):Settle K ⟨D,E,H⟩:=by
 refine Settle.join ?_
 intro N c a hc hok hr2
 have hc:c.H=H:=hc
 have hb':c.H b=some (.row ty es cells):=hc▸hb
 have ok1:=Ctx.drop_ok hok b
 have hH1:(c.drop b).H r=some (.row ty' es' cs):=by
  show(c.H.upd b none) r=_
  rw[upd_other _ _ hne,hc];exact hr
 obtain⟨arr,k1,k2,k3⟩:=hok.blk r _ (hc▸hr)
 have l2:Later (c.drop b) ((c.drop b).put r (.row ty' es' cs') arr):=Ctx.put_later ok1 hH1 k1 (by omega) rfl
 have ok2:Ok ((c.drop b).put r (.row ty' es' cs') arr):=Ctx.put_ok ok1 hH1 k1 (by omega) rfl (by omega) fun i hi hi'=>hw i (by omega) hi _ _ (enc_frz1 hok hb' _ _ (k3 i (by omega) hi'))
 have hw2:((c.drop b).put r (.row ty' es' cs') arr).w=c.w:=setRow_self _ _ _ _ _ k1
 refine⟨_,⟨D,E.map (Fw.frz b es cells),_⟩,?_,hw2,ok2,?_,(c.drop_later b).trans l2,h⟩
 ·show(c.H.upd b none).upd r _=_
  rw[hc]
 ·have hr':=hr2.later ((c.drop_later b).trans l2)
  refine⟨hr'.size,fun u=>?_,hr'.dlen,hr'.dmark⟩
  rw[Env.get_map _ rfl]
  exact(enc_frz hok hb' _ _ (hr2.tmp u)).later l2
abbrev rI(r:List Int):AV:=RowA r false
def GI(g:List (List Int)):List AV:=g.map rI
theorem GI_len(g:List (List Int)):(GI g).length=g.length:=by simp[GI]
theorem ldP_1{ty m j:Nat}{cells:List AV}{x:AV}{K:AV→Prop}(hl:cells.length=m)(hj:j<m)(hx:cells[j]? =some x):ldP none m j K (some (.row ty 1 cells))↔K x:=by
 have hj':j<cells.length:=by omega
 have e:(cells.drop j).take 1=[x]:=by
  rw[List.drop_eq_getElem_cons hj']
  rw[List.getElem?_eq_getElem hj']at hx;injection hx with hx
  simp[hx]
 have h2:j+1≤m:=by omega
 simp only[ldP,hl,h2,true_and,Option.getD_none,e]
 rfl
theorem ldP_GI{ty m j:Nat}{g:List (List Int)}{K:AV→Prop}(hl:g.length=m)(hj:j<g.length):ldP none m j K (some (.row ty 1 (GI g)))↔K (rI (g[j])):=ldP_1 (by rw[GI_len,hl]) (by omega) (by simp[GI,hj])
theorem GI_take{g:List (List Int)}{i:Nat}(h:i<g.length):GI (g.take (i+1))=GI (g.take i)++[rI (g[i])]:=by
 unfold GI;rw[List.take_succ_eq_append_getElem h,List.map_append];rfl
theorem cellGI{r:List Int}:[rI r].all AV.cell=true:=rfl
section
variable {zs ws:List Int} {t t':Bool} {k:Nat}
theorem rown_fn(hz:RB4 k zs)(hk:k≤1000000)(hbig:zs.length≤1000000):PFn Tryd.prog 114 [RowA zs t] (rI (zs.map (- ·))):=by
 have h:=PFn.frozen (P:=Tryd.prog) (f:=114) (args:=[RowA zs t]) fun H Q hq=>rown_run hz hk hbig hq
 have e:rI (zs.map (- ·))=.seq zs.length (IC (zs.map (- ·))) false:=by simp
 rw[e];exact h
theorem rowscI_fn{c:Int}{k':Nat}(hz:RB4 k zs)(hc:Bd k' c)(hk:k+k'≤1000000)(hbig:zs.length≤1000000):PFn Tryd.prog 119 [RowA zs t,IntA c] (rI (zs.map (c* ·))):=by
 have h:=PFn.frozen (P:=Tryd.prog) (f:=119) (args:=[RowA zs t,IntA c]) fun H Q hq=>rowsc_run hz hc hk hbig hq
 have e:rI (zs.map (c* ·))=.seq zs.length (IC (zs.map (c* ·))) false:=by simp
 rw[e];exact h
theorem ways1_fn(hz:RB4 k zs)(hw:RB4 k ws)(hk:k≤1000000)(hl:zs.length=ws.length)(hbig:zs.length≤1000000):PFn Tryd.prog 115 [RowA zs t,RowA ws t'] (rI (zipI (· + ·) zs ws)):=by
 have h:=PFn.frozen1 (P:=Tryd.prog) (f:=116) (args:=[RowA zs t,RowA ws t']) fun H Q hq=>rowadd_run hz hw hk hl hbig hq
 have e:rI (zipI (· + ·) zs ws)=.seq zs.length (IC (zipI (· + ·) zs ws)) false:=by rw[rI,RowA,zip_len hl]
 intro H Q hq
 refine enter115 (by simp) ?_
 simp(disch:=first|exact Xe|fail)only[ac115,↓Xa,Xb,Xc,↓reduceIte,Nat.reduceLT,Nat.reduceEqDiff,Nat.reduceBEq,Nat.reduceLeDiff,Nat.reduceAdd,Nat.reduceMul]
 refine h.call ?_
 rw[e]at hq
 simp(disch:=first|exact Xe|fail)only[rs115,↓Xa,Xb,Xc,↓reduceIte,Nat.reduceLT,Nat.reduceEqDiff,Nat.reduceBEq,Nat.reduceLeDiff,Nat.reduceAdd,Nat.reduceMul]
 exact SetR.now hq
theorem ways2_fn(hz:RB4 k zs)(hw:RB4 k ws)(hk:k≤1000000)(hl:zs.length=ws.length)(hbig:zs.length≤1000000):PFn Tryd.prog 117 [RowA zs t,RowA ws t'] (rI (zipI (· - ·) zs ws)):=by
 have h:=PFn.frozen1 (P:=Tryd.prog) (f:=118) (args:=[RowA zs t,RowA ws t']) fun H Q hq=>rowsub_run hz hw hk hl hbig hq
 have e:rI (zipI (· - ·) zs ws)=.seq zs.length (IC (zipI (· - ·) zs ws)) false:=by rw[rI,RowA,zip_len hl]
 intro H Q hq
 refine enter117 (by simp) ?_
 simp(disch:=first|exact Xe|fail)only[ac117,↓Xa,Xb,Xc,↓reduceIte,Nat.reduceLT,Nat.reduceEqDiff,Nat.reduceBEq,Nat.reduceLeDiff,Nat.reduceAdd,Nat.reduceMul]
 refine h.call ?_
 rw[e]at hq
 simp(disch:=first|exact Xe|fail)only[rs117,↓Xa,Xb,Xc,↓reduceIte,Nat.reduceLT,Nat.reduceEqDiff,Nat.reduceBEq,Nat.reduceLeDiff,Nat.reduceAdd,Nat.reduceMul]
 exact SetR.now hq
theorem ways3_run{H:AHeap}{Q:AV→AHeap→Prop}{c:Int}(hz:RB4 k zs)(hc:Bd k c)(hk:k≤1000000)(hc0:c≠0)(hbig:zs.length≤1000000)
 (hq:(∀z,z∈zs→z%c=0)→Q (.tup [rI (zs.map (· / c)),.bool true]) H) (hn:(∃z,z∈zs∧z%c≠0)→Q (.tup [.seq 0 [] true,.bool false]) H):Run Tryd.prog 120 [RowA zs t,IntA c] H Q:=by
 refine enter120 (by simp) ?_
 simp(disch:=first|exact Xe|fail)only[ac120,cells_IntA,↓Xa,Xb,Xc,↓reduceIte,Nat.reduceLT,Nat.reduceEqDiff,Nat.reduceBEq,Nat.reduceLeDiff,Nat.reduceAdd,Nat.reduceMul]
 refine alloc_i fun p1 hp1=>?_
 have n1:=hp1
 simp(disch:=first|exact Xe|fail)only[fold_IntA,↓Xa,Xb,Xc,↓reduceIte,Nat.reduceLT,Nat.reduceEqDiff,Nat.reduceBEq,Nat.reduceLeDiff,Nat.reduceAdd,Nat.reduceMul]
 have hle: ∀{x:ABlk},Le H (H.upd p1 (some x)):=(Le.refl H).updB n1
 have e0:decide (((0:Nat):Int)=((0:Nat):Int))=true:=rfl
 have e20:decide (((20:Nat):Int)=((0:Nat):Int))=false:=rfl
 refine run_call (rowover_run hz hc hk hc0 hbig (fun h y M hg=>?_) fun h=>?_)
 ·simp(disch:=first|exact Xe|fail)only[eql_int,e0,rs120,↓Xa,Xb,Xc,↓reduceIte,Nat.reduceLT,Nat.reduceEqDiff,Nat.reduceBEq,Nat.reduceLeDiff,Nat.reduceAdd,Nat.reduceMul]
  obtain⟨M2,hg2,hl⟩:=growC_le2 hg hle
  refine SetR.dropTo hl ?_
  have e:rI (zs.map (· / c))=.seq zs.length (IC (zs.map (· / c))) false:=by simp
  have hq':=hq h
  rw[e]at hq'
  generalize IC (zs.map (· / c))=cells at*
  rcases hg2 with⟨h0,h1,rfl,rfl⟩|⟨h0,hln,b,hb,rfl,rfl⟩
  ·rw[h0,h1]at hq'
   exact SetR.loose (SetR.now hq')
  ·refine SetR.frz b (upd_same _ _ _) ?_
   rw[upd_upd,upd_back _ hb]
   have e:Fw.frz b 2 cells (.tup [.own b (zs.length*2) 0 zs.length false,.bool true])=.tup [.seq zs.length cells false,.bool true]:=by simp[frz,frz2,frz1,hln,List.take_of_length_le]
   rw[e];exact SetR.now hq'
 ·simp(disch:=first|exact Xe|fail)only[eql_int,e20,rs120,↓Xa,Xb,Xc,↓reduceIte,Nat.reduceLT,Nat.reduceEqDiff,Nat.reduceBEq,Nat.reduceLeDiff,Nat.reduceAdd,Nat.reduceMul]
  exact SetR.dropTo hle (SetR.now (hn h))
end
theorem ways3_yes{zs:List Int}{t:Bool}{k:Nat}{c:Int}(hz:RB4 k zs)(hc:Bd k c)(hk:k≤1000000)(hc0:c≠0)(hbig:zs.length≤1000000)(h: ∀z,z∈zs→z%c=0):PFn Tryd.prog 120 [RowA zs t,IntA c] (.tup [rI (zs.map (· / c)),.bool true]):=
 fun H Q hq=>ways3_run hz hc hk hc0 hbig (fun _=>hq) fun⟨z,hm,hne⟩=>absurd (h z hm) hne
theorem ways3_no{zs:List Int}{t:Bool}{k:Nat}{c:Int}(hz:RB4 k zs)(hc:Bd k c)(hk:k≤1000000)(hc0:c≠0)(hbig:zs.length≤1000000)(h: ¬ ∀z,z∈zs→z%c=0):PFn Tryd.prog 120 [RowA zs t,IntA c] (.tup [.seq 0 [] true,.bool false]):=
 fun H Q hq=>ways3_run hz hc hk hc0 hbig (fun hh=>absurd hh h) fun _=>hq
def WayL:List AV:=[.fn (.func 114) [] [],.fn (.func 115) [] [],.fn (.func 117) [] [],.fn (.func 119) [] [],.fn (.func 120) [] []]
def WaysR:AV:=.agg WayL
theorem cells_WaysR:WaysR.cells=some [.fn (.func 114) [] [],.fn (.func 115) [] [],.fn (.func 117) [] [],.fn (.func 119) [] [],.fn (.func 120) [] []]:=id rfl
theorem fold_WaysR:AV.agg [.fn (.func 114) [] [],.fn (.func 115) [] [],.fn (.func 117) [] [],.fn (.func 119) [] [],.fn (.func 120) [] []]=WaysR:=id rfl
theorem wayR_fn:PFn Tryd.prog 73 [] WaysR:=by
 intro H Q hq
 refine enter73 (by simp) ?_
 simp(disch:=first|exact Xe|fail)only[ac73,↓Xa,Xb,Xc,↓reduceIte,Nat.reduceLT,Nat.reduceEqDiff,Nat.reduceBEq,Nat.reduceLeDiff,Nat.reduceAdd,Nat.reduceMul]
 refine alloc_i fun p1 hp1=>?_
 have n1:=hp1
 simp(disch:=first|exact Xe|fail)only[fn_cells,↓Xa,Xb,Xc,↓reduceIte,Nat.reduceLT,Nat.reduceEqDiff,Nat.reduceBEq,Nat.reduceLeDiff,Nat.reduceAdd,Nat.reduceMul]
 simp(disch:=first|exact Xe|fail)only[cells_WaysR,fold_WaysR,rs73,↓Xa,Xb,Xc,↓reduceIte,Nat.reduceLT,Nat.reduceEqDiff,Nat.reduceBEq,Nat.reduceLeDiff,Nat.reduceAdd,Nat.reduceMul]
 exact SetR.dropTo ((Le.refl H).updB n1) (SetR.now hq)
theorem doI_run{H:AHeap}{Q:AV→AHeap→Prop}{b N k L ty:Nat}{t:Bool}{regs:List (List Int)}{i:Ins}(hb:H b=some (.row ty 1 (GI regs)))(hN:regs.length=N)(hm:mayI (N:Int) i)(hz:GoodG k L regs)(hk:k≤100000)(hL:L≤100000)
 (hq1: ∀x,doR i (regs.getD i.a.toNat []) (regs.getD i.b.toNat [])=some x→RB4 (k+3) x→x.length=L→Q (.tup [rI x,.bool true]) H)
 (hq2:doR i (regs.getD i.a.toNat []) (regs.getD i.b.toNat [])=none→Q (.tup [.seq 0 [] true,.bool false]) H):
 Run Tryd.prog 113 [WaysR,.own b N 0 N t,InsA i] H Q:=by
 have hmb:=mayI_b hm
 have hma:=hm.2.2
 have h18:1≤i.op∧i.op≤8:=⟨hm.1,hm.2.1⟩
 obtain⟨a,ha⟩: ∃a:Nat,i.a=(a:Int):=⟨i.a.toNat,by omega⟩
 obtain⟨c,hc⟩: ∃c:Nat,i.b=(c:Int):=⟨i.b.toNat,by omega⟩
 have haN:a<regs.length:=by omega
 have hcN:c<regs.length:=by omega
 have ga:regs.getD i.a.toNat []=regs[a]:=by rw[ha,Int.toNat_natCast,List.getD_eq_getElem?_getD,List.getElem?_eq_getElem haN];rfl
 have gc:regs.getD i.b.toNat []=regs[c]:=by rw[hc,Int.toNat_natCast,List.getD_eq_getElem?_getD,List.getElem?_eq_getElem hcN];rfl
 rw[ga,gc]at hq1 hq2
 obtain⟨lx,bx⟩:=hz _ (List.getElem_mem haN)
 obtain⟨ly,by'⟩:=hz _ (List.getElem_mem hcN)
 have hl:(GI regs).length=N:=by rw[GI_len,hN]
 have haN':a<N:=by omega
 have hcN':c<N:=by omega
 refine enter113 (by simp) ?_
 simp(disch:=first|exact Xe|fail)only[ac113,cells_WaysR,↓Xa,Xb,Xc,↓reduceIte,Nat.reduceLT,Nat.reduceEqDiff,Nat.reduceBEq,Nat.reduceLeDiff,Nat.reduceAdd,Nat.reduceMul]
 refine alloc_i fun p1 n1=>?_
 have a1:=ne_of_some hb n1
 simp(disch:=first|exact Xe|fail)only[cells_InsA,↓Xa,Xb,Xc,↓reduceIte,Nat.reduceLT,Nat.reduceEqDiff,Nat.reduceBEq,Nat.reduceLeDiff,Nat.reduceAdd,Nat.reduceMul]
 refine alloc_i fun p2 hp2=>?_
 have n2:=(upd_none.1 hp2).2
 have a2:=ne_of_some hb n2
 have d21:=(upd_none.1 hp2).1
 simp(disch:=first|exact Xe|fail)only[ha,hc,hb,idx_ownR,hl,haN',hcN',ldP_GI hN haN,ldP_GI hN hcN,↓Xa,Xb,Xc,↓reduceIte,Nat.reduceLT,Nat.reduceEqDiff,Nat.reduceBEq,Nat.reduceLeDiff,Nat.reduceAdd,Nat.reduceMul]
 generalize regs[a]=x at*
 generalize regs[c]=y at*
 have fin: ∀{r:AV}{x1 x2:ABlk},Q r H→SetR Q r ((H.upd p1 (some x1)).upd p2 (some x2)):=fun h=>
  SetR.dropTo (((Le.refl H).updB n1).updB n2) (SetR.now h)
 have ok1: ∀{z:List Int},doR i x y=some z→RB4 (k+3) z→Q (.tup [rI z,.bool true]) H:=fun h hb=>hq1 _ h hb ((doR_len (lx.trans ly.symm) h).trans lx)
 have e2': ∀n:Nat,i.op=(n:Int)→decide (i.op=((n:Nat):Int))=true:=fun n h=>decide_eq_true h
 have no: ∀n:Nat,i.op≠(n:Int)→decide (i.op=((n:Nat):Int))=false:=fun n h=>decide_eq_false h
 by_cases o2:i.op=2
 ·simp(disch:=first|exact Xe|fail)only[eql_int,e2' 2 o2,↓Xa,Xb,Xc,↓reduceIte,Nat.reduceLT,Nat.reduceEqDiff,Nat.reduceBEq,Nat.reduceLeDiff,Nat.reduceAdd,Nat.reduceMul]
  refine(rown_fn bx (by omega) (by omega)).call ?_
  simp(disch:=first|exact Xe|fail)only[rs113,↓Xa,Xb,Xc,↓reduceIte,Nat.reduceLT,Nat.reduceEqDiff,Nat.reduceBEq,Nat.reduceLeDiff,Nat.reduceAdd,Nat.reduceMul]
  exact fin (ok1 (by rw[doR,if_pos o2]) (bx.map fun z hz=>hz.neg.mono (by omega)))
 have e2:=no 2 o2
 by_cases o3:i.op=3
 ·simp(disch:=first|exact Xe|fail)only[eql_int,e2,e2' 3 o3,↓Xa,Xb,Xc,↓reduceIte,Nat.reduceLT,Nat.reduceEqDiff,Nat.reduceBEq,Nat.reduceLeDiff,Nat.reduceAdd,Nat.reduceMul]
  refine(ways1_fn bx by' (by omega) (lx.trans ly.symm) (by omega)).call ?_
  simp(disch:=first|exact Xe|fail)only[rs113,↓Xa,Xb,Xc,↓reduceIte,Nat.reduceLT,Nat.reduceEqDiff,Nat.reduceBEq,Nat.reduceLeDiff,Nat.reduceAdd,Nat.reduceMul]
  exact fin (ok1 (by rw[doR,if_neg o2,if_pos o3]) (bx.zip by' (lx.trans ly.symm) fun z w hz hw=>(hz.add hw).mono (by omega)))
 have e3:=no 3 o3
 by_cases o4:i.op=4
 ·simp(disch:=first|exact Xe|fail)only[eql_int,e2,e3,e2' 4 o4,↓Xa,Xb,Xc,↓reduceIte,Nat.reduceLT,Nat.reduceEqDiff,Nat.reduceBEq,Nat.reduceLeDiff,Nat.reduceAdd,Nat.reduceMul]
  refine(ways2_fn bx by' (by omega) (lx.trans ly.symm) (by omega)).call ?_
  simp(disch:=first|exact Xe|fail)only[rs113,↓Xa,Xb,Xc,↓reduceIte,Nat.reduceLT,Nat.reduceEqDiff,Nat.reduceBEq,Nat.reduceLeDiff,Nat.reduceAdd,Nat.reduceMul]
  exact fin (ok1 (by rw[doR,if_neg o2,if_neg o3,if_pos o4]) (bx.zip by' (lx.trans ly.symm) fun z w hz hw=>(hz.sub hw).mono (by omega)))
 have e4:=no 4 o4
 have hcst:=cst_ne hm
 have h3:=hm.2.2.2.2.2.2
 rw[if_neg (by omega)]at h3
 have hcm:5≤i.op→RB4 (k+3) (x.map (cst i* ·)):=fun h5=>bx.map fun z hz=>((cst_bd hm h5).mul hz).mono (by omega)
 have hcd:RB4 (k+3) (x.map (· / cst i)):=bx.map fun z hz=>hz.ediv.mono (by omega)
 by_cases o5:i.op=5
 ·have hcs:cst i=i.c:=by unfold cst;rw[if_pos (.inl o5)]
  rw[if_pos (.inl o5)]at h3
  simp(disch:=first|exact Xe|fail)only[eql_int,e2,e3,e4,e2' 5 o5,↓Xa,Xb,Xc,↓reduceIte,Nat.reduceLT,Nat.reduceEqDiff,Nat.reduceBEq,Nat.reduceLeDiff,Nat.reduceAdd,Nat.reduceMul]
  refine PFn.dcall (of_fn (n:=i.c) (by omega)) ?_
  simp(disch:=first|exact Xe|fail)only[↓Xa,Xb,Xc,↓reduceIte,Nat.reduceLT,Nat.reduceEqDiff,Nat.reduceBEq,Nat.reduceLeDiff,Nat.reduceAdd,Nat.reduceMul]
  refine(rowscI_fn (k':=2) bx (Bd.i64 (n:=i.c) (by omega)) (by omega) (by omega)).call ?_
  rw[← hcs]
  simp(disch:=first|exact Xe|fail)only[rs113,↓Xa,Xb,Xc,↓reduceIte,Nat.reduceLT,Nat.reduceEqDiff,Nat.reduceBEq,Nat.reduceLeDiff,Nat.reduceAdd,Nat.reduceMul]
  exact fin (ok1 (by rw[doR,if_neg o2,if_neg o3,if_neg o4,if_pos (.inl o5)]) (hcm (by omega)))
 have e5:=no 5 o5
 by_cases o7:i.op=7
 ·have hcs:cst i=2^i.c.toNat:=by unfold cst;rw[if_neg (by omega)]
  rw[if_neg (by omega),if_pos (.inl o7)]at h3
  obtain⟨m,hmc⟩: ∃m:Nat,i.c=(m:Int):=⟨i.c.toNat,by omega⟩
  rw[hmc,Int.toNat_natCast]at hcs
  have hcb:=cst_bd hm (by omega)
  rw[hcs]at hcb
  simp(disch:=first|exact Xe|fail)only[eql_int,e2,e3,e4,e5,e2' 7 o7,hmc,↓Xa,Xb,Xc,↓reduceIte,Nat.reduceLT,Nat.reduceEqDiff,Nat.reduceBEq,Nat.reduceLeDiff,Nat.reduceAdd,Nat.reduceMul]
  refine PFn.dcall (power10_fn (n:=m) (by omega)) ?_
  simp(disch:=first|exact Xe|fail)only[↓Xa,Xb,Xc,↓reduceIte,Nat.reduceLT,Nat.reduceEqDiff,Nat.reduceBEq,Nat.reduceLeDiff,Nat.reduceAdd,Nat.reduceMul]
  refine(rowscI_fn bx hcb (by omega) (by omega)).call ?_
  rw[← hcs]
  simp(disch:=first|exact Xe|fail)only[rs113,↓Xa,Xb,Xc,↓reduceIte,Nat.reduceLT,Nat.reduceEqDiff,Nat.reduceBEq,Nat.reduceLeDiff,Nat.reduceAdd,Nat.reduceMul]
  exact fin (ok1 (by rw[doR,if_neg o2,if_neg o3,if_neg o4,if_pos (.inr o7)]) (hcm (by omega)))
 have e7:=no 7 o7
 by_cases o6:i.op=6
 ·have hcs:cst i=i.c:=by unfold cst;rw[if_pos (.inr o6)]
  rw[if_pos (.inr o6)]at h3
  have hbc:Bd (k+3) i.c:=(Bd.i64 (n:=i.c) (by omega)).mono (by omega)
  have hdo:doR i x y=if ∀z,z∈x→z%i.c=0 then some (x.map (· / i.c))else none:=by rw[doR,if_neg o2,if_neg o3,if_neg o4,if_neg (by omega),if_pos (.inl o6),hcs]
  rw[hcs]at hcd
  simp(disch:=first|exact Xe|fail)only[eql_int,e2,e3,e4,e5,e7,e2' 6 o6,↓Xa,Xb,Xc,↓reduceIte,Nat.reduceLT,Nat.reduceEqDiff,Nat.reduceBEq,Nat.reduceLeDiff,Nat.reduceAdd,Nat.reduceMul]
  refine PFn.dcall (of_fn (n:=i.c) (by omega)) ?_
  simp(disch:=first|exact Xe|fail)only[↓Xa,Xb,Xc,↓reduceIte,Nat.reduceLT,Nat.reduceEqDiff,Nat.reduceBEq,Nat.reduceLeDiff,Nat.reduceAdd,Nat.reduceMul]
  by_cases hall: ∀z,z∈x→z%i.c=0
  ·refine PFn.dcall (ways3_yes (bx.mono (by omega)) hbc (by omega) h3.2.1 (by omega) hall) ?_
   simp(disch:=first|exact Xe|fail)only[rs113,↓Xa,Xb,Xc,↓reduceIte,Nat.reduceLT,Nat.reduceEqDiff,Nat.reduceBEq,Nat.reduceLeDiff,Nat.reduceAdd,Nat.reduceMul]
   exact fin (ok1 (by rw[hdo,if_pos hall]) hcd)
  ·refine PFn.dcall (ways3_no (bx.mono (by omega)) hbc (by omega) h3.2.1 (by omega) hall) ?_
   simp(disch:=first|exact Xe|fail)only[rs113,↓Xa,Xb,Xc,↓reduceIte,Nat.reduceLT,Nat.reduceEqDiff,Nat.reduceBEq,Nat.reduceLeDiff,Nat.reduceAdd,Nat.reduceMul]
   exact fin (hq2 (by rw[hdo,if_neg hall]))
 have e6:=no 6 o6
 by_cases o8:i.op=8
 ·have hcs:cst i=2^i.c.toNat:=by unfold cst;rw[if_neg (by omega)]
  rw[if_neg (by omega),if_pos (.inr o8)]at h3
  obtain⟨m,hmc⟩: ∃m:Nat,i.c=(m:Int):=⟨i.c.toNat,by omega⟩
  rw[hmc,Int.toNat_natCast]at hcs
  have hcb:=cst_bd hm (by omega)
  rw[hcs]at hcb hcst hcd
  have hdo:doR i x y=if ∀z,z∈x→z%2^m=0 then some (x.map (· / 2^m))else none:=by rw[doR,if_neg o2,if_neg o3,if_neg o4,if_neg (by omega),if_pos (.inr o8),hcs]
  simp(disch:=first|exact Xe|fail)only[eql_int,e2,e3,e4,e5,e7,e6,e2' 8 o8,hmc,↓Xa,Xb,Xc,↓reduceIte,Nat.reduceLT,Nat.reduceEqDiff,Nat.reduceBEq,Nat.reduceLeDiff,Nat.reduceAdd,Nat.reduceMul]
  refine PFn.dcall (power10_fn (n:=m) (by omega)) ?_
  simp(disch:=first|exact Xe|fail)only[↓Xa,Xb,Xc,↓reduceIte,Nat.reduceLT,Nat.reduceEqDiff,Nat.reduceBEq,Nat.reduceLeDiff,Nat.reduceAdd,Nat.reduceMul]
  by_cases hall: ∀z,z∈x→z%2^m=0
  ·refine PFn.dcall (ways3_yes (k:=k+3) (bx.mono (by omega)) (hcb.mono (by omega)) (by omega) hcst (by omega) hall) ?_
   simp(disch:=first|exact Xe|fail)only[rs113,↓Xa,Xb,Xc,↓reduceIte,Nat.reduceLT,Nat.reduceEqDiff,Nat.reduceBEq,Nat.reduceLeDiff,Nat.reduceAdd,Nat.reduceMul]
   exact fin (ok1 (by rw[hdo,if_pos hall]) hcd)
  ·refine PFn.dcall (ways3_no (k:=k+3) (bx.mono (by omega)) (hcb.mono (by omega)) (by omega) hcst (by omega) hall) ?_
   simp(disch:=first|exact Xe|fail)only[rs113,↓Xa,Xb,Xc,↓reduceIte,Nat.reduceLT,Nat.reduceEqDiff,Nat.reduceBEq,Nat.reduceLeDiff,Nat.reduceAdd,Nat.reduceMul]
   exact fin (hq2 (by rw[hdo,if_neg hall]))
 have e8:=no 8 o8
 simp(disch:=first|exact Xe|fail)only[eql_int,e2,e3,e4,e5,e7,e6,e8,rs113,↓Xa,Xb,Xc,↓reduceIte,Nat.reduceLT,Nat.reduceEqDiff,Nat.reduceBEq,Nat.reduceLeDiff,Nat.reduceAdd,Nat.reduceMul]
 exact fin (ok1 (by rw[doR,if_neg o2,if_neg o3,if_neg o4,if_neg (by omega),if_neg (by omega)]) (bx.mono (by omega)))
theorem runR_run{H C:AHeap}{cv ov:AV}{b N k0 L ty:Nat}{t:Bool}{p:PR}{f:AV}{regs0 S:List (List Int)}{A B:AHeap}{J:List (List Int)→AHeap→Prop}{Jx:AHeap→Prop}{Q:AV→AHeap→Prop}(hH:H=Un A B)
 (hS:S=(runX doR [] p.code regs0).1) (hd:Dj A B) (hb:B b=some (.row ty 1 (GI regs0))) (hN:regs0.length=N) (hr: ∀i,i∈p.code→mayI (N:Int) i) (hz:GoodG k0 L regs0) (hL:L≤100000) (hk:k0+3*p.code.length≤100000)
 (hJ:J [] A) (hcv:CodeV C cv p.code) (hov:ov.cell=true) (hCB:Le C B) (hCb:C b=none)
 (hf: ∀pre x rest A B,S=pre++x::rest→Dj A B→J pre A→callW Tryd.prog f [.int .i64 ((pre.length:Nat):Int),rI x] (Un A B) fun r H'=> ∃A',Dj A' B∧H'=Un A' B∧((r=.bool true∧J (pre++[x]) A')∨(r=.bool false∧Jx A')))
 (hq: ∀r A' regs',regs'.length=N→GoodG (k0+3*p.code.length) L regs'→Dj A' (B.upd b (some (.row ty 1 (GI regs'))))→((r= -1∧S.length=p.code.length∧J S A'∧regs'=(runX doR [] p.code regs0).2)∨(r=(S.length:Int)∧S.length<p.code.length∧J S A')∨(r= -1∧Jx A'))→Q (.int .i64 r) (Un A' (B.upd b (some (.row ty 1 (GI regs')))))):
 Run Tryd.prog 72 [WaysR,ProgO p cv ov,.own b N 0 N t,f] H Q:=by
 subst hH
 obtain⟨hcc,hcl,qf,hcq⟩:=hcv
 have lc:p.code.length<9223372036854775808:=by omega
 have hAb:A b=none:=dj_atR hd hb
 refine enter72 (by simp) ?_
 simp(disch:=first|exact Xe|fail)only[ac72,cells_WaysR,↓Xa,Xb,Xc,↓reduceIte,Nat.reduceLT,Nat.reduceEqDiff,Nat.reduceBEq,Nat.reduceLeDiff,Nat.reduceAdd,Nat.reduceMul]
 refine alloc_i fun p4 hp4=>?_
 obtain⟨a4,b4⟩:=un_none.1 hp4
 simp(disch:=first|exact Xe|fail)only[cells_ProgO hcc hov,↓Xa,Xb,Xc,↓reduceIte,Nat.reduceLT,Nat.reduceEqDiff,Nat.reduceBEq,Nat.reduceLeDiff,Nat.reduceAdd,Nat.reduceMul]
 refine alloc_i fun p5 hp5=>?_
 have d54:=(upd_none.1 hp5).1
 obtain⟨a5,b5⟩:=un_none.1 (upd_none.1 hp5).2
 have eb4:Ap p4 b:=ne_of_some hb b4
 have eb5:Ap p5 b:=ne_of_some hb b5
 simp(disch:=first|exact Xe|fail)only[hcl,↓Xa,Xb,Xc,↓reduceIte,Nat.reduceLT,Nat.reduceEqDiff,Nat.reduceBEq,Nat.reduceLeDiff,Nat.reduceAdd,Nat.reduceMul]
 generalize hwv:(ABlk.row 133 0 [.fn (.func 114) [] [],.fn (.func 115) [] [],.fn (.func 117) [] [],.fn (.func 119) [] [],.fn (.func 120) [] []])=wv
 have eB:B.upd b (some (.row ty 1 (GI regs0)))=B:=funext fun o=>by
  by_cases e:o=b
  ·subst e;rw[upd_same,hb]
  ·rw[upd_other _ _ e]
 have fin: ∀(M:AHeap)(A':AHeap)(regs':List (List Int))(r:Int),Le (Un A' (B.upd b (some (.row ty 1 (GI regs'))))) M→Q (.int .i64 r) (Un A' (B.upd b (some (.row ty 1 (GI regs')))))→SetR Q (.int .i64 r) M:=fun M A' regs' r hl h=>SetR.dropTo hl (SetR.now h)
 refine W_loop (fun s:Nat×List (List Int)×AHeap=>⟨[],[(2,.own b N 0 N t),(3,f),(4,.ptr p4 5 0),(14,cv),(15,.int .i64 p.code.length),(16,.int .i64 s.1)],Un s.2.2 ((B.upd b (some (.row ty 1 (GI s.2.1)))).upd p4 (some wv))⟩)
  (fun s=>s.1≤p.code.length∧s.1≤S.length∧s.2.1.length=N∧Dj s.2.2 ((B.upd b (some (.row ty 1 (GI s.2.1)))).upd p4 (some wv))∧J (S.take s.1) s.2.2∧runX doR [] (p.code.drop s.1) s.2.1=(S.drop s.1,(runX doR [] p.code regs0).2)∧GoodG (k0+3*s.1) L s.2.1) (fun s=>p.code.length-s.1) (0,regs0,A) ?_ ⟨Nat.zero_le _,Nat.zero_le _,hN,?_,by simpa using hJ,?_,by simpa using hz⟩ ?_
 ·dsimp only
  rw[eB]
  refine Settle.dropTo (Le.updB ?_ ?_) (Settle.now rfl)
  ·rw[un_updR a4];exact Le.refl _
  ·rw[un_updR a4];exact upd_none.2 ⟨d54,un_none.2 ⟨a5,b5⟩⟩
 ·dsimp only
  rw[eB];exact dj_updR hd a4
 ·dsimp only
  rw[List.drop_zero,List.drop_zero,hS]
 rintro⟨j,regs,A'⟩ ⟨h1,h2,h3,h4,h5,h6,h7⟩
 dsimp only at h1 h2 h3 h4 h5 h6 h7 ⊢
 have gb4:b≠p4:=Ne.symm eb4
 have m4:Un A' ((B.upd b (some (.row ty 1 (GI regs)))).upd p4 (some wv)) p4=some wv:=by rw[un_atR (dj_atR h4 (upd_same _ _ _)),upd_same]
 have mb:Un A' ((B.upd b (some (.row ty 1 (GI regs)))).upd p4 (some wv)) b=some (.row ty 1 (GI regs)):=by
  have e:((B.upd b (some (.row ty 1 (GI regs)))).upd p4 (some wv)) b=some (.row ty 1 (GI regs)):=by rw[upd_other _ _ gb4,upd_same]
  rw[un_atR (dj_atR h4 e),e]
 have hA'4:A' p4=none:=dj_atR h4 (upd_same _ _ _)
 have hA'b:A' b=none:=dj_atR h4 (show _=some (ABlk.row ty 1 (GI regs)) by rw[upd_other _ _ gb4,upd_same])
 generalize hM:Un A' ((B.upd b (some (.row ty 1 (GI regs)))).upd p4 (some wv))=M at*
 by_cases hj:j<p.code.length
 ·have hmi:=hr _ (List.getElem_mem hj)
  have hma:=hmi.2.2
  obtain⟨w,hw⟩: ∃w:Nat,(p.code[j]).to=(w:Int):=⟨(p.code[j]).to.toNat,by omega⟩
  have hCM:Le C M:=fun o x ho=>by
   have ob:o≠b:=by rintro rfl;rw[hCb]at ho;cases ho
   have o4:o≠p4:=by rintro rfl;rw[hCB.none b4]at ho;cases ho
   have e:((B.upd b (some (.row ty 1 (GI regs)))).upd p4 (some wv)) o=some x:=by rw[upd_other _ _ o4,upd_other _ _ ob];exact hCB o x ho
   rw[← hM];exact le_unB h4 o x e
  have hix:=(((hcq M hCM).2 j hj).1)
  have hlx:=(((hcq M hCM).2 j hj).2)
  simp(disch:=first|exact Xe|fail)only[hj,hix,hlx,↓Xa,Xb,Xc,↓reduceIte,Nat.reduceLT,Nat.reduceEqDiff,Nat.reduceBEq,Nat.reduceLeDiff,Nat.reduceAdd,Nat.reduceMul]
  refine alloc_i fun q1 hq1=>?_
  have u1:=ne_of_some mb hq1
  have u2:=ne_of_some m4 hq1
  have m4':=m4
  rw[← hwv]at m4'
  simp(disch:=first|exact Xe|fail)only[cells_InsA,fold_InsA,m4',fold_WaysR,↓Xa,Xb,Xc,↓reduceIte,Nat.reduceLT,Nat.reduceEqDiff,Nat.reduceBEq,Nat.reduceLeDiff,Nat.reduceAdd,Nat.reduceMul]
  have hlM:Le (Un A' (B.upd b (some (.row ty 1 (GI regs))))) M:=hM▸le_unR ((Le.refl _).updB (upd_none.2 ⟨eb4,b4⟩))
  have hdb:Dj A' (B.upd b (some (.row ty 1 (GI regs)))):=dj_le h4 ((Le.refl _).updB (upd_none.2 ⟨eb4,b4⟩))
  have hz':GoodG (k0+3*p.code.length) L regs:=fun z hm=>⟨(h7 z hm).1,(h7 z hm).2.mono (by omega)⟩
  refine run_call (doI_run (b:=b) (N:=N) (k:=k0+3*j) (L:=L) (ty:=ty) (regs:=regs) (by rw[upd_other _ _ (Ne.symm u1)];exact mb) h3 hmi h7 (by omega) hL ?_ fun hno0=>?_)
  rotate_right
  ·have hno:=runX_no hj regs hno0
   rw[h6]at hno
   have hS0:S.drop j=[]:=congrArg Prod.fst hno
   have hSl:S.length≤j:=by
    have:=congrArg List.length hS0
    simp at this;omega
   obtain rfl:j=S.length:=by omega
   rw[List.take_of_length_le (Nat.le_refl _)]at h5
   simp(disch:=first|exact Xe|fail)only[rs72,↓Xa,Xb,Xc,↓reduceIte,Nat.reduceLT,Nat.reduceEqDiff,Nat.reduceBEq,Nat.reduceLeDiff,Nat.reduceAdd,Nat.reduceMul]
   refine fin _ A' regs _ (hlM.updB (hlM.none hq1)) (hq _ A' regs h3 hz' hdb (.inr (.inl ⟨rfl,hj,h5⟩)))
  intro x hdo hbx hxl
  have hat:=runX_at hj regs hdo
  rw[h6]at hat
  have hS1:S.drop j=x::(runX doR [] (p.code.drop (j+1)) (regs.set (p.code[j]).to.toNat x)).1:=congrArg Prod.fst hat
  have hjS:j<S.length:=by
   have:=congrArg List.length hS1
   simp at this;omega
  have hSx:S=S.take j++x::S.drop (j+1):=by
   conv=>lhs;rw[← List.take_append_drop j S]
   rw[List.drop_eq_getElem_cons hjS]at hS1
   rw[List.drop_eq_getElem_cons hjS]
   injection hS1 with e1 e2
   rw[e1]
  have hS2:S.drop (j+1)=(runX doR [] (p.code.drop (j+1)) (regs.set (p.code[j]).to.toNat x)).1:=by
   rw[List.drop_eq_getElem_cons hjS]at hS1
   injection hS1
  have hlt:(S.take j).length=j:=by rw[List.length_take];omega
  have hl2:(GI regs).length=N:=by rw[GI_len,h3]
  have hwN:w<N:=by omega
  have hwr:w<regs.length:=by omega
  have eset:(GI regs).set w (rI x)=GI (regs.set w x):=by simp[GI,List.map_set]
  simp(disch:=first|exact Xe|fail)only[hw,mb,idx_ownR,hl2,↓Xa,Xb,Xc,↓reduceIte,Nat.reduceLT,Nat.reduceEqDiff,Nat.reduceBEq,Nat.reduceLeDiff,Nat.reduceAdd,Nat.reduceMul]
  refine(stP_1 (x:=rI x) hl2 hwN).2 ?_
  rw[eset]
  generalize hX1:(some (ABlk.row 88 0 [.int .i64 (p.code[j]).op,.int .i64 (w:Int),.int .i64 (p.code[j]).a,.int .i64 (p.code[j]).b,.int .i64 (p.code[j]).c]))=X1 at*
  have qa1:A' q1=none:=(un_none.1 (hM▸hq1)).1
  have eH:(M.upd q1 X1).upd b (some (.row ty 1 (GI (regs.set w x))))=Un A' (((B.upd b (some (.row ty 1 (GI (regs.set w x))))).upd p4 (some wv)).upd q1 X1):=by
   rw[un_updR qa1,upd_comm _ _ _ (show q1≠b from u1),← hM,← un_updR hA'b,upd_comm _ _ _ (show p4≠b from eb4),upd_upd]
  rw[eH]
  have nb1:=(upd_none.1 (upd_none.1 (un_none.1 (hM▸hq1:Un A' _ q1=none)).2).2).2
  have hle1:Le (B.upd b (some (.row ty 1 (GI (regs.set w x))))) (((B.upd b (some (.row ty 1 (GI (regs.set w x))))).upd p4 (some wv)).upd q1 X1):=by
   rw[← hX1]
   exact((Le.refl _).updB (upd_none.2 ⟨eb4,b4⟩)).updB (upd_none.2 ⟨u1,nb1⟩)
  have hle2:Le ((B.upd b (some (.row ty 1 (GI (regs.set w x))))).upd p4 (some wv)) (((B.upd b (some (.row ty 1 (GI (regs.set w x))))).upd p4 (some wv)).upd q1 X1):=by
   rw[← hX1]
   exact(Le.refl _).updB (upd_none.2 ⟨u2,upd_none.2 ⟨u1,nb1⟩⟩)
  have hd2:Dj A' (((B.upd b (some (.row ty 1 (GI (regs.set w x))))).upd p4 (some wv)).upd q1 X1):=by
   refine dj_updR (dj_updR ?_ hA'4) qa1
   have h:=dj_updR (x:=some (.row ty 1 (GI (regs.set w x)))) hdb hA'b
   rwa[upd_upd]at h
  generalize hB2:(((B.upd b (some (.row ty 1 (GI (regs.set w x))))).upd p4 (some wv)).upd q1 X1)=B2 at*
  have hf':=hf (S.take j) x (S.drop (j+1)) A' B2 hSx hd2 h5
  rw[hlt]at hf'
  have hlen':(regs.set w x).length=N:=by rw[List.length_set,h3]
  have hbd':GoodG (k0+3*(j+1)) L (regs.set w x):=fun z hm=>by
   rcases List.mem_or_eq_of_mem_set hm with hm|rfl
   ·exact⟨(h7 z hm).1,(h7 z hm).2.mono (by omega)⟩
   ·exact⟨hxl,hbx.mono (by omega)⟩
  simp(disch:=first|exact Xe|fail)only[↓Xa,Xb,Xc,↓reduceIte,Nat.reduceLT,Nat.reduceEqDiff,Nat.reduceBEq,Nat.reduceLeDiff,Nat.reduceAdd,Nat.reduceMul]
  refine callW_mono hf' ?_
  rintro r H' ⟨A'',hd3,rfl,⟨rfl,hJ'⟩|⟨rfl,hJ'⟩⟩
  ·simp(disch:=first|exact Xe|fail)only[↓Xa,Xb,Xc,↓reduceIte,Nat.reduceLT,Nat.reduceEqDiff,Nat.reduceBEq,Nat.reduceLeDiff,Nat.reduceAdd,Nat.reduceMul]
   have ew:(p.code[j]).to.toNat=w:=by omega
   rw[ew]at hat hS2
   refine Settle.dropTo (le_unR hle2) (Settle.now ⟨(j+1,regs.set w x,A''),by dsimp only;omega,⟨hj,hjS,hlen',dj_le hd3 hle2,?_,?_,hbd'⟩,rfl⟩)
   ·dsimp only
    rw[List.take_succ_eq_append_getElem hjS]
    have e:S[j]=x:=by
     rw[List.drop_eq_getElem_cons hjS]at hS1
     injection hS1
    rw[e];exact hJ'
   ·dsimp only
    rw[hS2,congrArg Prod.snd hat]
  ·simp(disch:=first|exact Xe|fail)only[rs72,↓Xa,Xb,Xc,↓reduceIte,Nat.reduceLT,Nat.reduceEqDiff,Nat.reduceBEq,Nat.reduceLeDiff,Nat.reduceAdd,Nat.reduceMul]
   refine Settle.now ?_
   simp(disch:=first|exact Xe|fail)only[rs72,↓Xa,Xb,Xc,↓reduceIte,Nat.reduceLT,Nat.reduceEqDiff,Nat.reduceBEq,Nat.reduceLeDiff,Nat.reduceAdd,Nat.reduceMul]
   exact fin _ A'' _ _ (le_unR hle1) (hq _ A'' _ hlen' (fun z hm=>⟨(hbd' z hm).1,(hbd' z hm).2.mono (by omega)⟩) (dj_le hd3 hle1) (.inr (.inr ⟨rfl,hJ'⟩)))
 ·obtain rfl:j=p.code.length:=by omega
  have hS0:S.drop p.code.length=[]∧(runX doR [] p.code regs0).2=regs:=by
   rw[List.drop_of_length_le (Nat.le_refl _)]at h6
   exact⟨(congrArg Prod.fst h6).symm,(congrArg Prod.snd h6).symm⟩
  have hSl:S.length=p.code.length:=by
   have:=congrArg List.length hS0.1
   simp at this;omega
  have hlM:Le (Un A' (B.upd b (some (.row ty 1 (GI regs))))) M:=hM▸le_unR ((Le.refl _).updB (upd_none.2 ⟨eb4,b4⟩))
  have hdb:Dj A' (B.upd b (some (.row ty 1 (GI regs)))):=dj_le h4 ((Le.refl _).updB (upd_none.2 ⟨eb4,b4⟩))
  rw[← hSl,List.take_of_length_le (Nat.le_refl _)]at h5
  simp(disch:=first|exact Xe|fail)only[hj,rs72,↓Xa,Xb,Xc,↓reduceIte,Nat.reduceLT,Nat.reduceEqDiff,Nat.reduceBEq,Nat.reduceLeDiff,Nat.reduceAdd,Nat.reduceMul]
  refine Settle.now ?_
  simp(disch:=first|exact Xe|fail)only[rs72,↓Xa,Xb,Xc,↓reduceIte,Nat.reduceLT,Nat.reduceEqDiff,Nat.reduceBEq,Nat.reduceLeDiff,Nat.reduceAdd,Nat.reduceMul]
  exact fin _ A' _ _ hlM (hq _ A' _ h3 h7 hdb (.inl ⟨rfl,hSl,h5,hS0.2.symm⟩))
def gridE(p:PR)(g:List (List Int)):Nat:=if rightP p∧(g.length:Int)=p.ins then(if(∀r,r∈g→r.length=(g.getD 0 []).length)∧(g.getD 0 []).length≤4096 then 0 else 5)else rgtE p g.length
abbrev GIA(g:List (List Int))(t:Bool):AV:=.seq g.length (GI g) t
def CI(R:List (List Int))(N j:Nat):List AV:=GI (R.take j)++List.replicate (N-j) (.seq 0 [] true)
theorem CI_len{R:List (List Int)}{N j:Nat}(hR:R.length=N)(hj:j≤N):(CI R N j).length=N:=by simp[CI,GI];omega
theorem CI_set{R:List (List Int)}{N j:Nat}(hR:R.length=N)(hj:j<N):(CI R N j).set j (rI (R[j]'(by omega)))=CI R N (j+1):=by
 unfold CI
 have h1:(GI (R.take j)).length=j:=by simp[GI];omega
 rw[GI_take (by omega),List.set_append_right _ _ (by omega),h1,Nat.sub_self,show N-j=(N-(j+1))+1 by omega,List.replicate_succ,List.set_cons_zero,List.append_assoc];rfl
theorem CI_seq{R:List (List Int)}{N j:Nat}: ∀x,x∈CI R N j→∃n c t,x=.seq n c t:=fun x hx=>by
 rcases List.mem_append.1 hx with hx|hx
 ·obtain⟨r,-,rfl⟩:=List.mem_map.1 hx;exact⟨_,_,_,rfl⟩
 ·rw[List.mem_replicate]at hx;exact⟨_,_,_,hx.2⟩
theorem CI_frz{R:List (List Int)}{N j b n:Nat}(hR:R.length=N)(hj:j<N)(hn:(R[j]'(by omega)).length=n){t:Bool}:
 ∀i(h:i<((CI R N j).set j (.own b (n*2) 0 n t)).length)(h':i<(CI R N (j+1)).length),Wk (frz1 b 2 (IC (R[j]'(by omega))) (((CI R N j).set j (.own b (n*2) 0 n t))[i])) ((CI R N (j+1))[i]):=fun i h h'=>by
 have hCl:=CI_len hR (Nat.le_of_lt hj)
 have e1: ∀zs:List Int,zs.length=n→frz1 b 2 (IC zs) (.own b (n*2) 0 n t)=.seq n (IC zs) t:=fun zs hz=>by
  simp[frz1,IC_len,hz];rw[List.take_of_length_le (by rw[IC_len];omega)]
 simp only[← CI_set hR hj,List.getElem_set]
 by_cases e:j=i
 ·rw[if_pos e,if_pos e,e1 _ hn]
  have:rI (R[j]'(by omega))=.seq n (IC (R[j]'(by omega))) false:=by rw[rI,RowA,hn]
  rw[this];exact Wk.l0
 ·rw[if_neg e,if_neg e]
  obtain⟨n',c',t',ex⟩:=CI_seq (R:=R) (N:=N) (j:=j) _ (List.getElem_mem (by rw[List.length_set]at h;exact h))
  rw[ex];exact Wk.refl
theorem laid_run{H:AHeap}{Q:AV→AHeap→Prop}{p:PR}{grid:List (List Int)}{t:Bool}{L N:Nat}(hp:p.ok)(hN0:p.regs.toNat=N)(hLg:(grid.getD 0 []).length=L)(hL:L≤100000)(hgl:grid.length<9223372036854775808)(hgb: ∀r,r∈grid→r.length<9223372036854775808)
 (hbad:gridE p grid≠0→Q (.tup [.seq 0 [] true,.int .i64 ((gridE p grid:Nat):Int)]) H)
 (hok:gridE p grid=0→∀b,H b=none→Q (.tup [.own b N 0 N true,.int .i64 ((0:Nat):Int)]) (H.upd b (some (.row 31 1 (GI (regsR p grid L)))))):
 Run Tryd.prog 71 [ProgA p,GIA grid t] H Q:=by
 refine enter71 (by simp) ?_
 simp(disch:=first|exact Xe|fail)only[ac71,cells_ProgA,↓Xa,Xb,Xc,↓reduceIte,Nat.reduceLT,Nat.reduceEqDiff,Nat.reduceBEq,Nat.reduceLeDiff,Nat.reduceAdd,Nat.reduceMul]
 refine alloc_i fun p2 hp2=>?_
 simp(disch:=first|exact Xe|fail)only[fold_ProgA,len_rw,↓Xa,Xb,Xc,↓reduceIte,Nat.reduceLT,Nat.reduceEqDiff,Nat.reduceBEq,Nat.reduceLeDiff,Nat.reduceAdd,Nat.reduceMul]
 refine(right10_fn p hp grid.length).call ?_
 have hle2: ∀{x:ABlk},Le H (H.upd p2 (some x)):=(Le.refl H).updB hp2
 by_cases hr:rightP p∧(grid.length:Int)=p.ins
 rotate_right
 ·have e0: ∃n:Nat,rgtE p grid.length=n+1:=by
   unfold rgtE
   split
   ·rw[if_neg (fun e=>hr ⟨‹_›,e⟩)];exact⟨_,rfl⟩
   ·exact⟨_,rfl⟩
  obtain⟨n,e0⟩:=e0
  have hd:decide (((n+1:Nat):Int)=((0:Nat):Int))=false:=decide_eq_false (by omega)
  have hge:gridE p grid=n+1:=by unfold gridE;rw[if_neg hr,e0]
  rw[e0]
  rw[hge]at hbad
  simp(disch:=first|exact Xe|fail)only[neq_int,hd,rs71,↓Xa,Xb,Xc,↓reduceIte,Nat.reduceLT,Nat.reduceEqDiff,Nat.reduceBEq,Nat.reduceLeDiff,Nat.reduceAdd,Nat.reduceMul]
  exact SetR.dropTo hle2 (SetR.now (hbad (by omega)))
 have e0:rgtE p grid.length=0:=by simp[rgtE,hr.1,hr.2]
 have hge:gridE p grid=if(∀r,r∈grid→r.length=L)∧L≤4096 then 0 else 5:=by unfold gridE;rw[if_pos hr,hLg]
 rw[e0]
 obtain⟨hr1,hr2⟩:=hr
 have hh:=hr1.1
 unfold headP at hh
 have hN:p.regs=(N:Int):=by omega
 have hg0:0<grid.length:=by omega
 have hgN:grid.length≤N:=by omega
 have gl0:(grid[0]).length=L:=by rw[← hLg];simp[List.getD_eq_getElem?_getD,hg0]
 have hR0:(regsR p grid L).length=N:=by simp[regsR,hN];omega
 have hix: ∀{k:IntKind}{K:AV→Prop}{i:Nat}(h:i<grid.length),idxAW 1 (GIA grid t) (.int k (i:Int)) K=K (.cptr ((GI grid).drop i)):=fun{k K i} h=>by
  have:=idx_map (f:=rI) (t:=t) (k:=k) (K:=K) h
  rw[Nat.mul_one]at this;exact this
 have hld: ∀{M:AHeap}{K:AV→Prop}{i:Nat}(h:i<grid.length),loadW M none (.cptr ((GI grid).drop i)) K=K (rI (grid[i])):=fun{M K i} h=>load_map h
 have hld0: ∀{M:AHeap}{K:AV→Prop},loadW M none (.cptr (GI grid)) K=K (rI (grid[0])):=fun{M K}=>hld (i:=0) hg0
 have gl0':(grid[0]).length<9223372036854775808:=by omega
 have e00:decide (((0:Nat):Int)=((0:Nat):Int))=true:=rfl
 simp(disch:=first|exact Xe|fail)only[neq_int,e00,hix hg0,hld0,len_rw,gl0',gl0,hN,↓Xa,Xb,Xc,↓reduceIte,Nat.reduceLT,Nat.reduceEqDiff,Nat.reduceBEq,Nat.reduceLeDiff,Nat.reduceAdd,Nat.reduceMul]
 rw[mks_R (by omega)]
 intro b hb
 have hbp:=(upd_none.1 hb).1
 have hbH:=(upd_none.1 hb).2
 generalize hX:(ABlk.row 25 0 [.int .i64 p.ins,.int .i64 (N:Int),CodeA p.code false,OutsA p.outs false])=X at*
 have lN:N<9223372036854775808:=by omega
 simp(disch:=first|exact Xe|fail)only[lenW_own lN,↓Xa,Xb,Xc,↓reduceIte,Nat.reduceLT,Nat.reduceEqDiff,Nat.reduceBEq,Nat.reduceLeDiff,Nat.reduceAdd,Nat.reduceMul]
 refine W_loop (fun s:Nat=>⟨[],[(1,GIA grid t),(7,.int .i64 L),(8,.own b N 0 N true),(25,.int .i64 N),(26,.int .i64 s)],(H.upd p2 (some X)).upd b (some (.row 31 1 (CI (regsR p grid L) N s)))⟩) (fun s=>s≤N∧∀i(h:i<grid.length),i<s→(grid[i]).length=L∧L≤4096) (fun s=>N-s) 0 (Settle.now ?_) ⟨Nat.zero_le _,fun i _ h=>absurd h (Nat.not_lt_zero i)⟩ ?_
 ·have e:CI (regsR p grid L) N 0=List.replicate N (.seq 0 [] true):=by simp[CI,GI]
  rw[e]
 rintro j ⟨h1,hall⟩
 have hCl:=CI_len hR0 h1
 by_cases hj:j<N
 ·simp(disch:=first|exact Xe|fail)only[hj,↓Xa,Xb,Xc,↓reduceIte,Nat.reduceLT,Nat.reduceEqDiff,Nat.reduceBEq,Nat.reduceLeDiff,Nat.reduceAdd,Nat.reduceMul]
  rw[mks_I (by omega)]
  intro b2 hb2
  have b2b:b2≠b:=(upd_none.1 hb2).1
  have b2p:=(upd_none.1 (upd_none.1 hb2).2).1
  have b2H:=(upd_none.1 (upd_none.1 hb2).2).2
  have mb: ∀x y:ABlk,((H.upd p2 (some X)).upd b (some x)).upd b2 (some y)=(((H.upd p2 (some X)).upd b2 (some y)).upd b (some x)):=fun x y=>upd_comm _ _ _ (Ne.symm b2b)
  rw[mb]
  have hsame: ∀x:ABlk,(((H.upd p2 (some X)).upd b2 (some (.row 34 2 (IC (List.replicate L 0))))).upd b (some x)) b=some x:=fun x=>upd_same _ _ _
  have hjR:j<(regsR p grid L).length:=by omega
  simp(disch:=first|exact Xe|fail)only[idx_ownR,hsame,hCl,hj,↓Xa,Xb,Xc,↓reduceIte,Nat.reduceLT,Nat.reduceEqDiff,Nat.reduceBEq,Nat.reduceLeDiff,Nat.reduceAdd,Nat.reduceMul]
  refine(stP_1 (x:=.own b2 (L*2) 0 L true) hCl hj).2 ?_
  rw[upd_upd]
  have hCl2:((CI (regsR p grid L) N j).set j (.own b2 (L*2) 0 L true)).length=N:=by rw[List.length_set,hCl]
  have hgj:((CI (regsR p grid L) N j).set j (.own b2 (L*2) 0 L true))[j]? =some (.own b2 (L*2) 0 L true):=by
   rw[List.getElem?_set_self (by omega)]
  have fin: ∀{K:St→Prop},((regsR p grid L)[j]).length=L→K ⟨[],[(1,GIA grid t),(7,.int .i64 L),(8,.own b N 0 N true),(25,.int .i64 N),(26,.int .i64 ((j+1:Nat):Int))],(H.upd p2 (some X)).upd b (some (.row 31 1 (CI (regsR p grid L) N (j+1))))⟩→
   Settle K ⟨[],[(1,GIA grid t),(7,.int .i64 L),(8,.own b N 0 N true),(25,.int .i64 N),(26,.int .i64 ((j+1:Nat):Int))],((H.upd p2 (some X)).upd b2 (some (.row 34 2 (IC ((regsR p grid L)[j]))))).upd b (some (.row 31 1 ((CI (regsR p grid L) N j).set j (.own b2 (L*2) 0 L true))))⟩:=fun{K} hlR hk=>by
   refine Settle.frzC b b2 (CI (regsR p grid L) N (j+1)) (by rw[CI_len hR0 (by omega),hCl2]) (CI_frz hR0 hj hlR) (by rw[upd_other _ _ b2b,upd_same]) (upd_same _ _ _) (Ne.symm b2b) (Settle.now ?_)
   have hA:(H.upd p2 (some X)) b2=none:=upd_none.2 ⟨b2p,b2H⟩
   rw[upd_comm ((H.upd p2 (some X)).upd b2 _) _ _ (Ne.symm b2b),upd_upd,upd_upd,upd_back _ hA]
   have eE:Env.map (Fw.frz b2 2 (IC ((regsR p grid L)[j]))) [(1,GIA grid t),(7,.int .i64 L),(8,.own b N 0 N true),(25,.int .i64 N),(26,.int .i64 ((j+1:Nat):Int))]=[(1,GIA grid t),(7,.int .i64 L),(8,.own b N 0 N true),(25,.int .i64 N),(26,.int .i64 ((j+1:Nat):Int))]:=by
    simp[Env.map,Fw.frz,frz2,frz1,Ne.symm b2b]
   rw[eE];exact hk
  by_cases hjg:j<grid.length
  ·have eR:(regsR p grid L)[j]=grid[j]:=by simp only[regsR];rw[List.getElem_append_left hjg]
   have gj:(grid[j]).length<9223372036854775808:=hgb _ (List.getElem_mem hjg)
   have bad: ¬((grid[j]).length=L∧L≤4096)→SetR Q (.tup [.seq 0 [] true,.int .i64 ((5:Nat):Int)]) (((H.upd p2 (some X)).upd b2 (some (.row 34 2 (IC (List.replicate L 0))))).upd b (some (.row 31 1 ((CI (regsR p grid L) N j).set j (.own b2 (L*2) 0 L true))))):=fun h=>by
    have hg:gridE p grid=5:=by rw[hge];exact if_neg fun hh=>h ⟨hh.1 _ (List.getElem_mem hjg),hh.2⟩
    rw[hg]at hbad
    exact SetR.dropTo ((hle2.updB b2H).updB hbH) (SetR.now (hbad (by decide)))
   by_cases hjl:(grid[j]).length=L
   ·have d1:(!decide ((grid[j]).length=L))=false:=by simp[hjl]
    by_cases h4:L≤4096
    ·have d2:decide (((4096:Nat):Int)<(L:Int))=false:=decide_eq_false (by omega)
     simp(disch:=first|exact Xe|fail)only[hjg,hix hjg,hld hjg,len_rw,gj,neq_int,Int.natCast_inj,d1,gtr_int,d2,ldP_1 hCl2 hj hgj,↓Xa,Xb,Xc,↓reduceIte,Nat.reduceLT,Nat.reduceEqDiff,Nat.reduceBEq,Nat.reduceLeDiff,Nat.reduceAdd,Nat.reduceMul]
     refine cpy_ICf (ty:=34) (o:=List.replicate L 0) (by rw[upd_other _ _ b2b,upd_same]) (by simp) (by omega) ?_
     rw[upd_comm _ _ _ (Ne.symm b2b),upd_upd]
     have ed:grid[j]++List.drop (grid[j]).length (List.replicate L 0)=(regsR p grid L)[j]:=by rw[eR];simp[hjl]
     rw[ed]
     simp(disch:=first|exact Xe|fail)only[↓Xa,Xb,Xc,↓reduceIte,Nat.reduceLT,Nat.reduceEqDiff,Nat.reduceBEq,Nat.reduceLeDiff,Nat.reduceAdd,Nat.reduceMul]
     refine fin (by rw[eR];exact hjl) ⟨j+1,by omega,⟨by omega,fun i h hi=>?_⟩,rfl⟩
     by_cases e:i=j
     ·subst e;exact⟨hjl,h4⟩
     ·exact hall i h (by omega)
    ·have d2:decide (((4096:Nat):Int)<(L:Int))=true:=decide_eq_true (by omega)
     simp(disch:=first|exact Xe|fail)only[hjg,hix hjg,hld hjg,len_rw,gj,neq_int,Int.natCast_inj,d1,gtr_int,d2,rs71,↓Xa,Xb,Xc,↓reduceIte,Nat.reduceLT,Nat.reduceEqDiff,Nat.reduceBEq,Nat.reduceLeDiff,Nat.reduceAdd,Nat.reduceMul]
     exact bad fun hh=>h4 hh.2
   ·have d1:(!decide ((grid[j]).length=L))=true:=by simp[hjl]
    simp(disch:=first|exact Xe|fail)only[hjg,hix hjg,hld hjg,len_rw,gj,neq_int,Int.natCast_inj,d1,rs71,↓Xa,Xb,Xc,↓reduceIte,Nat.reduceLT,Nat.reduceEqDiff,Nat.reduceBEq,Nat.reduceLeDiff,Nat.reduceAdd,Nat.reduceMul]
    exact bad fun hh=>hjl hh.1
  ·have eR:(regsR p grid L)[j]=List.replicate L 0:=by simp only[regsR];rw[List.getElem_append_right (by omega)];simp
   simp(disch:=first|exact Xe|fail)only[hjg,len_rw,↓Xa,Xb,Xc,↓reduceIte,Nat.reduceLT,Nat.reduceEqDiff,Nat.reduceBEq,Nat.reduceLeDiff,Nat.reduceAdd,Nat.reduceMul]
   have eI:IC (List.replicate L 0)=IC ((regsR p grid L)[j]):=by rw[eR]
   rw[eI]
   have hlR:((regsR p grid L)[j]).length=L:=by rw[eR];simp
   refine fin hlR ⟨j+1,by omega,⟨by omega,fun i h hi=>?_⟩,rfl⟩
   by_cases e:i=j
   ·subst e;exact absurd h hjg
   ·exact hall i h (by omega)
 ·obtain rfl:j=N:=by omega
  have eC:CI (regsR p grid L) j j=GI (regsR p grid L):=by
   simp only[CI,Nat.sub_self,List.replicate_zero,List.append_nil];rw[List.take_of_length_le (by omega)]
  have hg:gridE p grid=0:=by
   rw[hge]
   refine if_pos ⟨fun r hm=>?_,?_⟩
   ·obtain⟨i,hi,rfl⟩:=List.getElem_of_mem hm
    exact(hall i hi (by omega)).1
   ·exact(hall 0 hg0 (by omega)).2
  simp(disch:=first|exact Xe|fail)only[hj,↓Xa,Xb,Xc,↓reduceIte,Nat.reduceLT,Nat.reduceEqDiff,Nat.reduceBEq,Nat.reduceLeDiff,Nat.reduceAdd,Nat.reduceMul]
  refine Settle.now ?_
  simp(disch:=first|exact Xe|fail)only[rs71,↓Xa,Xb,Xc,↓reduceIte,Nat.reduceLT,Nat.reduceEqDiff,Nat.reduceBEq,Nat.reduceLeDiff,Nat.reduceAdd,Nat.reduceMul]
  rw[eC]
  exact SetR.dropTo hle2.both (SetR.now (hok hg b hbH))
theorem nilI_nil{g t:Bool}{K:AV→Prop}:nilW g (RowA [] t) K↔(K (.bool true)∧K (.bool false)):=by simp[nilW]
theorem nilI_pos{g t:Bool}{zs:List Int}{K:AV→Prop}(h:0<zs.length):nilW g (RowA zs t) K↔K (.bool g):=by
 cases zs with
 |nil=>simp at h
 |cons x l=>simp[nilW]
theorem cellIC10(zs:List Int):(IC zs).all AV.cell=true:=by
 induction zs with
 |nil=>rfl
 |cons z zs ih=>simp only[IC,List.flatMap_cons,List.all_append]at *; rw[ih];rfl
theorem cloneI_run{zs:List Int}{t:Bool}(hbig:zs.length≤1000000){H:AHeap}{Q:AV→AHeap→Prop}(hq: ∀y M,growC H 34 2 zs.length (IC zs) y M→Q y M):Run Tryd.prog 47 [RowA zs t] H Q:=by
 refine enter47 (by simp) ?_
 rcases Nat.eq_zero_or_pos zs.length with h0|h0
 ·obtain rfl:=List.length_eq_zero_iff.1 h0
  simp(disch:=first|exact Xe|fail)only[ac47,nilI_nil,↓Xa,Xb,Xc,↓reduceIte,Nat.reduceLT,Nat.reduceEqDiff,Nat.reduceBEq,Nat.reduceLeDiff,Nat.reduceAdd,Nat.reduceMul]
  refine⟨?_,?_⟩
  ·simp(disch:=first|exact Xe|fail)only[rs47,↓Xa,Xb,Xc,↓reduceIte,Nat.reduceLT,Nat.reduceEqDiff,Nat.reduceBEq,Nat.reduceLeDiff,Nat.reduceAdd,Nat.reduceMul]
   exact SetR.now (hq _ _ growC_nil)
  ·refine .inl ⟨rfl,rfl,?_⟩
   refine⟨rfl,rfl,by simp,by simp,fun _=>?_,fun e=>absurd e (by simp)⟩
   simp(disch:=first|exact Xe|fail)only[rs47,↓Xa,Xb,Xc,↓reduceIte,Nat.reduceLT,Nat.reduceEqDiff,Nat.reduceBEq,Nat.reduceLeDiff,Nat.reduceAdd,Nat.reduceMul]
   exact SetR.now (hq _ _ growC_nil)
 ·simp(disch:=first|exact Xe|fail)only[ac47,nilI_pos h0,↓Xa,Xb,Xc,↓reduceIte,Nat.reduceLT,Nat.reduceEqDiff,Nat.reduceBEq,Nat.reduceLeDiff,Nat.reduceAdd,Nat.reduceMul]
  refine app_C (n:=0) (m:=zs.length) growC_nil (IC_len zs) (cellIC10 zs) h0 (by omega) (by omega) fun y M hg=>?_
  rw[Nat.zero_add,List.nil_append]at hg
  simp(disch:=first|exact Xe|fail)only[rs47,↓Xa,Xb,Xc,↓reduceIte,Nat.reduceLT,Nat.reduceEqDiff,Nat.reduceBEq,Nat.reduceLeDiff,Nat.reduceAdd,Nat.reduceMul]
  exact SetR.now (hq y M hg)
theorem cloneI_fn{zs:List Int}{t:Bool}(hbig:zs.length≤1000000):PFn Tryd.prog 47 [RowA zs t] (rI zs):=PFn.frozen fun _ _ hq=>cloneI_run hbig hq
theorem told10R_fn{n:Int}{x:List Int}:PFn Tryd.prog 74 [.int .i64 n,rI x] (.bool true):=by
 intro H Q hq
 refine enter74 (by simp) ?_
 simp(disch:=first|exact Xe|fail)only[ac74,rs74,↓Xa,Xb,Xc,↓reduceIte,Nat.reduceLT,Nat.reduceEqDiff,Nat.reduceBEq,Nat.reduceLeDiff,Nat.reduceAdd,Nat.reduceMul]
 exact SetR.now hq
def ansR(p:PR)(g:List (List Int)):List (List Int)×Nat×Nat:=
 if gridE p g=0 then(if(stepsR p g (g.getD 0 []).length).length<p.code.length then([],(stepsR p g (g.getD 0 []).length).length,20)else(outsR p g (g.getD 0 []).length,0,0))else([],0,gridE p g)
theorem gridE_0{p:PR}{g:List (List Int)}(h:gridE p g=0):rightP p∧(g.length:Int)=p.ins∧(∀r,r∈g→r.length=(g.getD 0 []).length)∧(g.getD 0 []).length≤4096:=by
 unfold gridE at h
 split at h
 ·rename_i hr
  split at h
  ·rename_i hh;exact⟨hr.1,hr.2,hh.1,hh.2⟩
  ·cases h
 ·rename_i hr
  unfold rgtE at h
  split at h
  ·split at h
   ·rename_i h1 h2;exact absurd ⟨h1,h2⟩ hr
   ·cases h
  ·cases h
theorem rows10R_run{H:AHeap}{Q:AV→AHeap→Prop}{p:PR}{grid:List (List Int)}{t:Bool}{k0:Nat}(hp:p.ok)(hL:(grid.getD 0 []).length≤100000)(hz: ∀r,r∈grid→RB4 k0 r)(hgl:grid.length<9223372036854775808)(hk:rightP p→k0+3*p.code.length≤100000)
 (hq: ∀y M,growC H 31 1 (ansR p grid).1.length (GI (ansR p grid).1) y M→Q (.tup [y,.int .i64 (((ansR p grid).2.1:Nat):Int),.int .i64 (((ansR p grid).2.2:Nat):Int)]) M):
 Run Tryd.prog 34 [ProgA p,GIA grid t] H Q:=by
 have hgb: ∀r,r∈grid→r.length<9223372036854775808:=fun r hm=>by have:=(hz r hm).2;omega
 refine enter34 (by simp) ?_
 simp(disch:=first|exact Xe|fail)only[ac34,cells_ProgA,↓Xa,Xb,Xc,↓reduceIte,Nat.reduceLT,Nat.reduceEqDiff,Nat.reduceBEq,Nat.reduceLeDiff,Nat.reduceAdd,Nat.reduceMul]
 refine alloc_i fun p2 hp2=>?_
 simp(disch:=first|exact Xe|fail)only[fold_ProgA,↓Xa,Xb,Xc,↓reduceIte,Nat.reduceLT,Nat.reduceEqDiff,Nat.reduceBEq,Nat.reduceLeDiff,Nat.reduceAdd,Nat.reduceMul]
 have hle2: ∀{x:ABlk},Le H (H.upd p2 (some x)):=(Le.refl H).updB hp2
 refine run_call (laid_run hp rfl rfl hL hgl hgb (fun hbad=>?_) fun hok b hb=>?_)
 ·have e:ansR p grid=([],0,gridE p grid):=by rw[ansR,if_neg hbad]
  rw[e]at hq
  have hd:decide (((gridE p grid:Nat):Int)=((0:Nat):Int))=false:=decide_eq_false (by omega)
  simp(disch:=first|exact Xe|fail)only[neq_int,hd,rs34,↓Xa,Xb,Xc,↓reduceIte,Nat.reduceLT,Nat.reduceEqDiff,Nat.reduceBEq,Nat.reduceLeDiff,Nat.reduceAdd,Nat.reduceMul]
  exact SetR.dropTo hle2 (SetR.now (hq _ _ growC_nil))
 obtain⟨hr1,hr2,hlen,h4⟩:=gridE_0 hok
 have hh:=hr1.1
 unfold headP at hh
 obtain⟨N,hN⟩: ∃N:Nat,p.regs=(N:Int):=⟨p.regs.toNat,by omega⟩
 have hbp:=(upd_none.1 hb).1
 have hbH:=(upd_none.1 hb).2
 have e00:decide (((0:Nat):Int)=((0:Nat):Int))=true:=rfl
 generalize hL0:(grid.getD 0 []).length=L at*
 have hg0:0<grid.length:=by omega
 have hR0:(regsR p grid L).length=N:=by simp[regsR,hN];omega
 have hRg:GoodG k0 L (regsR p grid L):=fun r hm=>by
  rcases List.mem_append.1 hm with hm|hm
  ·exact⟨hlen r hm,hz r hm⟩
  ·rw[List.mem_replicate]at hm;rw[hm.2]
   exact⟨by simp,fun z hz=>by rw[List.mem_replicate]at hz;rw[hz.2];exact Bd.zero _,by simp;omega⟩
 have hans:ansR p grid=(if(stepsR p grid L).length<p.code.length then([],(stepsR p grid L).length,20)else(outsR p grid L,0,0)):=by rw[ansR,if_pos hok,hL0]
 have hN1:p.regs.toNat=N:=by omega
 rw[hN1]
 simp(disch:=first|exact Xe|fail)only[neq_int,e00,hN,↓Xa,Xb,Xc,↓reduceIte,Nat.reduceLT,Nat.reduceEqDiff,Nat.reduceBEq,Nat.reduceLeDiff,Nat.reduceAdd,Nat.reduceMul]
 refine PFn.dcall wayR_fn ?_
 have hb2:(H.upd p2 (some (.row 25 0 [.int .i64 p.ins,.int .i64 (N:Int),CodeA p.code false,OutsA p.outs false]))) b=none:=upd_none.2 ⟨hbp,hbH⟩
 have lc:p.code.length<9223372036854775808:=by omega
 have lo:p.outs.length<9223372036854775808:=by omega
 have eP:AV.agg [.int .i64 p.ins,.int .i64 (N:Int),CodeA p.code false,OutsA p.outs false]=ProgO p (CodeA p.code false) (OutsA p.outs false):=by rw[ProgO,hN]
 simp(disch:=first|exact Xe|fail)only[eP,↓Xa,Xb,Xc,↓reduceIte,Nat.reduceLT,Nat.reduceEqDiff,Nat.reduceBEq,Nat.reduceLeDiff,Nat.reduceAdd,Nat.reduceMul]
 refine run_call (runR_run (C:=nilH) (A:=nilH) (k0:=k0) (L:=L) (S:=stepsR p grid L) (J:=fun _ A=>A=nilH) (Jx:=fun _=>False) un_nil.symm rfl dj_nil (upd_same _ _ _) hR0 (fun i hi=>by rw[← hN];exact hr1.2.2 i hi) hRg (by omega) (hk hr1) rfl (CodeV.seq lc) rfl (fun o x ho=>by cases ho) rfl ?_ ?_)
 ·rintro pre x rest A B-hd rfl
  exact told10R_fn.call ⟨nilH,hd,rfl,.inl ⟨rfl,rfl⟩⟩
 intro r A' regs' hl' hbd hdj hcase
 have gm1:decide (((0:Nat):Int)≤ -1)=false:=by decide
 rcases hcase with⟨rfl,hSl,rfl,hre⟩|⟨rfl,hSl,rfl⟩|⟨_,h⟩
 ·rw[un_nil,upd_upd]
  rw[hans,if_neg (by omega)]at hq
  have hou:outsR p grid L=p.outs.map fun r=>regs'.getD r.toNat []:=by rw[hre];rfl
  have hol:(outsR p grid L).length=p.outs.length:=by simp[outsR]
  have m2:((H.upd p2 (some (.row 25 0 [.int .i64 p.ins,.int .i64 (N:Int),CodeA p.code false,OutsA p.outs false]))).upd b (some (.row 31 1 (GI regs')))) p2=some (.row 25 0 [.int .i64 p.ins,.int .i64 (N:Int),CodeA p.code false,OutsA p.outs false]):=by rw[upd_other _ _ (Ne.symm hbp),upd_same]
  simp(disch:=first|exact Xe|fail)only[geqI,gm1,m2,len_OutsA lo,↓Xa,Xb,Xc,↓reduceIte,Nat.reduceLT,Nat.reduceEqDiff,Nat.reduceBEq,Nat.reduceLeDiff,Nat.reduceAdd,Nat.reduceMul]
  have hlG:Le H ((H.upd p2 (some (.row 25 0 [.int .i64 p.ins,.int .i64 (N:Int),CodeA p.code false,OutsA p.outs false]))).upd b (some (.row 31 1 (GI regs')))):=((Le.refl H).updB hp2).updB hbH
  generalize hG:((H.upd p2 (some (.row 25 0 [.int .i64 p.ins,.int .i64 (N:Int),CodeA p.code false,OutsA p.outs false]))).upd b (some (.row 31 1 (GI regs'))))=G at*
  have hGb:G b=some (.row 31 1 (GI regs')):=by rw[← hG,upd_same]
  refine W_loop (fun s:Nat×AV×AHeap=>⟨[],[(7,.own b N 0 N true),(10,s.2.1),(30,OutsA p.outs false),(31,.int .i64 p.outs.length),(32,.int .i64 s.1)],s.2.2⟩)
   (fun s=>s.1≤p.outs.length∧growC G 31 1 s.1 (GI ((outsR p grid L).take s.1)) s.2.1 s.2.2) (fun s=>p.outs.length-s.1) (0,.seq 0 [] true,G) (Settle.now rfl) ⟨Nat.zero_le _,growC_nil⟩ ?_
  rintro⟨j,z,M⟩ ⟨h1,hg⟩
  dsimp only at h1 hg ⊢
  by_cases hj:j<p.outs.length
  ·have hjo:=hr1.2.1 _ (List.getElem_mem hj)
   obtain⟨w,hw⟩: ∃w:Nat,p.outs[j]=(w:Int):=⟨(p.outs[j]).toNat,by omega⟩
   have hwN:w<N:=by omega
   have hwr:w<regs'.length:=by omega
   have mb:M b=some (.row 31 1 (GI regs')):=growC_old hg hGb
   have hlN:(GI regs').length=N:=by rw[GI_len,hl']
   have hwb:=(hbd _ (List.getElem_mem hwr)).1
   simp(disch:=first|exact Xe|fail)only[hj,idx_OutsA,load_OutsA,hw,mb,idx_ownR,hlN,hwN,ldP_GI hl' hwr,↓Xa,Xb,Xc,↓reduceIte,Nat.reduceLT,Nat.reduceEqDiff,Nat.reduceBEq,Nat.reduceLeDiff,Nat.reduceAdd,Nat.reduceMul]
   refine(cloneI_fn (by omega)).call ?_
   simp(disch:=first|exact Xe|fail)only[↓Xa,Xb,Xc,↓reduceIte,Nat.reduceLT,Nat.reduceEqDiff,Nat.reduceBEq,Nat.reduceLeDiff,Nat.reduceAdd,Nat.reduceMul]
   refine app_C (m:=1) hg rfl cellGI (by omega) (by omega) (by omega) fun y' M2 hg4=>?_
   have et:(outsR p grid L)[j]'(by omega)=regs'[w]:=by
    simp only[hou,List.getElem_map,hw]
    simp[List.getD_eq_getElem?_getD,List.getElem?_eq_getElem hwr]
   rw[← et,← GI_take (by omega)]at hg4
   simp(disch:=first|exact Xe|fail)only[↓Xa,Xb,Xc,↓reduceIte,Nat.reduceLT,Nat.reduceEqDiff,Nat.reduceBEq,Nat.reduceLeDiff,Nat.reduceAdd,Nat.reduceMul]
   exact Settle.now ⟨(j+1,y',M2),by dsimp only;omega,⟨by dsimp only;omega,hg4⟩,rfl⟩
  ·obtain rfl:j=p.outs.length:=by omega
   rw[List.take_of_length_le (by omega)]at hg
   simp(disch:=first|exact Xe|fail)only[hj,↓Xa,Xb,Xc,↓reduceIte,Nat.reduceLT,Nat.reduceEqDiff,Nat.reduceBEq,Nat.reduceLeDiff,Nat.reduceAdd,Nat.reduceMul]
   refine Settle.now ?_
   simp(disch:=first|exact Xe|fail)only[rs34,↓Xa,Xb,Xc,↓reduceIte,Nat.reduceLT,Nat.reduceEqDiff,Nat.reduceBEq,Nat.reduceLeDiff,Nat.reduceAdd,Nat.reduceMul]
   obtain⟨M2,hg2,hl3⟩:=growC_le2 hg hlG
   exact SetR.dropTo hl3 (SetR.now (hq _ _ (by rw[hol];exact hg2)))
 ·rw[un_nil,upd_upd]
  rw[hans,if_pos hSl]at hq
  have hge:decide (((0:Nat):Int)≤(((stepsR p grid L).length:Nat):Int))=true:=decide_eq_true (by omega)
  simp(disch:=first|exact Xe|fail)only[geqI,hge,rs34,↓Xa,Xb,Xc,↓reduceIte,Nat.reduceLT,Nat.reduceEqDiff,Nat.reduceBEq,Nat.reduceLeDiff,Nat.reduceAdd,Nat.reduceMul]
  exact SetR.dropTo (((Le.refl H).updB hp2).updB hbH) (SetR.now (hq _ _ growC_nil))
 ·exact h.elim
theorem judge10_fn{p:PR}{grid:List (List Int)}{t:Bool}{k0:Nat}(hp:p.ok)(hL:(grid.getD 0 []).length≤100000)(hz: ∀r,r∈grid→RB4 k0 r)(hgl:grid.length<9223372036854775808)(hk:rightP p→k0+3*p.code.length≤100000):
 PFn Tryd.prog 31 [ProgA p,GIA grid t] (.tup [.int .i64 (((ansR p grid).2.1:Nat):Int),.int .i64 (((ansR p grid).2.2:Nat):Int)]):=by
 intro H Q hq
 refine enter31 (by simp) ?_
 simp(disch:=first|exact Xe|fail)only[ac31,cells_ProgA,↓Xa,Xb,Xc,↓reduceIte,Nat.reduceLT,Nat.reduceEqDiff,Nat.reduceBEq,Nat.reduceLeDiff,Nat.reduceAdd,Nat.reduceMul]
 refine alloc_i fun p1 hp1=>?_
 have n1:=hp1
 simp(disch:=first|exact Xe|fail)only[fold_ProgA,↓Xa,Xb,Xc,↓reduceIte,Nat.reduceLT,Nat.reduceEqDiff,Nat.reduceBEq,Nat.reduceLeDiff,Nat.reduceAdd,Nat.reduceMul]
 refine run_call (rows10R_run hp hL hz hgl hk fun y M hg=>?_)
 simp(disch:=first|exact Xe|fail)only[rs31,↓Xa,Xb,Xc,↓reduceIte,Nat.reduceLT,Nat.reduceEqDiff,Nat.reduceBEq,Nat.reduceLeDiff,Nat.reduceAdd,Nat.reduceMul]
 exact SetR.dropTo (((Le.refl H).updB n1).trans (growC_le hg)) (SetR.now hq)
def Fr(r:AV):Prop:= ∀(c c':Ctx)(v:Value),Enc c r v→Enc c' r v
theorem Fr.scal{r:AV}(h:scal r=true):Fr r:=fun _ _ _ he=>scal_enc h he
theorem Fr.tup2{a b:AV}(ha:Fr a)(hb:Fr b):Fr (.tup [a,b]):=fun c c' v he=>by
 cases he with
 |tup _ vs hlen hc=>
  refine .tup _ _ hlen fun i hi hi'=>?_
  have:=hc i hi hi'
  match i,hi with
  |0,_=>exact ha _ _ _ this
  |1,_=>exact hb _ _ _ this
theorem PFn.lendF{P:Program}{f:FuncId}{args args':List AV}{r:AV}(h:PFn P f args' r)(hr:Fr r){H:AHeap}{Q:AV→AHeap→Prop}(hx:LentL H args args')(hq:Q r H):Run P f args H Q:=by
 have run0:=h nilH (fun r' H'=>r'=r∧H'=nilH) ⟨rfl,rfl⟩
 refine⟨run0.1,fun c vs hH hok hs he=>?_⟩
 have hl:=hx.len
 have run:=run0.2 (c.dropTo nilH) vs rfl (Ctx.dropTo_ok hok le_nil) (hs.trans hl.symm) fun i hi hi'=>hx.get i (by omega) hi c hH hok _ (he i (by omega) hi')
 refine run.mono ?_
 rintro e w' ⟨c',v,r',a1,a2,a3,a4,a5,rfl,a7⟩
 have nomut: ∀k,¬Mut (c.dropTo nilH) k:=fun k ⟨i,hi,_⟩=>hi
 have hkeep: ∀k,k<c.w.heap.size→c'.w.heap[k]? =c.w.heap[k]? :=fun k hk=>(a4.keep k hk (nomut k)).1
 let c2:Ctx:={ c' with H:=c.H,μ:=fun i=>(c.H i).elim (c'.μ i) (fun _=>c.μ i) }
 have hmu: ∀i x,c.H i=some x→c2.μ i=c.μ i:=fun i x e=>by show(c.H i).elim _ _=_;rw[e];rfl
 have hsz: ∀i x,c.H i=some x→c.μ i<c.w.heap.size:=fun i x e=>by
  have:=hok.blk i x e
  cases x with
  |row ty es cells=>obtain⟨arr,h1,_⟩:=this;exact(Array.getElem?_eq_some_iff.1 h1).1
  |raw o=>exact(Array.getElem?_eq_some_iff.1 this.1).1
  |glob g cells=>rw[this.1];exact this.2.1
  |loop st pend fn ps assign body n E=>obtain⟨tm,dd,h1,_⟩:=this;exact(Array.getElem?_eq_some_iff.1 h1).1
 have hheap: ∀i x,c.H i=some x→c'.w.heap[c.μ i]? =c.w.heap[c.μ i]? :=fun i x e=>hkeep _ (hsz i x e)
 have later:Later c c2:=by
  refine⟨⟨a4.size,a4.os,a4.tape,a4.output,fun b hb=>a4.used b hb,?_,?_⟩,fun b hb=>a4.res b hb⟩
  ·intro i x' _ hx'
   refine⟨x',hx',Nat.le_refl _,fun _=>⟨hmu i x' hx',fun ty' es' cells' e=>⟨cells',e,fun arr ha=>⟨arr,?_,rfl⟩⟩⟩⟩
   rw[hmu i x' hx']
   exact(hheap i x' hx').trans ha
  ·intro k hk hm
   refine⟨hkeep k hk,fun⟨i,hi,e⟩=>hm ⟨i,hi,?_⟩⟩
   have hi':ABlk.mut (c.H i):=hi
   cases hxi:c.H i with
   |none=>rw[hxi]at hi';exact hi'.elim
   |some x=>rw[← hmu i x hxi];exact e
 have ok:Ok c2:=by
  refine⟨fun b hb=>a4.used b (hok.used b hb),a3.fin,fun b b' hb hb' e=>?_,fun b x hb=>?_⟩
  ·obtain⟨x,hx⟩:=Option.ne_none_iff_exists'.1 hb
   obtain⟨x',hx'⟩:=Option.ne_none_iff_exists'.1 hb'
   have e1:c2.μ b=c2.μ b':=e
   rw[hmu b x hx,hmu b' x' hx']at e1
   exact hok.inj b b' hb hb' e1
  ·exact(hok.blk b x hb).later later (hmu b x hb) (hheap b x hb)
 exact⟨c2,v,r',a1,a2,ok,later,hr _ _ _ a5,by show Q r' c.H;rw[hH];exact hq⟩
theorem Lent.cut{H:AHeap}{b L off ty es n:Nat}{t:Bool}{cells:List AV}(hH:H b=some (.row ty es cells))(hL:cells.length=L)(hn:off+n*es≤L):Lent H (.own b L off n t) (.seq n ((cells.drop off).take (n*es)) t):=by
 intro c hc hok v he
 exact(Enc.freeze hok he (hc▸hH) hL (.inr hn)).later ((c.drop b).dropTo_later le_nil)
theorem Lent.wk{H:AHeap}{x y z:AV}(h:Lent H x y)(w:Wk y z):Lent H x z:=fun c hc hok v he=>w _ _ (h c hc hok v he)
theorem Lent.rows{H:AHeap}{n:Nat}{a b:List AV}{t:Bool}(hl:a.length=b.length)(h: ∀i(h1:i<a.length)(h2:i<b.length),Lent H (a[i]) (b[i])):Lent H (.seq n a t) (.seq n b false):=by
 intro c hc hok v he
 have later:=c.dropTo_later (le_nil (H:=c.H))
 cases he with
 |seq _ _ _ base cap cv hlen hcap hmax ht hb hn hce=>
  refine .seq n b false base cap cv (fun e=>List.length_eq_zero_iff.1 (by rw[← hl,hlen e];rfl)) hcap hmax (fun e=>by cases e) (fun hp=>?_) hn fun i hi=>h i (by omega) hi c hc hok _ (hce i (by omega))
  obtain⟨k,off,e,hm,hk,hr⟩:=hb (by omega)
  exact⟨k,off,e,(later.keep k hk hm).2,hk,fun i hi=>hr i (by omega)⟩
theorem Wk.gi0:Wk (.seq 1 [.seq 0 [] true] true) (GIA [[]] false):=by
 have e:GIA [[]] false=.seq 1 (GI [[]]) false:=rfl
 rw[e]
 refine Wk.cells rfl fun i h1 h2=>?_
 match i,h1 with
 |0,_=>exact Wk.l0
def madeL(g:List (List Int))(c:List Int):List Int:=g.map fun r=>dotF 0 r c
theorem made10_run{H:AHeap}{Q:AV→AHeap→Prop}{g:List (List Int)}{c:List Int}{t t':Bool}{k:Nat}(hz: ∀r,r∈g→RB4 k r∧r.length<1000000)(hc:RB4 k c)(hcl:c.length<1000000)(hk:k+k≤1000000)(hgl:g.length≤1000000)
 (hq:(∀r,r∈g→r.length=c.length)→∀y M,growC H 34 2 g.length (IC (madeL g c)) y M→Q (.tup [y,.int .i64 ((0:Nat):Int)]) M)
 (hn:(¬ ∀r,r∈g→r.length=c.length)→Q (.tup [.seq 0 [] true,.int .i64 ((5:Nat):Int)]) H):Run Tryd.prog 35 [GIA g t,RowA c t'] H Q:=by
 have hlen:g.length<9223372036854775808:=by omega
 have hml:(madeL g c).length=g.length:=by simp[madeL]
 refine enter35 (by simp) ?_
 simp(disch:=first|exact Xe|fail)only[ac35,len_rw,hlen,↓Xa,Xb,Xc,↓reduceIte,Nat.reduceLT,Nat.reduceEqDiff,Nat.reduceBEq,Nat.reduceLeDiff,Nat.reduceAdd,Nat.reduceMul]
 have hix: ∀{k:IntKind}{K:AV→Prop}{i:Nat}(h:i<g.length),idxAW 1 (GIA g t) (.int k (i:Int)) K=K (.cptr ((GI g).drop i)):=fun{k K i} h=>by
  have:=idx_map (f:=rI) (t:=t) (k:=k) (K:=K) h
  rw[Nat.mul_one]at this;exact this
 have hld: ∀{M:AHeap}{K:AV→Prop}{i:Nat}(h:i<g.length),loadW M none (.cptr ((GI g).drop i)) K=K (rI (g[i])):=fun{M K i} h=>load_map h
 refine W_loop (fun s:Nat×AV×AHeap=>⟨[],[(1,RowA c t'),(6,s.2.1),(11,GIA g t),(12,.int .i64 g.length),(13,.int .i64 s.1)],s.2.2⟩)
  (fun s=>s.1≤g.length∧growC H 34 2 s.1 (IC ((madeL g c).take s.1)) s.2.1 s.2.2∧∀i(h:i<g.length),i<s.1→(g[i]).length=c.length) (fun s=>g.length-s.1) (0,.seq 0 [] true,H) (Settle.now rfl) ⟨Nat.zero_le _,growC_nil,fun i _ h=>absurd h (Nat.not_lt_zero i)⟩ ?_
 rintro⟨i,y,M⟩ ⟨h1,hg,hall⟩
 dsimp only at h1 hg hall ⊢
 by_cases hi:i<g.length
 ·obtain⟨hzi,hzl⟩:=hz _ (List.getElem_mem hi)
  simp(disch:=first|exact Xe|fail)only[hi,hix hi,hld hi,↓Xa,Xb,Xc,↓reduceIte,Nat.reduceLT,Nat.reduceEqDiff,Nat.reduceBEq,Nat.reduceLeDiff,Nat.reduceAdd,Nat.reduceMul]
  by_cases hl:(g[i]).length=c.length
  ·refine(rowdot_fn hzi hc hk hl hzl).call ?_
   simp(disch:=first|exact Xe|fail)only[↓Xa,Xb,Xc,↓reduceIte,Nat.reduceLT,Nat.reduceEqDiff,Nat.reduceBEq,Nat.reduceLeDiff,Nat.reduceAdd,Nat.reduceMul]
   refine alloc_i fun q hq1=>?_
   have e0:decide (((0:Nat):Int)=((0:Nat):Int))=true:=rfl
   have hg1:=growC_upd (r:=.row 34 0 [IntB (dotF 0 (g[i]) c),IntD (dotF 0 (g[i]) c)]) hg hq1
   simp(disch:=first|exact Xe|fail)only[cells_IntA,neq_int,e0,fold_IntA,repI1,↓Xa,Xb,Xc,↓reduceIte,Nat.reduceLT,Nat.reduceEqDiff,Nat.reduceBEq,Nat.reduceLeDiff,Nat.reduceAdd,Nat.reduceMul]
   refine app_C (m:=1) hg1 rfl cellI (by omega) (by omega) (by omega) fun y' M2 hg3=>?_
   have et:(madeL g c)[i]'(by omega)=dotF 0 (g[i]) c:=by simp[madeL]
   rw[← et,← IC_take (by omega)]at hg3
   obtain⟨M3,hg4,hl4⟩:=growC_le2 hg3 ((Le.refl H).updB (growC_none hg hq1))
   simp(disch:=first|exact Xe|fail)only[↓Xa,Xb,Xc,↓reduceIte,Nat.reduceLT,Nat.reduceEqDiff,Nat.reduceBEq,Nat.reduceLeDiff,Nat.reduceAdd,Nat.reduceMul]
   refine Settle.dropTo hl4 (Settle.now ⟨(i+1,y',M3),by dsimp only;omega,⟨by dsimp only;omega,hg4,fun j h hj=>?_⟩,rfl⟩)
   by_cases e:j=i
   ·subst e;exact hl
   ·exact hall j h (by dsimp only at hj;omega)
  ·have hzz:(g[i]).length<9223372036854775808:=by omega
   refine(rowdot_ne hzz (by omega) hl).call ?_
   simp(disch:=first|exact Xe|fail)only[↓Xa,Xb,Xc,↓reduceIte,Nat.reduceLT,Nat.reduceEqDiff,Nat.reduceBEq,Nat.reduceLeDiff,Nat.reduceAdd,Nat.reduceMul]
   refine alloc_i fun q hq1=>?_
   have e5:decide (((5:Nat):Int)=((0:Nat):Int))=false:=rfl
   simp(disch:=first|exact Xe|fail)only[cells_IntA,neq_int,e5,rs35,↓Xa,Xb,Xc,↓reduceIte,Nat.reduceLT,Nat.reduceEqDiff,Nat.reduceBEq,Nat.reduceLeDiff,Nat.reduceAdd,Nat.reduceMul]
   exact SetR.dropTo ((growC_le hg).updB (growC_none hg hq1)) (SetR.now (hn fun hh=>hl (hh _ (List.getElem_mem hi))))
 ·obtain rfl:i=g.length:=by omega
  rw[List.take_of_length_le (by omega)]at hg
  simp(disch:=first|exact Xe|fail)only[hi,↓Xa,Xb,Xc,↓reduceIte,Nat.reduceLT,Nat.reduceEqDiff,Nat.reduceBEq,Nat.reduceLeDiff,Nat.reduceAdd,Nat.reduceMul]
  refine Settle.now ?_
  simp(disch:=first|exact Xe|fail)only[rs35,↓Xa,Xb,Xc,↓reduceIte,Nat.reduceLT,Nat.reduceEqDiff,Nat.reduceBEq,Nat.reduceLeDiff,Nat.reduceAdd,Nat.reduceMul]
  refine SetR.now (hq (fun r hr=>?_) y M hg)
  obtain⟨j,hj,rfl⟩:=List.getElem_of_mem hr
  exact hall j hj hj
def nameP:PR:=⟨1,1,[],[0]⟩
theorem nameP_ok:nameP.ok:=⟨by unfold I64;decide,by unfold I64;decide,by simp[nameP],by decide,fun n hn=>by simp[nameP]at hn;subst hn;unfold I64;decide,by decide⟩
theorem nameP_right:rightP nameP:=by decide
theorem name_ans1:ansR nameP [[]]=([[]],0,0):=by decide
theorem name_e(n:Nat):(ansR nameP [List.replicate n 0]).2=if n≤4096 then(0,0)else(0,5):=by
 have hg:gridE nameP [List.replicate n 0]=if n≤4096 then 0 else 5:=by
  have h1:rightP nameP∧(([List.replicate n 0]:List (List Int)).length:Int)=nameP.ins:=⟨nameP_right,rfl⟩
  unfold gridE
  rw[if_pos h1]
  simp
 unfold ansR
 by_cases h:n≤4096
 ·rw[if_pos h]at hg ⊢
  rw[if_pos hg,if_neg (by simp[nameP])]
 ·rw[if_neg h]at hg ⊢
  rw[if_neg (by rw[hg];decide),hg]
theorem name_judge{n:Nat}(h:n≤100000):PFn Tryd.prog 31 [ProgA nameP,GIA [List.replicate n 0] false] (.tup [.int .i64 ((0:Nat):Int),.int .i64 (((if n≤4096 then 0 else 5:Nat):Nat):Int)]):=by
 have hj:=judge10_fn (p:=nameP) (grid:=[List.replicate n 0]) (t:=false) (k0:=2) nameP_ok (by simpa using h) (fun r hr=>by
  simp at hr;subst hr
  exact⟨fun z hz=>by rw[List.mem_replicate]at hz;rw[hz.2];exact Bd.zero _,by simp;omega⟩) (by simp) (fun _=>by decide)
 rw[name_e]at hj
 by_cases h4:n≤4096
 ·rw[if_pos h4]at hj ⊢; exact hj
 ·rw[if_neg h4]at hj ⊢; exact hj
theorem name_lent{H:AHeap}{b off n m ty:Nat}{t:Bool}(hH:H b=some (.row ty 2 (IC (List.replicate n 0))))(ho:off=(n-m)*2)(hm:m≤n):Lent H (.seq 1 [.own b (n*2) off m t] true) (GIA [List.replicate m 0] false):=by
 have e:GIA [List.replicate m 0] false=.seq 1 (GI [List.replicate m 0]) false:=rfl
 rw[e]
 refine Lent.rows rfl fun i h1 h2=>?_
 match i,h1 with
 |0,_=>
  refine(Lent.cut hH (by rw[IC_len];simp) (by omega)).wk ?_
  have e2:((IC (List.replicate n 0)).drop off).take (m*2)=IC (List.replicate m 0):=by
   rw[ho,IC_dp (by simp),List.drop_replicate,List.take_of_length_le (by rw[IC_len];simp;omega)]
   congr 2;omega
  have e3:(GI [List.replicate m 0])[0]=.seq m (IC (List.replicate m 0)) false:=by simp[GI]
  rw[e2]
  show Wk _ ((GI [List.replicate m 0])[0])
  rw[e3];exact Wk.l0
theorem exactNames_fn:PFn Tryd.prog 6 [] (.bool true):=by
 intro H Q hq
 refine enter6 (by simp) ?_
 simp(disch:=first|exact Xe|fail)only[ac6,↓Xa,Xb,Xc,↓reduceIte,Nat.reduceLT,Nat.reduceEqDiff,Nat.reduceBEq,Nat.reduceLeDiff,Nat.reduceAdd,Nat.reduceMul]
 refine live10_fn.call ?_
 simp(disch:=first|exact Xe|fail)only[↓Xa,Xb,Xc,↓reduceIte,Nat.reduceLT,Nat.reduceEqDiff,Nat.reduceBEq,Nat.reduceLeDiff,Nat.reduceAdd,Nat.reduceMul]
 refine alloc_i fun p1 n1=>?_
 have eP:AV.agg [.int .i64 ((1:Nat):Int),.int .i64 ((1:Nat):Int),.seq 0 [] true,.seq 1 [.int .i64 ((0:Nat):Int)] true]=ProgO nameP (CodeA nameP.code true) (OutsA nameP.outs true):=rfl
 simp(disch:=first|exact Xe|fail)only[↓Xa,Xb,Xc,↓reduceIte,Nat.reduceLT,Nat.reduceEqDiff,Nat.reduceBEq,Nat.reduceLeDiff,Nat.reduceAdd,Nat.reduceMul]
 have hle1: ∀{x:ABlk},Le H (H.upd p1 (some x)):=(Le.refl H).updB n1
 have wP:Wk (AV.agg [.int .i64 ((1:Nat):Int),.int .i64 ((1:Nat):Int),.seq 0 [] true,.seq 1 [.int .i64 ((0:Nat):Int)] true]) (ProgA nameP):=by
  intro c v he
  cases he with
  |agg _ vs hlen hc=>
   refine .agg _ _ hlen fun i hi hi'=>?_
   have:=hc i hi hi'
   match i,hi with
   |0,_=>exact this
   |1,_=>exact this
   |2,_=>exact Wk.l0 _ _ this
   |3,_=>exact Wk.l0 _ _ this
 refine run_call (Run.wk (rows10R_run (p:=nameP) (grid:=[[]]) (t:=false) (k0:=2) nameP_ok (by decide) (fun r hr=>by simp at hr;subst hr;exact⟨fun z hz=>by simp at hz,by decide⟩) (by decide) (fun _=>by decide) fun y M hg=>?_) (.cons wP (.cons Wk.gi0 .nil)))
 rw[name_ans1]at hg
 have hMy:=hg
 have hHM:Le H M:=hle1.trans (growC_le hg)
 have m1:M p1=some (.row 25 0 [.int .i64 ((1:Nat):Int),.int .i64 ((1:Nat):Int),.seq 0 [] true,.seq 1 [.int .i64 ((0:Nat):Int)] true]):=growC_old hg (upd_same _ _ _)
 simp(disch:=first|exact Xe|fail)only[name_ans1,↓Xa,Xb,Xc,↓reduceIte,Nat.reduceLT,Nat.reduceEqDiff,Nat.reduceBEq,Nat.reduceLeDiff,Nat.reduceAdd,Nat.reduceMul]
 refine run_call (made10_run (g:=[]) (c:=[]) (t:=true) (t':=true) (k:=0) (fun r hr=>by simp at hr) ⟨fun z hz=>by simp at hz,by decide⟩ (by decide) (by decide) (by decide) (fun _ y2 M2 hg2=>?_) fun h=>absurd (fun r hr=>by simp at hr) h)
 rcases hg2 with⟨_,_,rfl,rfl⟩|⟨hh,_⟩
 rotate_right
 ·simp at hh
 simp(disch:=first|exact Xe|fail)only[↓Xa,Xb,Xc,↓reduceIte,Nat.reduceLT,Nat.reduceEqDiff,Nat.reduceBEq,Nat.reduceLeDiff,Nat.reduceAdd,Nat.reduceMul]
 generalize h97:(4097:Nat)=n at*
 rw[mks_I (by omega)]
 intro b hb
 have hb1:=ne_of_some m1 hb
 have m1b: ∀x:ABlk,(M2.upd b (some x)) p1=some (.row 25 0 [.int .i64 ((1:Nat):Int),.int .i64 ((1:Nat):Int),.seq 0 [] true,.seq 1 [.int .i64 ((0:Nat):Int)] true]):=fun x=>by rw[upd_other _ _ (Ne.symm hb1)];exact m1
 have lP: ∀{M:AHeap},Lent M (AV.agg [.int .i64 ((1:Nat):Int),.int .i64 ((1:Nat):Int),.seq 0 [] true,.seq 1 [.int .i64 ((0:Nat):Int)] true]) (ProgA nameP):=fun{M}=>Lent.same.wk wP
 have fr2: ∀{a b:Int},Fr (.tup [.int .i64 a,.int .i64 b]):=fun{a b}=>Fr.tup2 (Fr.scal rfl) (Fr.scal rfl)
 simp(disch:=first|exact Xe|fail)only[m1b,↓Xa,Xb,Xc,↓reduceIte,Nat.reduceLT,Nat.reduceEqDiff,Nat.reduceBEq,Nat.reduceLeDiff,Nat.reduceAdd,Nat.reduceMul]
 refine run_call ((name_judge (n:=n) (by omega)).lendF fr2 ⟨lP,name_lent (upd_same _ _ _) (by simp) (Nat.le_refl _),trivial⟩ ?_)
 have e5:(if n≤4096 then 0 else 5:Nat)=5:=if_neg (by omega)
 rw[e5]
 have hbb:(M2.upd b (some (.row 34 2 (IC (List.replicate n 0))))) b=some (.row 34 2 (IC (List.replicate n 0))):=upd_same _ _ _
 simp(disch:=first|exact Xe|fail)only[m1b,↓Xa,Xb,Xc,↓reduceIte,Nat.reduceLT,Nat.reduceEqDiff,Nat.reduceBEq,Nat.reduceLeDiff,Nat.reduceAdd,Nat.reduceMul]
 refine⟨by rw[IC_len];simp,?_⟩
 have eslc: ∀{K:AV→Prop},slcW 2 (.own b (n*2) 0 n true) (some (.int .i64 ((1:Nat):Int))) none none K↔K (.own b (n*2) 2 (n-1) true):=fun{K}=>by
  simp[slcW,optI]
  intro _;omega
 rw[eslc]
 have e0:(if n-1≤4096 then 0 else 5:Nat)=0:=if_pos (by omega)
 have hj1:=name_judge (n:=n-1) (by omega)
 rw[e0]at hj1
 simp(disch:=first|exact Xe|fail)only[↓Xa,Xb,Xc,↓reduceIte,Nat.reduceLT,Nat.reduceEqDiff,Nat.reduceBEq,Nat.reduceLeDiff,Nat.reduceAdd,Nat.reduceMul]
 refine dcall_at (r:=.tup [.int .i64 ((0:Nat):Int),.int .i64 ((0:Nat):Int)]) b ?_ ?_
 ·intro H' Q' he hq'
  exact hj1.lendF fr2 ⟨lP,name_lent (n:=n) (he.trans hbb) (by omega) (by omega),trivial⟩ hq'
 obtain⟨by2,rfl,hby⟩: ∃by2,y=.own by2 1 0 1 false∧M2 by2=some (.row 31 1 (GI [[]])):=by
  rcases hMy with⟨h0,_⟩|⟨_,_,by2,_,rfl,rfl⟩
  ·exact absurd h0 (by decide)
  ·exact⟨by2,rfl,upd_same _ _ _⟩
 have hyb:=ne_of_some hby hb
 have hbyb:(M2.upd b (some (.row 34 2 (IC (List.replicate n 0))))) by2=some (.row 31 1 (GI [[]])):=by rw[upd_other _ _ (Ne.symm hyb)];exact hby
 have hl1: ∀{K:AV→Prop},lenW false (.own by2 1 0 1 false) K↔K (.int .i64 ((1:Nat):Int)):=fun{K}=>by simp[lenW]
 have hi1: ∀{k:IntKind}{K:AV→Prop},(liveS (M2.upd b (some (.row 34 2 (IC (List.replicate n 0))))) (.own by2 1 0 1 false)∧idxAW 1 (.own by2 1 0 1 false) (.int k ((0:Nat):Int)) K)↔K (.ptr by2 1 0):=fun{k K}=>idx_ownR (i:=0) hbyb rfl (by decide)
 have hl00: ∀{t:Bool}{K:AV→Prop},lenW false (.seq 0 [] t) K↔K (.int .i64 ((0:Nat):Int)):=fun{t K}=>by simp[lenW]
 have hl0: ∀{K:AV→Prop},lenW false (rI []) K↔K (.int .i64 ((0:Nat):Int)):=fun{K}=>by simp[lenW]
 have e1:decide (((1:Nat):Int)=((1:Nat):Int))=true:=rfl
 have e00:decide (((0:Nat):Int)=((0:Nat):Int))=true:=rfl
 have e55:decide (((5:Nat):Int)=((5:Nat):Int))=true:=rfl
 have hld: ∀{K:AV→Prop},ldP none 1 0 K (some (.row 31 1 (GI [[]])))↔K (rI []):=fun{K}=>ldP_GI (g:=[[]]) rfl (by decide)
 simp(disch:=first|exact Xe|fail)only[hl1,hi1,hbyb,hld,hl0,hl00,eql_int,e1,e00,e55,↓Xa,Xb,Xc,↓reduceIte,Nat.reduceLT,Nat.reduceEqDiff,Nat.reduceBEq,Nat.reduceLeDiff,Nat.reduceAdd,Nat.reduceMul]
 refine live10_fn.call ?_
 simp(disch:=first|exact Xe|fail)only[rs6,↓Xa,Xb,Xc,↓reduceIte,Nat.reduceLT,Nat.reduceEqDiff,Nat.reduceBEq,Nat.reduceLeDiff,Nat.reduceAdd,Nat.reduceMul]
 exact SetR.dropTo (hHM.trans ((Le.refl _).updB hb)) (SetR.now hq)
theorem exactNames_law:PFn Tryd.prog 6 [] (.bool true):=exactNames_fn
end Go.Proofs.YtmndejlpfmmaiaaDoor.Fw
