/- The texts Lay156 Kj Kh Kk Kl Km Ko Kp Kq Kr Ks Kt Ku Kv Kw Ee Ef Eg Eh Eo Ei Ej Kx Ek El Em Ep Eq, joined. -/
import Derived.Test.YtmndejlpfmmaiaaGreatDoorZ7
import Derived.Shelf.Strings.OnBuilder
import Derived.Test.YtmndejlpfmmaiaaGreatDoorProg
import Derived.Lib.SmallJoins
set_option linter.unusedSimpArgs false
set_option linter.unusedVariables false
namespace Go.Proofs.YtmndejlpfmmaiaaGreatDoor.Fw
open Go Go.Shelf Go.Proofs
def lay156_ren:Ren:=
 {
  f:=fun x=>
   match x with
   |156=>146
   |165=>209
   |166=>210
   |169=>211
   |240=>230
   |241=>231
   |276=>241
   |277=>242
   |n=>n,
  t:=fun x=>
   match x with
   |31=>217
   |9=>9
   |3=>3
   |4=>4
   |0=>0
   |20=>20
   |72=>257
   |76=>261
   |70=>255
   |37=>203
   |75=>260
   |127=>278
   |164=>292
   |5=>5
   |80=>121
   |n=>n,
  g:=fun x=>
   have n:=x;
   n }
theorem lay156:Lays.n156 Tryz.prog lay156_ren:=
 { mixed:=Eq.refl true,f156:=Eq.trans Tryz.func146 (congrArg some (Eq.refl (Body.n156 lay156_ren))),
   f165:=Eq.trans Tryz.func209 (congrArg some (Eq.refl (Body.n165 lay156_ren))),
   f166:=Eq.trans Tryz.func210 (congrArg some (Eq.refl (Body.n166 lay156_ren))),
   f169:=Eq.trans Tryz.func211 (congrArg some (Eq.refl (Body.n169 lay156_ren))),
   f240:=Eq.trans Tryz.func230 (congrArg some (Eq.refl (Body.n240 lay156_ren))),
   f241:=Eq.trans Tryz.func231 (congrArg some (Eq.refl (Body.n241 lay156_ren))),
   f276:=Eq.trans Tryz.func241 (congrArg some (Eq.refl (Body.n276 lay156_ren))),
   f277:=Eq.trans Tryz.func242 (congrArg some (Eq.refl (Body.n277 lay156_ren))),t0:=Tryz.underlying0,
   a0:=Tryz.isAgg0,z0:=Tryz.sizeOf0,v0:=Tryz.zeroValue0,t3:=Tryz.underlying3,a3:=Tryz.isAgg3,
   z3:=Tryz.sizeOf3,v3:=Tryz.zeroValue3,t4:=Tryz.underlying4,a4:=Tryz.isAgg4,z4:=Tryz.sizeOf4,
   v4:=Tryz.zeroValue4,t9:=Tryz.underlying9,a9:=Tryz.isAgg9,z9:=Tryz.sizeOf9,v9:=Tryz.zeroValue9,
   t20:=Tryz.underlying20,a20:=Tryz.isAgg20,z20:=Tryz.sizeOf20,v20:=Tryz.zeroValue20,
   t31:=Tryz.underlying217,a31:=Tryz.isAgg217,z31:=Tryz.sizeOf217,v31:=Tryz.zeroValue217,
   t37:=Tryz.underlying203,a37:=Tryz.isAgg203,z37:=Tryz.sizeOf203,v37:=Tryz.zeroValue203,
   t70:=Tryz.underlying255,a70:=Tryz.isAgg255,z70:=Tryz.sizeOf255,v70:=Tryz.zeroValue255,
   t72:=Tryz.underlying257,a72:=Tryz.isAgg257,z72:=Tryz.sizeOf257,v72:=Tryz.zeroValue257,
   t75:=Tryz.underlying260,a75:=Tryz.isAgg260,z75:=Tryz.sizeOf260,v75:=Tryz.zeroValue260,
   t76:=Tryz.underlying261,a76:=Tryz.isAgg261,z76:=Tryz.sizeOf261,v76:=Tryz.zeroValue261,
   t127:=Tryz.underlying278,a127:=Tryz.isAgg278,z127:=Tryz.sizeOf278,v127:=Tryz.zeroValue278,
   t164:=Tryz.underlying292,a164:=Tryz.isAgg292,z164:=Tryz.sizeOf292,v164:=Tryz.zeroValue292 }
end Go.Proofs.YtmndejlpfmmaiaaGreatDoor.Fw
namespace Go.Proofs.YtmndejlpfmmaiaaGreatDoor.Fw
open Go Go.Proofs.YtmndejlpfmmaiaaGreatDoor.Ma Go.Shelf
set_option maxRecDepth 20000
theorem pfn_calls{P:Program}{f:FuncId}{args:List AV}{r:AV}(hf: ∃fn,P.funcs[f]? =some fn∧(fn.name=="runtime.NumGoroutine")=false∧fn.body.isNone=false)
 (h: ∀(c:Ctx)(vs:Array Value),Ok c→vs.size=args.length→(∀i(h:i<args.length)(h':i<vs.size),Enc c (args[i]) (vs[i]))→Calls P f vs c.w fun e w'=> ∃v,e=.returned v∧(∀c',Enc c' r v)∧Go.RowKit.Below c.w.heap.size c.w w'):PFn P f args r:=by
 intro H Q hq
 refine⟨hf,fun c vs hH hok hs he=>(h c vs hok hs he).mono ?_⟩
 rintro e w' ⟨v,rfl,hr,hb⟩
 let c2:Ctx:={ c with w:=w' }
 have hsz: ∀i x,c.H i=some x→c.μ i<c.w.heap.size:=fun i x e=>by
  have:=hok.blk i x e
  cases x with
  |row ty es cells=>obtain⟨arr,h1,_⟩:=this;exact(Array.getElem?_eq_some_iff.1 h1).1
  |raw o=>exact(Array.getElem?_eq_some_iff.1 this.1).1
  |glob g cells=>rw[this.1];exact this.2.1
  |loop st pend fn ps assign body n E=>obtain⟨tm,dd,h1,_⟩:=this;exact(Array.getElem?_eq_some_iff.1 h1).1
 have later:Later c c2:=by
  refine⟨⟨hb.size,hb.os,hb.tape,hb.output,fun _ h=>h,?_,fun k hk hm=>⟨hb.block k hk,hm⟩⟩,fun _ h=>⟨h,fun k=>k⟩⟩
  intro i x' _ hx'
  exact⟨x',hx',Nat.le_refl _,fun _=>⟨rfl,fun ty' es' cells' e=>⟨cells',e,fun arr ha=>⟨arr,(hb.block _ (hsz i x' hx')).trans ha,rfl⟩⟩⟩⟩
 have ok:Ok c2:=⟨hok.used,hok.fin,hok.inj,fun b x hx=>(hok.blk b x hx).later later rfl (hb.block _ (hsz b x hx))⟩
 exact⟨c2,v,r,rfl,rfl,ok,later,hr c2,by show Q r c.H;rw[hH];exact hq⟩
theorem joinX:Builder.Extra Tryz.prog lay156_ren where
 sizeBuilder:=by kernel_rfl
 liesBuilder:=by kernel_rfl
 t5:=Tryz.underlying5
 a5:=Tryz.isAgg5
 z5:=Tryz.sizeOf5
 v5:=Tryz.zeroValue5
 infoByte:=by kernel_rfl
 cellsByte:=by kernel_rfl
 sizeByte:=by kernel_rfl
 neB5:=by decide
theorem join_fn(xs:List (List UInt8))(sep:List UInt8)(t:Bool)(hN:xs.length≤1000000)(hlen:(Lib.join xs sep).length≤140737488355328):PFn Tryz.prog 146 [.seq xs.length (xs.map Sx) t,Sx sep] (Sx (Lib.join xs sep)):=by
 by_cases h0:xs=[]
 ·subst h0
  intro H Q hq
  refine enter146 (by simp) ?_
  have e:Lib.join ([]:List (List UInt8)) sep=[]:=rfl
  rw[e]at hq
  have l0:([]:List (List UInt8)).length=0:=rfl
  simp(disch:=first|exact Xe|fail)only[ac146,l0,len_rw,rs146,↓Xa,Xb,Xc,↓reduceIte,Nat.reduceLT,Nat.reduceEqDiff,Nat.reduceBEq,Nat.reduceLeDiff,Nat.reduceAdd,Nat.reduceMul]
  exact SetR.now hq
 ·refine pfn_calls ⟨_,Tryz.func146,by kernel_rfl,by kernel_rfl⟩ fun c vs hok hs he=>?_
  obtain⟨v0,v1,rfl⟩: ∃v0 v1,vs= #[v0,v1]:=Go.Joins.array2 hs
  have e0:Enc c (.seq xs.length (xs.map Sx) t) v0:=he 0 (by simp) (by simp)
  have e1:Enc c (Sx sep) v1:=he 1 (by simp) (by simp)
  cases e1
  cases e0 with
  |seq _ _ _ base cap cv hlen' hcap hmax ht hb hn hc=>
   obtain⟨k,off,rfl,hmu,hk,hcell⟩:=hb (by simpa using List.length_pos_iff.2 h0)
   have hce: ∀(j:Nat) x,(xs.map fun l=>(⟨l.toArray⟩:ByteArray))[j]? =some x→c.w.cell? ⟨k,off+j,none⟩=some (.string x):=fun j x hx=>by
    rw[List.getElem?_map]at hx
    obtain⟨y,hy,rfl⟩:=Option.map_eq_some_iff.1 hx
    obtain⟨hj,hy⟩:=List.getElem?_eq_some_iff.1 hy
    have h1:=hcell j (by simpa using hj)
    have h2:=hc j (by simpa using hj)
    rw[List.getElem_map,hy]at h2
    generalize cv j=u at h1 h2
    cases h2
    exact h1
   have hm:(xs.map fun l=>(⟨l.toArray⟩:ByteArray)).map (·.data.toList)=xs:=by
    rw[List.map_map]
    exact(List.map_congr_left fun l _=>by simp).trans (List.map_id xs)
   have:=Any.strings_Join (P:=Tryz.prog) (ρ:=lay156_ren) lay156 joinX k off cap (xs.map fun l=>(⟨l.toArray⟩:ByteArray)) ⟨sep.toArray⟩ c.w hce hk (by simpa using Nat.le_trans hN (by omega)) (by simpa using hcap) (by rw[hm];simpa using hlen)
   rw[hm,List.length_map]at this
   refine this.mono fun e w' ⟨h1,h2⟩=>⟨_,h1,fun c'=>?_,h2⟩
   simp only[Sx]
   exact .str _
end Go.Proofs.YtmndejlpfmmaiaaGreatDoor.Fw
namespace Go.Proofs.YtmndejlpfmmaiaaGreatDoor.Fw
open Go Go.Proofs.YtmndejlpfmmaiaaGreatDoor.Ma
set_option maxRecDepth 20000
theorem repF0{a:AV}:repA [a] 1=[a]:=by simp[repA,List.range,List.range.loop]
theorem load_map{α:Type}{f:α→AV}{l:List α}{H:AHeap}{K:AV→Prop}{i:Nat}(h:i<l.length):loadW H none (.cptr ((l.map f).drop i)) K=K (f (l[i])):=by
 have hi:i<(l.map f).length:=by simpa using h
 simp only[loadW,cellsAt,List.drop_eq_getElem_cons hi]
 simp
theorem idx_map{α:Type}{f:α→AV}{l:List α}{t:Bool}{k:IntKind}{K:AV→Prop}{i:Nat}(h:i<l.length):idxAW 1 (.seq l.length (l.map f) t) (.int k (i:Int)) K=K (.cptr ((l.map f).drop (i*1))):=idx_rw (by simp) h
abbrev iA(n:Int):AV:=.int .i64 n
theorem rowof_run{l:List Int}{t:Bool}(hb: ∀n,n∈l→ -9223372036854775808≤n∧n<9223372036854775808)(hbig:l.length≤1000000){H:AHeap}{Q:AV→AHeap→Prop}(hq: ∀y M,growC H 48 2 l.length (IC l) y M→Q y M):Run Tryz.prog 80 [.seq l.length (l.map iA) t] H Q:=by
 refine enter80 (by simp) ?_
 simp(disch:=first|exact Xe|fail)only[ac80,len_rw,↓Xa,Xb,Xc,↓reduceIte,Nat.reduceLT,Nat.reduceEqDiff,Nat.reduceBEq,Nat.reduceLeDiff,Nat.reduceAdd,Nat.reduceMul]
 refine W_loop (fun s:Nat×AV×AHeap=>⟨[],[(3,s.2.1),(6,.seq l.length (l.map iA) t),(7,.int .i64 (l.length:Int)),(8,.int .i64 s.1)],s.2.2⟩) (fun s=>s.1≤l.length∧growC H 48 2 s.1 (IC (l.take s.1)) s.2.1 s.2.2) (fun s=>l.length-s.1) (0,.seq 0 [] true,H) (Settle.now rfl) ⟨Nat.zero_le _,growC_nil⟩ ?_
 rintro⟨i,y,M⟩ ⟨h3,hg⟩
 dsimp only at h3 hg ⊢
 by_cases hi:i<l.length
 ·simp(disch:=first|exact Xe|fail)only[hi,idx_map,load_map,↓Xa,Xb,Xc,↓reduceIte,Nat.reduceLT,Nat.reduceEqDiff,Nat.reduceBEq,Nat.reduceLeDiff,Nat.reduceAdd,Nat.reduceMul]
  refine(of_fn (hb _ (List.getElem_mem hi))).call ?_
  simp(disch:=first|exact Xe|fail)only[repI1,cells_IntA,↓Xa,Xb,Xc,↓reduceIte,Nat.reduceLT,Nat.reduceEqDiff,Nat.reduceBEq,Nat.reduceLeDiff,Nat.reduceAdd,Nat.reduceMul]
  refine app_C (m:=1) hg rfl cellI (by omega) (by omega) (by omega) fun y' M2 hg3=>?_
  rw[← IC_take]at hg3
  simp(disch:=first|exact Xe|fail)only[↓Xa,Xb,Xc,↓reduceIte,Nat.reduceLT,Nat.reduceEqDiff,Nat.reduceBEq,Nat.reduceLeDiff,Nat.reduceAdd,Nat.reduceMul]
  exact Settle.now ⟨(i+1,y',M2),by dsimp only;omega,⟨by dsimp only;omega,hg3⟩,rfl⟩
 ·obtain rfl:i=l.length:=by omega
  rw[List.take_of_length_le (by omega)]at hg
  simp(disch:=first|exact Xe|fail)only[hi,↓Xa,Xb,Xc,↓reduceIte,Nat.reduceLT,Nat.reduceEqDiff,Nat.reduceBEq,Nat.reduceLeDiff,Nat.reduceAdd,Nat.reduceMul]
  refine Settle.now ?_
  simp(disch:=first|exact Xe|fail)only[rs80,↓Xa,Xb,Xc,↓reduceIte,Nat.reduceLT,Nat.reduceEqDiff,Nat.reduceBEq,Nat.reduceLeDiff,Nat.reduceAdd,Nat.reduceMul]
  exact SetR.now (hq y M hg)
def joinT:List (List UInt8)→List UInt8
 |[]=>[]
 |[x]=>x
 |x::y::r=>x++32::joinT (y::r)
theorem joinT_eq: ∀xs:List (List UInt8),Lib.join xs [32]=joinT xs
 |[]=>rfl
 |[x]=>by simp[Lib.join,joinT,List.intercalate]
 |x::y::r=>by
  have:=joinT_eq (y::r)
  simp only[Lib.join,joinT,List.intercalate]at this ⊢
  rw[← this]
  simp
theorem joinT_len{k:Nat}: ∀xs:List (List UInt8),(∀x,x∈xs→x.length≤k)→(joinT xs).length≤xs.length*(k+1)
 |[],_=>by simp[joinT]
 |[x],h=>by have:=h x (by simp);simp[joinT];omega
 |x::y::r,h=>by
  have h1:=joinT_len (y::r) fun z hz=>h z (by simp at hz ⊢; exact .inr hz)
  have h2:=h x (by simp)
  simp only[joinT,List.length_append,List.length_cons]at h1 ⊢
  rw[Nat.add_mul];omega
def rowT(zs:List Int):List UInt8:=91::joinT (zs.map iText)++[93]
theorem joinI_len{k:Nat}{zs:List Int}(hz:RB4 k zs)(hk:k≤1000000)(hbig:zs.length≤1000000):(joinT (zs.map iText)).length≤1000000*10000003:=by
 refine Nat.le_trans (joinT_len (k:=10*k+2) _ fun x hx=>?_) ?_
 ·obtain⟨z,hm,rfl⟩:=List.mem_map.1 hx
  exact iText_len (hz.1 z hm)
 ·rw[List.length_map];exact Nat.mul_le_mul hbig (by omega)
theorem cell_Sx1{l:List UInt8}:[Sx l].all AV.cell=true:=rfl
theorem rowt_fn{zs:List Int}{t:Bool}{k:Nat}(hz:RB4 k zs)(hk:k≤1000000)(hbig:zs.length≤1000000):PFn Tryz.prog 81 [RowA zs t] (Sx (rowT zs)):=by
 intro H Q hq
 have nz:zs.length<9223372036854775808:=by omega
 have hjl:=joinI_len hz hk hbig
 refine enter81 (by simp) ?_
 simp(disch:=first|exact Xe|fail)only[ac81,len_rw,↓Xa,Xb,Xc,↓reduceIte,Nat.reduceLT,Nat.reduceEqDiff,Nat.reduceBEq,Nat.reduceLeDiff,Nat.reduceAdd,Nat.reduceMul]
 refine W_loop (fun s:Nat×AV×AHeap=>⟨[],[(3,s.2.1),(6,RowA zs t),(7,.int .i64 (zs.length:Int)),(8,.int .i64 s.1)],s.2.2⟩) (fun s=>s.1≤zs.length∧growC H 9 1 s.1 ((zs.take s.1).map fun z=>Sx (iText z)) s.2.1 s.2.2) (fun s=>zs.length-s.1) (0,.seq 0 [] true,H) (Settle.now rfl) ⟨Nat.zero_le _,growC_nil⟩ ?_
 rintro⟨i,y,M⟩ ⟨h3,hg⟩
 dsimp only at h3 hg ⊢
 by_cases hi:i<zs.length
 ·simp(disch:=first|exact Xe|fail)only[hi,idx_IC,load_IC,↓Xa,Xb,Xc,↓reduceIte,Nat.reduceLT,Nat.reduceEqDiff,Nat.reduceBEq,Nat.reduceLeDiff,Nat.reduceAdd,Nat.reduceMul]
  refine alloc_i fun q hq1=>?_
  simp(disch:=first|exact Xe|fail)only[cells_IntA,fold_IntA,↓Xa,Xb,Xc,↓reduceIte,Nat.reduceLT,Nat.reduceEqDiff,Nat.reduceBEq,Nat.reduceLeDiff,Nat.reduceAdd,Nat.reduceMul]
  have hg1:=growC_upd (r:=.row 48 0 [IntB (zs[i]),IntD (zs[i])]) hg hq1
  refine(itext_fn (hz.at hi) hk).call ?_
  simp(disch:=first|exact Xe|fail)only[repF0,cells_Sx,str_Sx,↓Xa,Xb,Xc,↓reduceIte,Nat.reduceLT,Nat.reduceEqDiff,Nat.reduceBEq,Nat.reduceLeDiff,Nat.reduceAdd,Nat.reduceMul]
  refine app_C (m:=1) hg1 rfl cell_Sx1 (by omega) (by omega) (by omega) fun y' M2 hg3=>?_
  have e:(zs.take (i+1)).map (fun z=>Sx (iText z))=(zs.take i).map (fun z=>Sx (iText z))++[Sx (iText (zs[i]))]:=by
   rw[List.take_add_one,List.getElem?_eq_getElem hi,Option.toList_some,List.map_append];rfl
  rw[← e]at hg3
  obtain⟨M3,hg4,hl4⟩:=growC_le2 hg3 ((Le.refl H).upd (growC_none hg hq1))
  simp(disch:=first|exact Xe|fail)only[↓Xa,Xb,Xc,↓reduceIte,Nat.reduceLT,Nat.reduceEqDiff,Nat.reduceBEq,Nat.reduceLeDiff,Nat.reduceAdd,Nat.reduceMul]
  exact Settle.dropTo hl4 (Settle.now ⟨(i+1,y',M3),by dsimp only;omega,⟨by dsimp only;omega,hg4⟩,rfl⟩)
 ·obtain rfl:i=zs.length:=by omega
  rw[List.take_of_length_le (by omega)]at hg
  simp(disch:=first|exact Xe|fail)only[hi,↓Xa,Xb,Xc,↓reduceIte,Nat.reduceLT,Nat.reduceEqDiff,Nat.reduceBEq,Nat.reduceLeDiff,Nat.reduceAdd,Nat.reduceMul]
  refine Settle.grownC 3 rfl hg (Settle.now ?_)
  have hj:=join_fn (zs.map iText) [32] false (by simpa using hbig) (by rw[joinT_eq];omega)
  rw[joinT_eq,List.length_map,List.map_map]at hj
  have s1:AV.str ⟨#[91]⟩=Sx [91]:=rfl
  have s2:AV.str ⟨#[93]⟩=Sx [93]:=rfl
  have s3:AV.str ⟨#[32]⟩=Sx [32]:=rfl
  have e1: ∀K,binW .add (Sx [91]) (Sx (joinT (zs.map iText))) K=K (Sx (91::joinT (zs.map iText))):=fun K=>add_Sx (by simp only[List.length_cons,List.length_append,List.length_nil];omega)
  have e2: ∀K,binW .add (Sx (91::joinT (zs.map iText))) (Sx [93]) K=K (Sx (rowT zs)):=fun K=>by rw[add_Sx (by simp only[List.length_cons,List.length_append,List.length_nil];omega)];rfl
  simp(disch:=first|exact Xe|fail)only[s3,↓Xa,Xb,Xc,↓reduceIte,Nat.reduceLT,Nat.reduceEqDiff,Nat.reduceBEq,Nat.reduceLeDiff,Nat.reduceAdd,Nat.reduceMul]
  refine hj.call ?_
  simp(disch:=first|exact Xe|fail)only[s1,s2,e1,e2,rs81,↓Xa,Xb,Xc,↓reduceIte,Nat.reduceLT,Nat.reduceEqDiff,Nat.reduceBEq,Nat.reduceLeDiff,Nat.reduceAdd,Nat.reduceMul]
  exact SetR.now hq
def sumN:List Nat→Nat
 |[]=>0
 |a::l=>a+sumN l
theorem sumN_app: ∀(l m:List Nat),sumN (l++m)=sumN l+sumN m
 |[],m=>by simp[sumN]
 |a::l,m=>by simp only[List.cons_append,sumN,sumN_app l m];omega
theorem sumN_take(l:List Nat)(i:Nat):sumN (l.take i)≤sumN l:=by
 conv=>rhs;rw[← List.take_append_drop i l,sumN_app]
 omega
theorem sumN_succ{l:List Nat}{i:Nat}(h:i<l.length):sumN (l.take (i+1))=sumN (l.take i)+l[i]:=by
 rw[List.take_add_one,List.getElem?_eq_getElem h,Option.toList_some,sumN_app];simp[sumN]
section
variable {K:AV→Prop} {H:AHeap} {k:IntKind} {t:Bool} {l:List NumV} {i:Nat}
end
theorem RC_take{zs:List Int}{i:Nat}(h:i<zs.length):RC (zs.take (i+1))=RC (zs.take i)++[RefB (zs[i]),RefD (zs[i])]:=by
 rw[List.take_add_one,List.getElem?_eq_getElem h,Option.toList_some,RC_snoc]
theorem cellR{z:Int}:[RefB z,RefD z].all AV.cell=true:=rfl
theorem cells_RefT{z:Int}{t:Bool}:(RefA z t).cells=some [RefB z,LS (digs 65536 z.natAbs) t]:=id rfl
theorem fold_RefT{z:Int}{t:Bool}:AV.agg [RefB z,LS (digs 65536 z.natAbs) t]=RefA z t:=id rfl
theorem samet_fn{x y:Int}{k k':Nat}(t:Bool)(hx:Bd k x)(hk:k≤1000000)(hy:Bd k' y)(hk':k'≤1000000):PFn Tryz.prog 92 [RefA x false,RefA y t] (.bool (decide (x=y))):=by
 intro H Q hq
 refine enter92 (by simp) ?_
 simp(disch:=first|exact Xe|fail)only[ac92,cells_RefA,↓Xa,Xb,Xc,↓reduceIte,Nat.reduceLT,Nat.reduceEqDiff,Nat.reduceBEq,Nat.reduceLeDiff,Nat.reduceAdd,Nat.reduceMul]
 refine alloc_i fun p1 hp1=>?_
 have n1:=hp1
 simp(disch:=first|exact Xe|fail)only[cells_RefA,cells_RefT,fold_RefA,↓Xa,Xb,Xc,↓reduceIte,Nat.reduceLT,Nat.reduceEqDiff,Nat.reduceBEq,Nat.reduceLeDiff,Nat.reduceAdd,Nat.reduceMul]
 refine alloc_i fun p2 hp2=>?_
 have n2:=hp2
 simp only[upd_none]at n2
 obtain⟨_,n2⟩:=n2
 simp(disch:=first|exact Xe|fail)only[cells_RefA,fold_RefA,fold_RefT,↓Xa,Xb,Xc,↓reduceIte,Nat.reduceLT,Nat.reduceEqDiff,Nat.reduceBEq,Nat.reduceLeDiff,Nat.reduceAdd,Nat.reduceMul]
 refine(rcmp_fn false t hx (by omega) hy (by omega)).call ?_
 simp(disch:=first|exact Xe|fail)only[cmp_eql0,rs92,↓Xa,Xb,Xc,↓reduceIte,Nat.reduceLT,Nat.reduceEqDiff,Nat.reduceBEq,Nat.reduceLeDiff,Nat.reduceAdd,Nat.reduceMul]
 exact SetR.dropTo (((Le.refl H).updB n1).updB n2) (SetR.now hq)
theorem PFn.loose1{P:Program}{f:FuncId}{x:AV}{rest:List AV}{r:AV}(h:PFn P f (loose x::rest) r):PFn P f (x::rest) r:=fun H Q hq=>
 ⟨(h H Q hq).1,fun c vs hH hok hs he=>(h H Q hq).2 c vs hH hok (by simpa using hs) fun i hi hi'=>by
  match i,hi with
  |0,_=>exact enc_loose _ _ (he 0 (by simp) hi')
  |i+1,hi=>exact he (i+1) (by simpa using hi) hi'⟩
theorem RB4.map{k k':Nat}{zs:List Int}{f:Int→Int}(h:RB4 k zs)(hf: ∀z,Bd k z→Bd k' (f z)):RB4 k' (zs.map f):=
 ⟨fun z hz=>by obtain⟨y,hy,rfl⟩:=List.mem_map.1 hz;exact hf y (h.1 y hy),by rw[List.length_map];exact h.2⟩
theorem RB4.zip{k k1 k2:Nat}{zs ws:List Int}{f:Int→Int→Int}(h:RB4 k1 zs)(h2:RB4 k2 ws)(hl:zs.length=ws.length)(hf: ∀z w,Bd k1 z→Bd k2 w→Bd k (f z w)):RB4 k (zipI f zs ws):=
 ⟨fun z hz=>by
  obtain⟨i,hi,rfl⟩:=List.getElem_of_mem hz
  have hi2:i<zs.length:=by rw[zip_len hl]at hi;exact hi
  rw[zip_at hl hi2]
  exact hf _ _ (h.at hi2) (h2.at (by omega)),by rw[zip_len hl];exact h.2⟩
theorem RB4.mono{k k':Nat}{zs:List Int}(h:RB4 k zs)(hk:k≤k'):RB4 k' zs:=⟨fun z hz=>(h.1 z hz).mono hk,h.2⟩
section
variable {zs ws:List Int} {t t':Bool} {k:Nat}
end
theorem stP_row{H:AHeap}{n b L off ty es:Nat}{cells l:List AV}{K:AV→AHeap→Prop}(hL:cells.length=L)(hl:l.length=n)(ho:off+n≤L):stP H n b L off K (some l) (some (.row ty es cells))↔K .bot (H.upd b (some (.row ty es (splice cells off l)))):=by
 simp[stP,hL,hl,ho]
def RowO(M:AHeap)(y:AV)(zs:List Int):Prop:=(zs=[]∧y=.seq 0 [] true)∨(0<zs.length∧∃b,y=.own b (zs.length*2) 0 zs.length false∧M b=some (.row 48 2 (IC zs)))
theorem RowO.of{H M:AHeap}{n:Nat}{y:AV}{zs:List Int}(h:growC H 48 2 n (IC zs) y M)(hn:zs.length=n):RowO M y zs:=by
 subst hn
 rcases h with⟨h1,_,rfl,rfl⟩|⟨hn,_,b,hb,rfl,rfl⟩
 ·exact .inl ⟨List.length_eq_zero_iff.1 h1,rfl⟩
 ·exact .inr ⟨hn,b,rfl,upd_same _ _ _⟩
theorem RowO.le{M M':AHeap}{y:AV}{zs:List Int}(h:RowO M y zs)(hl:Le M M'):RowO M' y zs:=by
 rcases h with h|⟨hn,b,e,hb⟩
 ·exact .inl h
 ·exact .inr ⟨hn,b,e,hl _ _ hb⟩
theorem RowO.lent{M:AHeap}{y:AV}{zs:List Int}(h:RowO M y zs):Lent M y (RowA zs false):=by
 rcases h with⟨rfl,rfl⟩|⟨hn,b,rfl,hb⟩
 ·intro c _ _ v he
  exact enc_loose _ _ (he.later (c.dropTo_later le_nil))
 ·exact Lent.own hb (IC_len zs)
theorem RowO.len{M:AHeap}{y:AV}{zs:List Int}(h:RowO M y zs)(hn:zs.length<9223372036854775808){K:AV→Prop}:lenW false y K=K (.int .i64 ((zs.length:Nat):Int)):=by
 rcases h with⟨rfl,rfl⟩|⟨h0,b,rfl,hb⟩<;>simp[lenW,hn]
section
variable {zs ws:List Int} {t t':Bool} {k:Nat}
theorem fcomb_fn{c d:Int}{k':Nat}(tc td:Bool)(hz:RB4 k zs)(hw:RB4 k ws)(hc:Bd k' c)(hd:Bd k' d)(hk:k+k'+1≤1000000)(hl:zs.length=ws.length)(hbig:zs.length≤1000000):
 PFn Tryz.prog 214 [RefA c tc,RefR zs t,RefA d td,RefR ws t'] (RefR (zipI (fun x y=>c*x+d*y) zs ws) false):=by
 intro H Q hq
 have nz:zs.length<9223372036854775808:=by omega
 have hln:(zipI (fun x y=>c*x+d*y) zs ws).length=zs.length:=zip_len hl
 rw[show RefR (zipI (fun x y=>c*x+d*y) zs ws) false=.seq zs.length (RC (zipI (fun x y=>c*x+d*y) zs ws)) false by rw[← hln]]at hq
 refine enter214 (by simp) ?_
 simp(disch:=first|exact Xe|fail)only[ac214,cells_RefT,↓Xa,Xb,Xc,↓reduceIte,Nat.reduceLT,Nat.reduceEqDiff,Nat.reduceBEq,Nat.reduceLeDiff,Nat.reduceAdd,Nat.reduceMul]
 refine alloc_i fun p1 hp1=>?_
 have n1:=hp1
 simp(disch:=first|exact Xe|fail)only[cells_RefT,↓Xa,Xb,Xc,↓reduceIte,Nat.reduceLT,Nat.reduceEqDiff,Nat.reduceBEq,Nat.reduceLeDiff,Nat.reduceAdd,Nat.reduceMul]
 refine alloc_i fun p2 hp2=>?_
 have n2:=hp2
 simp only[upd_none]at n2
 obtain⟨_,n2⟩:=n2
 simp(disch:=first|exact Xe|fail)only[↓Xa,Xb,Xc,↓reduceIte,Nat.reduceLT,Nat.reduceEqDiff,Nat.reduceBEq,Nat.reduceLeDiff,Nat.reduceAdd,Nat.reduceMul]
 refine W_loop (fun s:Nat×AV×AHeap=>⟨[],[(1,RefR zs t),(3,RefR ws t'),(4,.ptr p1 2 0),(6,.ptr p2 2 0),(9,s.2.1),(10,.int .i64 s.1)],s.2.2⟩)
  (fun s=>s.1≤zs.length∧growC ((H.upd p1 (some (.row 44 0 [RefB c,LS (digs 65536 c.natAbs) tc]))).upd p2 (some (.row 44 0 [RefB d,LS (digs 65536 d.natAbs) td]))) 44 2 s.1 (RC ((zipI (fun x y=>c*x+d*y) zs ws).take s.1)) s.2.1 s.2.2) (fun s=>zs.length-s.1) (0,.seq 0 [] true,_) (Settle.now rfl) ⟨Nat.zero_le _,growC_nil⟩ ?_
 rintro⟨i,y,M⟩ ⟨h3,hg⟩
 dsimp only at h3 hg ⊢
 have m1:M p1=some (.row 44 0 [RefB c,LS (digs 65536 c.natAbs) tc]):=growC_old hg (by rw[upd_other _ _ (by apply Ne.symm;assumption),upd_same])
 have m2:M p2=some (.row 44 0 [RefB d,LS (digs 65536 d.natAbs) td]):=growC_old hg (upd_same _ _ _)
 by_cases hi:i<zs.length
 ·have hi2:i<ws.length:=by omega
  have hi3:i<(zipI (fun x y=>c*x+d*y) zs ws).length:=by omega
  simp(disch:=first|exact Xe|fail)only[hi,hi2,len_rw,m1,m2,idx_RC,load_RC,fold_RefT,↓Xa,Xb,Xc,↓reduceIte,Nat.reduceLT,Nat.reduceEqDiff,Nat.reduceBEq,Nat.reduceLeDiff,Nat.reduceAdd,Nat.reduceMul]
  refine PFn.dcall (rmuli_fn tc false hc (by omega) (hz.at hi) (by omega)) ?_
  simp(disch:=first|exact Xe|fail)only[hi,hi2,len_rw,m1,m2,idx_RC,load_RC,fold_RefT,↓Xa,Xb,Xc,↓reduceIte,Nat.reduceLT,Nat.reduceEqDiff,Nat.reduceBEq,Nat.reduceLeDiff,Nat.reduceAdd,Nat.reduceMul]
  refine PFn.dcall (rmuli_fn td false hd (by omega) (hw.at hi2) (by omega)) ?_
  simp(disch:=first|exact Xe|fail)only[↓Xa,Xb,Xc,↓reduceIte,Nat.reduceLT,Nat.reduceEqDiff,Nat.reduceBEq,Nat.reduceLeDiff,Nat.reduceAdd,Nat.reduceMul]
  refine PFn.dcall (raddi_fn false false (hc.mul (hz.at hi)) (by omega) (hd.mul (hw.at hi2)) (by omega)) ?_
  simp(disch:=first|exact Xe|fail)only[repI1,cells_RefA,↓Xa,Xb,Xc,↓reduceIte,Nat.reduceLT,Nat.reduceEqDiff,Nat.reduceBEq,Nat.reduceLeDiff,Nat.reduceAdd,Nat.reduceMul]
  refine app_C (m:=1) hg rfl cellR (by omega) (by omega) (by omega) fun y' M2 hg3=>?_
  rw[← zip_at (f:=fun x y=>c*x+d*y) hl hi hi3,← RC_take hi3]at hg3
  simp(disch:=first|exact Xe|fail)only[↓Xa,Xb,Xc,↓reduceIte,Nat.reduceLT,Nat.reduceEqDiff,Nat.reduceBEq,Nat.reduceLeDiff,Nat.reduceAdd,Nat.reduceMul]
  exact Settle.now ⟨(i+1,y',M2),by dsimp only;omega,⟨by dsimp only;omega,hg3⟩,rfl⟩
 ·obtain rfl:i=zs.length:=by omega
  rw[List.take_of_length_le (by omega)]at hg
  simp(disch:=first|exact Xe|fail)only[hi,len_rw,↓Xa,Xb,Xc,↓reduceIte,Nat.reduceLT,Nat.reduceEqDiff,Nat.reduceBEq,Nat.reduceLeDiff,Nat.reduceAdd,Nat.reduceMul]
  refine Settle.now ?_
  simp(disch:=first|exact Xe|fail)only[rs214,↓Xa,Xb,Xc,↓reduceIte,Nat.reduceLT,Nat.reduceEqDiff,Nat.reduceBEq,Nat.reduceLeDiff,Nat.reduceAdd,Nat.reduceMul]
  refine SetR.join (growC_fin hg ?_)
  exact SetR.dropTo (((Le.refl H).updB n1).updB n2) (SetR.now hq)
theorem fadd_fn(hz:RB4 k zs)(hw:RB4 k ws)(hk:k+3≤1000000)(hl:zs.length=ws.length)(hbig:zs.length≤1000000):
 PFn Tryz.prog 155 [RefR zs t,RefR ws t'] (RefR (zipI (· + ·) zs ws) false):=by
 intro H Q hq
 have e:zipI (fun x y=>((1:Nat):Int)*x+((1:Nat):Int)*y) zs ws=zipI (· + ·) zs ws:=by
  rw[show(fun x y:Int=>((1:Nat):Int)*x+((1:Nat):Int)*y)=(· + ·)from funext fun x=>funext fun y=>by omega]
 have hc:=fcomb_fn (t:=t) (t':=t') (c:=((1:Nat):Int)) (d:=((1:Nat):Int)) (k':=2) false false hz hw (Bd.i64 (by omega)) (Bd.i64 (by omega)) (by omega) hl hbig
 rw[e]at hc
 refine enter155 (by simp) ?_
 simp(disch:=first|exact Xe|fail)only[ac155,↓Xa,Xb,Xc,↓reduceIte,Nat.reduceLT,Nat.reduceEqDiff,Nat.reduceBEq,Nat.reduceLeDiff,Nat.reduceAdd,Nat.reduceMul]
 refine(rof_fn (n:=((1:Nat):Int)) (by omega)).call ?_
 simp(disch:=first|exact Xe|fail)only[↓Xa,Xb,Xc,↓reduceIte,Nat.reduceLT,Nat.reduceEqDiff,Nat.reduceBEq,Nat.reduceLeDiff,Nat.reduceAdd,Nat.reduceMul]
 refine(rof_fn (n:=((1:Nat):Int)) (by omega)).call ?_
 simp(disch:=first|exact Xe|fail)only[↓Xa,Xb,Xc,↓reduceIte,Nat.reduceLT,Nat.reduceEqDiff,Nat.reduceBEq,Nat.reduceLeDiff,Nat.reduceAdd,Nat.reduceMul]
 refine hc.call ?_
 simp(disch:=first|exact Xe|fail)only[rs155,↓Xa,Xb,Xc,↓reduceIte,Nat.reduceLT,Nat.reduceEqDiff,Nat.reduceBEq,Nat.reduceLeDiff,Nat.reduceAdd,Nat.reduceMul]
 exact SetR.now hq
theorem fsub_fn(hz:RB4 k zs)(hw:RB4 k ws)(hk:k+3≤1000000)(hl:zs.length=ws.length)(hbig:zs.length≤1000000):
 PFn Tryz.prog 156 [RefR zs t,RefR ws t'] (RefR (zipI (· - ·) zs ws) false):=by
 intro H Q hq
 have e:zipI (fun x y=>((1:Nat):Int)*x+ -1*y) zs ws=zipI (· - ·) zs ws:=by
  rw[show(fun x y:Int=>((1:Nat):Int)*x+ -1*y)=(· - ·)from funext fun x=>funext fun y=>by omega]
 have hc:=fcomb_fn (t:=t) (t':=t') (c:=((1:Nat):Int)) (d:= -1) (k':=2) false false hz hw (Bd.i64 (by omega)) (Bd.i64 (by omega)) (by omega) hl hbig
 rw[e]at hc
 refine enter156 (by simp) ?_
 simp(disch:=first|exact Xe|fail)only[ac156,↓Xa,Xb,Xc,↓reduceIte,Nat.reduceLT,Nat.reduceEqDiff,Nat.reduceBEq,Nat.reduceLeDiff,Nat.reduceAdd,Nat.reduceMul]
 refine(rof_fn (n:=((1:Nat):Int)) (by omega)).call ?_
 simp(disch:=first|exact Xe|fail)only[↓Xa,Xb,Xc,↓reduceIte,Nat.reduceLT,Nat.reduceEqDiff,Nat.reduceBEq,Nat.reduceLeDiff,Nat.reduceAdd,Nat.reduceMul]
 refine(rof_fn (n:= -1) (by omega)).call ?_
 simp(disch:=first|exact Xe|fail)only[↓Xa,Xb,Xc,↓reduceIte,Nat.reduceLT,Nat.reduceEqDiff,Nat.reduceBEq,Nat.reduceLeDiff,Nat.reduceAdd,Nat.reduceMul]
 refine hc.call ?_
 simp(disch:=first|exact Xe|fail)only[rs156,↓Xa,Xb,Xc,↓reduceIte,Nat.reduceLT,Nat.reduceEqDiff,Nat.reduceBEq,Nat.reduceLeDiff,Nat.reduceAdd,Nat.reduceMul]
 exact SetR.now hq
theorem fscale_fn{c:Int}{k':Nat}(hz:RB4 k zs)(hc:Bd k' c)(hk:k+k'+1≤1000000)(hbig:zs.length≤1000000):
 PFn Tryz.prog 154 [RefR zs t,RefA c false] (RefR (zs.map (c* ·)) false):=by
 intro H Q hq
 have e:zipI (fun x y=>c*x+0*y) zs zs=zs.map (c* ·):=by
  refine List.ext_getElem (by simp[zipI]) fun i h1 h2=>?_
  simp[zipI]
 have hcb:=fcomb_fn (t:=t) (t':=t) (c:=c) (d:=0) (k':=k') false true hz hz hc (Bd.zero _) (by omega) rfl hbig
 rw[e]at hcb
 have z:RefA 0 true=.agg [.bool false,.seq 0 [] true]:=by simp[RefA,digs_zero,LS,U]
 rw[z]at hcb
 refine enter154 (by simp) ?_
 simp(disch:=first|exact Xe|fail)only[ac154,cells_RefA,↓Xa,Xb,Xc,↓reduceIte,Nat.reduceLT,Nat.reduceEqDiff,Nat.reduceBEq,Nat.reduceLeDiff,Nat.reduceAdd,Nat.reduceMul]
 refine alloc_i fun p1 hp1=>?_
 have n1:=hp1
 simp(disch:=first|exact Xe|fail)only[fold_RefA,↓Xa,Xb,Xc,↓reduceIte,Nat.reduceLT,Nat.reduceEqDiff,Nat.reduceBEq,Nat.reduceLeDiff,Nat.reduceAdd,Nat.reduceMul]
 refine hcb.call ?_
 simp(disch:=first|exact Xe|fail)only[rs154,↓Xa,Xb,Xc,↓reduceIte,Nat.reduceLT,Nat.reduceEqDiff,Nat.reduceBEq,Nat.reduceLeDiff,Nat.reduceAdd,Nat.reduceMul]
 exact SetR.dropTo ((Le.refl H).updB n1) (SetR.now hq)
end
theorem IC_app(a b:List Int):IC (a++b)=IC a++IC b:=by simp[IC,List.flatMap_append]
theorem repI(n:Nat):repA [.bool false,.seq 0 [] true] (n*2)=IC (List.replicate n 0):=by
 induction n with
 |zero=>simp[repA,IC]
 |succ n ih=>
  have e1:n*2%2=0:=by omega
  have e2:(n*2+1)%2=1:=by omega
  rw[List.replicate_succ',IC_snoc,← ih,show(n+1)*2=n*2+1+1 by omega]
  simp only[repA,List.range_succ,List.map_append,List.map_cons,List.map_nil,List.length_cons,List.length_nil,e1,e2]
  simp[IntB,IntD,digs_zero,LS,U,e1,e2]
theorem mks_I{H:AHeap}{ty n:Nat}{K:AV→AHeap→Prop}(h:n≤100000):mksW H ty 2 32 [.bool false,.seq 0 [] true] (.int .i64 (n:Int)) (.int .i64 (n:Int)) K↔∀b,H b=none→K (.own b (n*2) 0 n true) (H.upd b (some (.row ty 2 (IC (List.replicate n 0))))):=by
 have h1:(32:Int)*n≤281474976710656:=by omega
 have h2:(n:Int)<9223372036854775808:=by omega
 simp[mksW,h1,h2,repI]
theorem IC_tk{zs:List Int}{k:Nat}(h:k≤zs.length):(IC zs).take (k*2)=IC (zs.take k):=by
 conv=>lhs;rw[← List.take_append_drop k zs,IC_app]
 exact List.take_left' (by rw[IC_len,List.length_take];omega)
theorem IC_dp{zs:List Int}{k:Nat}(h:k≤zs.length):(IC zs).drop (k*2)=IC (zs.drop k):=by
 conv=>lhs;rw[← List.take_append_drop k zs,IC_app]
 exact List.drop_left' (by rw[IC_len,List.length_take];omega)
theorem IC_set{zs:List Int}{k:Nat}{v:Int}(h:k<zs.length):(IC zs).take (k*2)++[IntB v,IntD v]++(IC zs).drop (k*2+2)=IC (zs.set k v):=by
 rw[IC_tk (by omega),show k*2+2=(k+1)*2 by omega,IC_dp (by omega),List.set_eq_take_append_cons_drop,if_pos h,IC_app]
 simp[IC]
theorem idx_own2{G:AHeap}{b m i ty:Nat}{t:Bool}{cells:List AV}(hG:G b=some (.row ty 2 cells))(hl:cells.length=m*2)(hi:i<m){k:IntKind}{K:AV→Prop}:(liveS G (.own b (m*2) 0 m t)∧idxAW 2 (.own b (m*2) 0 m t) (.int k (i:Int)) K)↔K (.ptr b (m*2) (i*2)):=by simp[liveS,idxAW,hG,hl,hi]
theorem ldP_IC{ty m j:Nat}{zs:List Int}{K:AV→Prop}(hl:zs.length=m)(hj:j<zs.length):ldP (some 2) (m*2) (j*2) K (some (.row ty 2 (IC zs)))↔K (IntA (zs[j])):=by
 have h1:(IC zs).length=m*2:=by rw[IC_len,hl]
 have h2:j*2+2≤m*2:=by omega
 simp[ldP,ldC,h1,h2,IC_drop zs j hj,IntA_eq]
def minB(M:AHeap)(y:AV):AHeap:=fun o=>if o∈blkOf y then none else M o
theorem RowO.blk{M:AHeap}{y:AV}{zs:List Int}(h:RowO M y zs){b:Nat}(hb:b∈blkOf y):M b≠none:=by
 rcases h with⟨_,rfl⟩|⟨_,c,rfl,hc⟩
 ·simp[blkOf]at hb
 ·rw[List.mem_singleton.1 hb,hc];simp
theorem RowO.min{M:AHeap}{y z:AV}{zs:List Int}(h:RowO M y zs)(ha: ∀b,b∈blkOf z→b∉blkOf y):RowO (minB M z) y zs:=by
 rcases h with h|⟨hn,b,rfl,hb⟩
 ·exact .inl h
 ·refine .inr ⟨hn,b,rfl,?_⟩
  unfold minB
  rw[if_neg fun hz=>ha b hz (by simp[blkOf])];exact hb
def RCt(t:Bool)(zs:List Int):List AV:=zs.flatMap fun z=>[RefB z,LS (digs 65536 z.natAbs) t]
theorem fover_fn{zs:List Int}{t:Bool}{c:Int}{k:Nat}(hz:RB4 k zs)(hc:Bd k c)(hk:k≤1000000)(hc0:c≠0)(hbig:zs.length≤1000000):
 PFn Tryz.prog 158 [RefR zs t,RefA c false] (if(zs.all fun z=>decide (z%c=0))=true then .tup [RefR (zs.map (· / c)) false,.bool true]else .tup [.seq 0 [] true,.bool false]):=by
 intro H Q hq
 have nz:zs.length<9223372036854775808:=by omega
 refine enter158 (by simp) ?_
 simp(disch:=first|exact Xe|fail)only[ac158,cells_RefA,↓Xa,Xb,Xc,↓reduceIte,Nat.reduceLT,Nat.reduceEqDiff,Nat.reduceBEq,Nat.reduceLeDiff,Nat.reduceAdd,Nat.reduceMul]
 refine alloc_i fun p1 hp1=>?_
 have n1:=hp1
 simp(disch:=first|exact Xe|fail)only[↓Xa,Xb,Xc,↓reduceIte,Nat.reduceLT,Nat.reduceEqDiff,Nat.reduceBEq,Nat.reduceLeDiff,Nat.reduceAdd,Nat.reduceMul]
 refine W_loop (fun s:Nat×AV×AHeap=>⟨[],[(0,RefR zs t),(3,.ptr p1 2 0),(6,s.2.1),(7,.int .i64 s.1)],s.2.2⟩)
  (fun s=>s.1≤zs.length∧(∀z,z∈zs.take s.1→z%c=0)∧growC (H.upd p1 (some (.row 44 0 [RefB c,RefD c]))) 44 2 s.1 (RC ((zs.map (· / c)).take s.1)) s.2.1 s.2.2) (fun s=>zs.length-s.1) (0,.seq 0 [] true,_) (Settle.now rfl) ⟨Nat.zero_le _,by simp,growC_nil⟩ ?_
 rintro⟨i,y,M⟩ ⟨h3,hall,hg⟩
 dsimp only at h3 hall hg ⊢
 have m1:M p1=some (.row 44 0 [RefB c,RefD c]):=growC_old hg (upd_same _ _ _)
 by_cases hi:i<zs.length
 ·have hi2:i<(zs.map (· / c)).length:=by simpa using hi
  have hov:=rover_fn (hz.at hi) (by omega) hc (by omega) hc0
  simp(disch:=first|exact Xe|fail)only[hi,len_rw,idx_RC,load_RC,m1,fold_RefA,↓Xa,Xb,Xc,↓reduceIte,Nat.reduceLT,Nat.reduceEqDiff,Nat.reduceBEq,Nat.reduceLeDiff,Nat.reduceAdd,Nat.reduceMul]
  refine PFn.dcall hov ?_
  by_cases h0:zs[i]%c=0
  ·rw[if_pos h0]
   simp(disch:=first|exact Xe|fail)only[↓Xa,Xb,Xc,↓reduceIte,Nat.reduceLT,Nat.reduceEqDiff,Nat.reduceBEq,Nat.reduceLeDiff,Nat.reduceAdd,Nat.reduceMul]
   refine dalloc_i fun q hq1=>?_
   have a1:=ne_of_some m1 hq1
   have hg1:=growC_upd (r:=.row 44 0 [RefB (zs[i] / c),RefD (zs[i] / c)]) hg hq1
   simp(disch:=first|exact Xe|fail)only[repI1,cells_RefA,fold_RefA,↓Xa,Xb,Xc,↓reduceIte,Nat.reduceLT,Nat.reduceEqDiff,Nat.reduceBEq,Nat.reduceLeDiff,Nat.reduceAdd,Nat.reduceMul]
   refine app_C (m:=1) hg1 rfl cellR (by omega) (by omega) (by omega) fun y' M2 hg4=>?_
   have et:(zs.map (· / c))[i]=zs[i] / c:=by simp
   rw[← et,← RC_take hi2]at hg4
   obtain⟨M3,hg5,hl5⟩:=growC_le2 hg4 ((Le.refl _).updB (growC_none hg hq1))
   simp(disch:=first|exact Xe|fail)only[↓Xa,Xb,Xc,↓reduceIte,Nat.reduceLT,Nat.reduceEqDiff,Nat.reduceBEq,Nat.reduceLeDiff,Nat.reduceAdd,Nat.reduceMul]
   refine Settle.dropTo hl5 (Settle.now ⟨(i+1,y',M3),by dsimp only;omega,⟨by dsimp only;omega,fun z hm=>?_,hg5⟩,rfl⟩)
   dsimp only at hm
   rw[List.take_add_one,List.getElem?_eq_getElem hi,Option.toList_some]at hm
   rcases List.mem_append.1 hm with hm|hm
   ·exact hall z hm
   ·rw[List.mem_singleton.1 hm];exact h0
  ·rw[if_neg h0]
   have hno:(zs.all fun z=>decide (z%c=0))=false:=List.all_eq_false.2 ⟨zs[i],List.getElem_mem hi,by simpa using h0⟩
   rw[if_neg (by rw[hno];simp)]at hq
   simp(disch:=first|exact Xe|fail)only[↓Xa,Xb,Xc,↓reduceIte,Nat.reduceLT,Nat.reduceEqDiff,Nat.reduceBEq,Nat.reduceLeDiff,Nat.reduceAdd,Nat.reduceMul]
   refine dalloc_i fun q hq1=>?_
   have a1:=ne_of_some m1 hq1
   simp(disch:=first|exact Xe|fail)only[cells_RefA,rs158,↓Xa,Xb,Xc,↓reduceIte,Nat.reduceLT,Nat.reduceEqDiff,Nat.reduceBEq,Nat.reduceLeDiff,Nat.reduceAdd,Nat.reduceMul]
   refine SetR.dropTo ?_ (SetR.now hq)
   have hH:Le H M:=fun o x ho=>growC_le hg o x (((Le.refl H).updB n1) o x ho)
   exact hH.upd hq1
 ·obtain rfl:i=zs.length:=by omega
  rw[List.take_of_length_le (by omega)]at hall
  rw[List.take_of_length_le (by simp)]at hg
  have hyes:(zs.all fun z=>decide (z%c=0))=true:=List.all_eq_true.2 fun z hm=>decide_eq_true (hall z hm)
  rw[if_pos hyes]at hq
  simp(disch:=first|exact Xe|fail)only[hi,len_rw,↓Xa,Xb,Xc,↓reduceIte,Nat.reduceLT,Nat.reduceEqDiff,Nat.reduceBEq,Nat.reduceLeDiff,Nat.reduceAdd,Nat.reduceMul]
  refine Settle.now ?_
  simp(disch:=first|exact Xe|fail)only[rs158,↓Xa,Xb,Xc,↓reduceIte,Nat.reduceLT,Nat.reduceEqDiff,Nat.reduceBEq,Nat.reduceLeDiff,Nat.reduceAdd,Nat.reduceMul]
  obtain⟨M3,hg5,hl5⟩:=growC_le2 hg ((Le.refl H).updB n1)
  refine SetR.dropTo hl5 ?_
  rw[show RefR (zs.map (· / c)) false=.seq zs.length (RC (zs.map (· / c))) false by simp]at hq
  rcases hg5 with⟨h1,h2,rfl,rfl⟩|⟨hn,hl,b,hb,rfl,rfl⟩
  ·rw[h1,h2]at hq
   exact SetR.loose (SetR.now hq)
  ·refine SetR.frz b (upd_same _ _ _) ?_
   rw[upd_upd,upd_back _ hb]
   have e:frz b 2 (RC (zs.map (· / c))) (.tup [.own b (zs.length*2) 0 zs.length false,.bool true])=.tup [.seq zs.length (RC (zs.map (· / c))) false,.bool true]:=by simp[frz,frz2,frz1,hl,List.take_of_length_le]
   rw[e];exact SetR.now hq
def rgtE(p:PR)(n:Int):Nat:=if rightP p then(if n=p.ins then 0 else 5)else 80
theorem right10_fn(p:PR)(hp:p.ok)(n:Int):PFn Tryz.prog 83 [ProgA p,.int .i64 n] (.int .i64 ((rgtE p n:Nat):Int)):=by
 intro H Q hq
 obtain⟨k,hf⟩:=check_fn p hp
 refine enter83 (by simp) ?_
 simp(disch:=first|exact Xe|fail)only[ac83,cells_ProgA,↓Xa,Xb,Xc,↓reduceIte,Nat.reduceLT,Nat.reduceEqDiff,Nat.reduceBEq,Nat.reduceLeDiff,Nat.reduceAdd,Nat.reduceMul]
 refine alloc_i fun p1 hp1=>?_
 have n1:=hp1
 simp(disch:=first|exact Xe|fail)only[fold_ProgA,↓Xa,Xb,Xc,↓reduceIte,Nat.reduceLT,Nat.reduceEqDiff,Nat.reduceBEq,Nat.reduceLeDiff,Nat.reduceAdd,Nat.reduceMul]
 refine hf.call ?_
 unfold rgtE at hq
 by_cases h:rightP p
 ·rw[if_pos h]at hq ⊢
  have e0:decide (((0:Nat):Int)=((0:Nat):Int))=true:=rfl
  by_cases hn:n=p.ins
  ·rw[if_pos hn]at hq
   simp(disch:=first|exact Xe|fail)only[neq_int,e0,decide_eq_true hn,Bool.not_true,rs83,↓Xa,Xb,Xc,↓reduceIte,Nat.reduceLT,Nat.reduceEqDiff,Nat.reduceBEq,Nat.reduceLeDiff,Nat.reduceAdd,Nat.reduceMul]
   exact SetR.dropTo ((Le.refl H).updB n1) (SetR.now hq)
  ·rw[if_neg hn]at hq
   simp(disch:=first|exact Xe|fail)only[neq_int,e0,decide_eq_false hn,Bool.not_true,Bool.not_false,rs83,↓Xa,Xb,Xc,↓reduceIte,Nat.reduceLT,Nat.reduceEqDiff,Nat.reduceBEq,Nat.reduceLeDiff,Nat.reduceAdd,Nat.reduceMul]
   exact SetR.dropTo ((Le.refl H).updB n1) (SetR.now hq)
 ·rw[if_neg h]at hq ⊢
  have e0:decide (((80:Nat):Int)=((0:Nat):Int))=false:=rfl
  simp(disch:=first|exact Xe|fail)only[neq_int,e0,Bool.not_false,rs83,↓Xa,Xb,Xc,↓reduceIte,Nat.reduceLT,Nat.reduceEqDiff,Nat.reduceBEq,Nat.reduceLeDiff,Nat.reduceAdd,Nat.reduceMul]
  exact SetR.dropTo ((Le.refl H).updB n1) (SetR.now hq)
def WaysN:AV:=.agg [.fn (.func 149) [] [],.fn (.func 138) [] [],.fn (.func 150) [] [],.fn (.func 121) [] [],.fn (.func 151) [] []]
theorem cells_WaysN:WaysN.cells=some [.fn (.func 149) [] [],.fn (.func 138) [] [],.fn (.func 150) [] [],.fn (.func 121) [] [],.fn (.func 151) [] []]:=id rfl
theorem fold_WaysN:AV.agg [.fn (.func 149) [] [],.fn (.func 138) [] [],.fn (.func 150) [] [],.fn (.func 121) [] [],.fn (.func 151) [] []]=WaysN:=id rfl
theorem numbers10_fn:PFn Tryz.prog 85 [] WaysN:=by
 intro H Q hq
 refine enter85 (by simp) ?_
 simp(disch:=first|exact Xe|fail)only[ac85,↓Xa,Xb,Xc,↓reduceIte,Nat.reduceLT,Nat.reduceEqDiff,Nat.reduceBEq,Nat.reduceLeDiff,Nat.reduceAdd,Nat.reduceMul]
 refine alloc_i fun p1 hp1=>?_
 have n1:=hp1
 simp(disch:=first|exact Xe|fail)only[fn_cells,↓Xa,Xb,Xc,↓reduceIte,Nat.reduceLT,Nat.reduceEqDiff,Nat.reduceBEq,Nat.reduceLeDiff,Nat.reduceAdd,Nat.reduceMul]
 simp(disch:=first|exact Xe|fail)only[cells_WaysN,fold_WaysN,rs85,↓Xa,Xb,Xc,↓reduceIte,Nat.reduceLT,Nat.reduceEqDiff,Nat.reduceBEq,Nat.reduceLeDiff,Nat.reduceAdd,Nat.reduceMul]
 exact SetR.dropTo ((Le.refl H).updB n1) (SetR.now hq)
theorem over10_fn{a c:Int}{k k':Nat}(ha:Bd k a)(hc:Bd k' c)(hk:k≤1000000)(hk':k'≤1000000)(h0:c≠0):PFn Tryz.prog 151 [IntA a,IntA c] (.tup [IntA (a / c),.bool (decide (a%c=0))]):=by
 intro H Q hq
 have br:Bd k' (a%c):=by
  have h1:=Int.emod_lt a h0
  have h2:=Int.emod_nonneg a h0
  unfold Bd at hc ⊢; omega
 refine enter151 (by simp) ?_
 simp(disch:=first|exact Xe|fail)only[ac151,cells_IntA,↓Xa,Xb,Xc,↓reduceIte,Nat.reduceLT,Nat.reduceEqDiff,Nat.reduceBEq,Nat.reduceLeDiff,Nat.reduceAdd,Nat.reduceMul]
 refine alloc_i fun p1 hp1=>?_
 have n1:=hp1
 simp(disch:=first|exact Xe|fail)only[cells_IntA,↓Xa,Xb,Xc,↓reduceIte,Nat.reduceLT,Nat.reduceEqDiff,Nat.reduceBEq,Nat.reduceLeDiff,Nat.reduceAdd,Nat.reduceMul]
 refine alloc_i fun p2 hp2=>?_
 have n2:=hp2
 simp only[upd_none]at n2
 obtain⟨_,n2⟩:=n2
 simp(disch:=first|exact Xe|fail)only[↓Xa,Xb,Xc,↓reduceIte,Nat.reduceLT,Nat.reduceEqDiff,Nat.reduceBEq,Nat.reduceLeDiff,Nat.reduceAdd,Nat.reduceMul]
 refine alloc_i fun p3 hp3=>?_
 have n3:=hp3
 simp only[upd_none]at n3
 obtain⟨_,_,n3⟩:=n3
 simp(disch:=first|exact Xe|fail)only[fold_IntA,↓Xa,Xb,Xc,↓reduceIte,Nat.reduceLT,Nat.reduceEqDiff,Nat.reduceBEq,Nat.reduceLeDiff,Nat.reduceAdd,Nat.reduceMul]
 refine(idivmod_fn ha (by omega) hc (by omega) h0).call ?_
 simp(disch:=first|exact Xe|fail)only[↓Xa,Xb,Xc,↓reduceIte,Nat.reduceLT,Nat.reduceEqDiff,Nat.reduceBEq,Nat.reduceLeDiff,Nat.reduceAdd,Nat.reduceMul]
 refine alloc_i fun p4 hp4=>?_
 have n4:=hp4
 simp only[upd_none]at n4
 obtain⟨_,_,_,n4⟩:=n4
 simp(disch:=first|exact Xe|fail)only[↓Xa,Xb,Xc,↓reduceIte,Nat.reduceLT,Nat.reduceEqDiff,Nat.reduceBEq,Nat.reduceLeDiff,Nat.reduceAdd,Nat.reduceMul]
 refine alloc_i fun p5 hp5=>?_
 have n5:=hp5
 simp only[upd_none]at n5
 obtain⟨_,_,_,_,n5⟩:=n5
 simp(disch:=first|exact Xe|fail)only[cells_IntA,fold_IntA,↓Xa,Xb,Xc,↓reduceIte,Nat.reduceLT,Nat.reduceEqDiff,Nat.reduceBEq,Nat.reduceLeDiff,Nat.reduceAdd,Nat.reduceMul]
 refine PFn.dcall (sign_fn br (by omega)) ?_
 simp(disch:=first|exact Xe|fail)only[sgn_eql0,cells_IntA,fold_IntA,rs151,↓Xa,Xb,Xc,↓reduceIte,Nat.reduceLT,Nat.reduceEqDiff,Nat.reduceBEq,Nat.reduceLeDiff,Nat.reduceAdd,Nat.reduceMul]
 exact SetR.dropTo ((((((Le.refl H).updB n1).updB n2).updB n3).updB n4).updB n5) (SetR.now hq)
theorem power10_fn{n:Nat}(hn:n≤65536):PFn Tryz.prog 212 [.int .i64 (n:Int)] (IntA (2^n)):=by
 intro H Q hq
 refine enter212 (by simp) ?_
 simp(disch:=first|exact Xe|fail)only[ac212,↓Xa,Xb,Xc,↓reduceIte,Nat.reduceLT,Nat.reduceEqDiff,Nat.reduceBEq,Nat.reduceLeDiff,Nat.reduceAdd,Nat.reduceMul]
 refine alloc_i fun p1 hp1=>?_
 have n1:=hp1
 simp(disch:=first|exact Xe|fail)only[↓Xa,Xb,Xc,↓reduceIte,Nat.reduceLT,Nat.reduceEqDiff,Nat.reduceBEq,Nat.reduceLeDiff,Nat.reduceAdd,Nat.reduceMul]
 refine(of_fn (n:=((1:Nat):Int)) (by omega)).call ?_
 simp(disch:=first|exact Xe|fail)only[↓Xa,Xb,Xc,↓reduceIte,Nat.reduceLT,Nat.reduceEqDiff,Nat.reduceBEq,Nat.reduceLeDiff,Nat.reduceAdd,Nat.reduceMul]
 refine(ishl_fn (Bd.i64 (n:=((1:Nat):Int)) (by omega)) (by omega) hn).call ?_
 rw[show((1:Nat):Int)*2^n=2^n from Int.one_mul _]
 simp(disch:=first|exact Xe|fail)only[↓Xa,Xb,Xc,↓reduceIte,Nat.reduceLT,Nat.reduceEqDiff,Nat.reduceBEq,Nat.reduceLeDiff,Nat.reduceAdd,Nat.reduceMul]
 refine alloc_i fun p2 hp2=>?_
 have n2:=hp2
 simp only[upd_none]at n2
 obtain⟨_,n2⟩:=n2
 simp(disch:=first|exact Xe|fail)only[cells_IntA,fold_IntA,rs212,↓Xa,Xb,Xc,↓reduceIte,Nat.reduceLT,Nat.reduceEqDiff,Nat.reduceBEq,Nat.reduceLeDiff,Nat.reduceAdd,Nat.reduceMul]
 exact SetR.dropTo (((Le.refl H).updB n1).updB n2) (SetR.now hq)
theorem idx_own2'{G:AHeap}{b m i ty:Nat}{t:Bool}{cells:List AV}(hG:G b=some (.row ty 2 cells))(hl:cells.length=m*2)(hi:i<m){k:IntKind}{K:AV→Prop}:(liveS G (.own b (m*2) 0 m t)∧idxAW 2 (.own b (m*2) 0 m t) (.int k (i:Int)) K)↔K (.ptr b (m*2) (i*2)):=idx_own2 hG hl hi
theorem do10_run{H:AHeap}{Q:AV→AHeap→Prop}{b N k ty:Nat}{t:Bool}{regs:List Int}{i:Ins}(hb:H b=some (.row ty 2 (IC regs)))(hN:regs.length=N)(hm:mayI (N:Int) i)(hz: ∀z,z∈regs→Bd k z)(hk:k≤100000)
 (hq: ∀x ok,(ok=true→doZ i (regs.getD i.a.toNat 0) (regs.getD i.b.toNat 0)=some x)→(ok=false→doZ i (regs.getD i.a.toNat 0) (regs.getD i.b.toNat 0)=none)→Bd (k+3) x→Q (.tup [IntA x,.bool ok]) H):
 Run Tryz.prog 148 [WaysN,.own b (N*2) 0 N t,InsA i] H Q:=by
 have hmb:=mayI_b hm
 have hma:=hm.2.2
 obtain⟨a,ha⟩: ∃a:Nat,i.a=(a:Int):=⟨i.a.toNat,by omega⟩
 obtain⟨c,hc⟩: ∃c:Nat,i.b=(c:Int):=⟨i.b.toNat,by omega⟩
 have haN:a<regs.length:=by omega
 have hcN:c<regs.length:=by omega
 have ga:regs.getD i.a.toNat 0=regs[a]:=by rw[ha,Int.toNat_natCast,List.getD_eq_getElem?_getD,List.getElem?_eq_getElem haN];rfl
 have gc:regs.getD i.b.toNat 0=regs[c]:=by rw[hc,Int.toNat_natCast,List.getD_eq_getElem?_getD,List.getElem?_eq_getElem hcN];rfl
 rw[ga,gc]at hq
 have bx:=hz _ (List.getElem_mem haN)
 have by':=hz _ (List.getElem_mem hcN)
 have hl:(IC regs).length=N*2:=by rw[IC_len,hN]
 refine enter148 (by simp) ?_
 simp(disch:=first|exact Xe|fail)only[ac148,cells_WaysN,↓Xa,Xb,Xc,↓reduceIte,Nat.reduceLT,Nat.reduceEqDiff,Nat.reduceBEq,Nat.reduceLeDiff,Nat.reduceAdd,Nat.reduceMul]
 refine alloc_i fun p1 n1=>?_
 have a1:=ne_of_some hb n1
 simp(disch:=first|exact Xe|fail)only[cells_InsA,↓Xa,Xb,Xc,↓reduceIte,Nat.reduceLT,Nat.reduceEqDiff,Nat.reduceBEq,Nat.reduceLeDiff,Nat.reduceAdd,Nat.reduceMul]
 refine alloc_i fun p2 hp2=>?_
 have n2:=(upd_none.1 hp2).2
 have a2:=ne_of_some hb n2
 have d21:=(upd_none.1 hp2).1
 simp(disch:=first|exact Xe|fail)only[↓Xa,Xb,Xc,↓reduceIte,Nat.reduceLT,Nat.reduceEqDiff,Nat.reduceBEq,Nat.reduceLeDiff,Nat.reduceAdd,Nat.reduceMul]
 refine alloc_i fun p3 hp3=>?_
 have n3:=(upd_none.1 (upd_none.1 hp3).2).2
 have a3:=ne_of_some hb n3
 have d32:=(upd_none.1 hp3).1
 have d31:=(upd_none.1 (upd_none.1 hp3).2).1
 simp(disch:=first|exact Xe|fail)only[ha,hc,hb,idx_own2',hl,ldP_IC hN haN,ldP_IC hN hcN,↓Xa,Xb,Xc,↓reduceIte,Nat.reduceLT,Nat.reduceEqDiff,Nat.reduceBEq,Nat.reduceLeDiff,Nat.reduceAdd,Nat.reduceMul]
 refine dalloc_i fun p4 hp4=>?_
 have n4:=(upd_none.1 (upd_none.1 (upd_none.1 hp4).2).2).2
 have a4:=ne_of_some hb n4
 have d43:=(upd_none.1 hp4).1
 have d42:=(upd_none.1 (upd_none.1 hp4).2).1
 have d41:=(upd_none.1 (upd_none.1 (upd_none.1 hp4).2).2).1
 simp(disch:=first|exact Xe|fail)only[↓Xa,Xb,Xc,↓reduceIte,Nat.reduceLT,Nat.reduceEqDiff,Nat.reduceBEq,Nat.reduceLeDiff,Nat.reduceAdd,Nat.reduceMul]
 refine dalloc_i fun p5 hp5=>?_
 have n5:=(upd_none.1 (upd_none.1 (upd_none.1 (upd_none.1 hp5).2).2).2).2
 have a5:=ne_of_some hb n5
 have d54:=(upd_none.1 hp5).1
 have d53:=(upd_none.1 (upd_none.1 hp5).2).1
 have d52:=(upd_none.1 (upd_none.1 (upd_none.1 hp5).2).2).1
 have d51:=(upd_none.1 (upd_none.1 (upd_none.1 (upd_none.1 hp5).2).2).2).1
 generalize regs[a]=x at*
 generalize regs[c]=y at*
 have fin: ∀{r:AV}{x1 x2 x3 x4 x5:ABlk},Q r H→SetR Q r (((((H.upd p1 (some x1)).upd p2 (some x2)).upd p3 (some x3)).upd p4 (some x4)).upd p5 (some x5)):=fun h=>
  SetR.dropTo ((((((Le.refl H).updB n1).updB n2).updB n3).updB n4).updB n5) (SetR.now h)
 have ok1: ∀{z:Int},doZ i x y=some z→Bd (k+3) z→Q (.tup [IntA z,.bool true]) H:=fun h hb=>hq _ true (fun _=>h) (fun e=>by cases e) hb
 have ok2: ∀{z:Int},doZ i x y=some z→Q (.tup [IntA z,.bool true]) H:=fun h=>ok1 h (doZ_bd hm bx by' h)
 simp(disch:=first|exact Xe|fail)only[cells_IntA,↓Xa,Xb,Xc,↓reduceIte,Nat.reduceLT,Nat.reduceEqDiff,Nat.reduceBEq,Nat.reduceLeDiff,Nat.reduceAdd,Nat.reduceMul]
 by_cases o2:i.op=2
 ·have e2:decide (i.op=((2:Nat):Int))=true:=decide_eq_true o2
  simp(disch:=first|exact Xe|fail)only[eql_int,e2,fold_IntA,↓Xa,Xb,Xc,↓reduceIte,Nat.reduceLT,Nat.reduceEqDiff,Nat.reduceBEq,Nat.reduceLeDiff,Nat.reduceAdd,Nat.reduceMul]
  refine(neg_fn bx (by omega)).call ?_
  simp(disch:=first|exact Xe|fail)only[cells_IntA,fold_IntA,rs148,↓Xa,Xb,Xc,↓reduceIte,Nat.reduceLT,Nat.reduceEqDiff,Nat.reduceBEq,Nat.reduceLeDiff,Nat.reduceAdd,Nat.reduceMul]
  exact fin (ok2 (by unfold doZ;rw[if_pos o2]))
 have e2:decide (i.op=((2:Nat):Int))=false:=decide_eq_false o2
 by_cases o3:i.op=3
 ·have e3:decide (i.op=((3:Nat):Int))=true:=decide_eq_true o3
  simp(disch:=first|exact Xe|fail)only[eql_int,e2,e3,fold_IntA,↓Xa,Xb,Xc,↓reduceIte,Nat.reduceLT,Nat.reduceEqDiff,Nat.reduceBEq,Nat.reduceLeDiff,Nat.reduceAdd,Nat.reduceMul]
  refine(addi_fn bx (by omega) by' (by omega)).call ?_
  simp(disch:=first|exact Xe|fail)only[cells_IntA,fold_IntA,rs148,↓Xa,Xb,Xc,↓reduceIte,Nat.reduceLT,Nat.reduceEqDiff,Nat.reduceBEq,Nat.reduceLeDiff,Nat.reduceAdd,Nat.reduceMul]
  exact fin (ok2 (by unfold doZ;rw[if_neg o2,if_pos o3]))
 have e3:decide (i.op=((3:Nat):Int))=false:=decide_eq_false o3
 by_cases o4:i.op=4
 ·have e4:decide (i.op=((4:Nat):Int))=true:=decide_eq_true o4
  simp(disch:=first|exact Xe|fail)only[eql_int,e2,e3,e4,fold_IntA,↓Xa,Xb,Xc,↓reduceIte,Nat.reduceLT,Nat.reduceEqDiff,Nat.reduceBEq,Nat.reduceLeDiff,Nat.reduceAdd,Nat.reduceMul]
  refine(subi_fn bx (by omega) by' (by omega)).call ?_
  simp(disch:=first|exact Xe|fail)only[cells_IntA,fold_IntA,rs148,↓Xa,Xb,Xc,↓reduceIte,Nat.reduceLT,Nat.reduceEqDiff,Nat.reduceBEq,Nat.reduceLeDiff,Nat.reduceAdd,Nat.reduceMul]
  exact fin (ok2 (by unfold doZ;rw[if_neg o2,if_neg o3,if_pos o4]))
 have e4:decide (i.op=((4:Nat):Int))=false:=decide_eq_false o4
 have hcst:=cst_ne hm
 have h3:=hm.2.2.2.2.2.2
 rw[if_neg (by omega)]at h3
 by_cases o5:i.op=5
 ·have e5:decide (i.op=((5:Nat):Int))=true:=decide_eq_true o5
  have hcs:cst i=i.c:=by unfold cst;rw[if_pos (.inl o5)]
  rw[if_pos (.inl o5)]at h3
  simp(disch:=first|exact Xe|fail)only[eql_int,e2,e3,e4,e5,fold_IntA,↓Xa,Xb,Xc,↓reduceIte,Nat.reduceLT,Nat.reduceEqDiff,Nat.reduceBEq,Nat.reduceLeDiff,Nat.reduceAdd,Nat.reduceMul]
  refine PFn.dcall (of_fn (n:=i.c) (by omega)) ?_
  simp(disch:=first|exact Xe|fail)only[↓Xa,Xb,Xc,↓reduceIte,Nat.reduceLT,Nat.reduceEqDiff,Nat.reduceBEq,Nat.reduceLeDiff,Nat.reduceAdd,Nat.reduceMul]
  refine(muli_fn bx (by omega) (Bd.i64 (n:=i.c) (by omega)) (by omega)).call ?_
  simp(disch:=first|exact Xe|fail)only[cells_IntA,fold_IntA,rs148,↓Xa,Xb,Xc,↓reduceIte,Nat.reduceLT,Nat.reduceEqDiff,Nat.reduceBEq,Nat.reduceLeDiff,Nat.reduceAdd,Nat.reduceMul]
  exact fin (ok2 (by unfold doZ;rw[if_neg o2,if_neg o3,if_neg o4,if_pos (.inl o5),hcs,Int.mul_comm]))
 have e5:decide (i.op=((5:Nat):Int))=false:=decide_eq_false o5
 by_cases o7:i.op=7
 ·have e7:decide (i.op=((7:Nat):Int))=true:=decide_eq_true o7
  have hcs:cst i=2^i.c.toNat:=by unfold cst;rw[if_neg (by omega)]
  rw[if_neg (by omega),if_pos (.inl o7)]at h3
  obtain⟨m,hmc⟩: ∃m:Nat,i.c=(m:Int):=⟨i.c.toNat,by omega⟩
  rw[hmc,Int.toNat_natCast]at hcs
  have hcb:=cst_bd hm (by omega)
  rw[hcs]at hcb
  simp(disch:=first|exact Xe|fail)only[eql_int,e2,e3,e4,e5,e7,hmc,fold_IntA,↓Xa,Xb,Xc,↓reduceIte,Nat.reduceLT,Nat.reduceEqDiff,Nat.reduceBEq,Nat.reduceLeDiff,Nat.reduceAdd,Nat.reduceMul]
  refine PFn.dcall (power10_fn (n:=m) (by omega)) ?_
  simp(disch:=first|exact Xe|fail)only[↓Xa,Xb,Xc,↓reduceIte,Nat.reduceLT,Nat.reduceEqDiff,Nat.reduceBEq,Nat.reduceLeDiff,Nat.reduceAdd,Nat.reduceMul]
  refine(muli_fn bx (by omega) hcb (by omega)).call ?_
  simp(disch:=first|exact Xe|fail)only[cells_IntA,fold_IntA,rs148,↓Xa,Xb,Xc,↓reduceIte,Nat.reduceLT,Nat.reduceEqDiff,Nat.reduceBEq,Nat.reduceLeDiff,Nat.reduceAdd,Nat.reduceMul]
  exact fin (ok2 (by unfold doZ;rw[if_neg o2,if_neg o3,if_neg o4,if_pos (.inr o7),hcs,Int.mul_comm]))
 have e7:decide (i.op=((7:Nat):Int))=false:=decide_eq_false o7
 by_cases o6:i.op=6
 ·have e6:decide (i.op=((6:Nat):Int))=true:=decide_eq_true o6
  have hcs:cst i=i.c:=by unfold cst;rw[if_pos (.inr o6)]
  rw[if_pos (.inr o6)]at h3
  simp(disch:=first|exact Xe|fail)only[eql_int,e2,e3,e4,e5,e7,e6,fold_IntA,↓Xa,Xb,Xc,↓reduceIte,Nat.reduceLT,Nat.reduceEqDiff,Nat.reduceBEq,Nat.reduceLeDiff,Nat.reduceAdd,Nat.reduceMul]
  refine PFn.dcall (of_fn (n:=i.c) (by omega)) ?_
  simp(disch:=first|exact Xe|fail)only[↓Xa,Xb,Xc,↓reduceIte,Nat.reduceLT,Nat.reduceEqDiff,Nat.reduceBEq,Nat.reduceLeDiff,Nat.reduceAdd,Nat.reduceMul]
  refine PFn.dcall (over10_fn bx (Bd.i64 (n:=i.c) (by omega)) (by omega) (by omega) h3.2.1) ?_
  simp(disch:=first|exact Xe|fail)only[cells_IntA,fold_IntA,rs148,↓Xa,Xb,Xc,↓reduceIte,Nat.reduceLT,Nat.reduceEqDiff,Nat.reduceBEq,Nat.reduceLeDiff,Nat.reduceAdd,Nat.reduceMul]
  have hd:doZ i x y=if x%i.c=0 then some (x / i.c)else none:=by unfold doZ;rw[if_neg o2,if_neg o3,if_neg o4,if_neg (by omega),if_pos (.inl o6),hcs]
  refine fin (hq _ _ (fun h=>by rw[hd,if_pos (of_decide_eq_true h)]) (fun h=>by rw[hd,if_neg (of_decide_eq_false h)]) ?_)
  exact(bx.ediv).mono (by omega)
 have e6:decide (i.op=((6:Nat):Int))=false:=decide_eq_false o6
 by_cases o8:i.op=8
 ·have e8:decide (i.op=((8:Nat):Int))=true:=decide_eq_true o8
  have hcs:cst i=2^i.c.toNat:=by unfold cst;rw[if_neg (by omega)]
  rw[if_neg (by omega),if_pos (.inr o8)]at h3
  obtain⟨m,hmc⟩: ∃m:Nat,i.c=(m:Int):=⟨i.c.toNat,by omega⟩
  rw[hmc,Int.toNat_natCast]at hcs
  have hcb:=cst_bd hm (by omega)
  rw[hcs]at hcb hcst
  simp(disch:=first|exact Xe|fail)only[eql_int,e2,e3,e4,e5,e7,e6,e8,hmc,fold_IntA,↓Xa,Xb,Xc,↓reduceIte,Nat.reduceLT,Nat.reduceEqDiff,Nat.reduceBEq,Nat.reduceLeDiff,Nat.reduceAdd,Nat.reduceMul]
  refine PFn.dcall (power10_fn (n:=m) (by omega)) ?_
  simp(disch:=first|exact Xe|fail)only[↓Xa,Xb,Xc,↓reduceIte,Nat.reduceLT,Nat.reduceEqDiff,Nat.reduceBEq,Nat.reduceLeDiff,Nat.reduceAdd,Nat.reduceMul]
  refine PFn.dcall (over10_fn bx hcb (by omega) (by omega) hcst) ?_
  simp(disch:=first|exact Xe|fail)only[cells_IntA,fold_IntA,rs148,↓Xa,Xb,Xc,↓reduceIte,Nat.reduceLT,Nat.reduceEqDiff,Nat.reduceBEq,Nat.reduceLeDiff,Nat.reduceAdd,Nat.reduceMul]
  have hd:doZ i x y=if x%2^m=0 then some (x / 2^m)else none:=by unfold doZ;rw[if_neg o2,if_neg o3,if_neg o4,if_neg (by omega),if_pos (.inr o8),hcs]
  refine fin (hq _ _ (fun h=>by rw[hd,if_pos (of_decide_eq_true h)]) (fun h=>by rw[hd,if_neg (of_decide_eq_false h)]) ?_)
  exact(bx.ediv).mono (by omega)
 have e8:decide (i.op=((8:Nat):Int))=false:=decide_eq_false o8
 simp(disch:=first|exact Xe|fail)only[eql_int,e2,e3,e4,e5,e7,e6,e8,cells_IntA,fold_IntA,rs148,↓Xa,Xb,Xc,↓reduceIte,Nat.reduceLT,Nat.reduceEqDiff,Nat.reduceBEq,Nat.reduceLeDiff,Nat.reduceAdd,Nat.reduceMul]
 exact fin (ok2 (by unfold doZ;rw[if_neg o2,if_neg o3,if_neg o4,if_neg (by omega),if_neg (by omega)]))
theorem un_atR{A B:AHeap}{b:Nat}(h:A b=none):Un A B b=B b:=by simp[Un,h]
theorem le_unR{A B B':AHeap}(h:Le B B'):Le (Un A B) (Un A B'):=fun o x ho=>by
 unfold Un at ho ⊢
 cases e:A o with
 |some y=>rw[e]at ho;exact ho
 |none=>rw[e]at ho;exact h o x ho
theorem dj_le{A B B':AHeap}(h:Dj A B')(hl:Le B B'):Dj A B:=fun i=>by
 rcases h i with h|h
 ·exact .inl h
 ·right
  cases e:B i with
  |none=>rfl
  |some x=>have:=hl i x e;rw[h]at this;cases this
theorem callW_mono{P:Program}{f:AV}{args:List AV}{H:AHeap}{K K':AV→AHeap→Prop}(h:callW P f args H K)(hk: ∀r H',K r H'→K' r H'):callW P f args H K':=by
 unfold callW at h ⊢
 split at h
 ·exact Run.mono h hk
 ·exact YieldW.mono h hk
 ·exact h.elim
theorem stP_IC{H:AHeap}{b N w ty:Nat}{x:Int}{regs:List Int}{K:AV→AHeap→Prop}(hN:regs.length=N)(hw:w<N):stP H 2 b (N*2) (w*2) K (some [IntB x,IntD x]) (some (.row ty 2 (IC regs)))↔K .bot (H.upd b (some (.row ty 2 (IC (regs.set w x))))):=by
 rw[stP_row (n:=2) (l:=[IntB x,IntD x]) (by rw[IC_len,hN]) rfl (by omega)]
 have e:splice (IC regs) (w*2) [IntB x,IntD x]=IC (regs.set w x):=IC_set (by omega)
 rw[e]
def CodeV(C:AHeap)(v:AV)(l:List Ins):Prop:=v.cell=true∧(∀K,lenW false v K=K (.int .i64 ((l.length:Nat):Int)))∧∃qf:Nat→AV,∀G,Le C G→Lent G v (CodeA l false)∧∀i(h:i<l.length),(∀k K,(liveS G v∧idxAW 5 v (.int k (i:Int)) K)↔K (qf i))∧∀K,loadW G (some 5) (qf i) K↔K (InsA (l[i]))
def OutsV(C:AHeap)(v:AV)(l:List Int):Prop:=v.cell=true∧(∀K,lenW false v K=K (.int .i64 ((l.length:Nat):Int)))∧∃qf:Nat→AV,∀G,Le C G→Lent G v (OutsA l false)∧∀i(h:i<l.length),(∀k K,(liveS G v∧idxAW 1 v (.int k (i:Int)) K)↔K (qf i))∧∀K,loadW G none (qf i) K↔K (.int .i64 (l[i]))
theorem Lent.loose{G:AHeap}{n:Nat}{cells:List AV}{t:Bool}:Lent G (.seq n cells t) (.seq n cells false):=fun c _ _ _ h=>enc_loose _ _ (h.later (c.dropTo_later le_nil))
theorem CodeV.seq{C:AHeap}{l:List Ins}{t:Bool}(hl:l.length<9223372036854775808):CodeV C (CodeA l t) l:=⟨rfl,fun K=>len_CodeA hl,fun i=>.cptr ((l.flatMap insC).drop (i*5)),fun G _=>⟨Lent.loose,fun i h=>⟨fun k K=>by rw[idx_CodeA h];simp[liveS],fun K=>by rw[load_CodeA h]⟩⟩⟩
theorem OutsV.seq{C:AHeap}{l:List Int}{t:Bool}(hl:l.length<9223372036854775808):OutsV C (OutsA l t) l:=⟨rfl,fun K=>len_OutsA hl,fun i=>.cptr ((l.map fun n=>AV.int .i64 n).drop i),fun G _=>⟨Lent.loose,fun i h=>⟨fun k K=>by rw[idx_OutsA h];simp[liveS],fun K=>by rw[load_OutsA h]⟩⟩⟩
theorem lenW_own{b L n:Nat}{t:Bool}(hn:n<9223372036854775808){K:AV→Prop}:lenW false (.own b L 0 n t) K=K (.int .i64 ((n:Nat):Int)):=by simp[lenW,hn]
def ProgO(p:PR)(cv ov:AV):AV:=.agg [.int .i64 p.ins,.int .i64 p.regs,cv,ov]
theorem cells_ProgO{p:PR}{cv ov:AV}(h1:cv.cell=true)(h2:ov.cell=true):(ProgO p cv ov).cells=some [.int .i64 p.ins,.int .i64 p.regs,cv,ov]:=by
 have e:([.int .i64 p.ins,.int .i64 p.regs,cv,ov]:List AV).all AV.cell=true:=by
  rw[List.all_cons,List.all_cons,List.all_cons,List.all_cons,h1,h2];rfl
 show(if([.int .i64 p.ins,.int .i64 p.regs,cv,ov]:List AV).all AV.cell=true then _ else _)=_
 rw[if_pos e]
theorem fold_ProgO{p:PR}{cv ov:AV}:AV.agg [.int .i64 p.ins,.int .i64 p.regs,cv,ov]=ProgO p cv ov:=id rfl
theorem le_unB{A B:AHeap}(h:Dj A B):Le B (Un A B):=fun o x ho=>by rw[un_atR (dj_atR h ho),ho]
theorem run10_run{H C:AHeap}{cv ov:AV}{b N k0 ty:Nat}{t:Bool}{p:PR}{f:AV}{regs0 S:List Int}{A B:AHeap}{J:List Int→AHeap→Prop}{Jx:AHeap→Prop}{Q:AV→AHeap→Prop}(hH:H=Un A B)
 (hS:S=(runX doZ 0 p.code regs0).1) (hd:Dj A B) (hb:B b=some (.row ty 2 (IC regs0))) (hN:regs0.length=N) (hr: ∀i,i∈p.code→mayI (N:Int) i) (hz: ∀z,z∈regs0→Bd k0 z) (hk:k0+3*p.code.length≤100000)
 (hJ:J [] A) (hcv:CodeV C cv p.code) (hov:ov.cell=true) (hCB:Le C B) (hCb:C b=none)
 (hf: ∀pre x rest A B,S=pre++x::rest→Dj A B→J pre A→callW Tryz.prog f [.int .i64 ((pre.length:Nat):Int),IntA x] (Un A B) fun r H'=> ∃A',Dj A' B∧H'=Un A' B∧((r=.bool true∧J (pre++[x]) A')∨(r=.bool false∧Jx A')))
 (hq: ∀r A' regs',regs'.length=N→(∀z,z∈regs'→Bd (k0+3*p.code.length) z)→Dj A' (B.upd b (some (.row ty 2 (IC regs'))))→((r= -1∧S.length=p.code.length∧J S A'∧regs'=(runX doZ 0 p.code regs0).2)∨(r=(S.length:Int)∧S.length<p.code.length∧J S A')∨(r= -1∧Jx A'))→Q (.int .i64 r) (Un A' (B.upd b (some (.row ty 2 (IC regs')))))):
 Run Tryz.prog 84 [WaysN,ProgO p cv ov,.own b (N*2) 0 N t,f] H Q:=by
 subst hH
 obtain⟨hcc,hcl,qf,hcq⟩:=hcv
 have lc:p.code.length<9223372036854775808:=by omega
 have hAb:A b=none:=dj_atR hd hb
 refine enter84 (by simp) ?_
 simp(disch:=first|exact Xe|fail)only[ac84,cells_WaysN,↓Xa,Xb,Xc,↓reduceIte,Nat.reduceLT,Nat.reduceEqDiff,Nat.reduceBEq,Nat.reduceLeDiff,Nat.reduceAdd,Nat.reduceMul]
 refine alloc_i fun p4 hp4=>?_
 obtain⟨a4,b4⟩:=un_none.1 hp4
 simp(disch:=first|exact Xe|fail)only[cells_ProgO hcc hov,↓Xa,Xb,Xc,↓reduceIte,Nat.reduceLT,Nat.reduceEqDiff,Nat.reduceBEq,Nat.reduceLeDiff,Nat.reduceAdd,Nat.reduceMul]
 refine alloc_i fun p5 hp5=>?_
 have d54:=(upd_none.1 hp5).1
 obtain⟨a5,b5⟩:=un_none.1 (upd_none.1 hp5).2
 have eb4:Ap p4 b:=ne_of_some hb b4
 have eb5:Ap p5 b:=ne_of_some hb b5
 simp(disch:=first|exact Xe|fail)only[hcl,↓Xa,Xb,Xc,↓reduceIte,Nat.reduceLT,Nat.reduceEqDiff,Nat.reduceBEq,Nat.reduceLeDiff,Nat.reduceAdd,Nat.reduceMul]
 generalize hwv:(ABlk.row 147 0 [.fn (.func 149) [] [],.fn (.func 138) [] [],.fn (.func 150) [] [],.fn (.func 121) [] [],.fn (.func 151) [] []])=wv
 have eB:B.upd b (some (.row ty 2 (IC regs0)))=B:=funext fun o=>by
  by_cases e:o=b
  ·subst e;rw[upd_same,hb]
  ·rw[upd_other _ _ e]
 have fin: ∀(M:AHeap)(A':AHeap)(regs':List Int)(r:Int),Le (Un A' (B.upd b (some (.row ty 2 (IC regs'))))) M→Q (.int .i64 r) (Un A' (B.upd b (some (.row ty 2 (IC regs')))))→SetR Q (.int .i64 r) M:=fun M A' regs' r hl h=>SetR.dropTo hl (SetR.now h)
 refine W_loop (fun s:Nat×List Int×AHeap=>⟨[],[(2,.own b (N*2) 0 N t),(3,f),(4,.ptr p4 5 0),(14,cv),(15,.int .i64 p.code.length),(16,.int .i64 s.1)],Un s.2.2 ((B.upd b (some (.row ty 2 (IC s.2.1)))).upd p4 (some wv))⟩)
  (fun s=>s.1≤p.code.length∧s.1≤S.length∧s.2.1.length=N∧Dj s.2.2 ((B.upd b (some (.row ty 2 (IC s.2.1)))).upd p4 (some wv))∧J (S.take s.1) s.2.2∧runX doZ 0 (p.code.drop s.1) s.2.1=(S.drop s.1,(runX doZ 0 p.code regs0).2)∧∀z,z∈s.2.1→Bd (k0+3*s.1) z) (fun s=>p.code.length-s.1) (0,regs0,A) ?_ ⟨Nat.zero_le _,Nat.zero_le _,hN,?_,by simpa using hJ,?_,by simpa using hz⟩ ?_
 ·dsimp only
  rw[eB]
  refine Settle.dropTo (Le.updB ?_ ?_) (Settle.now rfl)
  ·rw[un_updR a4];exact Le.refl _
  ·rw[un_updR a4];exact upd_none.2 ⟨d54,un_none.2 ⟨a5,b5⟩⟩
 ·dsimp only
  rw[eB];exact dj_updR hd a4
 ·dsimp only
  rw[List.drop_zero,List.drop_zero,hS]
 rintro⟨j,regs,A'⟩ ⟨h1,h2,h3,h4,h5,h6,h7⟩
 dsimp only at h1 h2 h3 h4 h5 h6 h7 ⊢
 have gb4:b≠p4:=Ne.symm eb4
 have m4:Un A' ((B.upd b (some (.row ty 2 (IC regs)))).upd p4 (some wv)) p4=some wv:=by rw[un_atR (dj_atR h4 (upd_same _ _ _)),upd_same]
 have mb:Un A' ((B.upd b (some (.row ty 2 (IC regs)))).upd p4 (some wv)) b=some (.row ty 2 (IC regs)):=by
  have e:((B.upd b (some (.row ty 2 (IC regs)))).upd p4 (some wv)) b=some (.row ty 2 (IC regs)):=by rw[upd_other _ _ gb4,upd_same]
  rw[un_atR (dj_atR h4 e),e]
 have hA'4:A' p4=none:=dj_atR h4 (upd_same _ _ _)
 have hA'b:A' b=none:=dj_atR h4 (show _=some (ABlk.row ty 2 (IC regs)) by rw[upd_other _ _ gb4,upd_same])
 generalize hM:Un A' ((B.upd b (some (.row ty 2 (IC regs)))).upd p4 (some wv))=M at*
 by_cases hj:j<p.code.length
 ·have hmi:=hr _ (List.getElem_mem hj)
  have hma:=hmi.2.2
  obtain⟨w,hw⟩: ∃w:Nat,(p.code[j]).to=(w:Int):=⟨(p.code[j]).to.toNat,by omega⟩
  have hCM:Le C M:=fun o x ho=>by
   have ob:o≠b:=by rintro rfl;rw[hCb]at ho;cases ho
   have o4:o≠p4:=by rintro rfl;rw[hCB.none b4]at ho;cases ho
   have e:((B.upd b (some (.row ty 2 (IC regs)))).upd p4 (some wv)) o=some x:=by rw[upd_other _ _ o4,upd_other _ _ ob];exact hCB o x ho
   rw[← hM];exact le_unB h4 o x e
  have hix:=(((hcq M hCM).2 j hj).1)
  have hlx:=(((hcq M hCM).2 j hj).2)
  simp(disch:=first|exact Xe|fail)only[hj,hix,hlx,↓Xa,Xb,Xc,↓reduceIte,Nat.reduceLT,Nat.reduceEqDiff,Nat.reduceBEq,Nat.reduceLeDiff,Nat.reduceAdd,Nat.reduceMul]
  refine alloc_i fun q1 hq1=>?_
  have u1:=ne_of_some mb hq1
  have u2:=ne_of_some m4 hq1
  have m4':=m4
  rw[← hwv]at m4'
  simp(disch:=first|exact Xe|fail)only[cells_InsA,fold_InsA,m4',fold_WaysN,↓Xa,Xb,Xc,↓reduceIte,Nat.reduceLT,Nat.reduceEqDiff,Nat.reduceBEq,Nat.reduceLeDiff,Nat.reduceAdd,Nat.reduceMul]
  refine run_call (do10_run (b:=b) (N:=N) (k:=k0+3*j) (ty:=ty) (regs:=regs) (by rw[upd_other _ _ (Ne.symm u1)];exact mb) h3 hmi h7 (by omega) ?_)
  intro x ok ho1 ho2 hbx
  simp(disch:=first|exact Xe|fail)only[↓Xa,Xb,Xc,↓reduceIte,Nat.reduceLT,Nat.reduceEqDiff,Nat.reduceBEq,Nat.reduceLeDiff,Nat.reduceAdd,Nat.reduceMul]
  refine alloc_i fun q2 hq2=>?_
  have v1:=(upd_none.1 hq2).1
  have v2:=(upd_none.1 hq2).2
  have v3:=ne_of_some mb v2
  have v4:=ne_of_some m4 v2
  have hdb:Dj A' (B.upd b (some (.row ty 2 (IC regs)))):=dj_le h4 ((Le.refl _).updB (upd_none.2 ⟨eb4,b4⟩))
  have hlM:Le (Un A' (B.upd b (some (.row ty 2 (IC regs))))) M:=hM▸le_unR ((Le.refl _).updB (upd_none.2 ⟨eb4,b4⟩))
  have hz': ∀z,z∈regs→Bd (k0+3*p.code.length) z:=fun z hm=>(h7 z hm).mono (by omega)
  cases ok with
  |false=>
   have hno:=runX_no hj regs (ho2 rfl)
   rw[h6]at hno
   have hS0:S.drop j=[]:=congrArg Prod.fst hno
   have hSl:S.length≤j:=by
    have:=congrArg List.length hS0
    simp at this;omega
   obtain rfl:j=S.length:=by omega
   rw[List.take_of_length_le (Nat.le_refl _)]at h5
   simp(disch:=first|exact Xe|fail)only[cells_IntA,rs84,↓Xa,Xb,Xc,↓reduceIte,Nat.reduceLT,Nat.reduceEqDiff,Nat.reduceBEq,Nat.reduceLeDiff,Nat.reduceAdd,Nat.reduceMul]
   refine fin _ A' regs _ ((hlM.updB (hlM.none hq1)).updB (hlM.none v2)) (hq _ A' regs h3 hz' hdb (.inr (.inl ⟨rfl,hj,h5⟩)))
  |true=>
  have hdo:=ho1 rfl
  have hat:=runX_at hj regs hdo
  rw[h6]at hat
  have hS1:S.drop j=x::(runX doZ 0 (p.code.drop (j+1)) (regs.set (p.code[j]).to.toNat x)).1:=congrArg Prod.fst hat
  have hjS:j<S.length:=by
   have:=congrArg List.length hS1
   simp at this;omega
  have hSx:S=S.take j++x::S.drop (j+1):=by
   conv=>lhs;rw[← List.take_append_drop j S]
   rw[List.drop_eq_getElem_cons hjS]at hS1
   rw[List.drop_eq_getElem_cons hjS]
   injection hS1 with e1 e2
   rw[e1]
  have hS2:S.drop (j+1)=(runX doZ 0 (p.code.drop (j+1)) (regs.set (p.code[j]).to.toNat x)).1:=by
   rw[List.drop_eq_getElem_cons hjS]at hS1
   injection hS1
  have hlt:(S.take j).length=j:=by rw[List.length_take];omega
  have hl2:(IC regs).length=N*2:=by rw[IC_len,h3]
  have mb2:((M.upd q1 (some (.row 76 0 [.int .i64 (p.code[j]).op,.int .i64 (p.code[j]).to,.int .i64 (p.code[j]).a,.int .i64 (p.code[j]).b,.int .i64 (p.code[j]).c]))).upd q2 (some (.row 48 0 [IntB x,IntD x]))) b=some (.row ty 2 (IC regs)):=by
   rw[upd_other _ _ (Ne.symm v3),upd_other _ _ (Ne.symm u1)];exact mb
  have hwN:w<N:=by omega
  have hwr:w<regs.length:=by omega
  simp(disch:=first|exact Xe|fail)only[cells_IntA,hw,mb,idx_own2',hl2,↓Xa,Xb,Xc,↓reduceIte,Nat.reduceLT,Nat.reduceEqDiff,Nat.reduceBEq,Nat.reduceLeDiff,Nat.reduceAdd,Nat.reduceMul]
  refine(stP_IC h3 hwN).2 ?_
  generalize hX1:(some (ABlk.row 76 0 [.int .i64 (p.code[j]).op,.int .i64 (w:Int),.int .i64 (p.code[j]).a,.int .i64 (p.code[j]).b,.int .i64 (p.code[j]).c]))=X1 at*
  generalize hX2:(some (ABlk.row 48 0 [IntB x,IntD x]))=X2 at*
  have qa1:A' q1=none:=(un_none.1 (hM▸hq1)).1
  have qa2:A' q2=none:=(un_none.1 (hM▸v2)).1
  have eH:((M.upd q1 X1).upd q2 X2).upd b (some (.row ty 2 (IC (regs.set w x))))=Un A' ((((B.upd b (some (.row ty 2 (IC (regs.set w x))))).upd p4 (some wv)).upd q1 X1).upd q2 X2):=by
   rw[un_updR qa2,un_updR qa1,upd_comm _ _ _ (show q2≠b from v3),upd_comm _ _ _ (show q1≠b from u1),← hM,← un_updR hA'b,upd_comm _ _ _ (show p4≠b from eb4),upd_upd]
  rw[eH]
  have nb1:=(upd_none.1 (upd_none.1 (un_none.1 (hM▸hq1:Un A' _ q1=none)).2).2).2
  have nb2:=(upd_none.1 (upd_none.1 (un_none.1 (hM▸v2:Un A' _ q2=none)).2).2).2
  have hle1:Le (B.upd b (some (.row ty 2 (IC (regs.set w x))))) ((((B.upd b (some (.row ty 2 (IC (regs.set w x))))).upd p4 (some wv)).upd q1 X1).upd q2 X2):=by
   rw[← hX1,← hX2]
   exact(((Le.refl _).updB (upd_none.2 ⟨eb4,b4⟩)).updB (upd_none.2 ⟨u1,nb1⟩)).updB (upd_none.2 ⟨v3,nb2⟩)
  have hle2:Le ((B.upd b (some (.row ty 2 (IC (regs.set w x))))).upd p4 (some wv)) ((((B.upd b (some (.row ty 2 (IC (regs.set w x))))).upd p4 (some wv)).upd q1 X1).upd q2 X2):=by
   rw[← hX1,← hX2]
   exact((Le.refl _).updB (upd_none.2 ⟨u2,upd_none.2 ⟨u1,nb1⟩⟩)).updB (upd_none.2 ⟨v4,upd_none.2 ⟨v3,nb2⟩⟩)
  have hd2:Dj A' ((((B.upd b (some (.row ty 2 (IC (regs.set w x))))).upd p4 (some wv)).upd q1 X1).upd q2 X2):=by
   refine dj_updR (dj_updR (dj_updR ?_ hA'4) qa1) qa2
   have h:=dj_updR (x:=some (.row ty 2 (IC (regs.set w x)))) hdb hA'b
   rwa[upd_upd]at h
  generalize hB2:((((B.upd b (some (.row ty 2 (IC (regs.set w x))))).upd p4 (some wv)).upd q1 X1).upd q2 X2)=B2 at*
  have mq2:Un A' B2 q2=some (ABlk.row 48 0 [IntB x,IntD x]):=by rw[un_atR qa2,← hB2,upd_same,hX2]
  have hf':=hf (S.take j) x (S.drop (j+1)) A' B2 hSx hd2 h5
  rw[hlt]at hf'
  have hlen':(regs.set w x).length=N:=by rw[List.length_set,h3]
  have hbd': ∀z,z∈regs.set w x→Bd (k0+3*(j+1)) z:=fun z hm=>by
   rcases List.mem_or_eq_of_mem_set hm with hm|rfl
   ·exact(h7 z hm).mono (by omega)
   ·exact hbx.mono (by omega)
  simp(disch:=first|exact Xe|fail)only[mq2,↓Xa,Xb,Xc,↓reduceIte,Nat.reduceLT,Nat.reduceEqDiff,Nat.reduceBEq,Nat.reduceLeDiff,Nat.reduceAdd,Nat.reduceMul]
  refine callW_mono hf' ?_
  rintro r H' ⟨A'',hd3,rfl,⟨rfl,hJ'⟩|⟨rfl,hJ'⟩⟩
  ·simp(disch:=first|exact Xe|fail)only[↓Xa,Xb,Xc,↓reduceIte,Nat.reduceLT,Nat.reduceEqDiff,Nat.reduceBEq,Nat.reduceLeDiff,Nat.reduceAdd,Nat.reduceMul]
   have ew:(p.code[j]).to.toNat=w:=by omega
   rw[ew]at hat hS2
   refine Settle.dropTo (le_unR hle2) (Settle.now ⟨(j+1,regs.set w x,A''),by dsimp only;omega,⟨hj,hjS,hlen',dj_le hd3 hle2,?_,?_,hbd'⟩,rfl⟩)
   ·dsimp only
    rw[List.take_succ_eq_append_getElem hjS]
    have e:S[j]=x:=by
     rw[List.drop_eq_getElem_cons hjS]at hS1
     injection hS1
    rw[e];exact hJ'
   ·dsimp only
    rw[hS2,congrArg Prod.snd hat]
  ·simp(disch:=first|exact Xe|fail)only[rs84,↓Xa,Xb,Xc,↓reduceIte,Nat.reduceLT,Nat.reduceEqDiff,Nat.reduceBEq,Nat.reduceLeDiff,Nat.reduceAdd,Nat.reduceMul]
   refine Settle.now ?_
   simp(disch:=first|exact Xe|fail)only[rs84,↓Xa,Xb,Xc,↓reduceIte,Nat.reduceLT,Nat.reduceEqDiff,Nat.reduceBEq,Nat.reduceLeDiff,Nat.reduceAdd,Nat.reduceMul]
   exact fin _ A'' _ _ (le_unR hle1) (hq _ A'' _ hlen' (fun z hm=>(hbd' z hm).mono (by omega)) (dj_le hd3 hle1) (.inr (.inr ⟨rfl,hJ'⟩)))
 ·obtain rfl:j=p.code.length:=by omega
  have hS0:S.drop p.code.length=[]∧(runX doZ 0 p.code regs0).2=regs:=by
   rw[List.drop_of_length_le (Nat.le_refl _)]at h6
   exact⟨(congrArg Prod.fst h6).symm,(congrArg Prod.snd h6).symm⟩
  have hSl:S.length=p.code.length:=by
   have:=congrArg List.length hS0.1
   simp at this;omega
  have hlM:Le (Un A' (B.upd b (some (.row ty 2 (IC regs))))) M:=hM▸le_unR ((Le.refl _).updB (upd_none.2 ⟨eb4,b4⟩))
  have hdb:Dj A' (B.upd b (some (.row ty 2 (IC regs)))):=dj_le h4 ((Le.refl _).updB (upd_none.2 ⟨eb4,b4⟩))
  rw[← hSl,List.take_of_length_le (Nat.le_refl _)]at h5
  simp(disch:=first|exact Xe|fail)only[hj,rs84,↓Xa,Xb,Xc,↓reduceIte,Nat.reduceLT,Nat.reduceEqDiff,Nat.reduceBEq,Nat.reduceLeDiff,Nat.reduceAdd,Nat.reduceMul]
  refine Settle.now ?_
  simp(disch:=first|exact Xe|fail)only[rs84,↓Xa,Xb,Xc,↓reduceIte,Nat.reduceLT,Nat.reduceEqDiff,Nat.reduceBEq,Nat.reduceLeDiff,Nat.reduceAdd,Nat.reduceMul]
  exact fin _ A' _ _ hlM (hq _ A' _ h3 h7 hdb (.inl ⟨rfl,hSl,h5,hS0.2.symm⟩))
theorem Lent.agg{H:AHeap}{xs ys:List AV}(h:LentL H xs ys):Lent H (.agg xs) (.agg ys):=by
 intro c hc hok v he
 cases he with
 |agg _ vs hlen hcs=>exact .agg _ _ (hlen.trans h.len.symm) fun i hi hi'=>h.get i (by have:=h.len;omega) hi c hc hok _ (hcs i (by have:=h.len;omega) hi')
theorem CodeV.le{C C':AHeap}{v:AV}{l:List Ins}(h:CodeV C v l)(hl:Le C C'):CodeV C' v l:=⟨h.1,h.2.1,h.2.2.choose,fun G hG=>h.2.2.choose_spec G (hl.trans hG)⟩
theorem OutsV.le{C C':AHeap}{v:AV}{l:List Int}(h:OutsV C v l)(hl:Le C C'):OutsV C' v l:=⟨h.1,h.2.1,h.2.2.choose,fun G hG=>h.2.2.choose_spec G (hl.trans hG)⟩
theorem ProgO.lent{C G:AHeap}{p:PR}{cv ov:AV}(h1:CodeV C cv p.code)(h2:OutsV C ov p.outs)(hl:Le C G):Lent G (ProgO p cv ov) (ProgA p):=
 Lent.agg ⟨Lent.same,Lent.same,(h1.2.2.choose_spec G hl).1,(h2.2.2.choose_spec G hl).1,trivial⟩
theorem cpy_IC{H:AHeap}{b ty N:Nat}{t:Bool}{o xs:List Int}{y:AV}{K:AV→AHeap→Prop}(hH:H b=some (.row ty 2 (IC o)))(ho:o.length=N)(hy:RowO H y xs)(h:xs.length≤N)(k:K (.int .i64 ((xs.length:Nat):Int)) (H.upd b (some (.row ty 2 (IC (xs++o.drop xs.length)))))):
 cpyW H 2 (.own b (N*2) 0 N t) y K:=by
 have hlo:(IC o).length=N*2:=by rw[IC_len,ho]
 rcases hy with⟨rfl,rfl⟩|⟨h0,b',rfl,hb'⟩
 ·have e:H.upd b (some (.row ty 2 (IC o)))=H:=funext fun i=>by
   by_cases e:i=b
   ·subst e;rw[upd_same,hH]
   ·rw[upd_other _ _ e]
  simp only[List.nil_append,List.length_nil,List.drop_zero]at k
  simp[cpyW,srcW,hH,hlo,splice]
  simpa using k
 ·simp[cpyW,srcW,hH,hlo,hb',IC_len]
  have em:xs.length.min N=xs.length:=Nat.min_eq_left h
  have et:List.take (xs.length*2) (IC xs)=IC xs:=List.take_of_length_le (by rw[IC_len];omega)
  have es:splice (IC o) 0 (IC xs)=IC (xs++o.drop xs.length):=by
   unfold splice
   rw[List.take_zero,List.nil_append,Nat.zero_add,IC_len,IC_app,IC_dp (by omega)]
  rw[em,et,et,es]
  refine⟨fun x hx=>?_,k⟩
  simp only[IC,List.mem_flatMap]at hx
  obtain⟨z,-,hx⟩:=hx
  have:=List.all_eq_true.1 (cellI (z:=z)) x hx
  exact this
theorem cpy_ICf{H:AHeap}{b ty N:Nat}{t t':Bool}{o xs:List Int}{K:AV→AHeap→Prop}(hH:H b=some (.row ty 2 (IC o)))(ho:o.length=N)(h:xs.length≤N)(k:K (.int .i64 ((xs.length:Nat):Int)) (H.upd b (some (.row ty 2 (IC (xs++o.drop xs.length)))))):
 cpyW H 2 (.own b (N*2) 0 N t) (RowA xs t') K:=by
 have hlo:(IC o).length=N*2:=by rw[IC_len,ho]
 simp[cpyW,srcW,hH,hlo,IC_len]
 have em:xs.length.min N=xs.length:=Nat.min_eq_left h
 have et:List.take (xs.length*2) (IC xs)=IC xs:=List.take_of_length_le (by rw[IC_len];omega)
 have es:splice (IC o) 0 (IC xs)=IC (xs++o.drop xs.length):=by
  unfold splice
  rw[List.take_zero,List.nil_append,Nat.zero_add,IC_len,IC_app,IC_dp (by omega)]
 rw[em,et,es]
 refine⟨fun x hx=>?_,k⟩
 simp only[IC,List.mem_flatMap]at hx
 obtain⟨z,-,hx⟩:=hx
 exact List.all_eq_true.1 (cellI (z:=z)) x hx
def RowV(M:AHeap)(y:AV)(zs:List Int):Prop:=RowO M y zs∨∃t,y=RowA zs t
theorem RowV.le{M M':AHeap}{y:AV}{zs:List Int}(h:RowV M y zs)(hl:Le M M'):RowV M' y zs:=h.imp (·.le hl) id
theorem RowV.len{M:AHeap}{y:AV}{zs:List Int}(h:RowV M y zs)(hn:zs.length<9223372036854775808){K:AV→Prop}:lenW false y K=K (.int .i64 ((zs.length:Nat):Int)):=by
 rcases h with h|⟨t,rfl⟩
 ·exact h.len hn
 ·exact len_rw hn
theorem cpy_IV{H:AHeap}{b ty N:Nat}{t:Bool}{o xs:List Int}{y:AV}{K:AV→AHeap→Prop}(hH:H b=some (.row ty 2 (IC o)))(ho:o.length=N)(hy:RowV H y xs)(h:xs.length≤N)(k:K (.int .i64 ((xs.length:Nat):Int)) (H.upd b (some (.row ty 2 (IC (xs++o.drop xs.length)))))):
 cpyW H 2 (.own b (N*2) 0 N t) y K:=by
 rcases hy with hy|⟨t',rfl⟩
 ·exact cpy_IC hH ho hy h k
 ·exact cpy_ICf hH ho h k
theorem told10_fn{n:Int}{x:Int}:PFn Tryz.prog 86 [.int .i64 n,IntA x] (.bool true):=by
 intro H Q hq
 refine enter86 (by simp) ?_
 simp(disch:=first|exact Xe|fail)only[ac86,cells_IntA,↓Xa,Xb,Xc,↓reduceIte,Nat.reduceLT,Nat.reduceEqDiff,Nat.reduceBEq,Nat.reduceLeDiff,Nat.reduceAdd,Nat.reduceMul]
 refine alloc_i fun q hq'=>?_
 simp(disch:=first|exact Xe|fail)only[rs86,↓Xa,Xb,Xc,↓reduceIte,Nat.reduceLT,Nat.reduceEqDiff,Nat.reduceBEq,Nat.reduceLeDiff,Nat.reduceAdd,Nat.reduceMul]
 exact SetR.dropTo ((Le.refl H).updB hq') (SetR.now hq)
def outs10(p:PR)(xs:List Int):List Int:=p.outs.map fun r=>(runX doZ 0 p.code (xs++List.replicate (p.regs.toNat-xs.length) 0)).2.getD r.toNat 0
def steps10(p:PR)(xs:List Int):List Int:=(runX doZ 0 p.code (xs++List.replicate (p.regs.toNat-xs.length) 0)).1
theorem run10{H:AHeap}{p:PR}{cv ov y:AV}{xs:List Int}{k0:Nat}{Q:AV→AHeap→Prop}(hp:p.ok)(hcv:CodeV H cv p.code)(hov:OutsV H ov p.outs)(hy:RowV H y xs)(hz: ∀z,z∈xs→Bd k0 z)(hxl:xs.length<9223372036854775808)
 (hk:rightP p→xs.length=p.ins→k0+3*p.code.length≤100000)
 (hq1:(¬rightP p∨(xs.length:Int)≠p.ins)→Q (.tup [.seq 0 [] true,.int .i64 ((0:Nat):Int),.int .i64 ((rgtE p xs.length:Nat):Int)]) H)
 (hq2:rightP p→xs.length=p.ins→(steps10 p xs).length<p.code.length→Q (.tup [.seq 0 [] true,.int .i64 (((steps10 p xs).length:Nat):Int),.int .i64 ((20:Nat):Int)]) H)
 (hq3:rightP p→xs.length=p.ins→(steps10 p xs).length=p.code.length→∀r M,growC H 48 2 p.outs.length (IC (outs10 p xs)) r M→Q (.tup [r,.int .i64 ((0:Nat):Int),.int .i64 ((0:Nat):Int)]) M):
 Run Tryz.prog 17 [ProgO p cv ov,y] H Q:=by
 refine enter17 (by simp) ?_
 simp(disch:=first|exact Xe|fail)only[ac17,cells_ProgO hcv.1 hov.1,↓Xa,Xb,Xc,↓reduceIte,Nat.reduceLT,Nat.reduceEqDiff,Nat.reduceBEq,Nat.reduceLeDiff,Nat.reduceAdd,Nat.reduceMul]
 refine alloc_i fun p2 hp2=>?_
 have hl2:Le H (H.upd p2 (some (.row 25 0 [.int .i64 p.ins,.int .i64 p.regs,cv,ov]))):=(Le.refl H).updB hp2
 simp(disch:=first|exact Xe|fail)only[fold_ProgO,hy.len hxl,↓Xa,Xb,Xc,↓reduceIte,Nat.reduceLT,Nat.reduceEqDiff,Nat.reduceBEq,Nat.reduceLeDiff,Nat.reduceAdd,Nat.reduceMul]
 refine PFn.lcall (right10_fn p hp xs.length) rfl ⟨ProgO.lent hcv hov hl2,Lent.same,trivial⟩ ?_
 by_cases hr:rightP p∧(xs.length:Int)=p.ins
 ·have e0:rgtE p xs.length=0:=by simp[rgtE,hr.1,hr.2]
  rw[e0]
  obtain⟨hr1,hr2⟩:=hr
  have hh:=hr1.1
  unfold headP at hh
  obtain⟨N,hN⟩: ∃N:Nat,p.regs=(N:Int):=⟨p.regs.toNat,by omega⟩
  have hxN:xs.length≤N:=by omega
  simp(disch:=first|exact Xe|fail)only[neq_int,hN,↓Xa,Xb,Xc,↓reduceIte,Nat.reduceLT,Nat.reduceEqDiff,Nat.reduceBEq,Nat.reduceLeDiff,Nat.reduceAdd,Nat.reduceMul]
  rw[mks_I (by omega)]
  intro b hb
  have hbp:=(upd_none.1 hb).1
  have hbH:=(upd_none.1 hb).2
  have hyM:RowV ((H.upd p2 (some (.row 25 0 [.int .i64 p.ins,.int .i64 (N:Int),cv,ov]))).upd b (some (.row 48 2 (IC (List.replicate N 0))))) y xs:=hy.le (((Le.refl H).updB hp2).trans ((Le.refl _).updB hb))
  simp(disch:=first|exact Xe|fail)only[↓Xa,Xb,Xc,↓reduceIte,Nat.reduceLT,Nat.reduceEqDiff,Nat.reduceBEq,Nat.reduceLeDiff,Nat.reduceAdd,Nat.reduceMul]
  refine cpy_IV (upd_same _ _ _) (by simp) hyM hxN ?_
  simp(disch:=first|exact Xe|fail)only[fold_ProgO,↓Xa,Xb,Xc,↓reduceIte,Nat.reduceLT,Nat.reduceEqDiff,Nat.reduceBEq,Nat.reduceLeDiff,Nat.reduceAdd,Nat.reduceMul]
  have eP:AV.agg [.int .i64 p.ins,.int .i64 (N:Int),cv,ov]=ProgO p cv ov:=by rw[ProgO,hN]
  have eD:xs++List.drop xs.length (List.replicate N 0)=xs++List.replicate (p.regs.toNat-xs.length) 0:=by
   rw[List.drop_replicate,hN];rfl
  refine PFn.dcall numbers10_fn ?_
  simp(disch:=first|exact Xe|fail)only[eP,eD,↓Xa,Xb,Xc,↓reduceIte,Nat.reduceLT,Nat.reduceEqDiff,Nat.reduceBEq,Nat.reduceLeDiff,Nat.reduceAdd,Nat.reduceMul]
  have hb2:(H.upd p2 (some (.row 25 0 [.int .i64 p.ins,.int .i64 (N:Int),cv,ov]))) b=none:=hb
  refine run_call (run10_run (C:=H) (A:=nilH) (k0:=k0) (S:=steps10 p xs) (J:=fun _ A=>A=nilH) (Jx:=fun _=>False) un_nil.symm rfl dj_nil (upd_same _ _ _) (by simp;omega) (fun i hi=>by rw[← hN];exact hr1.2.2 i hi) ?_ (hk hr1 hr2) rfl hcv hov.1 (((Le.refl H).updB hp2).trans ((Le.refl _).updB hb)) hbH ?_ ?_)
  ·intro z hm
   rcases List.mem_append.1 hm with hm|hm
   ·exact hz z hm
   ·rw[List.mem_replicate]at hm;rw[hm.2];exact Bd.zero _
  ·rintro pre x rest A B-hd rfl
   exact told10_fn.call ⟨nilH,hd,rfl,.inl ⟨rfl,rfl⟩⟩
  intro r A' regs' hl' hbd hdj hcase
  have gm1:decide (((0:Nat):Int)≤ -1)=false:=by decide
  have hlN:(IC regs').length=N*2:=by rw[IC_len,hl']
  rcases hcase with⟨rfl,hSl,rfl,hre⟩|⟨rfl,hSl,rfl⟩|⟨_,h⟩
  ·rw[un_nil,upd_upd]
   have hou:outs10 p xs=p.outs.map fun r=>regs'.getD r.toNat 0:=by rw[hre];rfl
   have hol:(outs10 p xs).length=p.outs.length:=by simp[outs10]
   obtain⟨hoc,hon,qf,hoq⟩:=hov
   simp(disch:=first|exact Xe|fail)only[geqI,gm1,hon,↓Xa,Xb,Xc,↓reduceIte,Nat.reduceLT,Nat.reduceEqDiff,Nat.reduceBEq,Nat.reduceLeDiff,Nat.reduceAdd,Nat.reduceMul]
   have hlG:Le H ((H.upd p2 (some (.row 25 0 [.int .i64 p.ins,.int .i64 (N:Int),cv,ov]))).upd b (some (.row 48 2 (IC regs')))):=((Le.refl H).updB hp2).updB hbH
   generalize hG:((H.upd p2 (some (.row 25 0 [.int .i64 p.ins,.int .i64 (N:Int),cv,ov]))).upd b (some (.row 48 2 (IC regs'))))=G at*
   have hGb:G b=some (.row 48 2 (IC regs')):=by rw[← hG,upd_same]
   refine W_loop (fun s:Nat×AV×AHeap=>⟨[],[(8,.own b (N*2) 0 N true),(10,s.2.1),(34,ov),(35,.int .i64 p.outs.length),(36,.int .i64 s.1)],s.2.2⟩)
    (fun s=>s.1≤p.outs.length∧growC G 48 2 s.1 (IC ((outs10 p xs).take s.1)) s.2.1 s.2.2) (fun s=>p.outs.length-s.1) (0,.seq 0 [] true,G) (Settle.now rfl) ⟨Nat.zero_le _,growC_nil⟩ ?_
   rintro⟨j,z,M⟩ ⟨h1,hg⟩
   dsimp only at h1 hg ⊢
   by_cases hj:j<p.outs.length
   ·have hjo:=hr1.2.1 _ (List.getElem_mem hj)
    obtain⟨w,hw⟩: ∃w:Nat,p.outs[j]=(w:Int):=⟨(p.outs[j]).toNat,by omega⟩
    have hwN:w<N:=by omega
    have hwr:w<regs'.length:=by omega
    have hGM:=hlG.trans (growC_le hg)
    have hix:=((hoq M hGM).2 j hj).1
    have hlx:=((hoq M hGM).2 j hj).2
    have mb:M b=some (.row 48 2 (IC regs')):=growC_old hg hGb
    simp(disch:=first|exact Xe|fail)only[hj,hix,hlx,hw,mb,idx_own2',hlN,ldP_IC hl' hwr,fold_IntA,cells_IntA,repI1,↓Xa,Xb,Xc,↓reduceIte,Nat.reduceLT,Nat.reduceEqDiff,Nat.reduceBEq,Nat.reduceLeDiff,Nat.reduceAdd,Nat.reduceMul]
    refine app_C (m:=1) hg rfl cellI (by omega) (by omega) (by omega) fun y' M2 hg4=>?_
    have et:(outs10 p xs)[j]'(by omega)=regs'[w]:=by
     simp only[hou,List.getElem_map,hw]
     simp[List.getD_eq_getElem?_getD,List.getElem?_eq_getElem hwr]
    rw[← et,← IC_take (by omega)]at hg4
    simp(disch:=first|exact Xe|fail)only[↓Xa,Xb,Xc,↓reduceIte,Nat.reduceLT,Nat.reduceEqDiff,Nat.reduceBEq,Nat.reduceLeDiff,Nat.reduceAdd,Nat.reduceMul]
    exact Settle.now ⟨(j+1,y',M2),by dsimp only;omega,⟨by dsimp only;omega,hg4⟩,rfl⟩
   ·obtain rfl:j=p.outs.length:=by omega
    rw[List.take_of_length_le (by omega)]at hg
    simp(disch:=first|exact Xe|fail)only[hj,↓Xa,Xb,Xc,↓reduceIte,Nat.reduceLT,Nat.reduceEqDiff,Nat.reduceBEq,Nat.reduceLeDiff,Nat.reduceAdd,Nat.reduceMul]
    refine Settle.now ?_
    simp(disch:=first|exact Xe|fail)only[rs17,↓Xa,Xb,Xc,↓reduceIte,Nat.reduceLT,Nat.reduceEqDiff,Nat.reduceBEq,Nat.reduceLeDiff,Nat.reduceAdd,Nat.reduceMul]
    obtain⟨M2,hg2,hl3⟩:=growC_le2 hg hlG
    exact SetR.dropTo hl3 (SetR.now (hq3 hr1 hr2 hSl _ _ hg2))
  ·rw[un_nil,upd_upd]
   have hge:decide (((0:Nat):Int)≤(((steps10 p xs).length:Nat):Int))=true:=decide_eq_true (by omega)
   simp(disch:=first|exact Xe|fail)only[geqI,hge,rs17,↓Xa,Xb,Xc,↓reduceIte,Nat.reduceLT,Nat.reduceEqDiff,Nat.reduceBEq,Nat.reduceLeDiff,Nat.reduceAdd,Nat.reduceMul]
   exact SetR.dropTo (((Le.refl H).updB hp2).updB hbH) (SetR.now (hq2 hr1 hr2 hSl))
  ·exact h.elim
 ·have e0: ∃n:Nat,rgtE p xs.length=n+1:=by
   unfold rgtE
   split
   ·rw[if_neg (fun e=>hr ⟨‹_›,e⟩)];exact⟨_,rfl⟩
   ·exact⟨_,rfl⟩
  obtain⟨n,e0⟩:=e0
  have hd:decide (((n+1:Nat):Int)=((0:Nat):Int))=false:=decide_eq_false (by omega)
  rw[e0]
  simp(disch:=first|exact Xe|fail)only[neq_int,hd,rs17,↓Xa,Xb,Xc,↓reduceIte,Nat.reduceLT,Nat.reduceEqDiff,Nat.reduceBEq,Nat.reduceLeDiff,Nat.reduceAdd,Nat.reduceMul]
  refine SetR.dropTo hl2 (SetR.now ?_)
  rw[← e0];exact hq1 (by by_cases h:rightP p;exact .inr fun e=>hr ⟨h,e⟩;exact .inl h)
def ans10(p:PR)(xs:List Int):List Int×Nat×Nat:=
 if rightP p∧(xs.length:Int)=p.ins then(if(steps10 p xs).length<p.code.length then([],(steps10 p xs).length,20)else(outs10 p xs,0,0))else([],0,rgtE p xs.length)
theorem run10'{H:AHeap}{p:PR}{cv ov y:AV}{xs:List Int}{k0:Nat}{Q:AV→AHeap→Prop}(hp:p.ok)(hcv:CodeV H cv p.code)(hov:OutsV H ov p.outs)(hy:RowV H y xs)(hz: ∀z,z∈xs→Bd k0 z)(hxl:xs.length<9223372036854775808)
 (hk:rightP p→xs.length=p.ins→k0+3*p.code.length≤100000)
 (hq: ∀r M,growC H 48 2 (ans10 p xs).1.length (IC (ans10 p xs).1) r M→Q (.tup [r,.int .i64 (((ans10 p xs).2.1:Nat):Int),.int .i64 (((ans10 p xs).2.2:Nat):Int)]) M):
 Run Tryz.prog 17 [ProgO p cv ov,y] H Q:=by
 refine run10 hp hcv hov hy hz hxl hk (fun h=>?_) (fun h1 h2 h3=>?_) fun h1 h2 h3 r M hg=>?_
 ·have e:ans10 p xs=([],0,rgtE p xs.length):=by rw[ans10,if_neg (fun hh=>h.elim (fun f=>f hh.1) fun f=>f hh.2)]
  rw[e]at hq;exact hq _ _ growC_nil
 ·have e:ans10 p xs=([],(steps10 p xs).length,20):=by rw[ans10,if_pos ⟨h1,h2⟩,if_pos h3]
  rw[e]at hq;exact hq _ _ growC_nil
 ·have e:ans10 p xs=(outs10 p xs,0,0):=by rw[ans10,if_pos ⟨h1,h2⟩,if_neg (by omega)]
  rw[e]at hq
  have el:(outs10 p xs).length=p.outs.length:=by simp[outs10]
  rw[← el]at hg
  exact hq _ _ hg
def liveI:PR:=⟨((2:Nat):Int),((2:Nat):Int),[⟨((4:Nat):Int),((0:Nat):Int),((0:Nat):Int),((1:Nat):Int),((0:Nat):Int)⟩,⟨((6:Nat):Int),((0:Nat):Int),((0:Nat):Int),((0:Nat):Int),((2:Nat):Int)⟩],[((0:Nat):Int)]⟩
theorem liveI_ok:liveI.ok:=by
 refine⟨by unfold I64;decide,by unfold I64;decide,?_,by decide,?_,by decide⟩
 ·intro i hi
  simp only[liveI,List.mem_cons,List.not_mem_nil,or_false]at hi
  rcases hi with rfl|rfl<;>(unfold Ins.ok I64;decide)
 ·intro n hn
  simp only[liveI,List.mem_cons,List.not_mem_nil,or_false]at hn
  subst hn;unfold I64;decide
theorem liveI_right:rightP liveI:=by decide
theorem live10_t:rowT [2]=[91,50,93]:=by simp[rowT,joinT,iText,decT,dec,digs,chr]
theorem live10_fn:PFn Tryz.prog 14 [] (.bool true):=by
 intro H Q hq
 refine enter14 (by simp) ?_
 simp(disch:=first|exact Xe|fail)only[ac14,↓Xa,Xb,Xc,↓reduceIte,Nat.reduceLT,Nat.reduceEqDiff,Nat.reduceBEq,Nat.reduceLeDiff,Nat.reduceAdd,Nat.reduceMul]
 refine run_call (rowof_run (l:=[((7:Nat):Int),((3:Nat):Int)]) (t:=true) (by decide) (by decide) fun y M hg=>?_)
 simp(disch:=first|exact Xe|fail)only[↓Xa,Xb,Xc,↓reduceIte,Nat.reduceLT,Nat.reduceEqDiff,Nat.reduceBEq,Nat.reduceLeDiff,Nat.reduceAdd,Nat.reduceMul]
 have hr:=RowO.of hg rfl
 refine run_call (run10 (p:=liveI) (cv:=CodeA liveI.code true) (ov:=OutsA liveI.outs true) (xs:=[((7:Nat):Int),((3:Nat):Int)]) (k0:=2) liveI_ok (CodeV.seq (by decide)) (OutsV.seq (by decide)) (.inl hr) ?_ (by decide) (fun _ _=>by decide) ?_ ?_ ?_)
 ·intro z hm
  simp only[List.mem_cons,List.not_mem_nil,or_false]at hm
  rcases hm with rfl|rfl<;>exact Bd.i64 (by decide)
 ·rintro(h|h)
  ·exact absurd liveI_right h
  ·exact absurd rfl h
 ·intro _ _ h
  exact absurd h (by decide)
 ·intro _ _ _ r M2 hg2
  have e:outs10 liveI [((7:Nat):Int),((3:Nat):Int)]=[2]:=by decide
  rw[e]at hg2
  have hr2:=RowO.of hg2 rfl
  simp(disch:=first|exact Xe|fail)only[↓Xa,Xb,Xc,↓reduceIte,Nat.reduceLT,Nat.reduceEqDiff,Nat.reduceBEq,Nat.reduceLeDiff,Nat.reduceAdd,Nat.reduceMul]
  refine PFn.lcall (rowt_fn (zs:=[2]) (t:=false) (k:=2) ⟨fun z hz=>by simp at hz;subst hz;exact Bd.i64 (by decide),by decide⟩ (by omega) (by decide)) rfl ⟨hr2.lent,trivial⟩ ?_
  have s1:AV.str ⟨#[91,50,93]⟩=Sx [91,50,93]:=rfl
  simp(disch:=first|exact Xe|fail)only[s1,live10_t,eql_Sx,rs14,↓Xa,Xb,Xc,↓reduceIte,Nat.reduceLT,Nat.reduceEqDiff,Nat.reduceBEq,Nat.reduceLeDiff,Nat.reduceAdd,Nat.reduceMul]
  exact SetR.dropTo ((growC_le hg).trans (growC_le hg2)) (SetR.now hq)
def enX(x:Int×Nat):List AV:=[.int .i64 ((x.2:Nat):Int),IntA x.1]
theorem en_snoc{pre:List Int}{x:Int}:(pre++[x]).zipIdx=pre.zipIdx++[(x,pre.length)]:=by simp[List.zipIdx_append]
theorem en_split{pre rest:List Int}{x:Int}:(pre++x::rest).zipIdx=pre.zipIdx++(x,pre.length)::rest.zipIdx (pre.length+1):=by simp[List.zipIdx_append]
def traceX(p:PR)(xs:List Int):List (Int×Nat):=if rightP p∧(xs.length:Int)=p.ins then(steps10 p xs).zipIdx else[]
def progC(p:PR):List AV:=[.int .i64 p.ins,.int .i64 p.regs,CodeA p.code false,OutsA p.outs false]
theorem load_pc{H:AHeap}{p:PR}{K:AV→Prop}:loadW H (some 4) (.cptr (progC p)) K=K (ProgA p):=by simp[loadW,cellsAt,progC,ProgA]
theorem load_rc{H:AHeap}{xs:List Int}{t:Bool}{K:AV→Prop}:loadW H none (.cptr [RowA xs t]) K=K (RowA xs t):=by simp[loadW,cellsAt]
theorem trace1_iter{p:PR}{xs:List Int}{t:Bool}{k0:Nat}(hp:p.ok)(hz: ∀z,z∈xs→Bd k0 z)(hxl:xs.length<9223372036854775808)(hk:rightP p→(xs.length:Int)=p.ins→k0+3*p.code.length≤100000):
 IterW Tryz.prog 87 [.cptr (progC p),.cptr [RowA xs t]] enX (traceX p xs):=by
 intro b J Jx hy A B hd h0
 refine enter87 (by simp) ?_
 simp(disch:=first|exact Xe|fail)only[ac87,load_pc,load_rc,len_rw,↓Xa,Xb,Xc,↓reduceIte,Nat.reduceLT,Nat.reduceEqDiff,Nat.reduceBEq,Nat.reduceLeDiff,Nat.reduceAdd,Nat.reduceMul]
 refine(right10_fn p hp xs.length).call ?_
 by_cases hr:rightP p∧(xs.length:Int)=p.ins
 ·have e0:rgtE p xs.length=0:=by simp[rgtE,hr.1,hr.2]
  rw[e0]
  have htx:traceX p xs=(steps10 p xs).zipIdx:=by rw[traceX,if_pos hr]
  obtain⟨hr1,hr2⟩:=hr
  have hh:=hr1.1
  unfold headP at hh
  obtain⟨N,hN⟩: ∃N:Nat,p.regs=(N:Int):=⟨p.regs.toNat,by omega⟩
  have hxN:xs.length≤N:=by omega
  have ldr: ∀{H:AHeap}{K:AV→Prop},loadW H none (.cptr ((progC p).drop 1)) K=K (.int .i64 (N:Int)):=fun{H K}=>by simp[loadW,cellsAt,progC,hN]
  simp(disch:=first|exact Xe|fail)only[neq_int,load_pc,load_rc,ldr,↓Xa,Xb,Xc,↓reduceIte,Nat.reduceLT,Nat.reduceEqDiff,Nat.reduceBEq,Nat.reduceLeDiff,Nat.reduceAdd,Nat.reduceMul]
  rw[mks_I (by omega)]
  intro b0 hb0
  obtain⟨ba,bB⟩:=un_none.1 hb0
  simp(disch:=first|exact Xe|fail)only[load_rc,↓Xa,Xb,Xc,↓reduceIte,Nat.reduceLT,Nat.reduceEqDiff,Nat.reduceBEq,Nat.reduceLeDiff,Nat.reduceAdd,Nat.reduceMul]
  refine cpy_ICf (upd_same _ _ _) (by simp) hxN ?_
  have eD:xs++List.drop xs.length (List.replicate N 0)=xs++List.replicate (p.regs.toNat-xs.length) 0:=by
   rw[List.drop_replicate,hN];rfl
  rw[upd_upd,eD]
  simp(disch:=first|exact Xe|fail)only[load_pc,↓Xa,Xb,Xc,↓reduceIte,Nat.reduceLT,Nat.reduceEqDiff,Nat.reduceBEq,Nat.reduceLeDiff,Nat.reduceAdd,Nat.reduceMul]
  refine PFn.dcall numbers10_fn ?_
  simp(disch:=first|exact Xe|fail)only[load_pc,↓Xa,Xb,Xc,↓reduceIte,Nat.reduceLT,Nat.reduceEqDiff,Nat.reduceBEq,Nat.reduceLeDiff,Nat.reduceAdd,Nat.reduceMul]
  rw[← un_updR ba]
  have lc:p.code.length<9223372036854775808:=by omega
  refine run_call (run10_run (C:=nilH) (A:=A) (B:=B.upd b0 (some (.row 48 2 (IC (xs++List.replicate (p.regs.toNat-xs.length) 0))))) (cv:=CodeA p.code false) (ov:=OutsA p.outs false) (k0:=k0) (S:=steps10 p xs) (J:=fun pre A'=>J pre.zipIdx A') (Jx:=Jx) rfl rfl (dj_updR hd ba) (upd_same _ _ _) (by simp;omega) (fun i hi=>by rw[← hN];exact hr1.2.2 i hi) ?_ (hk hr1 hr2) h0 (CodeV.seq lc) rfl (fun o x ho=>by cases ho) rfl ?_ ?_)
  ·intro z hm
   rcases List.mem_append.1 hm with hm|hm
   ·exact hz z hm
   ·rw[List.mem_replicate]at hm;rw[hm.2];exact Bd.zero _
  ·intro pre x rest A' B' hS hd' hJ
   have hx:traceX p xs=pre.zipIdx++(x,pre.length)::rest.zipIdx (pre.length+1):=by rw[htx,hS,en_split]
   have h:=hy _ _ _ A' B' hx hd' hJ
   rw[← en_snoc]at h
   exact h
  ·intro r A2 regs' hl' hbd hdj hcase
   simp(disch:=first|exact Xe|fail)only[rs87,↓Xa,Xb,Xc,↓reduceIte,Nat.reduceLT,Nat.reduceEqDiff,Nat.reduceBEq,Nat.reduceLeDiff,Nat.reduceAdd,Nat.reduceMul]
   have hle:Le (Un A2 B) (Un A2 (B.upd b0 (some (.row 48 2 (IC regs'))))):=le_unR ((Le.refl B).updB bB)
   rw[upd_upd]at hdj
   refine SetR.dropTo hle (SetR.now ⟨A2,dj_le hdj ((Le.refl B).updB bB),rfl,?_⟩)
   rw[htx]
   rcases hcase with⟨_,_,h,_⟩|⟨_,_,h⟩|⟨_,h⟩
   ·exact .inl h
   ·exact .inl h
   ·exact .inr h
 ·have htx:traceX p xs=[]:=by rw[traceX,if_neg hr]
  have e0: ∃n:Nat,rgtE p xs.length=n+1:=by
   unfold rgtE
   split
   ·rw[if_neg (fun e=>hr ⟨‹_›,e⟩)];exact⟨_,rfl⟩
   ·exact⟨_,rfl⟩
  obtain⟨n,e0⟩:=e0
  have hdc:decide (((n+1:Nat):Int)=((0:Nat):Int))=false:=decide_eq_false (by omega)
  rw[e0]
  simp(disch:=first|exact Xe|fail)only[neq_int,hdc,rs87,↓Xa,Xb,Xc,↓reduceIte,Nat.reduceLT,Nat.reduceEqDiff,Nat.reduceBEq,Nat.reduceLeDiff,Nat.reduceAdd,Nat.reduceMul]
  rw[htx]
  exact SetR.now ⟨A,hd,rfl,.inl h0⟩
theorem one10_fn{x:Int}{k:Nat}(t:Bool)(hx:Bd k x)(hk:k≤1000000):PFn Tryz.prog 21 [IntA x,RefA x t] (.bool true):=by
 intro H Q hq
 have hl:=hx.len
 have ex:sg (decide (x<0)) (val 4294967296 (digs 4294967296 x.natAbs))=x:=by rw[val_digs (by omega),sg_self]
 have mk:=rmake_fn (decide (x<0)) false (lim_digs (B:=4294967296) (by omega) x.natAbs) (by omega)
 rw[ex]at mk
 refine enter21 (by simp) ?_
 simp(disch:=first|exact Xe|fail)only[ac21,cells_IntA,↓Xa,Xb,Xc,↓reduceIte,Nat.reduceLT,Nat.reduceEqDiff,Nat.reduceBEq,Nat.reduceLeDiff,Nat.reduceAdd,Nat.reduceMul]
 refine alloc_i fun p1 hp1=>?_
 have n1:=hp1
 simp(disch:=first|exact Xe|fail)only[cells_RefT,↓Xa,Xb,Xc,↓reduceIte,Nat.reduceLT,Nat.reduceEqDiff,Nat.reduceBEq,Nat.reduceLeDiff,Nat.reduceAdd,Nat.reduceMul]
 refine alloc_i fun p2 hp2=>?_
 have n2:=hp2
 simp only[upd_none]at n2
 obtain⟨_,n2⟩:=n2
 simp(disch:=first|exact Xe|fail)only[fold_IntA,↓Xa,Xb,Xc,↓reduceIte,Nat.reduceLT,Nat.reduceEqDiff,Nat.reduceBEq,Nat.reduceLeDiff,Nat.reduceAdd,Nat.reduceMul]
 refine(limbs_fn hx (by omega)).call ?_
 simp(disch:=first|exact Xe|fail)only[fold_IntA,fold_RefT,↓Xa,Xb,Xc,↓reduceIte,Nat.reduceLT,Nat.reduceEqDiff,Nat.reduceBEq,Nat.reduceLeDiff,Nat.reduceAdd,Nat.reduceMul]
 refine PFn.dcall mk ?_
 simp(disch:=first|exact Xe|fail)only[fold_IntA,fold_RefT,↓Xa,Xb,Xc,↓reduceIte,Nat.reduceLT,Nat.reduceEqDiff,Nat.reduceBEq,Nat.reduceLeDiff,Nat.reduceAdd,Nat.reduceMul]
 refine(samet_fn t hx hk hx hk).call ?_
 simp(disch:=first|exact Xe|fail)only[decide_true,fold_IntA,fold_RefT,rs21,↓Xa,Xb,Xc,↓reduceIte,Nat.reduceLT,Nat.reduceEqDiff,Nat.reduceBEq,Nat.reduceLeDiff,Nat.reduceAdd,Nat.reduceMul]
 exact SetR.dropTo (((Le.refl H).updB n1).updB n2) (SetR.now hq)
theorem is10_fn{zs:List Int}{k:Nat}{t t':Bool}(hz:RB4 k zs)(hk:k≤1000000):PFn Tryz.prog 22 [RowA zs t,RefR zs t'] (.bool true):=by
 intro H Q hq
 have nz:zs.length<9223372036854775808:=by have:=hz.2;omega
 have hne:decide (((zs.length:Nat):Int)=((zs.length:Nat):Int))=true:=decide_eq_true rfl
 refine enter22 (by simp) ?_
 simp(disch:=first|exact Xe|fail)only[ac22,len_rw,neq_int,hne,↓Xa,Xb,Xc,↓reduceIte,Nat.reduceLT,Nat.reduceEqDiff,Nat.reduceBEq,Nat.reduceLeDiff,Nat.reduceAdd,Nat.reduceMul]
 refine W_loop (fun s:Nat=>⟨[],[(0,RowA zs t),(1,RefR zs t'),(5,.int .i64 s)],H⟩) (fun s=>s≤zs.length) (fun s=>zs.length-s) 0 (Settle.now rfl) (Nat.zero_le _) ?_
 rintro i h3
 by_cases hi:i<zs.length
 ·simp(disch:=first|exact Xe|fail)only[hi,len_rw,idx_IC,load_IC,idx_RC,load_RC,↓Xa,Xb,Xc,↓reduceIte,Nat.reduceLT,Nat.reduceEqDiff,Nat.reduceBEq,Nat.reduceLeDiff,Nat.reduceAdd,Nat.reduceMul]
  refine(one10_fn false (hz.at hi) hk).call ?_
  simp(disch:=first|exact Xe|fail)only[↓Xa,Xb,Xc,↓reduceIte,Nat.reduceLT,Nat.reduceEqDiff,Nat.reduceBEq,Nat.reduceLeDiff,Nat.reduceAdd,Nat.reduceMul]
  exact Settle.now ⟨i+1,by omega,by omega,rfl⟩
 ·simp(disch:=first|exact Xe|fail)only[hi,len_rw,↓Xa,Xb,Xc,↓reduceIte,Nat.reduceLT,Nat.reduceEqDiff,Nat.reduceBEq,Nat.reduceLeDiff,Nat.reduceAdd,Nat.reduceMul]
  refine Settle.now ?_
  simp(disch:=first|exact Xe|fail)only[rs22,↓Xa,Xb,Xc,↓reduceIte,Nat.reduceLT,Nat.reduceEqDiff,Nat.reduceBEq,Nat.reduceLeDiff,Nat.reduceAdd,Nat.reduceMul]
  exact SetR.now hq
theorem rows10_fn{l:List Int}(hl:l.length≤1000000)(hg: ∀n,n∈l→I64 n):
 PFn Tryz.prog 16 [OutsA l false] (.tup [RowA l false,RefR l false]):=by
 intro H Q hq
 refine enter16 (by simp) ?_
 simp(disch:=first|exact Xe|fail)only[ac16,↓Xa,Xb,Xc,↓reduceIte,Nat.reduceLT,Nat.reduceEqDiff,Nat.reduceBEq,Nat.reduceLeDiff,Nat.reduceAdd,Nat.reduceMul]
 have hlen:l.length<9223372036854775808:=by omega
 refine W_loop (fun s:Nat×AV×AV×AHeap=>⟨[],[(0,OutsA l false),(4,s.2.1),(5,s.2.2.1),(6,.int .i64 s.1)],s.2.2.2⟩)
  (fun s=>s.1≤l.length∧∃M,growC H 48 2 s.1 (IC (l.take s.1)) s.2.1 M∧growC M 44 2 s.1 (RC (l.take s.1)) s.2.2.1 s.2.2.2) (fun s=>l.length-s.1) (0,.seq 0 [] true,.seq 0 [] true,H) (Settle.now rfl) ⟨Nat.zero_le _,H,growC_nil,growC_nil⟩ ?_
 rintro⟨i,x,y,M⟩ ⟨h3,M1,hx,hy⟩
 dsimp only at h3 hx hy ⊢
 by_cases hi:i<l.length
 ·have hgi:=hg _ (List.getElem_mem hi)
  unfold I64 at hgi
  simp(disch:=first|exact Xe|fail)only[hi,hlen,len_OutsA,idx_OutsA,load_OutsA,↓Xa,Xb,Xc,↓reduceIte,Nat.reduceLT,Nat.reduceEqDiff,Nat.reduceBEq,Nat.reduceLeDiff,Nat.reduceAdd,Nat.reduceMul]
  refine(of_fn (n:=l[i]) (by omega)).call ?_
  simp(disch:=first|exact Xe|fail)only[repI1,cells_IntA,↓Xa,Xb,Xc,↓reduceIte,Nat.reduceLT,Nat.reduceEqDiff,Nat.reduceBEq,Nat.reduceLeDiff,Nat.reduceAdd,Nat.reduceMul]
  refine app_under (m:=1) hx hy rfl cellI (by omega) (by omega) (by omega) fun x' M1' M2 hx' hy'=>?_
  rw[← IC_take hi]at hx'
  simp(disch:=first|exact Xe|fail)only[hi,hlen,len_OutsA,idx_OutsA,load_OutsA,↓Xa,Xb,Xc,↓reduceIte,Nat.reduceLT,Nat.reduceEqDiff,Nat.reduceBEq,Nat.reduceLeDiff,Nat.reduceAdd,Nat.reduceMul]
  refine(rof_fn (n:=l[i]) (by omega)).call ?_
  simp(disch:=first|exact Xe|fail)only[repI1,cells_RefA,↓Xa,Xb,Xc,↓reduceIte,Nat.reduceLT,Nat.reduceEqDiff,Nat.reduceBEq,Nat.reduceLeDiff,Nat.reduceAdd,Nat.reduceMul]
  refine app_C (m:=1) hy' rfl cellR (by omega) (by omega) (by omega) fun y' M3 hy2=>?_
  rw[← RC_take hi]at hy2
  simp(disch:=first|exact Xe|fail)only[↓Xa,Xb,Xc,↓reduceIte,Nat.reduceLT,Nat.reduceEqDiff,Nat.reduceBEq,Nat.reduceLeDiff,Nat.reduceAdd,Nat.reduceMul]
  exact Settle.now ⟨(i+1,x',y',M3),by dsimp only;omega,⟨by dsimp only;omega,M1',hx',hy2⟩,rfl⟩
 ·obtain rfl:i=l.length:=by omega
  rw[List.take_of_length_le (by omega)]at hx hy
  simp(disch:=first|exact Xe|fail)only[hi,hlen,len_OutsA,↓Xa,Xb,Xc,↓reduceIte,Nat.reduceLT,Nat.reduceEqDiff,Nat.reduceBEq,Nat.reduceLeDiff,Nat.reduceAdd,Nat.reduceMul]
  refine Settle.now ?_
  simp(disch:=first|exact Xe|fail)only[rs16,↓Xa,Xb,Xc,↓reduceIte,Nat.reduceLT,Nat.reduceEqDiff,Nat.reduceBEq,Nat.reduceLeDiff,Nat.reduceAdd,Nat.reduceMul]
  exact growC_fin2 hx hy hq
def gridN(g:List (List Int)):Nat:=sumN (g.map fun l=>1+l.length)
def shN(l:List Ins):Nat:=sumN (l.map fun i=>if i.op=7 then 1 else 0)
def longP(p:PR)(g:List (List Int))(n:Nat):Prop:=400<n+gridN g∨60<p.code.length∨128<p.outs.length∨12<shN p.code
instance (p:PR)(g:List (List Int))(n:Nat):Decidable (longP p g n):=by unfold longP;infer_instance
theorem grid_map(g:List (List Int)):g.flatMap gridC=g.map fun l=>OutsA l false:=by
 induction g with
 |nil=>rfl
 |cons a g ih=>rw[List.flatMap_cons,ih];rfl
theorem long10_fn{p:PR}(hp:p.ok){g:List (List Int)}{gt ct:Bool}{c:List Int}(hg: ∀l,l∈g→l.length≤140737488355328)(hgl:g.length≤140737488355328)(hc0:c.length<9223372036854775808)(hc:g≠[]→c.length≤140737488355328):
 PFn Tryz.prog 15 [ProgA p,.seq g.length (g.flatMap gridC) gt,OutsA c ct] (.bool (decide (longP p g c.length))):=by
 rw[grid_map]
 intro H Q hq
 have hpc:=hp.2.2.2.1
 have hpo:=hp.2.2.2.2.2
 have yes:longP p g c.length→Q (.bool true) H:=fun h=>by rw[decide_eq_true h]at hq;exact hq
 refine enter15 (by simp) ?_
 simp(disch:=first|exact Xe|fail)only[ac15,cells_ProgA,↓Xa,Xb,Xc,↓reduceIte,Nat.reduceLT,Nat.reduceEqDiff,Nat.reduceBEq,Nat.reduceLeDiff,Nat.reduceAdd,Nat.reduceMul]
 refine alloc_i fun p1 hp1=>?_
 have n1:=hp1
 have G1:(H.upd p1 (some (.row 25 0 [.int .i64 p.ins,.int .i64 p.regs,CodeA p.code false,OutsA p.outs false]))) p1=some (.row 25 0 [.int .i64 p.ins,.int .i64 p.regs,CodeA p.code false,OutsA p.outs false]):=upd_same _ _ _
 generalize hG:(H.upd p1 (some (.row 25 0 [.int .i64 p.ins,.int .i64 p.regs,CodeA p.code false,OutsA p.outs false])))=G at*
 have hHG:Le H G:=hG▸(Le.refl H).updB n1
 simp(disch:=first|exact Xe|fail)only[len_OutsA (show c.length<9223372036854775808 by omega),↓Xa,Xb,Xc,↓reduceIte,Nat.reduceLT,Nat.reduceEqDiff,Nat.reduceBEq,Nat.reduceLeDiff,Nat.reduceAdd,Nat.reduceMul]
 refine W_loop (fun s:Nat=>⟨[],[(1,.seq g.length (g.map fun l=>OutsA l false) gt),(3,.ptr p1 4 0),(7,.int .i64 ((c.length+sumN ((g.take s).map fun l=>1+l.length):Nat):Int)),(8,.int .i64 s)],G⟩) (fun s=>s≤g.length∧c.length+sumN ((g.take s).map fun l=>1+l.length)≤400+c.length) (fun s=>g.length-s) 0 (Settle.now (by simp[sumN])) ⟨Nat.zero_le _,by simp[sumN]⟩ ?_
 rintro i ⟨h3,hn⟩
 by_cases hi:i<g.length
 ·have hc:=hc (by rintro rfl;simp at hi)
  have hsucc:sumN ((g.take (i+1)).map fun l=>1+l.length)=sumN ((g.take i).map fun l=>1+l.length)+(1+(g[i]).length):=by
   rw[List.map_take,sumN_succ (by simpa using hi),← List.map_take,List.getElem_map]
  have htot:sumN ((g.take (i+1)).map fun l=>1+l.length)≤gridN g:=by rw[List.map_take];exact sumN_take _ _
  have gi:=hg _ (List.getElem_mem hi)
  have hgi:(g[i]).length<9223372036854775808:=by omega
  generalize hn0:sumN ((g.take i).map fun l=>1+l.length)=n at*
  have hld: ∀{M:AHeap}{K:AV→Prop},loadW M none (.cptr ((g.map fun l=>OutsA l false).drop i)) K=K (OutsA (g[i]) false):=fun{M K}=>by rw[load_map hi]
  by_cases hx:400<c.length+n+(1+(g[i]).length)
  ·simp(disch:=first|exact Xe|fail)only[hi,len_rw,idx_map,hld,len_OutsA hgi,hx,rs15,↓Xa,Xb,Xc,↓reduceIte,Nat.reduceLT,Nat.reduceEqDiff,Nat.reduceBEq,Nat.reduceLeDiff,Nat.reduceAdd,Nat.reduceMul]
   exact SetR.dropTo hHG (SetR.now (yes (.inl (by omega))))
  ·simp(disch:=first|exact Xe|fail)only[hi,len_rw,idx_map,hld,len_OutsA hgi,hx,↓Xa,Xb,Xc,↓reduceIte,Nat.reduceLT,Nat.reduceEqDiff,Nat.reduceBEq,Nat.reduceLeDiff,Nat.reduceAdd,Nat.reduceMul]
   refine Settle.now ⟨i+1,by omega,⟨by omega,by rw[hsucc];omega⟩,?_⟩
   rw[hsucc];simp[Nat.add_assoc]
 ·obtain rfl:i=g.length:=by omega
  rw[List.take_of_length_le (Nat.le_refl _)]at hn ⊢
  have eN:sumN (g.map fun l=>1+l.length)=gridN g:=rfl
  rw[eN]at hn ⊢
  simp(disch:=first|exact Xe|fail)only[hi,len_rw,↓Xa,Xb,Xc,↓reduceIte,Nat.reduceLT,Nat.reduceEqDiff,Nat.reduceBEq,Nat.reduceLeDiff,Nat.reduceAdd,Nat.reduceMul]
  refine Settle.now ?_
  have lc:p.code.length<9223372036854775808:=by omega
  have lo:p.outs.length<9223372036854775808:=by omega
  by_cases h1:60<p.code.length
  ·simp(disch:=first|exact Xe|fail)only[G1,len_CodeA lc,h1,rs15,↓Xa,Xb,Xc,↓reduceIte,Nat.reduceLT,Nat.reduceEqDiff,Nat.reduceBEq,Nat.reduceLeDiff,Nat.reduceAdd,Nat.reduceMul]
   exact SetR.dropTo hHG (SetR.now (yes (.inr (.inl h1))))
  by_cases h2:128<p.outs.length
  ·simp(disch:=first|exact Xe|fail)only[G1,len_CodeA lc,len_OutsA lo,h1,h2,rs15,↓Xa,Xb,Xc,↓reduceIte,Nat.reduceLT,Nat.reduceEqDiff,Nat.reduceBEq,Nat.reduceLeDiff,Nat.reduceAdd,Nat.reduceMul]
   exact SetR.dropTo hHG (SetR.now (yes (.inr (.inr (.inl h2)))))
  by_cases h3:400<c.length+gridN g
  ·simp(disch:=first|exact Xe|fail)only[G1,len_CodeA lc,len_OutsA lo,h1,h2,h3,rs15,↓Xa,Xb,Xc,↓reduceIte,Nat.reduceLT,Nat.reduceEqDiff,Nat.reduceBEq,Nat.reduceLeDiff,Nat.reduceAdd,Nat.reduceMul]
   exact SetR.dropTo hHG (SetR.now (yes (.inl h3)))
  simp(disch:=first|exact Xe|fail)only[G1,len_CodeA lc,len_OutsA lo,h1,h2,h3,↓Xa,Xb,Xc,↓reduceIte,Nat.reduceLT,Nat.reduceEqDiff,Nat.reduceBEq,Nat.reduceLeDiff,Nat.reduceAdd,Nat.reduceMul]
  refine W_loop (fun s:Nat=>⟨[],[(3,.ptr p1 4 0),(9,.int .i64 ((sumN ((p.code.take s).map fun i=>if i.op=7 then 1 else 0):Nat):Int)),(10,.int .i64 s)],G⟩) (fun s=>s≤p.code.length∧sumN ((p.code.take s).map fun i=>if i.op=7 then 1 else 0)≤s) (fun s=>p.code.length-s) 0 (Settle.now (by simp[sumN])) ⟨Nat.zero_le _,by simp[sumN]⟩ ?_
  rintro j ⟨h4,h5⟩
  by_cases hj:j<p.code.length
  ·have hsucc:sumN ((p.code.take (j+1)).map fun i=>if i.op=7 then 1 else 0)=sumN ((p.code.take j).map fun i=>if i.op=7 then 1 else 0)+(if(p.code[j]).op=7 then 1 else 0):=by
    rw[List.map_take,sumN_succ (by simpa using hj),← List.map_take,List.getElem_map]
   generalize hn0:sumN ((p.code.take j).map fun i=>if i.op=7 then 1 else 0)=n at*
   by_cases h7:(p.code[j]).op=7
   ·have e7:decide ((p.code[j]).op=((7:Nat):Int))=true:=decide_eq_true h7
    rw[if_pos h7]at hsucc
    simp(disch:=first|exact Xe|fail)only[G1,len_CodeA lc,hj,idx_CodeA,loadOp_CodeA,eql_int,e7,↓Xa,Xb,Xc,↓reduceIte,Nat.reduceLT,Nat.reduceEqDiff,Nat.reduceBEq,Nat.reduceLeDiff,Nat.reduceAdd,Nat.reduceMul]
    refine Settle.now ⟨j+1,by omega,⟨by omega,by rw[hsucc];omega⟩,?_⟩
    rw[hsucc]
   ·have e7:decide ((p.code[j]).op=((7:Nat):Int))=false:=decide_eq_false h7
    rw[if_neg h7]at hsucc
    simp(disch:=first|exact Xe|fail)only[G1,len_CodeA lc,hj,idx_CodeA,loadOp_CodeA,eql_int,e7,↓Xa,Xb,Xc,↓reduceIte,Nat.reduceLT,Nat.reduceEqDiff,Nat.reduceBEq,Nat.reduceLeDiff,Nat.reduceAdd,Nat.reduceMul]
    refine Settle.now ⟨j+1,by omega,⟨by omega,by rw[hsucc];omega⟩,?_⟩
    rw[hsucc];simp
  ·obtain rfl:j=p.code.length:=by omega
   rw[List.take_of_length_le (Nat.le_refl _)]at h5 ⊢
   have eN:sumN (p.code.map fun i=>if i.op=7 then 1 else 0)=shN p.code:=rfl
   rw[eN]at h5 ⊢
   simp(disch:=first|exact Xe|fail)only[G1,len_CodeA lc,hj,↓Xa,Xb,Xc,↓reduceIte,Nat.reduceLT,Nat.reduceEqDiff,Nat.reduceBEq,Nat.reduceLeDiff,Nat.reduceAdd,Nat.reduceMul]
   refine Settle.now ?_
   by_cases h6:12<shN p.code
   ·simp(disch:=first|exact Xe|fail)only[h6,rs15,↓Xa,Xb,Xc,↓reduceIte,Nat.reduceLT,Nat.reduceEqDiff,Nat.reduceBEq,Nat.reduceLeDiff,Nat.reduceAdd,Nat.reduceMul]
    exact SetR.dropTo hHG (SetR.now (yes (.inr (.inr (.inr h6)))))
   ·simp(disch:=first|exact Xe|fail)only[h6,rs15,↓Xa,Xb,Xc,↓reduceIte,Nat.reduceLT,Nat.reduceEqDiff,Nat.reduceBEq,Nat.reduceLeDiff,Nat.reduceAdd,Nat.reduceMul]
    have hno: ¬longP p g c.length:=by unfold longP;omega
    rw[decide_eq_false hno]at hq
    exact SetR.dropTo hHG (SetR.now hq)
theorem repC(n:Nat):IC (List.replicate n 0)=RCt true (List.replicate n 0):=by
 induction n with
 |zero=>rfl
 |succ n ih=>
  rw[List.replicate_succ]
  show IntB 0::IntD 0::IC (List.replicate n 0)=RefB 0::LS (digs 65536 (0:Int).natAbs) true::RCt true (List.replicate n 0)
  rw[ih]
  simp[IntB,IntD,RefB,digs_zero,LS,U]
theorem fzero_fn{n:Nat}(h:n≤100000):PFn Tryz.prog 89 [.int .i64 (n:Int)] (.seq n (RCt true (List.replicate n 0)) true):=by
 intro H Q hq
 have hl:(IC (List.replicate n 0)).length=n*2:=by rw[IC_len];simp
 refine enter89 (by simp) ?_
 simp(disch:=first|exact Xe|fail)only[ac89,mks_I,↓Xa,Xb,Xc,↓reduceIte,Nat.reduceLT,Nat.reduceEqDiff,Nat.reduceBEq,Nat.reduceLeDiff,Nat.reduceAdd,Nat.reduceMul]
 intro b hb
 simp(disch:=first|exact Xe|fail)only[rs89,↓Xa,Xb,Xc,↓reduceIte,Nat.reduceLT,Nat.reduceEqDiff,Nat.reduceBEq,Nat.reduceLeDiff,Nat.reduceAdd,Nat.reduceMul]
 refine SetR.frz b (upd_same _ _ _) ?_
 rw[upd_upd,upd_back _ hb]
 have e:frz b 2 (IC (List.replicate n 0)) (.own b (n*2) 0 n true)=.seq n (RCt true (List.replicate n 0)) true:=by
  rw[← repC];simp[frz,frz2,frz1,hl,List.take_of_length_le]
 rw[e];exact SetR.now hq
theorem constR_fn{i:Ins}{n:Int}(hm:mayI n i)(h5:5≤i.op):PFn Tryz.prog 157 [InsA i] (RefA (cst i) false):=by
 intro H Q hq
 obtain⟨_,h8,_,_,_,_,h3⟩:=hm
 rw[if_neg (by omega)]at h3
 refine enter157 (by simp) ?_
 simp(disch:=first|exact Xe|fail)only[ac157,cells_InsA,↓Xa,Xb,Xc,↓reduceIte,Nat.reduceLT,Nat.reduceEqDiff,Nat.reduceBEq,Nat.reduceLeDiff,Nat.reduceAdd,Nat.reduceMul]
 refine alloc_i fun p1 hp1=>?_
 have n1:=hp1
 simp(disch:=first|exact Xe|fail)only[↓Xa,Xb,Xc,↓reduceIte,Nat.reduceLT,Nat.reduceEqDiff,Nat.reduceBEq,Nat.reduceLeDiff,Nat.reduceAdd,Nat.reduceMul]
 refine alloc_i fun p2 hp2=>?_
 have n2:=hp2
 simp only[upd_none]at n2
 obtain⟨_,n2⟩:=n2
 by_cases e5:i.op=5
 ·have hc:cst i=i.c:=by simp[cst,e5]
  rw[if_pos (.inl e5)]at h3
  have d5:decide (i.op=((5:Nat):Int))=true:=decide_eq_true e5
  simp(disch:=first|exact Xe|fail)only[eql_int,d5,↓Xa,Xb,Xc,↓reduceIte,Nat.reduceLT,Nat.reduceEqDiff,Nat.reduceBEq,Nat.reduceLeDiff,Nat.reduceAdd,Nat.reduceMul]
  refine(rof_fn (n:=i.c) (by omega)).call ?_
  rw[← hc]
  simp(disch:=first|exact Xe|fail)only[cells_RefA,fold_RefA,fold_RefT,rs157,↓Xa,Xb,Xc,↓reduceIte,Nat.reduceLT,Nat.reduceEqDiff,Nat.reduceBEq,Nat.reduceLeDiff,Nat.reduceAdd,Nat.reduceMul]
  exact SetR.dropTo (((Le.refl H).updB n1).updB n2) (SetR.now hq)
 have d5:decide (i.op=((5:Nat):Int))=false:=decide_eq_false e5
 by_cases e6:i.op=6
 ·have hc:cst i=i.c:=by simp[cst,e6]
  rw[if_pos (.inr e6)]at h3
  have d6:decide (i.op=((6:Nat):Int))=true:=decide_eq_true e6
  simp(disch:=first|exact Xe|fail)only[eql_int,d5,d6,↓Xa,Xb,Xc,↓reduceIte,Nat.reduceLT,Nat.reduceEqDiff,Nat.reduceBEq,Nat.reduceLeDiff,Nat.reduceAdd,Nat.reduceMul]
  refine(rof_fn (n:=i.c) (by omega)).call ?_
  rw[← hc]
  simp(disch:=first|exact Xe|fail)only[cells_RefA,fold_RefA,fold_RefT,rs157,↓Xa,Xb,Xc,↓reduceIte,Nat.reduceLT,Nat.reduceEqDiff,Nat.reduceBEq,Nat.reduceLeDiff,Nat.reduceAdd,Nat.reduceMul]
  exact SetR.dropTo (((Le.refl H).updB n1).updB n2) (SetR.now hq)
 have d6:decide (i.op=((6:Nat):Int))=false:=decide_eq_false e6
 have hc:cst i=2^i.c.toNat:=by simp[cst,e5,e6]
 rw[if_neg (by omega)]at h3
 by_cases e7:i.op=7∨i.op=8
 ·rw[if_pos e7]at h3
  obtain⟨c,hcc⟩: ∃c:Nat,i.c=(c:Int):=⟨i.c.toNat,by omega⟩
  have hc2:cst i=2^c:=by rw[hc,hcc];rfl
  simp(disch:=first|exact Xe|fail)only[eql_int,d5,d6,hcc,↓Xa,Xb,Xc,↓reduceIte,Nat.reduceLT,Nat.reduceEqDiff,Nat.reduceBEq,Nat.reduceLeDiff,Nat.reduceAdd,Nat.reduceMul]
  refine(rpower_fn (n:=c) (by omega)).call ?_
  rw[← hc2]
  simp(disch:=first|exact Xe|fail)only[cells_RefA,fold_RefA,fold_RefT,rs157,↓Xa,Xb,Xc,↓reduceIte,Nat.reduceLT,Nat.reduceEqDiff,Nat.reduceBEq,Nat.reduceLeDiff,Nat.reduceAdd,Nat.reduceMul]
  exact SetR.dropTo (((Le.refl H).updB n1).updB n2) (SetR.now hq)
 ·exact absurd (by omega) e7
abbrev rR(r:List Int):AV:=RefR r false
def GC(g:List (List Int)):List AV:=g.map rR
theorem GC_len(g:List (List Int)):(GC g).length=g.length:=by simp[GC]
theorem idx_ownR{G:AHeap}{b m i ty:Nat}{t:Bool}{cells:List AV}(hG:G b=some (.row ty 1 cells))(hl:cells.length=m)(hi:i<m){k:IntKind}{K:AV→Prop}:(liveS G (.own b m 0 m t)∧idxAW 1 (.own b m 0 m t) (.int k (i:Int)) K)↔K (.ptr b m i):=by simp[liveS,idxAW,hG,hl,hi]
theorem ldP_GC{ty m j:Nat}{g:List (List Int)}{K:AV→Prop}(hl:g.length=m)(hj:j<g.length):ldP none m j K (some (.row ty 1 (GC g)))↔K (rR (g[j])):=by
 have e:((GC g).drop j).take 1=[rR (g[j])]:=by
  rw[List.drop_eq_getElem_cons (by rw[GC_len];exact hj)];simp[GC]
 have h1:(GC g).length=m:=by rw[GC_len,hl]
 have h2:j+1≤m:=by omega
 simp only[ldP,h1,h2,true_and,Option.getD_none,e]
 rfl
def GoodG(k L:Nat)(g:List (List Int)):Prop:= ∀r,r∈g→r.length=L∧RB4 k r
theorem doF_run{H:AHeap}{Q:AV→AHeap→Prop}{b N k L ty:Nat}{t:Bool}{regs:List (List Int)}{i:Ins}(hb:H b=some (.row ty 1 (GC regs)))(hN:regs.length=N)(hm:mayI (N:Int) i)(hz:GoodG k L regs)(hk:k≤100000)(hL:L≤100000)
 (hq1: ∀x,doR i (regs.getD i.a.toNat []) (regs.getD i.b.toNat [])=some x→RB4 (k+3) x→x.length=L→Q (.tup [rR x,.bool true]) H)
 (hq2:doR i (regs.getD i.a.toNat []) (regs.getD i.b.toNat [])=none→Q (.tup [.seq 0 [] true,.bool false]) H):
 Run Tryz.prog 90 [InsA i,.own b N 0 N t] H Q:=by
 have hmb:=mayI_b hm
 have hma:=hm.2.2
 have h18:1≤i.op∧i.op≤8:=⟨hm.1,hm.2.1⟩
 obtain⟨a,ha⟩: ∃a:Nat,i.a=(a:Int):=⟨i.a.toNat,by omega⟩
 obtain⟨c,hc⟩: ∃c:Nat,i.b=(c:Int):=⟨i.b.toNat,by omega⟩
 have haN:a<regs.length:=by omega
 have hcN:c<regs.length:=by omega
 have ga:regs.getD i.a.toNat []=regs[a]:=by rw[ha,Int.toNat_natCast,List.getD_eq_getElem?_getD,List.getElem?_eq_getElem haN];rfl
 have gc:regs.getD i.b.toNat []=regs[c]:=by rw[hc,Int.toNat_natCast,List.getD_eq_getElem?_getD,List.getElem?_eq_getElem hcN];rfl
 rw[ga,gc]at hq1 hq2
 obtain⟨lx,bx⟩:=hz _ (List.getElem_mem haN)
 obtain⟨ly,by'⟩:=hz _ (List.getElem_mem hcN)
 have hl:(GC regs).length=N:=by rw[GC_len,hN]
 refine enter90 (by simp) ?_
 simp(disch:=first|exact Xe|fail)only[ac90,cells_InsA,↓Xa,Xb,Xc,↓reduceIte,Nat.reduceLT,Nat.reduceEqDiff,Nat.reduceBEq,Nat.reduceLeDiff,Nat.reduceAdd,Nat.reduceMul]
 refine alloc_i fun p1 n1=>?_
 have a1:=ne_of_some hb n1
 have hle: ∀{x:ABlk},Le H (H.upd p1 (some x)):=(Le.refl H).updB n1
 have hnum: ∀n:Nat,i.op≠(n:Int)→decide (i.op=((n:Nat):Int))=false:=fun n h=>decide_eq_false h
 have fin1: ∀{x:List Int}{r:ABlk},doR i regs[a] regs[c]=some x→RB4 (k+3) x→SetR Q (.tup [rR x,.bool true]) (H.upd p1 (some r)):=fun h hbx=>SetR.dropTo hle (SetR.now (hq1 _ h hbx ((doR_len (lx.trans ly.symm) h).trans lx)))
 have haN':a<N:=by omega
 have hcN':c<N:=by omega
 by_cases e2:i.op=2
 ·have d2:decide (i.op=((2:Nat):Int))=true:=decide_eq_true e2
  have hdo:doR i regs[a] regs[c]=some ((regs[a]).map (-1* ·)):=by
   rw[doR,if_pos e2,show(fun x:Int=> -1*x)=(- ·)from funext fun x=>by omega]
  simp(disch:=first|exact Xe|fail)only[ha,hc,hb,idx_ownR,hl,haN',ldP_GC hN haN,eql_int,d2,↓Xa,Xb,Xc,↓reduceIte,Nat.reduceLT,Nat.reduceEqDiff,Nat.reduceBEq,Nat.reduceLeDiff,Nat.reduceAdd,Nat.reduceMul]
  refine(rof_fn (n:= -1) (by omega)).call ?_
  simp(disch:=first|exact Xe|fail)only[↓Xa,Xb,Xc,↓reduceIte,Nat.reduceLT,Nat.reduceEqDiff,Nat.reduceBEq,Nat.reduceLeDiff,Nat.reduceAdd,Nat.reduceMul]
  refine(fscale_fn (k':=2) bx (Bd.i64 (by omega)) (by omega) (by omega)).call ?_
  simp(disch:=first|exact Xe|fail)only[rs90,↓Xa,Xb,Xc,↓reduceIte,Nat.reduceLT,Nat.reduceEqDiff,Nat.reduceBEq,Nat.reduceLeDiff,Nat.reduceAdd,Nat.reduceMul]
  exact fin1 hdo (bx.map fun z hz=>((Bd.i64 (n:= -1) (by omega)).mul hz).mono (by omega))
 have d2:=hnum 2 e2
 by_cases e3:i.op=3
 ·have d3:decide (i.op=((3:Nat):Int))=true:=decide_eq_true e3
  have hdo:doR i regs[a] regs[c]=some (zipI (· + ·) regs[a] regs[c]):=by rw[doR,if_neg e2,if_pos e3]
  simp(disch:=first|exact Xe|fail)only[ha,hc,hb,idx_ownR,hl,haN',hcN',ldP_GC hN haN,ldP_GC hN hcN,eql_int,d2,d3,↓Xa,Xb,Xc,↓reduceIte,Nat.reduceLT,Nat.reduceEqDiff,Nat.reduceBEq,Nat.reduceLeDiff,Nat.reduceAdd,Nat.reduceMul]
  refine(fadd_fn bx by' (by omega) (lx.trans ly.symm) (by omega)).call ?_
  simp(disch:=first|exact Xe|fail)only[rs90,↓Xa,Xb,Xc,↓reduceIte,Nat.reduceLT,Nat.reduceEqDiff,Nat.reduceBEq,Nat.reduceLeDiff,Nat.reduceAdd,Nat.reduceMul]
  exact fin1 hdo (bx.zip by' (lx.trans ly.symm) fun z w hz hw=>(hz.add hw).mono (by omega))
 have d3:=hnum 3 e3
 by_cases e4:i.op=4
 ·have d4:decide (i.op=((4:Nat):Int))=true:=decide_eq_true e4
  have hdo:doR i regs[a] regs[c]=some (zipI (· - ·) regs[a] regs[c]):=by rw[doR,if_neg e2,if_neg e3,if_pos e4]
  simp(disch:=first|exact Xe|fail)only[ha,hc,hb,idx_ownR,hl,haN',hcN',ldP_GC hN haN,ldP_GC hN hcN,eql_int,d2,d3,d4,↓Xa,Xb,Xc,↓reduceIte,Nat.reduceLT,Nat.reduceEqDiff,Nat.reduceBEq,Nat.reduceLeDiff,Nat.reduceAdd,Nat.reduceMul]
  refine(fsub_fn bx by' (by omega) (lx.trans ly.symm) (by omega)).call ?_
  simp(disch:=first|exact Xe|fail)only[rs90,↓Xa,Xb,Xc,↓reduceIte,Nat.reduceLT,Nat.reduceEqDiff,Nat.reduceBEq,Nat.reduceLeDiff,Nat.reduceAdd,Nat.reduceMul]
  exact fin1 hdo (bx.zip by' (lx.trans ly.symm) fun z w hz hw=>(hz.sub hw).mono (by omega))
 have d4:=hnum 4 e4
 have eI:AV.agg [.int .i64 i.op,.int .i64 i.to,.int .i64 (a:Int),.int .i64 (c:Int),.int .i64 i.c]=InsA i:=by rw[← ha,← hc];rfl
 by_cases e57:i.op=5∨i.op=7
 ·have hcb:=cst_bd hm (by omega)
  have hdo:doR i regs[a] regs[c]=some ((regs[a]).map (cst i* ·)):=by rw[doR,if_neg e2,if_neg e3,if_neg e4,if_pos e57]
  have hgo:RB4 (k+3) ((regs[a]).map (cst i* ·)):=bx.map fun z hz=>(hcb.mul hz).mono (by omega)
  rcases e57 with e5|e7
  ·have d5:decide (i.op=((5:Nat):Int))=true:=decide_eq_true e5
   simp(disch:=first|exact Xe|fail)only[ha,hc,hb,idx_ownR,hl,haN',ldP_GC hN haN,eql_int,d2,d3,d4,d5,eI,↓Xa,Xb,Xc,↓reduceIte,Nat.reduceLT,Nat.reduceEqDiff,Nat.reduceBEq,Nat.reduceLeDiff,Nat.reduceAdd,Nat.reduceMul]
   refine(constR_fn hm (by omega)).call ?_
   simp(disch:=first|exact Xe|fail)only[↓Xa,Xb,Xc,↓reduceIte,Nat.reduceLT,Nat.reduceEqDiff,Nat.reduceBEq,Nat.reduceLeDiff,Nat.reduceAdd,Nat.reduceMul]
   refine(fscale_fn (k':=3) bx hcb (by omega) (by omega)).call ?_
   simp(disch:=first|exact Xe|fail)only[rs90,↓Xa,Xb,Xc,↓reduceIte,Nat.reduceLT,Nat.reduceEqDiff,Nat.reduceBEq,Nat.reduceLeDiff,Nat.reduceAdd,Nat.reduceMul]
   exact fin1 hdo hgo
  ·have d5:=hnum 5 (by omega)
   have d7:decide (i.op=((7:Nat):Int))=true:=decide_eq_true e7
   simp(disch:=first|exact Xe|fail)only[ha,hc,hb,idx_ownR,hl,haN',ldP_GC hN haN,eql_int,d2,d3,d4,d5,d7,eI,↓Xa,Xb,Xc,↓reduceIte,Nat.reduceLT,Nat.reduceEqDiff,Nat.reduceBEq,Nat.reduceLeDiff,Nat.reduceAdd,Nat.reduceMul]
   refine(constR_fn hm (by omega)).call ?_
   simp(disch:=first|exact Xe|fail)only[↓Xa,Xb,Xc,↓reduceIte,Nat.reduceLT,Nat.reduceEqDiff,Nat.reduceBEq,Nat.reduceLeDiff,Nat.reduceAdd,Nat.reduceMul]
   refine(fscale_fn (k':=3) bx hcb (by omega) (by omega)).call ?_
   simp(disch:=first|exact Xe|fail)only[rs90,↓Xa,Xb,Xc,↓reduceIte,Nat.reduceLT,Nat.reduceEqDiff,Nat.reduceBEq,Nat.reduceLeDiff,Nat.reduceAdd,Nat.reduceMul]
   exact fin1 hdo hgo
 have d5:=hnum 5 (by omega)
 have d7:=hnum 7 (by omega)
 by_cases e68:i.op=6∨i.op=8
 ·have hcb:=cst_bd hm (by omega)
  have hov:=fover_fn (t:=false) (c:=cst i) (k:=k+3) (bx.mono (by omega)) (hcb.mono (by omega)) (by omega) (cst_ne hm) (by omega)
  by_cases hall: ∀z,z∈regs[a]→z%cst i=0
  ·have ea:((regs[a]).all fun z=>decide (z%cst i=0))=true:=List.all_eq_true.2 fun z hz=>decide_eq_true (hall z hz)
   rw[if_pos ea]at hov
   have hdo:doR i regs[a] regs[c]=some ((regs[a]).map (· / cst i)):=by rw[doR,if_neg e2,if_neg e3,if_neg e4,if_neg e57,if_pos e68,if_pos hall]
   have hgo:RB4 (k+3) ((regs[a]).map (· / cst i)):=bx.map fun z hz=>hz.ediv.mono (by omega)
   rcases e68 with e6|e8
   ·have d6:decide (i.op=((6:Nat):Int))=true:=decide_eq_true e6
    simp(disch:=first|exact Xe|fail)only[ha,hc,hb,idx_ownR,hl,haN',ldP_GC hN haN,eql_int,d2,d3,d4,d5,d6,d7,eI,↓Xa,Xb,Xc,↓reduceIte,Nat.reduceLT,Nat.reduceEqDiff,Nat.reduceBEq,Nat.reduceLeDiff,Nat.reduceAdd,Nat.reduceMul]
    refine(constR_fn hm (by omega)).call ?_
    simp(disch:=first|exact Xe|fail)only[↓Xa,Xb,Xc,↓reduceIte,Nat.reduceLT,Nat.reduceEqDiff,Nat.reduceBEq,Nat.reduceLeDiff,Nat.reduceAdd,Nat.reduceMul]
    refine hov.call ?_
    simp(disch:=first|exact Xe|fail)only[rs90,↓Xa,Xb,Xc,↓reduceIte,Nat.reduceLT,Nat.reduceEqDiff,Nat.reduceBEq,Nat.reduceLeDiff,Nat.reduceAdd,Nat.reduceMul]
    exact fin1 hdo hgo
   ·have d6:=hnum 6 (by omega)
    have d8:decide (i.op=((8:Nat):Int))=true:=decide_eq_true e8
    simp(disch:=first|exact Xe|fail)only[ha,hc,hb,idx_ownR,hl,haN',ldP_GC hN haN,eql_int,d2,d3,d4,d5,d6,d7,d8,eI,↓Xa,Xb,Xc,↓reduceIte,Nat.reduceLT,Nat.reduceEqDiff,Nat.reduceBEq,Nat.reduceLeDiff,Nat.reduceAdd,Nat.reduceMul]
    refine(constR_fn hm (by omega)).call ?_
    simp(disch:=first|exact Xe|fail)only[↓Xa,Xb,Xc,↓reduceIte,Nat.reduceLT,Nat.reduceEqDiff,Nat.reduceBEq,Nat.reduceLeDiff,Nat.reduceAdd,Nat.reduceMul]
    refine hov.call ?_
    simp(disch:=first|exact Xe|fail)only[rs90,↓Xa,Xb,Xc,↓reduceIte,Nat.reduceLT,Nat.reduceEqDiff,Nat.reduceBEq,Nat.reduceLeDiff,Nat.reduceAdd,Nat.reduceMul]
    exact fin1 hdo hgo
  ·have ea: ¬((regs[a]).all fun z=>decide (z%cst i=0))=true:=fun h=>hall fun z hz=>of_decide_eq_true (List.all_eq_true.1 h z hz)
   rw[if_neg ea]at hov
   have hdo:doR i regs[a] regs[c]=none:=by rw[doR,if_neg e2,if_neg e3,if_neg e4,if_neg e57,if_pos e68,if_neg hall]
   rcases e68 with e6|e8
   ·have d6:decide (i.op=((6:Nat):Int))=true:=decide_eq_true e6
    simp(disch:=first|exact Xe|fail)only[ha,hc,hb,idx_ownR,hl,haN',ldP_GC hN haN,eql_int,d2,d3,d4,d5,d6,d7,eI,↓Xa,Xb,Xc,↓reduceIte,Nat.reduceLT,Nat.reduceEqDiff,Nat.reduceBEq,Nat.reduceLeDiff,Nat.reduceAdd,Nat.reduceMul]
    refine(constR_fn hm (by omega)).call ?_
    simp(disch:=first|exact Xe|fail)only[↓Xa,Xb,Xc,↓reduceIte,Nat.reduceLT,Nat.reduceEqDiff,Nat.reduceBEq,Nat.reduceLeDiff,Nat.reduceAdd,Nat.reduceMul]
    refine hov.call ?_
    simp(disch:=first|exact Xe|fail)only[rs90,↓Xa,Xb,Xc,↓reduceIte,Nat.reduceLT,Nat.reduceEqDiff,Nat.reduceBEq,Nat.reduceLeDiff,Nat.reduceAdd,Nat.reduceMul]
    exact SetR.dropTo hle (SetR.now (hq2 hdo))
   ·have d6:=hnum 6 (by omega)
    have d8:decide (i.op=((8:Nat):Int))=true:=decide_eq_true e8
    simp(disch:=first|exact Xe|fail)only[ha,hc,hb,idx_ownR,hl,haN',ldP_GC hN haN,eql_int,d2,d3,d4,d5,d6,d7,d8,eI,↓Xa,Xb,Xc,↓reduceIte,Nat.reduceLT,Nat.reduceEqDiff,Nat.reduceBEq,Nat.reduceLeDiff,Nat.reduceAdd,Nat.reduceMul]
    refine(constR_fn hm (by omega)).call ?_
    simp(disch:=first|exact Xe|fail)only[↓Xa,Xb,Xc,↓reduceIte,Nat.reduceLT,Nat.reduceEqDiff,Nat.reduceBEq,Nat.reduceLeDiff,Nat.reduceAdd,Nat.reduceMul]
    refine hov.call ?_
    simp(disch:=first|exact Xe|fail)only[rs90,↓Xa,Xb,Xc,↓reduceIte,Nat.reduceLT,Nat.reduceEqDiff,Nat.reduceBEq,Nat.reduceLeDiff,Nat.reduceAdd,Nat.reduceMul]
    exact SetR.dropTo hle (SetR.now (hq2 hdo))
 have d6:=hnum 6 (by omega)
 have d8:=hnum 8 (by omega)
 have hdo:doR i regs[a] regs[c]=some regs[a]:=by rw[doR,if_neg e2,if_neg e3,if_neg e4,if_neg e57,if_neg e68]
 simp(disch:=first|exact Xe|fail)only[ha,hc,hb,idx_ownR,hl,haN',ldP_GC hN haN,eql_int,d2,d3,d4,d5,d6,d7,d8,rs90,↓Xa,Xb,Xc,↓reduceIte,Nat.reduceLT,Nat.reduceEqDiff,Nat.reduceBEq,Nat.reduceLeDiff,Nat.reduceAdd,Nat.reduceMul]
 exact fin1 hdo (bx.mono (by omega))
theorem growC_fin3{H0 H1 H:AHeap}{ty es n ty' es' n':Nat}{cells cells':List AV}{x y:AV}{k:IntKind}{z:Int}{Q:AV→AHeap→Prop}(h:growC H0 ty es n cells x H1)(h2:growC H1 ty' es' n' cells' y H)(hq:Q (.tup [.seq n cells false,.int k z,.seq n' cells' false]) H0):SetR Q (.tup [x,.int k z,y]) H:=by
 rcases h with⟨rfl,rfl,rfl,rfl⟩|⟨hn,hl,b,hb,rfl,rfl⟩<;>rcases h2 with⟨rfl,rfl,rfl,rfl⟩|⟨hn2,hl2,b2,hb2,rfl,rfl⟩
 ·exact SetR.loose (SetR.now hq)
 ·refine SetR.loose (SetR.frz b2 (upd_same _ _ _) ?_)
  rw[upd_upd,upd_back _ hb2]
  have e:frz b2 es' cells' (loose (.tup [.seq 0 [] true,.int k z,.own b2 (n'*es') 0 n' false]))=.tup [.seq 0 [] false,.int k z,.seq n' cells' false]:=by simp[frz,frz2,frz1,loose,loose2,loose1,hl2,List.take_of_length_le]
  rw[e];exact SetR.now hq
 ·refine SetR.loose (SetR.frz b (upd_same _ _ _) ?_)
  rw[upd_upd,upd_back _ hb]
  have e:frz b es cells (loose (.tup [.own b (n*es) 0 n false,.int k z,.seq 0 [] true]))=.tup [.seq n cells false,.int k z,.seq 0 [] false]:=by simp[frz,frz2,frz1,loose,loose2,loose1,hl,List.take_of_length_le]
  rw[e];exact SetR.now hq
 ·obtain⟨e,e2⟩:=upd_none.1 hb2
  refine SetR.frz b2 (upd_same _ _ _) ?_
  rw[upd_upd,upd_back _ hb2]
  have e1:frz b2 es' cells' (.tup [.own b (n*es) 0 n false,.int k z,.own b2 (n'*es') 0 n' false])=.tup [.own b (n*es) 0 n false,.int k z,.seq n' cells' false]:=by simp[frz,frz2,frz1,hl2,List.take_of_length_le,Ne.symm e]
  rw[e1]
  refine SetR.frz b (upd_same _ _ _) ?_
  rw[upd_upd,upd_back _ hb]
  have e3:frz b es cells (.tup [.own b (n*es) 0 n false,.int k z,.seq n' cells' false])=.tup [.seq n cells false,.int k z,.seq n' cells' false]:=by simp[frz,frz2,frz1,hl,List.take_of_length_le]
  rw[e3];exact SetR.now hq
theorem Run.weak{P:Program}{f:FuncId}{args:List AV}{H:AHeap}{Q Q':AV→AHeap→Prop}(h:Run P f args H Q)(hq: ∀r H',Q r H'→∃r',Wk r r'∧Q' r' H'):Run P f args H Q':=
 ⟨h.1,fun c vs hH hok hs he=>(h.2 c vs hH hok hs he).mono fun _ _ ⟨c',v,r,a1,a2,a3,a4,a5,a6⟩=>let⟨r',hw,q⟩:=hq _ _ a6;⟨c',v,r',a1,a2,a3,a4,hw c' v a5,q⟩⟩
theorem PFn.weak{P:Program}{f:FuncId}{args:List AV}{r r':AV}(h:PFn P f args r)(hw:Wk r r'):PFn P f args r':=fun H Q hq=>
 Run.weak (h H (fun x H'=>x=r∧H'=H) ⟨rfl,rfl⟩) fun x H' ⟨e1,e2⟩=>⟨r',e1▸hw,e2▸hq⟩
theorem Wk.cells{n:Nat}{a b:List AV}{t:Bool}(hl:a.length=b.length)(h: ∀i(h1:i<a.length)(h2:i<b.length),Wk (a[i]) (b[i])):Wk (.seq n a t) (.seq n b false):=fun c v he=>by
 cases he with
 |seq _ _ _ base cap cv hlen hcap hmax ht hb hn hce=>
  exact .seq n b false base cap cv (fun e=>List.length_eq_zero_iff.1 (by rw[← hl,hlen e];rfl)) hcap hmax (fun e=>by cases e) (fun hp=>by rw[← hl]at hp ⊢; exact hb hp) hn fun i hi=>h i (by omega) hi c _ (hce i (by omega))
theorem Wk.l0{n:Nat}{cells:List AV}{t:Bool}:Wk (.seq n cells t) (.seq n cells false):=fun _ _ h=>enc_loose _ _ h
theorem RCt_wk: ∀(zs:List Int)(i:Nat)(h1:i<(RCt true zs).length)(h2:i<(RC zs).length),Wk ((RCt true zs)[i]) ((RC zs)[i])
 |a::l,0,_,_=>Wk.refl
 |a::l,1,_,_=>Wk.l0
 |a::l,i+2,h1,h2=>RCt_wk l i (by simpa[RCt]using h1) (by simpa[RC]using h2)
theorem zeroR_fn{n:Nat}(h:n≤100000):PFn Tryz.prog 89 [.int .i64 (n:Int)] (rR (List.replicate n 0)):=by
 have e:rR (List.replicate n 0)=.seq n (RC (List.replicate n 0)) false:=by simp[rR]
 rw[e]
 have hl: ∀zs:List Int,(RCt true zs).length=(RC zs).length:=fun zs=>by
  induction zs with
  |nil=>rfl
  |cons a l ih=>simp only[RCt,RC,List.flatMap_cons,List.length_append]at ih ⊢; rw[ih];rfl
 exact(fzero_fn h).weak (Wk.cells (hl _) (RCt_wk _))
def regsR(p:PR)(grid:List (List Int))(L:Nat):List (List Int):=grid++List.replicate (p.regs.toNat-grid.length) (List.replicate L 0)
def stepsR(p:PR)(grid:List (List Int))(L:Nat):List (List Int):=(runX doR [] p.code (regsR p grid L)).1
def outsR(p:PR)(grid:List (List Int))(L:Nat):List (List Int):=p.outs.map fun r=>(runX doR [] p.code (regsR p grid L)).2.getD r.toNat []
abbrev GA(g:List (List Int))(t:Bool):AV:=.seq g.length (GC g) t
def followA(p:PR)(grid:List (List Int))(L:Nat):AV:=
 if(stepsR p grid L).length=p.code.length then .tup [GA (stepsR p grid L) false,.int .i64 (-1),GA (outsR p grid L) false]
 else .tup [GA (stepsR p grid L) false,.int .i64 ((stepsR p grid L).length:Nat),.seq 0 [] false]
theorem GC_take{g:List (List Int)}{i:Nat}(h:i<g.length):GC (g.take (i+1))=GC (g.take i)++[rR (g[i])]:=by
 unfold GC;rw[List.take_succ_eq_append_getElem h,List.map_append];rfl
theorem cellG{r:List Int}:[rR r].all AV.cell=true:=rfl
theorem mks_R{H:AHeap}{ty n:Nat}{K:AV→AHeap→Prop}(h:n≤100000):mksW H ty 1 24 [.seq 0 [] true] (.int .i64 (n:Int)) (.int .i64 (n:Int)) K↔∀b,H b=none→K (.own b n 0 n true) (H.upd b (some (.row ty 1 (List.replicate n (.seq 0 [] true))))):=by
 have h1:(24:Int)*n≤281474976710656:=by omega
 have h2:(n:Int)<9223372036854775808:=by omega
 have e:repA [.seq 0 [] true] n=List.replicate n (.seq 0 [] true):=by
  have e0:(fun i:Nat=>[AV.seq 0 [] true].getD (i%1) .bot)=fun _=>AV.seq 0 [] true:=funext fun i=>by rw[Nat.mod_one];rfl
  unfold repA
  have e1:n*[AV.seq 0 [] true].length=n:=by simp
  simp only[e1,List.length_cons,List.length_nil,Nat.zero_add]
  rw[e0,List.map_const',List.length_range]
 simp[mksW,h1,h2,e]
theorem splice1{l:List AV}{i:Nat}{x:AV}(h:i<l.length):splice l i [x]=l.set i x:=by
 unfold splice
 rw[List.set_eq_take_append_cons_drop,if_pos h];simp
theorem stP_1{H:AHeap}{b N j ty:Nat}{x:AV}{cells:List AV}{K:AV→AHeap→Prop}(hN:cells.length=N)(hj:j<N):stP H 1 b N j K (some [x]) (some (.row ty 1 cells))↔K .bot (H.upd b (some (.row ty 1 (cells.set j x)))):=by
 rw[stP_row (n:=1) (l:=[x]) hN rfl (by omega),splice1 (by omega)]
theorem loadTo_CodeA{H:AHeap}{l:List Ins}{i:Nat}{K:AV→Prop}(h:i<l.length):loadW H none (.cptr (((l.flatMap insC).drop (i*5)).drop 1)) K=K (.int .i64 (l[i]).to):=by
 simp only[loadW,cellsAt];rw[flat_drop insC_len l i h];simp[insC]
def CJ(R:List (List Int))(N j:Nat):List AV:=GC (R.take j)++List.replicate (N-j) (.seq 0 [] true)
theorem CJ_len{R:List (List Int)}{N j:Nat}(hR:R.length=N)(hj:j≤N):(CJ R N j).length=N:=by simp[CJ,GC];omega
theorem CJ_set{R:List (List Int)}{N j:Nat}(hR:R.length=N)(hj:j<N):(CJ R N j).set j (rR (R[j]'(by omega)))=CJ R N (j+1):=by
 unfold CJ
 have h1:(GC (R.take j)).length=j:=by simp[GC];omega
 rw[GC_take (by omega),List.set_append_right _ _ (by omega),h1,Nat.sub_self,show N-j=(N-(j+1))+1 by omega,List.replicate_succ,List.set_cons_zero,List.append_assoc];rfl
theorem follow_fn{p:PR}(hp:p.ok)(hr:rightP p){grid:List (List Int)}{t:Bool}{k0 L:Nat}(hg:GoodG k0 L grid)(hlen:(grid.length:Int)=p.ins)(hL:L≤100000)(hk:k0+3*p.code.length≤100000):
 PFn Tryz.prog 20 [ProgA p,GA grid t] (followA p grid L):=by
 intro H Q hq
 have hh:=hr.1
 unfold headP at hh
 obtain⟨N,hN⟩: ∃N:Nat,p.regs=(N:Int):=⟨p.regs.toNat,by omega⟩
 have hgl:grid.length≤N:=by omega
 have hg0:0<grid.length:=by omega
 have hR0:(regsR p grid L).length=N:=by simp[regsR,hN];omega
 have hgr:grid.length<9223372036854775808:=by omega
 refine enter20 (by simp) ?_
 simp(disch:=first|exact Xe|fail)only[ac20,cells_ProgA,↓Xa,Xb,Xc,↓reduceIte,Nat.reduceLT,Nat.reduceEqDiff,Nat.reduceBEq,Nat.reduceLeDiff,Nat.reduceAdd,Nat.reduceMul]
 refine alloc_i fun p2 hp2=>?_
 simp(disch:=first|exact Xe|fail)only[hN,↓Xa,Xb,Xc,↓reduceIte,Nat.reduceLT,Nat.reduceEqDiff,Nat.reduceBEq,Nat.reduceLeDiff,Nat.reduceAdd,Nat.reduceMul]
 rw[mks_R (by omega)]
 intro b hb
 have hbp:=(upd_none.1 hb).1
 have hbH:=(upd_none.1 hb).2
 generalize hX:(ABlk.row 25 0 [.int .i64 p.ins,.int .i64 (N:Int),CodeA p.code false,OutsA p.outs false])=X at*
 have m2: ∀x:ABlk,((H.upd p2 (some X)).upd b (some x)) p2=some (ABlk.row 25 0 [.int .i64 p.ins,.int .i64 (N:Int),CodeA p.code false,OutsA p.outs false]):=fun x=>by rw[upd_other _ _ (Ne.symm hbp),upd_same,hX]
 simp(disch:=first|exact Xe|fail)only[↓Xa,Xb,Xc,↓reduceIte,Nat.reduceLT,Nat.reduceEqDiff,Nat.reduceBEq,Nat.reduceLeDiff,Nat.reduceAdd,Nat.reduceMul]
 refine W_loop (fun s:Nat=>⟨[],[(1,GA grid t),(2,.ptr p2 4 0),(7,.own b N 0 N true),(8,.int .i64 s)],(H.upd p2 (some X)).upd b (some (.row 31 1 (CJ (regsR p grid L) N s)))⟩) (fun s=>s≤N) (fun s=>N-s) 0 (Settle.now ?_) (Nat.zero_le _) ?_
 ·have e:CJ (regsR p grid L) N 0=List.replicate N (.seq 0 [] true):=by simp[CJ,GC]
  rw[e]
 rintro j h1
 have hCl:=CJ_len hR0 h1
 have hld: ∀{M:AHeap}{K:AV→Prop}{i:Nat}(h:i<grid.length),loadW M none (.cptr ((GC grid).drop i)) K=K (rR (grid[i])):=fun{M K i} h=>load_map h
 have hix: ∀{k:IntKind}{K:AV→Prop}{i:Nat}(h:i<grid.length),idxAW 1 (GA grid t) (.int k (i:Int)) K=K (.cptr ((GC grid).drop i)):=fun{k K i} h=>by
  have:=idx_map (f:=rR) (t:=t) (k:=k) (K:=K) h
  rw[Nat.mul_one]at this;exact this
 by_cases hj:j<N
 ·have gl0:(grid[0]).length=L:=(hg _ (List.getElem_mem hg0)).1
  have gl0':(grid[0]).length<9223372036854775808:=by omega
  have hld0: ∀{M:AHeap}{K:AV→Prop},loadW M none (.cptr (GC grid)) K=K (rR (grid[0])):=fun{M K}=>hld (i:=0) hg0
  have hjR:j<(regsR p grid L).length:=by omega
  have zz:AV.seq L (RC (List.replicate L 0)) false=rR (List.replicate L 0):=by simp[rR]
  by_cases hjg:j<grid.length
  ·have eR:(regsR p grid L)[j]=grid[j]:=by simp only[regsR];rw[List.getElem_append_left hjg]
   simp(disch:=first|exact Xe|fail)only[m2,hj,hix hg0,hld0,len_rw,gl0',gl0,↓Xa,Xb,Xc,↓reduceIte,Nat.reduceLT,Nat.reduceEqDiff,Nat.reduceBEq,Nat.reduceLeDiff,Nat.reduceAdd,Nat.reduceMul]
   refine(zeroR_fn (n:=L) hL).call ?_
   simp(disch:=first|exact Xe|fail)only[m2,hj,hix hg0,idx_ownR,hCl,zz,↓Xa,Xb,Xc,↓reduceIte,Nat.reduceLT,Nat.reduceEqDiff,Nat.reduceBEq,Nat.reduceLeDiff,Nat.reduceAdd,Nat.reduceMul]
   refine(stP_1 (x:=rR (List.replicate L 0)) hCl hj).2 ?_
   rw[upd_upd]
   have hCl2:((CJ (regsR p grid L) N j).set j (rR (List.replicate L 0))).length=N:=by rw[List.length_set,hCl]
   have hsame: ∀x:ABlk,((H.upd p2 (some X)).upd b (some x)) b=some x:=fun x=>upd_same _ _ _
   simp(disch:=first|exact Xe|fail)only[m2,hj,hjg,hix hjg,hld hjg,len_rw,idx_ownR,hCl2,↓Xa,Xb,Xc,↓reduceIte,Nat.reduceLT,Nat.reduceEqDiff,Nat.reduceBEq,Nat.reduceLeDiff,Nat.reduceAdd,Nat.reduceMul]
   refine(stP_1 (x:=rR (grid[j])) hCl2 hj).2 ?_
   rw[upd_upd,List.set_set,← eR,CJ_set hR0 hj]
   simp(disch:=first|exact Xe|fail)only[↓Xa,Xb,Xc,↓reduceIte,Nat.reduceLT,Nat.reduceEqDiff,Nat.reduceBEq,Nat.reduceLeDiff,Nat.reduceAdd,Nat.reduceMul]
   exact Settle.now ⟨j+1,by omega,by omega,rfl⟩
  ·have eR:(regsR p grid L)[j]=List.replicate L 0:=by simp only[regsR];rw[List.getElem_append_right (by omega)];simp
   simp(disch:=first|exact Xe|fail)only[m2,hj,hix hg0,hld0,len_rw,gl0',gl0,↓Xa,Xb,Xc,↓reduceIte,Nat.reduceLT,Nat.reduceEqDiff,Nat.reduceBEq,Nat.reduceLeDiff,Nat.reduceAdd,Nat.reduceMul]
   refine(zeroR_fn (n:=L) hL).call ?_
   simp(disch:=first|exact Xe|fail)only[m2,hj,hix hg0,idx_ownR,hCl,zz,↓Xa,Xb,Xc,↓reduceIte,Nat.reduceLT,Nat.reduceEqDiff,Nat.reduceBEq,Nat.reduceLeDiff,Nat.reduceAdd,Nat.reduceMul]
   refine(stP_1 (x:=rR (List.replicate L 0)) hCl hj).2 ?_
   rw[upd_upd,← eR,CJ_set hR0 hj]
   simp(disch:=first|exact Xe|fail)only[m2,hj,hjg,len_rw,↓Xa,Xb,Xc,↓reduceIte,Nat.reduceLT,Nat.reduceEqDiff,Nat.reduceBEq,Nat.reduceLeDiff,Nat.reduceAdd,Nat.reduceMul]
   exact Settle.now ⟨j+1,by omega,by omega,rfl⟩
 ·obtain rfl:j=N:=by omega
  have eC:CJ (regsR p grid L) j j=GC (regsR p grid L):=by
   simp only[CJ,Nat.sub_self,List.replicate_zero,List.append_nil];rw[List.take_of_length_le (by omega)]
  rw[eC]
  simp(disch:=first|exact Xe|fail)only[m2,hj,↓Xa,Xb,Xc,↓reduceIte,Nat.reduceLT,Nat.reduceEqDiff,Nat.reduceBEq,Nat.reduceLeDiff,Nat.reduceAdd,Nat.reduceMul]
  refine Settle.now ?_
  simp(disch:=first|exact Xe|fail)only[m2,↓Xa,Xb,Xc,↓reduceIte,Nat.reduceLT,Nat.reduceEqDiff,Nat.reduceBEq,Nat.reduceLeDiff,Nat.reduceAdd,Nat.reduceMul]
  have lc:p.code.length<9223372036854775808:=by omega
  have lo:p.outs.length<9223372036854775808:=by omega
  have goodR:GoodG k0 L (regsR p grid L):=fun r hm=>by
   rcases List.mem_append.1 hm with hm|hm
   ·exact hg r hm
   ·rw[List.mem_replicate]at hm;rw[hm.2]
    exact⟨by simp,fun z hz=>by rw[List.mem_replicate]at hz;rw[hz.2];exact Bd.zero _,by simp;omega⟩
  generalize hS:stepsR p grid L=S at*
  have hSd:S=(runX doR [] p.code (regsR p grid L)).1:=hS.symm
  have hSle:S.length≤p.code.length:=by rw[hSd];exact runX_len _ _
  refine W_loop (fun s:Nat×List (List Int)×AV×AHeap=>⟨[],[(2,.ptr p2 4 0),(7,.own b j 0 j true),(9,s.2.2.1),(10,.int .i64 s.1)],s.2.2.2⟩)
   (fun s=>s.1≤p.code.length∧s.1≤S.length∧s.2.1.length=j∧GoodG (k0+3*s.1) L s.2.1∧growC ((H.upd p2 (some X)).upd b (some (.row 31 1 (GC s.2.1)))) 31 1 s.1 (GC (S.take s.1)) s.2.2.1 s.2.2.2∧runX doR [] (p.code.drop s.1) s.2.1=(S.drop s.1,(runX doR [] p.code (regsR p grid L)).2)) (fun s=>p.code.length-s.1) (0,regsR p grid L,.seq 0 [] true,_) (Settle.now rfl) ⟨Nat.zero_le _,Nat.zero_le _,hR0,by simpa using goodR,growC_nil,by rw[List.drop_zero,List.drop_zero,hSd]⟩ ?_
  rintro⟨i,R,y,M⟩ ⟨g1,g2,g3,g4,g5,g6⟩
  dsimp only at g1 g2 g3 g4 g5 g6 ⊢
  have M2:M p2=some (.row 25 0 [.int .i64 p.ins,.int .i64 (j:Int),CodeA p.code false,OutsA p.outs false]):=growC_old g5 (m2 _)
  have Mb:M b=some (.row 31 1 (GC R)):=growC_old g5 (upd_same _ _ _)
  by_cases hi:i<p.code.length
  ·have hmi:mayI (j:Int) p.code[i]:=by rw[← hN];exact hr.2.2 _ (List.getElem_mem hi)
   obtain⟨w,hw⟩: ∃w:Nat,(p.code[i]).to=(w:Int):=⟨(p.code[i]).to.toNat,by have:=hmi.2.2.1;omega⟩
   have hwj:w<j:=by have:=hmi.2.2.2.1;omega
   simp(disch:=first|exact Xe|fail)only[M2,len_CodeA lc,hi,idx_CodeA,load_CodeA,↓Xa,Xb,Xc,↓reduceIte,Nat.reduceLT,Nat.reduceEqDiff,Nat.reduceBEq,Nat.reduceLeDiff,Nat.reduceAdd,Nat.reduceMul]
   refine run_call (doF_run (b:=b) (N:=j) (k:=k0+3*i) (L:=L) (regs:=R) Mb g3 hmi g4 (by omega) hL ?_ ?_)
   ·intro x hdo hbx hxl
    have hat:=runX_at hi R hdo
    rw[g6]at hat
    simp(disch:=first|exact Xe|fail)only[M2,hi,idx_CodeA,loadTo_CodeA,hw,Mb,idx_ownR,hwj,GC_len,g3,↓Xa,Xb,Xc,↓reduceIte,Nat.reduceLT,Nat.reduceEqDiff,Nat.reduceBEq,Nat.reduceLeDiff,Nat.reduceAdd,Nat.reduceMul]
    refine(stP_1 (x:=rR x) (by rw[GC_len,g3]) hwj).2 ?_
    have eset:(GC R).set w (rR x)=GC (R.set w x):=by simp[GC,List.map_set]
    rw[eset]
    have ew:(p.code[i]).to.toNat=w:=by omega
    rw[ew]at hat
    have hS1:S.drop i=x::(runX doR [] (p.code.drop (i+1)) (R.set w x)).1:=congrArg Prod.fst hat
    have hiS:i<S.length:=by
     have:=congrArg List.length hS1
     simp at this;omega
    rw[List.drop_eq_getElem_cons hiS]at hS1
    injection hS1 with hS2 hS3
    obtain⟨H1,hg1,hl1⟩:=growC_move (M:=M.upd b (some (.row 31 1 (GC (R.set w x))))) g5 fun o ho _=>upd_other _ _ (by rintro rfl;rw[upd_same]at ho;cases ho)
    have hb2:=(growC_le g5).both (p:=b) (x:=some (.row 31 1 (GC (R.set w x))))
    rw[upd_upd]at hb2
    have hle1:=hl1 _ hb2 fun o ho=>by
     by_cases e:o=b
     ·subst e;rw[upd_same]at ho;cases ho
     ·rw[upd_other _ _ e]at ho ⊢; exact ho
    simp(disch:=first|exact Xe|fail)only[↓Xa,Xb,Xc,↓reduceIte,Nat.reduceLT,Nat.reduceEqDiff,Nat.reduceBEq,Nat.reduceLeDiff,Nat.reduceAdd,Nat.reduceMul]
    refine app_C (m:=1) hg1 rfl cellG (by omega) (by omega) (by omega) fun y' M3 hg4=>?_
    rw[← hS2,← GC_take hiS]at hg4
    obtain⟨M4,hg5,hl5⟩:=growC_le2 hg4 hle1
    simp(disch:=first|exact Xe|fail)only[↓Xa,Xb,Xc,↓reduceIte,Nat.reduceLT,Nat.reduceEqDiff,Nat.reduceBEq,Nat.reduceLeDiff,Nat.reduceAdd,Nat.reduceMul]
    refine Settle.dropTo hl5 (Settle.now ⟨(i+1,R.set w x,y',M4),by dsimp only;omega,⟨hi,hiS,by dsimp only;rw[List.length_set,g3],fun r hm=>?_,hg5,?_⟩,rfl⟩)
    ·rcases List.mem_or_eq_of_mem_set hm with hm|rfl
     ·exact⟨(g4 r hm).1,(g4 r hm).2.mono (by dsimp only;omega)⟩
     ·exact⟨hxl,hbx.mono (by dsimp only;omega)⟩
    ·dsimp only
     rw[hS3,congrArg Prod.snd hat]
   ·intro hdo
    have hno:=runX_no hi R hdo
    rw[g6]at hno
    have hS0:S.drop i=[]:=congrArg Prod.fst hno
    have hSl:S.length≤i:=by
     have:=congrArg List.length hS0
     simp at this;omega
    obtain rfl:i=S.length:=by omega
    rw[List.take_of_length_le (Nat.le_refl _)]at g5
    unfold followA at hq
    rw[hS,if_neg (by omega)]at hq
    simp(disch:=first|exact Xe|fail)only[rs20,↓Xa,Xb,Xc,↓reduceIte,Nat.reduceLT,Nat.reduceEqDiff,Nat.reduceBEq,Nat.reduceLeDiff,Nat.reduceAdd,Nat.reduceMul]
    obtain⟨M4,hg5,hl5⟩:=growC_le2 g5 (((Le.refl H).updB hp2).updB hbH)
    exact SetR.dropTo hl5 (growC_fin3 hg5 (growC_nil (ty:=0) (es:=1)) hq)
  ·obtain rfl:i=p.code.length:=by omega
   have hR1:S.drop p.code.length=[]∧(runX doR [] p.code (regsR p grid L)).2=R:=by
    rw[List.drop_of_length_le (Nat.le_refl _)]at g6
    exact⟨(congrArg Prod.fst g6).symm,(congrArg Prod.snd g6).symm⟩
   have hSl:S.length=p.code.length:=by omega
   rw[← hSl,List.take_of_length_le (Nat.le_refl _)]at g5
   unfold followA at hq
   rw[hS,if_pos hSl]at hq
   have hou:outsR p grid L=p.outs.map fun r=>R.getD r.toNat []:=by unfold outsR;rw[hR1.2]
   have hol:(outsR p grid L).length=p.outs.length:=by simp[outsR]
   simp(disch:=first|exact Xe|fail)only[M2,len_CodeA lc,hi,↓Xa,Xb,Xc,↓reduceIte,Nat.reduceLT,Nat.reduceEqDiff,Nat.reduceBEq,Nat.reduceLeDiff,Nat.reduceAdd,Nat.reduceMul]
   refine Settle.now ?_
   simp(disch:=first|exact Xe|fail)only[M2,len_OutsA lo,↓Xa,Xb,Xc,↓reduceIte,Nat.reduceLT,Nat.reduceEqDiff,Nat.reduceBEq,Nat.reduceLeDiff,Nat.reduceAdd,Nat.reduceMul]
   refine W_loop (fun s:Nat×AV×AHeap=>⟨[],[(2,.ptr p2 4 0),(7,.own b j 0 j true),(9,y),(13,s.2.1),(14,.int .i64 s.1)],s.2.2⟩)
    (fun s=>s.1≤p.outs.length∧growC M 31 1 s.1 (GC ((outsR p grid L).take s.1)) s.2.1 s.2.2) (fun s=>p.outs.length-s.1) (0,.seq 0 [] true,M) (Settle.now rfl) ⟨Nat.zero_le _,growC_nil⟩ ?_
   rintro⟨m,z,M'⟩ ⟨q1,q2⟩
   dsimp only at q1 q2 ⊢
   have N2:=growC_old q2 M2
   have Nb:=growC_old q2 Mb
   by_cases hm:m<p.outs.length
   ·have hjo:=hr.2.1 _ (List.getElem_mem hm)
    obtain⟨w,hw⟩: ∃w:Nat,p.outs[m]=(w:Int):=⟨(p.outs[m]).toNat,by omega⟩
    have hwj:w<j:=by omega
    have hwR:w<R.length:=by omega
    have et:(outsR p grid L)[m]'(by omega)=R[w]:=by
     simp only[hou,List.getElem_map,hw]
     simp[List.getD_eq_getElem?_getD,List.getElem?_eq_getElem hwR]
    simp(disch:=first|exact Xe|fail)only[N2,len_OutsA lo,hm,idx_OutsA,load_OutsA,hw,Nb,idx_ownR,hwj,GC_len,g3,ldP_GC g3 hwR,↓Xa,Xb,Xc,↓reduceIte,Nat.reduceLT,Nat.reduceEqDiff,Nat.reduceBEq,Nat.reduceLeDiff,Nat.reduceAdd,Nat.reduceMul]
    refine app_C (m:=1) q2 rfl cellG (by omega) (by omega) (by omega) fun z' M3 q3=>?_
    rw[← et,← GC_take (by omega)]at q3
    simp(disch:=first|exact Xe|fail)only[↓Xa,Xb,Xc,↓reduceIte,Nat.reduceLT,Nat.reduceEqDiff,Nat.reduceBEq,Nat.reduceLeDiff,Nat.reduceAdd,Nat.reduceMul]
    exact Settle.now ⟨(m+1,z',M3),by dsimp only;omega,⟨hm,q3⟩,rfl⟩
   ·obtain rfl:m=p.outs.length:=by omega
    rw[← hol,List.take_of_length_le (Nat.le_refl _)]at q2
    simp(disch:=first|exact Xe|fail)only[N2,len_OutsA lo,hm,↓Xa,Xb,Xc,↓reduceIte,Nat.reduceLT,Nat.reduceEqDiff,Nat.reduceBEq,Nat.reduceLeDiff,Nat.reduceAdd,Nat.reduceMul]
    refine Settle.now ?_
    simp(disch:=first|exact Xe|fail)only[rs20,↓Xa,Xb,Xc,↓reduceIte,Nat.reduceLT,Nat.reduceEqDiff,Nat.reduceBEq,Nat.reduceLeDiff,Nat.reduceAdd,Nat.reduceMul]
    obtain⟨M4,hg5,hl5⟩:=growC_le2 g5 (((Le.refl H).updB hp2).updB hbH)
    obtain⟨M5,hg6,hl6⟩:=growC_le2 q2 hl5
    exact SetR.dropTo hl6 (growC_fin3 hg5 hg6 hq)
theorem trace10_fn{p:PR}{xs:List Int}{t:Bool}:PFn Tryz.prog 18 [ProgA p,RowA xs t] (.fn (.func 87) [] [.cptr (progC p),.cptr [RowA xs t]]):=by
 intro H Q hq
 refine enter18 (by simp) ?_
 simp(disch:=first|exact Xe|fail)only[ac18,cells_ProgA,↓Xa,Xb,Xc,↓reduceIte,Nat.reduceLT,Nat.reduceEqDiff,Nat.reduceBEq,Nat.reduceLeDiff,Nat.reduceAdd,Nat.reduceMul]
 refine alloc_i fun p1 hp1=>?_
 have n1:=hp1
 simp(disch:=first|exact Xe|fail)only[↓Xa,Xb,Xc,↓reduceIte,Nat.reduceLT,Nat.reduceEqDiff,Nat.reduceBEq,Nat.reduceLeDiff,Nat.reduceAdd,Nat.reduceMul]
 refine alloc_i fun p2 hp2=>?_
 have n2:=hp2
 simp only[upd_none]at n2
 obtain⟨_,n2⟩:=n2
 simp(disch:=first|exact Xe|fail)only[rs18,↓Xa,Xb,Xc,↓reduceIte,Nat.reduceLT,Nat.reduceEqDiff,Nat.reduceBEq,Nat.reduceLeDiff,Nat.reduceAdd,Nat.reduceMul]
 have d21:=(upd_none.1 hp2).1
 refine SetR.frzP p2 (upd_same _ _ _) ?_
 rw[upd_upd,upd_back _ hp2]
 have e1:frzP p2 [RowA xs t] (.fn (.func 87) [] [.ptr p1 4 0,.ptr p2 1 0])=.fn (.func 87) [] [.ptr p1 4 0,.cptr [RowA xs t]]:=by simp[frzP,frzP1,Ne.symm d21]
 rw[e1]
 refine SetR.frzP p1 (upd_same _ _ _) ?_
 rw[upd_upd,upd_back _ n1]
 have e2:frzP p1 (progC p) (.fn (.func 87) [] [.ptr p1 4 0,.cptr [RowA xs t]])=.fn (.func 87) [] [.cptr (progC p),.cptr [RowA xs t]]:=by simp[frzP,frzP1,progC]
 have e3:=e2
 unfold progC at e3
 rw[e3]
 exact SetR.now hq
def one1(x:Int):List Int:=[x]
theorem getD_one{r:List Int}{k:Nat}(h:k<r.length):(r.map one1).getD k []=[r.getD k 0]:=by
 simp[List.getD_eq_getElem?_getD,h,one1]
theorem run_one: ∀(code:List Ins)(r:List Int),(∀i,i∈code→mayI (r.length:Int) i)→runX doR [] code (r.map one1)=((runX doZ 0 code r).1.map one1,(runX doZ 0 code r).2.map one1)
 |[],r,_=>rfl
 |i::l,r,h=>by
  have hi:=h i (by simp)
  have hb:=mayI_b hi
  have ha:=hi.2.2
  simp only[runX]
  rw[getD_one (by omega),getD_one (by omega),doR_one]
  cases e:doZ i (r.getD i.a.toNat 0) (r.getD i.b.toNat 0)with
  |none=>rfl
  |some x=>
   have ih:=run_one l (r.set i.to.toNat x) (fun j hj=>by rw[List.length_set];exact h j (by simp[hj]))
   have es:(r.map one1).set i.to.toNat [x]=(r.set i.to.toNat x).map one1:=by rw[List.map_set];rfl
   simp only[Option.map_some,es,ih,List.map_cons];rfl
theorem regsR_one(p:PR)(xs:List Int):regsR p (xs.map one1) 1=(xs++List.replicate (p.regs.toNat-xs.length) 0).map one1:=by
 simp[regsR,one1]
theorem run_oneP{p:PR}{xs:List Int}(hr:rightP p)(hlen:(xs.length:Int)=p.ins):runX doR [] p.code (regsR p (xs.map one1) 1)=((steps10 p xs).map one1,(runX doZ 0 p.code (xs++List.replicate (p.regs.toNat-xs.length) 0)).2.map one1):=by
 have hh:=hr.1
 unfold headP at hh
 rw[regsR_one,run_one _ _ fun i hi=>?_];rfl
 have e:((xs++List.replicate (p.regs.toNat-xs.length) 0).length:Int)=p.regs:=by simp;omega
 rw[e];exact hr.2.2 i hi
theorem outs_oneP{p:PR}{xs:List Int}(hr:rightP p)(hlen:(xs.length:Int)=p.ins):outsR p (xs.map one1) 1=(outs10 p xs).map one1:=by
 have hh:=hr.1
 unfold headP at hh
 unfold outsR outs10
 rw[run_oneP hr hlen,List.map_map]
 refine List.map_congr_left fun r hm=>?_
 have hb:=hr.2.1 r hm
 dsimp only[Function.comp]
 have hl:(runX doZ 0 p.code (xs++List.replicate (p.regs.toNat-xs.length) 0)).2.length=(xs++List.replicate (p.regs.toNat-xs.length) 0).length:=runX_regs _ _
 have hl2:(xs++List.replicate (p.regs.toNat-xs.length) 0).length=p.regs.toNat:=by simp;omega
 rw[getD_one (by omega)];rfl
theorem le_updO{A B:AHeap}{b:Nat}{x:Option ABlk}(h:Le A B)(hb:A b=none):Le A (B.upd b x):=fun o y ho=>by
 have e:o≠b:=by rintro rfl;rw[hb]at ho;cases ho
 rw[upd_other _ _ e];exact h o y ho
theorem Settle.weak{K:St→Prop}{D:List Nat}{E:Env}{H:AHeap}(t:Nat){x:AV}(hw:Wk (E.get t) x)(h:Settle K ⟨D,E.set t x,H⟩):Settle K ⟨D,E,H⟩:=by
 refine Settle.join ?_
 intro N c a hc hok hr
 refine⟨c,⟨D,E.set t x,H⟩,hc,rfl,hok,⟨hr.size,fun u=>?_,hr.dlen,hr.dmark⟩,Later.refl c,h⟩
 show Enc c (Env.get (E.set t x) u) _
 rw[Env.get_set]
 split
 ·rename_i e;subst e;exact hw _ _ (hr.tmp u)
 ·exact hr.tmp u
theorem grid_wk(l:List Int):Wk (.seq l.length (l.map fun x=>.seq 1 [RefB x,RefD x] true) false) (GA (l.map one1) false):=by
 have e:GA (l.map one1) false=.seq l.length (GC (l.map one1)) false:=by simp
 rw[e]
 refine Wk.cells (by simp[GC]) fun i h1 h2=>?_
 simp only[GC,List.getElem_map]
 exact Wk.l0
theorem follow_cases{p:PR}{l:List Int}(hr:rightP p)(hlen:(l.length:Int)=p.ins): ∃(bad:Int)(want:AV),followA p (l.map one1) 1=.tup [GA ((steps10 p l).map one1) false,.int .i64 bad,want]∧
 (((steps10 p l).length=p.code.length∧bad= -1∧want=GA ((outs10 p l).map one1) false)∨((steps10 p l).length<p.code.length∧bad=((steps10 p l).length:Nat)∧want=.seq 0 [] false)):=by
 have hs:stepsR p (l.map one1) 1=(steps10 p l).map one1:=by rw[stepsR,run_oneP hr hlen]
 have ho:=outs_oneP hr hlen
 have hle:(steps10 p l).length≤p.code.length:=runX_len _ _
 unfold followA
 rw[hs,ho,List.length_map]
 split
 ·rename_i e;exact⟨_,_,rfl,.inl ⟨e,rfl,rfl⟩⟩
 ·exact⟨_,_,rfl,.inr ⟨by omega,rfl,rfl⟩⟩
def Mn(A G:AHeap):AHeap:=fun o=>match A o with
 |some _=>none
 |none=>G o
theorem un_split{A G:AHeap}(h:Le A G):G=Un A (Mn A G):=funext fun o=>by
 unfold Un Mn
 cases e:A o with
 |none=>rfl
 |some x=>exact h o x e
theorem dj_split{A G:AHeap}:Dj A (Mn A G):=fun o=>by
 unfold Mn
 cases e:A o with
 |none=>exact .inl rfl
 |some x=>exact .inr rfl
theorem en_at{S:List Int}{pre rest:List (Int×Nat)}{q:Int×Nat}(h:S.zipIdx=pre++q::rest): ∃hp:pre.length<S.length,q=(S[pre.length],pre.length):=by
 have hl:=congrArg List.length h
 simp at hl
 have hp:pre.length<S.length:=by omega
 refine⟨hp,?_⟩
 have e:S.zipIdx[pre.length]? =some q:=by rw[h];simp
 rw[List.getElem?_zipIdx,List.getElem?_eq_getElem hp]at e
 simpa using e.symm
theorem getD_bd{k:Nat}{r:List Int}(h: ∀z,z∈r→Bd k z)(j:Nat):Bd k (r.getD j 0):=by
 by_cases hj:j<r.length
 ·rw[List.getD_eq_getElem?_getD,List.getElem?_eq_getElem hj];exact h _ (List.getElem_mem hj)
 ·rw[List.getD_eq_getElem?_getD,List.getElem?_eq_none (by omega)];exact Bd.zero _
theorem runX_bd{n:Int}: ∀(code:List Ins)(r:List Int)(k:Nat),(∀i,i∈code→mayI n i)→(∀z,z∈r→Bd k z)→∀z,z∈(runX doZ 0 code r).1→Bd (k+3*code.length) z
 |[],r,k,_,_,z,hz=>by simp[runX]at hz
 |i::l,r,k,hm,hb,z,hz=>by
  simp only[runX]at hz
  cases e:doZ i (r.getD i.a.toNat 0) (r.getD i.b.toNat 0)with
  |none=>rw[e]at hz;simp at hz
  |some x=>
   have hx:=doZ_bd (hm i (by simp)) (getD_bd hb _) (getD_bd hb _) e
   rw[e]at hz
   rcases List.mem_cons.1 hz with rfl|hz
   ·exact hx.mono (by simp;omega)
   ·refine(runX_bd l _ (k+3) (fun j hj=>hm j (by simp[hj])) (fun y hy=>?_) z hz).mono (by simp;omega)
    rcases List.mem_or_eq_of_mem_set hy with hy|rfl
    ·exact(hb y hy).mono (by omega)
    ·exact hx
theorem runX_bd2{n:Int}: ∀(code:List Ins)(r:List Int)(k:Nat),(∀i,i∈code→mayI n i)→(∀z,z∈r→Bd k z)→∀z,z∈(runX doZ 0 code r).2→Bd (k+3*code.length) z
 |[],r,k,_,hb,z,hz=>hb z hz
 |i::l,r,k,hm,hb,z,hz=>by
  simp only[runX]at hz
  cases e:doZ i (r.getD i.a.toNat 0) (r.getD i.b.toNat 0)with
  |none=>rw[e]at hz;exact(hb z hz).mono (by omega)
  |some x=>
   have hx:=doZ_bd (hm i (by simp)) (getD_bd hb _) (getD_bd hb _) e
   rw[e]at hz
   refine(runX_bd2 l _ (k+3) (fun j hj=>hm j (by simp[hj])) (fun y hy=>?_) z hz).mono (by simp;omega)
   rcases List.mem_or_eq_of_mem_set hy with hy|rfl
   ·exact(hb y hy).mono (by omega)
   ·exact hx
theorem lenGA{S:List Int}(h:S.length<9223372036854775808){K:AV→Prop}:lenW false (GA (S.map one1) false) K=K (.int .i64 ((S.length:Nat):Int)):=by
 have e:GA (S.map one1) false=.seq S.length (GC (S.map one1)) false:=by simp
 rw[e];exact len_rw h
theorem dlenGA{S:List Int}(h:S.length<9223372036854775808){KD:AV→List Nat→Option (Nat×ABlk)→Prop}:dlen KD false (GA (S.map one1) false)↔KD (.int .i64 ((S.length:Nat):Int)) [] none:=by
 have e:GA (S.map one1) false=.seq S.length (GC (S.map one1)) false:=by simp
 rw[e];simp[dlen,h]
theorem idxGA{S:List Int}{k:IntKind}{m:Nat}(h:m<S.length){K:AV→Prop}:idxAW 1 (GA (S.map one1) false) (.int k (m:Int)) K=K (.cptr ((GC (S.map one1)).drop m)):=by
 have:=idx_map (f:=rR) (l:=S.map one1) (t:=false) (k:=k) (K:=K) (i:=m) (by simpa using h)
 rw[Nat.mul_one]at this;exact this
theorem loadGA{H:AHeap}{S:List Int}{m:Nat}(h:m<S.length){K:AV→Prop}:loadW H none (.cptr ((GC (S.map one1)).drop m)) K=K (rR (one1 (S[m]))):=by
 have:=load_map (f:=rR) (l:=S.map one1) (H:=H) (K:=K) (i:=m) (by simpa using h)
 rw[List.getElem_map]at this;exact this
theorem idxR1{x:Int}{k:IntKind}{K:AV→Prop}:idxAW 2 (rR (one1 x)) (.int k ((0:Nat):Int)) K=K (.cptr (RC (one1 x))):=by
 have:=idx_RC (zs:=one1 x) (t:=false) (k:=k) (i:=0) (K:=K) (by simp[one1])
 simpa using this
theorem loadR1{H:AHeap}{x:Int}{K:AV→Prop}:loadW H (some 2) (.cptr (RC (one1 x))) K=K (RefA x false):=by
 have:=load_RC (zs:=one1 x) (H:=H) (i:=0) (K:=K) (by simp[one1])
 simpa[one1]using this
def MDs(M:AHeap):List Nat→AHeap
 |[]=>M
 |d::D=>(MDs M D).upd d (some (.raw (.deferred (some []))))
def FD(M:AHeap):List Nat→Prop
 |[]=>True
 |d::D=>MDs M D d=none∧FD M D
theorem MDs_le{M:AHeap}: ∀{D:List Nat},FD M D→Le M (MDs M D)
 |[],_=>Le.refl _
 |_::_,h=>le_updO (MDs_le h.2) ((MDs_le h.2).none h.1)
theorem FD_raw{M:AHeap}: ∀{D:List Nat},FD M D→∀d,d∈D→MDs M D d=some (.raw (.deferred (some [])))∧M d=none
 |e::D,h,d,hd=>by
  by_cases x:d=e
  ·subst x;exact⟨upd_same _ _ _,(MDs_le h.2).none h.1⟩
  ·have:=FD_raw h.2 d ((List.mem_cons.1 hd).resolve_left x)
   exact⟨by show(AHeap.upd _ _ _) d=_;rw[upd_other _ _ x];exact this.1,this.2⟩
theorem FD_nodup{M:AHeap}: ∀{D:List Nat},FD M D→D.Nodup
 |[],_=>List.nodup_nil
 |d::D,h=>List.nodup_cons.2 ⟨fun hd=>(by have:=(FD_raw h.2 d hd).1;rw[h.1]at this;cases this),FD_nodup h.2⟩
theorem retN_all{rs:List RV}{Q:AV→AHeap→Prop}{E:Env}: ∀{D:List Nat}{V:AHeap},(∀d,d∈D→V d=some (.raw (.deferred (some []))))→D.Nodup→(∀V',(∀o,o∉D→V' o=V o)→retN rs Q .ret ⟨[],E,V'⟩)→retN rs Q .ret ⟨D,E,V⟩
 |[],V,_,_,h=>h V fun _ _=>rfl
 |d::D,V,hv,hn,h=>by
  obtain⟨n1,n2⟩:=List.nodup_cons.1 hn
  rw[retD_r]
  refine⟨hv d (by simp),retN_all (V:=V.upd d none) (fun e he=>?_) n2 fun V' hV'=>h V' fun o ho=>?_⟩
  ·have x:e≠d:=by rintro rfl;exact n1 he
   rw[upd_other _ _ x];exact hv e (by simp[he])
  ·have x:o≠d:=by rintro rfl;simp at ho
   rw[hV' o (fun hm=>ho (by simp[hm])),upd_other _ _ x]
theorem exactRuns_fn{p:PR}{l:List Int}{stop:Int}(hp:p.ok)(hli: ∀n,n∈l→I64 n)(hll:l.length<9223372036854775808):PFn Tryz.prog 3 [ProgA p,OutsA l false,.int .i64 stop] (.bool true):=by
 intro H Q hq
 refine enter3 (by simp) ?_
 simp(disch:=first|exact Xe|fail)only[ac3,cells_ProgA,↓Xa,Xb,Xc,↓reduceIte,Nat.reduceLT,Nat.reduceEqDiff,Nat.reduceBEq,Nat.reduceLeDiff,Nat.reduceAdd,Nat.reduceMul]
 refine alloc_i fun p1 n1=>?_
 simp(disch:=first|exact Xe|fail)only[↓Xa,Xb,Xc,↓reduceIte,Nat.reduceLT,Nat.reduceEqDiff,Nat.reduceBEq,Nat.reduceLeDiff,Nat.reduceAdd,Nat.reduceMul]
 refine alloc_i fun p2 n2=>?_
 generalize hX1:(ABlk.row 25 0 [.int .i64 p.ins,.int .i64 p.regs,CodeA p.code false,OutsA p.outs false])=X1 at*
 generalize hX2:(ABlk.row 3 0 [.int .i64 stop])=X2 at*
 have G1:((H.upd p1 (some X1)).upd p2 (some X2)) p1=some (.row 25 0 [.int .i64 p.ins,.int .i64 p.regs,CodeA p.code false,OutsA p.outs false]):=by
  rw[upd_other _ _ (Ne.symm (upd_none.1 n2).1),upd_same,hX1]
 have G2:((H.upd p1 (some X1)).upd p2 (some X2)) p2=some (.row 3 0 [.int .i64 stop]):=by rw[upd_same,hX2]
 have hHG:Le H ((H.upd p1 (some X1)).upd p2 (some X2)):=((Le.refl H).updB n1).updB (upd_none.1 n2).2
 generalize hG:((H.upd p1 (some X1)).upd p2 (some X2))=G at*
 simp(disch:=first|exact Xe|fail)only[↓Xa,Xb,Xc,↓reduceIte,Nat.reduceLT,Nat.reduceEqDiff,Nat.reduceBEq,Nat.reduceLeDiff,Nat.reduceAdd,Nat.reduceMul]
 refine alloc_i fun p3 n3=>?_
 have a1:=ne_of_some G1 n3
 have a2:=ne_of_some G2 n3
 simp(disch:=first|exact Xe|fail)only[↓Xa,Xb,Xc,↓reduceIte,Nat.reduceLT,Nat.reduceEqDiff,Nat.reduceBEq,Nat.reduceLeDiff,Nat.reduceAdd,Nat.reduceMul]
 have fin: ∀{M:AHeap}{r:ABlk},Le (G.upd p3 (some r)) M→SetR Q (.bool true) M:=fun{M r} h=>SetR.dropTo (hHG.trans (((Le.refl G).updB n3).trans h)) (SetR.now hq)
 refine live10_fn.call ?_
 simp(disch:=first|exact Xe|fail)only[G1,fold_ProgA,↓Xa,Xb,Xc,↓reduceIte,Nat.reduceLT,Nat.reduceEqDiff,Nat.reduceBEq,Nat.reduceLeDiff,Nat.reduceAdd,Nat.reduceMul]
 refine(long10_fn hp (g:=[]) (gt:=true) (c:=l) (ct:=false) (by simp) (by simp) hll (fun h=>absurd rfl h)).call ?_
 by_cases hlong:longP p [] l.length
 ·simp(disch:=first|exact Xe|fail)only[decide_eq_true hlong,rs3,↓Xa,Xb,Xc,↓reduceIte,Nat.reduceLT,Nat.reduceEqDiff,Nat.reduceBEq,Nat.reduceLeDiff,Nat.reduceAdd,Nat.reduceMul]
  exact fin (Le.refl _)
 have hnl:l.length≤400∧p.code.length≤60:=by unfold longP at hlong;omega
 have hb2: ∀z,z∈l→Bd 2 z:=fun z hz=>Bd.i64 (by have:=hli z hz;unfold I64 at this;omega)
 have hrb:RB4 2 l:=⟨hb2,by omega⟩
 simp(disch:=first|exact Xe|fail)only[decide_eq_false hlong,↓Xa,Xb,Xc,↓reduceIte,Nat.reduceLT,Nat.reduceEqDiff,Nat.reduceBEq,Nat.reduceLeDiff,Nat.reduceAdd,Nat.reduceMul]
 refine(rows10_fn (l:=l) (by omega) hli).call ?_
 simp(disch:=first|exact Xe|fail)only[G1,fold_ProgA,↓Xa,Xb,Xc,↓reduceIte,Nat.reduceLT,Nat.reduceEqDiff,Nat.reduceBEq,Nat.reduceLeDiff,Nat.reduceAdd,Nat.reduceMul]
 have lc:p.code.length<9223372036854775808:=by omega
 have lo:p.outs.length<9223372036854775808:=by have:=hp.2.2.2.2.2;omega
 refine run_call (run10' (p:=p) (cv:=CodeA p.code false) (ov:=OutsA p.outs false) (y:=RowA l false) (xs:=l) (k0:=2) hp (CodeV.seq lc) (OutsV.seq lo) (.inr ⟨_,rfl⟩) hb2 (by omega) (fun _ _=>by omega) ?_)
 intro y M hgy
 have hyo:=RowO.of hgy rfl
 have M1:M p1=some (.row 25 0 [.int .i64 p.ins,.int .i64 p.regs,CodeA p.code false,OutsA p.outs false]):=growC_old hgy (by rw[upd_other _ _ (Ne.symm a1)];exact G1)
 have M2:M p2=some (.row 3 0 [.int .i64 stop]):=growC_old hgy (by rw[upd_other _ _ (Ne.symm a2)];exact G2)
 have M3:M p3=some (.row 4 0 [.bool false]):=growC_old hgy (upd_same _ _ _)
 have finM: ∀{M':AHeap},Le M M'→SetR Q (.bool true) M':=fun{M'} h=>fin ((growC_le hgy).trans h)
 simp(disch:=first|exact Xe|fail)only[M1,fold_ProgA,↓Xa,Xb,Xc,↓reduceIte,Nat.reduceLT,Nat.reduceEqDiff,Nat.reduceBEq,Nat.reduceLeDiff,Nat.reduceAdd,Nat.reduceMul]
 refine trace10_fn.call ?_
 simp(disch:=first|exact Xe|fail)only[M1,fold_ProgA,↓Xa,Xb,Xc,↓reduceIte,Nat.reduceLT,Nat.reduceEqDiff,Nat.reduceBEq,Nat.reduceLeDiff,Nat.reduceAdd,Nat.reduceMul]
 refine(right08_fn p hp).call ?_
 simp(disch:=first|exact Xe|fail)only[pr_feq,feq_fn,↓Xa,Xb,Xc,↓reduceIte,Nat.reduceLT,Nat.reduceEqDiff,Nat.reduceBEq,Nat.reduceLeDiff,Nat.reduceAdd,Nat.reduceMul]
 refine live10_fn.call ?_
 simp(disch:=first|exact Xe|fail)only[↓Xa,Xb,Xc,↓reduceIte,Nat.reduceLT,Nat.reduceEqDiff,Nat.reduceBEq,Nat.reduceLeDiff,Nat.reduceAdd,Nat.reduceMul]
 have hll2:l.length<9223372036854775808:=by omega
 have finH: ∀{M':AHeap},Le H M'→SetR Q (.bool true) M':=fun h=>SetR.dropTo h (SetR.now hq)
 have hHM:Le H M:=hHG.trans (((Le.refl G).updB n3).trans (growC_le hgy))
 have h3:H p3=none:=hHG.none n3
 have hit:=trace1_iter (t:=false) hp hb2 hll2 (fun _ _=>by omega)
 by_cases hr:rightP p∧(l.length:Int)=p.ins
 ·obtain⟨hr1,hr2⟩:=hr
  have hne:decide ((l.length:Int)=p.ins)=true:=decide_eq_true hr2
  have hrr:RB4 2 l:=hrb
  simp(disch:=first|exact Xe|fail)only[M1,len_OutsA hll2,decide_eq_true hr1,neq_int,hne,↓Xa,Xb,Xc,↓reduceIte,Nat.reduceLT,Nat.reduceEqDiff,Nat.reduceBEq,Nat.reduceLeDiff,Nat.reduceAdd,Nat.reduceMul]
  refine W_loop (fun s:Nat×AV×AHeap=>⟨[],[(3,.ptr p1 4 0),(5,.ptr p2 1 0),(6,.ptr p3 1 0),(7,RowA l false),(8,RefR l false),(9,y),(10,.int .i64 (((ans10 p l).2.1:Nat):Int)),(11,.int .i64 (((ans10 p l).2.2:Nat):Int)),(12,.fn (.func 87) [] [.cptr (progC p),.cptr [RowA l false]]),(14,s.2.1),(15,.int .i64 s.1)],s.2.2⟩)
   (fun s=>s.1≤l.length∧growC M 31 1 s.1 ((l.take s.1).map fun x=>.seq 1 [RefB x,RefD x] true) s.2.1 s.2.2) (fun s=>l.length-s.1) (0,.seq 0 [] true,M) (Settle.now rfl) ⟨Nat.zero_le _,growC_nil⟩ ?_
  rintro⟨i,z,N⟩ ⟨g1,g2⟩
  dsimp only at g1 g2 ⊢
  by_cases hi:i<l.length
  ·simp(disch:=first|exact Xe|fail)only[hi,len_rw,idx_RC,load_RC,cells_RefA,repI1,↓Xa,Xb,Xc,↓reduceIte,Nat.reduceLT,Nat.reduceEqDiff,Nat.reduceBEq,Nat.reduceLeDiff,Nat.reduceAdd,Nat.reduceMul]
   refine app_C (m:=1) g2 rfl rfl (by omega) (by omega) (by omega) fun z' N' g3=>?_
   have ea:(l.take (i+1)).map (fun x=>AV.seq 1 [RefB x,RefD x] true)=(l.take i).map (fun x=>AV.seq 1 [RefB x,RefD x] true)++[.seq 1 [RefB (l[i]),RefD (l[i])] true]:=by
    rw[List.take_succ_eq_append_getElem hi,List.map_append];rfl
   simp(disch:=first|exact Xe|fail)only[↓Xa,Xb,Xc,↓reduceIte,Nat.reduceLT,Nat.reduceEqDiff,Nat.reduceBEq,Nat.reduceLeDiff,Nat.reduceAdd,Nat.reduceMul]
   exact Settle.now ⟨(i+1,z',N'),by dsimp only;omega,⟨hi,by dsimp only;rw[ea];exact g3⟩,rfl⟩
  ·obtain rfl:i=l.length:=by omega
   rw[List.take_of_length_le (Nat.le_refl _)]at g2
   simp(disch:=first|exact Xe|fail)only[hi,len_rw,↓Xa,Xb,Xc,↓reduceIte,Nat.reduceLT,Nat.reduceEqDiff,Nat.reduceBEq,Nat.reduceLeDiff,Nat.reduceAdd,Nat.reduceMul]
   refine Settle.grownC 14 rfl g2 (Settle.weak 14 (grid_wk l) ?_)
   refine Settle.now ?_
   have hgg:GoodG 2 1 (l.map one1):=fun r hm=>by
    obtain⟨x,hx,rfl⟩:=List.mem_map.1 hm
    exact⟨rfl,fun z hz=>by simp[one1]at hz;subst hz;exact hb2 _ hx,by simp[one1]⟩
   have hfo:=follow_fn (t:=false) hp hr1 hgg (by simpa using hr2) (by omega) (by omega)
   obtain⟨bad,want,hfa,hcs⟩:=follow_cases hr1 hr2
   rw[hfa]at hfo
   simp(disch:=first|exact Xe|fail)only[M1,fold_ProgA,↓Xa,Xb,Xc,↓reduceIte,Nat.reduceLT,Nat.reduceEqDiff,Nat.reduceBEq,Nat.reduceLeDiff,Nat.reduceAdd,Nat.reduceMul]
   refine hfo.call ?_
   simp(disch:=first|exact Xe|fail)only[↓Xa,Xb,Xc,↓reduceIte,Nat.reduceLT,Nat.reduceEqDiff,Nat.reduceBEq,Nat.reduceLeDiff,Nat.reduceAdd,Nat.reduceMul]
   refine alloc_i fun p16 n16=>?_
   have b1:=ne_of_some M1 n16
   have b2:=ne_of_some M2 n16
   have b3:=ne_of_some M3 n16
   have Mo:Le M (M.upd p16 (some (.row 41 0 [GA ((steps10 p l).map one1) false]))):=(Le.refl M).updB n16
   have N16:(M.upd p16 (some (.row 41 0 [GA ((steps10 p l).map one1) false]))) p16=some (.row 41 0 [GA ((steps10 p l).map one1) false]):=upd_same _ _ _
   simp(disch:=first|exact Xe|fail)only[↓Xa,Xb,Xc,↓reduceIte,Nat.reduceLT,Nat.reduceEqDiff,Nat.reduceBEq,Nat.reduceLeDiff,Nat.reduceAdd,Nat.reduceMul]
   generalize hM6:(M.upd p16 (some (.row 41 0 [GA ((steps10 p l).map one1) false])))=M6 at*
   have N1:=Mo _ _ M1
   have N2:=Mo _ _ M2
   have N3:=Mo _ _ M3
   refine alloc_i fun q0 nq0=>?_
   simp(disch:=first|exact Xe|fail)only[↓Xa,Xb,Xc,↓reduceIte,Nat.reduceLT,Nat.reduceEqDiff,Nat.reduceBEq,Nat.reduceLeDiff,Nat.reduceAdd,Nat.reduceMul]
   generalize hS:steps10 p l=S at*
   have hSl:S.length≤60:=by
    have:(steps10 p l).length≤p.code.length:=runX_len _ _
    rw[hS]at this;omega
   have htx:traceX p l=S.zipIdx:=by rw[traceX,if_pos ⟨hr1,hr2⟩,hS]
   have hSb: ∀z,z∈S→Bd 1000 z:=fun z hz=>by
    rw[← hS]at hz
    refine(runX_bd p.code _ 2 hr1.2.2 (fun y hy=>?_) z hz).mono (by omega)
    rcases List.mem_append.1 hy with hy|hy
    ·exact hb2 y hy
    ·rw[List.mem_replicate]at hy;rw[hy.2];exact Bd.zero _
   refine W_loop (fun s:Nat×Nat×List Nat=>⟨s.2.2,[(5,.ptr p2 1 0),(6,.ptr p3 1 0),(7,RowA l false),(8,RefR l false),(9,y),(10,.int .i64 (((ans10 p l).2.1:Nat):Int)),(11,.int .i64 (((ans10 p l).2.2:Nat):Int)),(12,.fn (.func 87) [] [.cptr (progC p),.cptr [RowA l false]]),(16,.ptr p16 1 0),(17,.int .i64 bad),(18,want),(19,.ptr s.2.1 1 0)],(MDs M6 s.2.2).upd s.2.1 (some (.row 3 0 [.int .i64 s.1]))⟩)
    (fun s=>s.1≤2∧MDs M6 s.2.2 s.2.1=none∧FD M6 s.2.2) (fun s=>2-s.1) (0,q0,[]) (Settle.now rfl) ⟨by dsimp only;omega,nq0,trivial⟩ ?_
   rintro⟨r,q,D⟩ ⟨r1,r2,r3⟩
   dsimp only at r1 r2 r3 ⊢
   have hl7:=MDs_le r3
   obtain⟨M7,h7⟩: ∃M7,M7=MDs M6 D:=⟨_,rfl⟩
   rw[← h7]at hl7 r2 ⊢
   have O2:=hl7 _ _ N2
   have O3:=hl7 _ _ N3
   have O16:=hl7 _ _ N16
   have c1:=ne_of_some O2 r2
   have c3:=ne_of_some O3 r2
   have c16:=ne_of_some O16 r2
   by_cases hr3:r<2
   ·simp(disch:=first|exact Xe|fail)only[hr3,↓Xa,Xb,Xc,↓reduceIte,Nat.reduceLT,Nat.reduceEqDiff,Nat.reduceBEq,Nat.reduceLeDiff,Nat.reduceAdd,Nat.reduceMul]
    refine alloc_i fun w nw=>?_
    have e1:=(upd_none.1 nw).1
    have nw6:=(upd_none.1 nw).2
    have e2:=ne_of_some O2 nw6
    have e3:=ne_of_some O3 nw6
    have e16:=ne_of_some O16 nw6
    simp(disch:=first|exact Xe|fail)only[↓Xa,Xb,Xc,↓reduceIte,Nat.reduceLT,Nat.reduceEqDiff,Nat.reduceBEq,Nat.reduceLeDiff,Nat.reduceAdd,Nat.reduceMul]
    obtain⟨Af,hAf⟩: ∃Af:Nat→AHeap,∀m,Af m=(((nilH.upd p2 (some (.row 3 0 [.int .i64 stop]))).upd p16 (some (.row 41 0 [GA (S.map one1) false]))).upd q (some (.row 3 0 [.int .i64 (r:Int)]))).upd w (some (.row 3 0 [.int .i64 (m:Int)])):=⟨_,fun _=>rfl⟩
    have afw: ∀m,Af m w=some (.row 3 0 [.int .i64 (m:Int)]):=fun m=>by rw[hAf,upd_same]
    have afq: ∀m,Af m q=some (.row 3 0 [.int .i64 (r:Int)]):=fun m=>by rw[hAf,upd_other _ _ (Ne.symm e1),upd_same]
    have af16: ∀m,Af m p16=some (.row 41 0 [GA (S.map one1) false]):=fun m=>by rw[hAf,upd_other _ _ (Ne.symm e16),upd_other _ _ (Ne.symm c16),upd_same]
    have af2: ∀m,Af m p2=some (.row 3 0 [.int .i64 stop]):=fun m=>by rw[hAf,upd_other _ _ (Ne.symm e2),upd_other _ _ (Ne.symm c1),upd_other _ _ (Ne.symm b2),upd_same]
    have afo: ∀m o,o≠w→o≠q→o≠p16→o≠p2→Af m o=none:=fun m o x1 x2 x3 x4=>by rw[hAf,upd_other _ _ x1,upd_other _ _ x2,upd_other _ _ x3,upd_other _ _ x4];rfl
    have afdom: ∀m k o,Af m o=none→Af k o=none:=fun m k o h=>by
     refine afo k o ?_ ?_ ?_ ?_<;>(rintro rfl;simp only[afw,afq,af16,af2]at h;cases h)
    have afup: ∀m k:Nat,(Af m).upd w (some (.row 3 0 [.int .i64 (k:Int)]))=Af k:=fun m k=>by rw[hAf,hAf,upd_upd]
    generalize hHh:((M7.upd q (some (.row 3 0 [.int .i64 (r:Int)]))).upd w (some (.row 3 0 [.int .i64 ((0:Nat):Int)])))=Hh at*
    have hle0:Le (Af 0) Hh:=fun o y ho=>by
     rw[← hHh]
     by_cases x1:o=w
     ·subst x1;rw[afw]at ho;rw[upd_same];exact ho
     rw[upd_other _ _ x1]
     by_cases x2:o=q
     ·subst x2;rw[afq]at ho;rw[upd_same];exact ho
     rw[upd_other _ _ x2]
     by_cases x3:o=p16
     ·subst x3;rw[af16]at ho;rw[← ho];exact O16
     by_cases x4:o=p2
     ·subst x4;rw[af2]at ho;rw[← ho];exact O2
     rw[afo 0 o x1 x2 x3 x4]at ho;cases ho
    have leM: ∀m,Le M7 (Un (Af m) (Mn (Af 0) Hh)):=fun m o y ho=>by
     have x1:o≠w:=by rintro rfl;rw[nw6]at ho;cases ho
     have x2:o≠q:=by rintro rfl;rw[r2]at ho;cases ho
     by_cases x3:o=p16
     ·subst x3;rw[un_at (af16 m)];rw[O16]at ho;exact ho
     by_cases x4:o=p2
     ·subst x4;rw[un_at (af2 m)];rw[O2]at ho;exact ho
     have h0:=afo m o x1 x2 x3 x4
     have h00:=afo 0 o x1 x2 x3 x4
     rw[un_atR h0];unfold Mn;rw[h00,← hHh,upd_other _ _ x1,upd_other _ _ x2];exact ho
    refine rfn_iter hit (fun _=>rfl) (fun pre A=>A=Af pre.length) (fun c A=>c=.exit 6∧r=0∧∃m:Nat,(m:Int)=stop∧A=Af m) (Af 0) (Mn (Af 0) Hh) dj_split (un_split hle0) rfl ?_ ?_ ?_
    ·rintro pre ⟨x,n⟩ rest A B hx hdj rfl R1 k1
     rw[htx]at hx
     obtain⟨hp',he⟩:=en_at hx
     injection he with hx1 hn1
     subst hx1;subst hn1
     simp(disch:=first|exact Xe|fail)only[setps,enX,↓Xa,Xb,Xc,↓reduceIte,Nat.reduceLT,Nat.reduceEqDiff,Nat.reduceBEq,Nat.reduceLeDiff,Nat.reduceAdd,Nat.reduceMul]
     refine alloc_i fun p22 n22=>?_
     simp(disch:=first|exact Xe|fail)only[cells_IntA,↓Xa,Xb,Xc,↓reduceIte,Nat.reduceLT,Nat.reduceEqDiff,Nat.reduceBEq,Nat.reduceLeDiff,Nat.reduceAdd,Nat.reduceMul]
     obtain⟨v1,v2⟩:=un_none.1 n22
     have w2:p22≠p2:=by rintro rfl;rw[af2]at v1;cases v1
     have w16:p22≠p16:=by rintro rfl;rw[af16]at v1;cases v1
     have wq:p22≠q:=by rintro rfl;rw[afq]at v1;cases v1
     have ww:p22≠w:=by rintro rfl;rw[afw]at v1;cases v1
     rw[← un_upd]
     refine k1 _ _ (dj_upd hdj v2) fun R2 B1 k2 hd1=>?_
     have hB22:B1 p22=none:=dj_at hd1 (upd_same _ _ _)
     have hdA:Dj (Af (pre.length+1)) B1:=fun o=>by
      rcases hd1 o with h|h
      ·by_cases e:o=p22
       ·subst e;exact .inl (afdom _ _ _ v1)
       ·rw[upd_other _ _ e]at h;exact .inl (afdom _ _ _ h)
      ·exact .inr h
     have leA:Le (Un (Af (pre.length+1)) B1) ((Un (Af (pre.length+1)) B1).upd p22 (some (.row 48 0 [IntB (S[pre.length]),IntD (S[pre.length])]))):=(Le.refl _).updB (un_none.2 ⟨afdom _ _ _ v1,hB22⟩)
     have eW:(Un ((Af pre.length).upd p22 (some (.row 48 0 [IntB (S[pre.length]),IntD (S[pre.length])]))) B1).upd w (some (.row 3 0 [.int .i64 ((pre.length+1:Nat):Int)]))=(Un (Af (pre.length+1)) B1).upd p22 (some (.row 48 0 [IntB (S[pre.length]),IntD (S[pre.length])])):=by
      rw[un_upd,upd_comm _ _ _ ww,← un_upd,afup]
     have f2:(Un ((Af pre.length).upd p22 (some (.row 48 0 [IntB (S[pre.length]),IntD (S[pre.length])]))) B1) p2=some (.row 3 0 [.int .i64 stop]):=un_at (by rw[upd_other _ _ (Ne.symm w2)];exact af2 _)
     have f16:(Un ((Af pre.length).upd p22 (some (.row 48 0 [IntB (S[pre.length]),IntD (S[pre.length])]))) B1) p16=some (.row 41 0 [GA (S.map one1) false]):=un_at (by rw[upd_other _ _ (Ne.symm w16)];exact af16 _)
     have fq:(Un ((Af pre.length).upd p22 (some (.row 48 0 [IntB (S[pre.length]),IntD (S[pre.length])]))) B1) q=some (.row 3 0 [.int .i64 (r:Int)]):=un_at (by rw[upd_other _ _ (Ne.symm wq)];exact afq _)
     have fw:(Un ((Af pre.length).upd p22 (some (.row 48 0 [IntB (S[pre.length]),IntD (S[pre.length])]))) B1) w=some (.row 3 0 [.int .i64 ((pre.length:Nat):Int)]):=un_at (by rw[upd_other _ _ (Ne.symm ww)];exact afw _)
     have f22:(Un ((Af pre.length).upd p22 (some (.row 48 0 [IntB (S[pre.length]),IntD (S[pre.length])]))) B1) p22=some (.row 48 0 [IntB (S[pre.length]),IntD (S[pre.length])]):=un_at (upd_same _ _ _)
     generalize hG2:Un ((Af pre.length).upd p22 (some (.row 48 0 [IntB (S[pre.length]),IntD (S[pre.length])]))) B1=G2 at*
     have lS:S.length<9223372036854775808:=by omega
     have hge:decide ((S.length:Int)≤((pre.length:Nat):Int))=false:=decide_eq_false (by omega)
     have hne2:decide (((pre.length:Nat):Int)=((pre.length:Nat):Int))=true:=decide_eq_true rfl
     simp(disch:=first|exact Xe|fail)only[f2,f16,fq,fw,f22,neq_int,hne2,geqI,hge,lenGA lS,dlenGA lS,idxGA hp',loadGA hp',idxR1,loadR1,fold_IntA,↓Xa,Xb,Xc,↓reduceIte,Nat.reduceLT,Nat.reduceEqDiff,Nat.reduceBEq,Nat.reduceLeDiff,Nat.reduceAdd,Nat.reduceMul]
     refine(one10_fn false (hSb _ (List.getElem_mem hp')) (by omega)).call ?_
     by_cases hst:r=0∧((pre.length+1:Nat):Int)=stop
     ·obtain⟨rfl,hst⟩:=hst
      have hs1:decide (((pre.length+1:Nat):Int)=stop)=true:=decide_eq_true hst
      simp(disch:=first|exact Xe|fail)only[f2,f16,fq,fw,eql_int,hs1,↓Xa,Xb,Xc,↓reduceIte,Nat.reduceLT,Nat.reduceEqDiff,Nat.reduceBEq,Nat.reduceLeDiff,Nat.reduceAdd,Nat.reduceMul]
      refine k2 (.exit 6) _ ?_
      rw[eW]
      exact Settle.dropTo leA (Settle.now ⟨Af (pre.length+1),hdA,rfl,rfl,rfl,pre.length+1,hst,rfl⟩)
     ·have hs0:decide (((r:Nat):Int)=((0:Nat):Int))=false∨(r=0∧decide (((pre.length+1:Nat):Int)=stop)=false):=by
       by_cases h0:r=0
       ·exact .inr ⟨h0,decide_eq_false fun e=>hst ⟨h0,e⟩⟩
       ·exact .inl (decide_eq_false (by omega))
      have hJ':Af (pre.length+1)=Af (pre++[(S[pre.length],pre.length)]).length:=by simp
      rcases hs0 with hs0|⟨rfl,hs0⟩
      ·simp(disch:=first|exact Xe|fail)only[f2,f16,fq,fw,eql_int,hs0,↓Xa,Xb,Xc,↓reduceIte,Nat.reduceLT,Nat.reduceEqDiff,Nat.reduceBEq,Nat.reduceLeDiff,Nat.reduceAdd,Nat.reduceMul]
       refine k2 .normal _ ?_
       rw[eW]
       exact Settle.dropTo leA (Settle.now ⟨Af (pre.length+1),hdA,rfl,hJ'⟩)
      ·simp(disch:=first|exact Xe|fail)only[f2,f16,fq,fw,eql_int,hs0,↓Xa,Xb,Xc,↓reduceIte,Nat.reduceLT,Nat.reduceEqDiff,Nat.reduceBEq,Nat.reduceLeDiff,Nat.reduceAdd,Nat.reduceMul]
       refine k2 .normal _ ?_
       rw[eW]
       exact Settle.dropTo leA (Settle.now ⟨Af (pre.length+1),hdA,rfl,hJ'⟩)
    ·rintro d A' hd' hA'd hMd rfl
     have hml:(traceX p l).length=S.length:=by rw[htx];simp
     rw[hml]at hA'd ⊢
     have Ud:=un_none.2 ⟨hA'd,hMd⟩
     have M7d:=(leM S.length).none Ud
     have x2:d≠p2:=by rintro rfl;rw[af2]at hA'd;cases hA'd
     have x16:d≠p16:=by rintro rfl;rw[af16]at hA'd;cases hA'd
     have xq:d≠q:=by rintro rfl;rw[afq]at hA'd;cases hA'd
     have xw:d≠w:=by rintro rfl;rw[afw]at hA'd;cases hA'd
     have leV:=(leM S.length).both (p:=d) (x:=some (.raw (.deferred (some []))))
     have g2:((Un (Af S.length) (Mn (Af 0) Hh)).upd d (some (.raw (.deferred (some []))))) p2=some (.row 3 0 [.int .i64 stop]):=by rw[upd_other _ _ (Ne.symm x2)];exact un_at (af2 _)
     have g16:((Un (Af S.length) (Mn (Af 0) Hh)).upd d (some (.raw (.deferred (some []))))) p16=some (.row 41 0 [GA (S.map one1) false]):=by rw[upd_other _ _ (Ne.symm x16)];exact un_at (af16 _)
     have gq:((Un (Af S.length) (Mn (Af 0) Hh)).upd d (some (.raw (.deferred (some []))))) q=some (.row 3 0 [.int .i64 (r:Int)]):=by rw[upd_other _ _ (Ne.symm xq)];exact un_at (afq _)
     have gw:((Un (Af S.length) (Mn (Af 0) Hh)).upd d (some (.raw (.deferred (some []))))) w=some (.row 3 0 [.int .i64 ((S.length:Nat):Int)]):=by rw[upd_other _ _ (Ne.symm xw)];exact un_at (afw _)
     generalize hV:((Un (Af S.length) (Mn (Af 0) Hh)).upd d (some (.raw (.deferred (some [])))))=V at*
     have lS:S.length<9223372036854775808:=by omega
     have hne2:decide (((S.length:Nat):Int)=((S.length:Nat):Int))=true:=decide_eq_true rfl
     simp(disch:=first|exact Xe|fail)only[g2,g16,gq,gw,lenGA lS,neq_int,hne2,↓Xa,Xb,Xc,↓reduceIte,Nat.reduceLT,Nat.reduceEqDiff,Nat.reduceBEq,Nat.reduceLeDiff,Nat.reduceAdd,Nat.reduceMul]
     refine alloc_i fun q' nq'=>?_
     simp(disch:=first|exact Xe|fail)only[↓Xa,Xb,Xc,↓reduceIte,Nat.reduceLT,Nat.reduceEqDiff,Nat.reduceBEq,Nat.reduceLeDiff,Nat.reduceAdd,Nat.reduceMul]
     have nq7:=leV.none nq'
     subst h7
     exact Settle.dropTo leV.both (Settle.now ⟨(r+1,q',d::D),by dsimp only;omega,⟨by dsimp only;omega,nq7,M7d,r3⟩,rfl⟩)
    ·rintro d A' c hd' hA'd hMd ⟨rfl,r0,m,hm,rfl⟩
     simp only[afterQ]
     have Ud:=un_none.2 ⟨hA'd,hMd⟩
     have M7d:=(leM m).none Ud
     have x2:d≠p2:=by rintro rfl;rw[af2]at hA'd;cases hA'd
     have x16:d≠p16:=by rintro rfl;rw[af16]at hA'd;cases hA'd
     have xq:d≠q:=by rintro rfl;rw[afq]at hA'd;cases hA'd
     have xw:d≠w:=by rintro rfl;rw[afw]at hA'd;cases hA'd
     have leV:=(leM m).both (p:=d) (x:=some (.raw (.deferred (some []))))
     have g2:((Un (Af m) (Mn (Af 0) Hh)).upd d (some (.raw (.deferred (some []))))) p2=some (.row 3 0 [.int .i64 stop]):=by rw[upd_other _ _ (Ne.symm x2)];exact un_at (af2 _)
     have g16:((Un (Af m) (Mn (Af 0) Hh)).upd d (some (.raw (.deferred (some []))))) p16=some (.row 41 0 [GA (S.map one1) false]):=by rw[upd_other _ _ (Ne.symm x16)];exact un_at (af16 _)
     have gq:((Un (Af m) (Mn (Af 0) Hh)).upd d (some (.raw (.deferred (some []))))) q=some (.row 3 0 [.int .i64 (r:Int)]):=by rw[upd_other _ _ (Ne.symm xq)];exact un_at (afq _)
     have gw:((Un (Af m) (Mn (Af 0) Hh)).upd d (some (.raw (.deferred (some []))))) w=some (.row 3 0 [.int .i64 ((m:Nat):Int)]):=by rw[upd_other _ _ (Ne.symm xw)];exact un_at (afw _)
     generalize hV:((Un (Af m) (Mn (Af 0) Hh)).upd d (some (.raw (.deferred (some [])))))=V at*
     have lS:S.length<9223372036854775808:=by omega
     have hr0:decide (((r:Nat):Int)=((0:Nat):Int))=true:=decide_eq_true (by omega)
     have hst:decide (((m:Nat):Int)=stop)=true:=decide_eq_true hm
     by_cases hmS:m=S.length
     ·have hne2:decide (((m:Nat):Int)=((S.length:Nat):Int))=true:=decide_eq_true (by rw[hmS])
      simp(disch:=first|exact Xe|fail)only[g2,g16,gq,gw,lenGA lS,neq_int,hne2,↓Xa,Xb,Xc,↓reduceIte,Nat.reduceLT,Nat.reduceEqDiff,Nat.reduceBEq,Nat.reduceLeDiff,Nat.reduceAdd,Nat.reduceMul]
      refine alloc_i fun q' nq'=>?_
      simp(disch:=first|exact Xe|fail)only[↓Xa,Xb,Xc,↓reduceIte,Nat.reduceLT,Nat.reduceEqDiff,Nat.reduceBEq,Nat.reduceLeDiff,Nat.reduceAdd,Nat.reduceMul]
      have nq7:=leV.none nq'
      subst h7
      exact Settle.dropTo leV.both (Settle.now ⟨(r+1,q',d::D),by dsimp only;omega,⟨by dsimp only;omega,nq7,M7d,r3⟩,rfl⟩)
     ·have hne2:decide (((m:Nat):Int)=((S.length:Nat):Int))=false:=decide_eq_false (by omega)
      simp(disch:=first|exact Xe|fail)only[g2,g16,gq,gw,lenGA lS,neq_int,hne2,eql_int,hr0,hst,↓Xa,Xb,Xc,↓reduceIte,Nat.reduceLT,Nat.reduceEqDiff,Nat.reduceBEq,Nat.reduceLeDiff,Nat.reduceAdd,Nat.reduceMul]
      refine alloc_i fun q' nq'=>?_
      simp(disch:=first|exact Xe|fail)only[↓Xa,Xb,Xc,↓reduceIte,Nat.reduceLT,Nat.reduceEqDiff,Nat.reduceBEq,Nat.reduceLeDiff,Nat.reduceAdd,Nat.reduceMul]
      have nq7:=leV.none nq'
      subst h7
      exact Settle.dropTo leV.both (Settle.now ⟨(r+1,q',d::D),by dsimp only;omega,⟨by dsimp only;omega,nq7,M7d,r3⟩,rfl⟩)
   ·obtain rfl:r=2:=by omega
    have hHV:Le H ((M7).upd q (some (.row 3 0 [.int .i64 ((2:Nat):Int)]))):=(hHM.trans (Mo.trans hl7)).updB ((hHM.trans (Mo.trans hl7)).none r2)
    have V3:((M7).upd q (some (.row 3 0 [.int .i64 ((2:Nat):Int)]))) p3=some (.row 4 0 [.bool false]):=by rw[upd_other _ _ (Ne.symm c3)];exact O3
    have hMV:Le M ((M7).upd q (some (.row 3 0 [.int .i64 ((2:Nat):Int)]))):=(Mo.trans hl7).updB ((Mo.trans hl7).none r2)
    have done:retN rs3 Q .ret ⟨D,[(6,.ptr p3 1 0)],((M7).upd q (some (.row 3 0 [.int .i64 ((2:Nat):Int)]))).upd p3 (some (.row 4 0 [.bool true]))⟩:=by
     have hnot: ∀o x,M6 o=some x→o∉D:=fun o x ho hm=>by rw[(FD_raw r3 o hm).2]at ho;cases ho
     refine retN_all (fun d hd=>?_) (FD_nodup r3) fun V' hV'=>?_
     ·obtain⟨y1,y2⟩:=FD_raw r3 d hd
      have x3:d≠p3:=by rintro rfl;rw[N3]at y2;cases y2
      rw[← h7]at y1
      have xq:d≠q:=by rintro rfl;rw[r2]at y1;cases y1
      rw[upd_other _ _ x3,upd_other _ _ xq];exact y1
     ·have V'3:V' p3=some (.row 4 0 [.bool true]):=by rw[hV' p3 (hnot _ _ N3),upd_same]
      have hHV':Le H V':=fun o x ho=>by
       rw[hV' o (hnot _ x (hHM.trans Mo o x ho))];exact le_updO hHV h3 o x ho
      simp(disch:=first|exact Xe|fail)only[V'3,rs3,↓Xa,Xb,Xc,↓reduceIte,Nat.reduceLT,Nat.reduceEqDiff,Nat.reduceBEq,Nat.reduceLeDiff,Nat.reduceAdd,Nat.reduceMul]
      exact finH hHV'
    rcases hcs with⟨s1,rfl,rfl⟩|⟨s1,rfl,rfl⟩
    ·have hans:ans10 p l=(outs10 p l,0,0):=by rw[ans10,if_pos ⟨hr1,hr2⟩,hS,if_neg (by omega)]
     rw[hans]at hyo
     have gm1:decide (((0:Nat):Int)≤ -1)=false:=by decide
     have hol:(outs10 p l).length=p.outs.length:=by simp[outs10]
     have hopos:1≤p.outs.length∧p.outs.length≤128:=by have:=hr1.1;unfold headP at this;omega
     rcases hyo with⟨e0,_⟩|⟨hn0,by2,rfl,hby⟩
     ·have e0':outs10 p l=[]:=e0
      rw[e0']at hol;simp at hol;omega
     generalize hO:outs10 p l=O at*
     have lO:O.length<9223372036854775808:=by omega
     have hOb: ∀z,z∈O→Bd 1000 z:=fun z hz=>by
      rw[← hO]at hz
      obtain⟨o,ho,rfl⟩:=List.mem_map.1 hz
      refine(getD_bd (runX_bd2 p.code _ 2 hr1.2.2 fun y hy=>?_) _).mono (by omega)
      rcases List.mem_append.1 hy with hy|hy
      ·exact hb2 y hy
      ·rw[List.mem_replicate]at hy;rw[hy.2];exact Bd.zero _
     have Vb:=hMV _ _ hby
     have hee:decide (((O.length:Nat):Int)=((O.length:Nat):Int))=true:=decide_eq_true rfl
     simp(disch:=first|exact Xe|fail)only[hr3,↓Xa,Xb,Xc,↓reduceIte,Nat.reduceLT,Nat.reduceEqDiff,Nat.reduceBEq,Nat.reduceLeDiff,Nat.reduceAdd,Nat.reduceMul]
     refine Settle.now ?_
     simp(disch:=first|exact Xe|fail)only[geqI,gm1,hans,neq_int,hee,lenW_own lO,lenGA lO,↓Xa,Xb,Xc,↓reduceIte,Nat.reduceLT,Nat.reduceEqDiff,Nat.reduceBEq,Nat.reduceLeDiff,Nat.reduceAdd,Nat.reduceMul]
     have hOl:(IC O).length=O.length*2:=IC_len O
     refine W_loop (fun i:Nat=>⟨D,[(6,.ptr p3 1 0),(7,RowA l false),(8,RefR l false),(9,.own by2 (O.length*2) 0 O.length false),(18,GA (O.map one1) false),(23,.int .i64 i)],(M7.upd q (some (.row 3 0 [.int .i64 ((2:Nat):Int)])))⟩) (fun i=>i≤O.length) (fun i=>O.length-i) 0 (Settle.now rfl) (Nat.zero_le _) ?_
     rintro i hi0
     by_cases hi:i<O.length
     ·simp(disch:=first|exact Xe|fail)only[hi,lenW_own lO,Vb,idx_own2',hOl,ldP_IC rfl hi,idxGA hi,loadGA hi,idxR1,loadR1,↓Xa,Xb,Xc,↓reduceIte,Nat.reduceLT,Nat.reduceEqDiff,Nat.reduceBEq,Nat.reduceLeDiff,Nat.reduceAdd,Nat.reduceMul]
      refine(one10_fn false (hOb _ (List.getElem_mem hi)) (by omega)).call ?_
      simp(disch:=first|exact Xe|fail)only[↓Xa,Xb,Xc,↓reduceIte,Nat.reduceLT,Nat.reduceEqDiff,Nat.reduceBEq,Nat.reduceLeDiff,Nat.reduceAdd,Nat.reduceMul]
      exact Settle.now ⟨i+1,by omega,hi,rfl⟩
     ·simp(disch:=first|exact Xe|fail)only[hi,lenW_own lO,↓Xa,Xb,Xc,↓reduceIte,Nat.reduceLT,Nat.reduceEqDiff,Nat.reduceBEq,Nat.reduceLeDiff,Nat.reduceAdd,Nat.reduceMul]
      refine Settle.now ?_
      simp(disch:=first|exact Xe|fail)only[↓Xa,Xb,Xc,↓reduceIte,Nat.reduceLT,Nat.reduceEqDiff,Nat.reduceBEq,Nat.reduceLeDiff,Nat.reduceAdd,Nat.reduceMul]
      refine(is10_fn hrb (by omega)).call ?_
      simp(disch:=first|exact Xe|fail)only[V3,rs3,↓Xa,Xb,Xc,↓reduceIte,Nat.reduceLT,Nat.reduceEqDiff,Nat.reduceBEq,Nat.reduceLeDiff,Nat.reduceAdd,Nat.reduceMul]
      exact done
    ·have hans:ans10 p l=([],S.length,20):=by rw[ans10,if_pos ⟨hr1,hr2⟩,hS,if_pos s1]
     have hyo':=hyo
     rw[hans]at hyo'
     have hyl: ∀{K:AV→Prop},lenW false y K=K (.int .i64 ((0:Nat):Int)):=fun{K}=>hyo'.len (by simp)
     have hge:decide (((0:Nat):Int)≤((S.length:Nat):Int))=true:=decide_eq_true (by omega)
     have hee:decide (((S.length:Nat):Int)=((S.length:Nat):Int))=true:=decide_eq_true rfl
     simp(disch:=first|exact Xe|fail)only[hr3,↓Xa,Xb,Xc,↓reduceIte,Nat.reduceLT,Nat.reduceEqDiff,Nat.reduceBEq,Nat.reduceLeDiff,Nat.reduceAdd,Nat.reduceMul]
     refine Settle.now ?_
     simp(disch:=first|exact Xe|fail)only[geqI,hge,hans,hyl,eql_int,hee,V3,rs3,↓Xa,Xb,Xc,↓reduceIte,Nat.reduceLT,Nat.reduceEqDiff,Nat.reduceBEq,Nat.reduceLeDiff,Nat.reduceAdd,Nat.reduceMul]
     exact done
 ·have htx:traceX p l=[]:=by rw[traceX,if_neg hr]
  have hans:ans10 p l=([],0,rgtE p l.length):=by rw[ans10,if_neg hr]
  rw[hans]at hyo
  have hyl: ∀{K:AV→Prop},lenW false y K=K (.int .i64 ((0:Nat):Int)):=fun{K}=>hyo.len (by simp)
  by_cases hrp:rightP p
  ·have hne:decide ((l.length:Int)=p.ins)=false:=decide_eq_false fun e=>hr ⟨hrp,e⟩
   have hre:rgtE p l.length=5:=by rw[rgtE,if_pos hrp,if_neg fun e=>hr ⟨hrp,e⟩]
   simp(disch:=first|exact Xe|fail)only[M1,len_OutsA hll2,decide_eq_true hrp,neq_int,hne,↓Xa,Xb,Xc,↓reduceIte,Nat.reduceLT,Nat.reduceEqDiff,Nat.reduceBEq,Nat.reduceLeDiff,Nat.reduceAdd,Nat.reduceMul]
   refine rfn_iter hit (fun _=>rfl) (fun _ A=>A=nilH) (fun _ _=>False) nilH M dj_nil un_nil.symm rfl ?_ ?_ ?_
   ·intro pre x rest A B hx
    rw[htx]at hx;simp at hx
   ·rintro d A' hd' hA'd hMd rfl
    rw[un_nil]
    have d3:=ne_of_some M3 hMd
    simp(disch:=first|exact Xe|fail)only[hans,hre,hyl,eql_int,M3,d3,rs3,↓Xa,Xb,Xc,↓reduceIte,Nat.reduceLT,Nat.reduceEqDiff,Nat.reduceBEq,Nat.reduceLeDiff,Nat.reduceAdd,Nat.reduceMul]
    exact finH (le_updO (le_updO hHM (hHM.none hMd)) h3)
   ·exact fun _ _ _ _ _ _ h=>h.elim
  ·have hre:rgtE p l.length=80:=by rw[rgtE,if_neg hrp]
   simp(disch:=first|exact Xe|fail)only[M1,decide_eq_false hrp,↓Xa,Xb,Xc,↓reduceIte,Nat.reduceLT,Nat.reduceEqDiff,Nat.reduceBEq,Nat.reduceLeDiff,Nat.reduceAdd,Nat.reduceMul]
   refine rfn_iter hit (fun _=>rfl) (fun _ A=>A=nilH) (fun _ _=>False) nilH M dj_nil un_nil.symm rfl ?_ ?_ ?_
   ·intro pre x rest A B hx
    rw[htx]at hx;simp at hx
   ·rintro d A' hd' hA'd hMd rfl
    rw[un_nil]
    have d3:=ne_of_some M3 hMd
    simp(disch:=first|exact Xe|fail)only[hans,hre,hyl,eql_int,M3,d3,rs3,↓Xa,Xb,Xc,↓reduceIte,Nat.reduceLT,Nat.reduceEqDiff,Nat.reduceBEq,Nat.reduceLeDiff,Nat.reduceAdd,Nat.reduceMul]
    exact finH (le_updO (le_updO hHM (hHM.none hMd)) h3)
   ·exact fun _ _ _ _ _ _ h=>h.elim
theorem exactRuns_law(p:PR)(l:List Int)(stop:Int)(mp:p.ok)(ml: ∀n,n∈l→ -9223372036854775808≤n∧n<9223372036854775808)(ll:l.length<9223372036854775808)(_hs: -9223372036854775808≤stop∧stop<9223372036854775808):
 PFn Tryz.prog 3 [ProgA p,.seq l.length (l.map iA) false,.int .i64 stop] (.bool true):=exactRuns_fn mp ml ll
end Go.Proofs.YtmndejlpfmmaiaaGreatDoor.Fw
