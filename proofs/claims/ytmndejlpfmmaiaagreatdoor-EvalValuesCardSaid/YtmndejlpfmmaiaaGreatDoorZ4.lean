/- The texts Na Fc FwY FwW Fe Kc Kd Ea, joined. -/
import Derived.Test.YtmndejlpfmmaiaaGreatDoorZ3
set_option linter.unusedSimpArgs false
set_option linter.unusedVariables false
namespace Go.Proofs.YtmndejlpfmmaiaaGreatDoor.Ma
def val(B:Nat):List Nat→Nat
 |[]=>0
 |x::r=>x+B*val B r
def Lim(B:Nat)(l:List Nat):Prop:= ∀x,x∈l→x<B
def digs(B:Nat)(n:Nat):List Nat:=if h:n=0∨B<2 then[]else n%B::digs B (n / B)
termination_by n
decreasing_by exact Nat.div_lt_self (by omega) (by omega)
def tr:List Nat→List Nat
 |[]=>[]
 |x::r=>match tr r with
  |[]=>if x=0 then[]else[x]
  |y::t=>x::y::t
theorem zAL(B:Nat):digs B 0=[]:=by rw[digs];simp
theorem zAf{B n:Nat}(hB:2≤B)(hn:0<n):digs B n=n%B::digs B (n / B):=by
 rw[digs,dif_neg (by omega)]
theorem zCb{B n:Nat}(hB:2≤B):digs B n=[]↔n=0:=by
 constructor
 ·intro h
  rcases Nat.eq_zero_or_pos n with e|e
  ·exact e
  ·rw[zAf hB e]at h;cases h
 ·rintro rfl;exact zAL B
theorem Lim.tail{B x:Nat}{l:List Nat}(h:Lim B (x::l)):Lim B l:=fun y hy=>h y (List.mem_cons_of_mem _ hy)
theorem Lim.head{B x:Nat}{l:List Nat}(h:Lim B (x::l)):x<B:=h x (List.mem_cons_self)
theorem Lim.take{B:Nat}{l:List Nat}(h:Lim B l)(n:Nat):Lim B (l.take n):=fun y hy=>h y (List.mem_of_mem_take hy)
theorem Lim.drop{B:Nat}{l:List Nat}(h:Lim B l)(n:Nat):Lim B (l.drop n):=fun y hy=>h y (List.mem_of_mem_drop hy)
theorem Lim.append{B:Nat}{l m:List Nat}(h:Lim B l)(k:Lim B m):Lim B (l++m):=fun y hy=>(List.mem_append.1 hy).elim (h y) (k y)
theorem Lim.getD{B:Nat}{l:List Nat}(hB:0<B)(h:Lim B l)(i:Nat):l.getD i 0<B:=by
 rw[List.getD_eq_getElem?_getD]
 cases e:l[i]? with
 |none=>simpa using hB
 |some x=>exact h x (List.mem_of_getElem? e)
theorem Lim.get{B:Nat}{l:List Nat}(h:Lim B l)(i:Nat)(hi:i<l.length):l[i]<B:=h _ (List.getElem_mem hi)
theorem Lim.nil(B:Nat):Lim B []:=fun _ h=>by cases h
theorem Lim.one{B x:Nat}(h:x<B):Lim B [x]:=fun y hy=>by rw[List.mem_singleton.1 hy];exact h
theorem Lim.cons{B x:Nat}{l:List Nat}(h:x<B)(k:Lim B l):Lim B (x::l):=fun y hy=>(List.mem_cons.1 hy).elim (fun e=>e▸h) (k y)
theorem zAJ{B:Nat}(hB:2≤B)(n:Nat):val B (digs B n)=n:=by
 induction n using Nat.strongRecOn with
 |_ n ih=>
  rcases Nat.eq_zero_or_pos n with e|e
  ·subst e;rw[zAL];rfl
  ·rw[zAf hB e,val,ih _ (Nat.div_lt_self e (by omega))]
   exact Nat.mod_add_div n B
theorem zAG{B:Nat}(hB:2≤B)(n:Nat):Lim B (digs B n):=by
 induction n using Nat.strongRecOn with
 |_ n ih=>
  rcases Nat.eq_zero_or_pos n with e|e
  ·subst e;rw[zAL];exact Lim.nil B
  ·rw[zAf hB e]
   exact Lim.cons (Nat.mod_lt _ (by omega)) (ih _ (Nat.div_lt_self e (by omega)))
theorem zAt{B:Nat}(hB:2≤B): ∀{l:List Nat},Lim B l→tr l=digs B (val B l)
 |[],_=>by rw[val,zAL];rfl
 |x::r,h=>by
  have ih:=zAt hB h.tail
  have hx:=h.head
  rw[val]
  rcases Nat.eq_zero_or_pos (val B r)with e|e
  ·rw[e,zAL]at ih
   rw[tr,ih,e,Nat.mul_zero,Nat.add_zero]
   by_cases h0:x=0
   ·subst h0;simp[zAL]
   ·rw[zAf hB (by omega),Nat.mod_eq_of_lt hx,Nat.div_eq_of_lt hx,zAL];simp[h0]
  ·have h1:digs B (val B r)=val B r%B::digs B (val B r / B):=zAf hB e
   have h2:0<x+B*val B r:=Nat.add_pos_right _ (Nat.mul_pos (by omega) e)
   rw[zAf hB h2,Nat.add_mul_mod_self_left,Nat.mod_eq_of_lt hx,Nat.add_mul_div_left _ _ (by omega),Nat.div_eq_of_lt hx,Nat.zero_add,tr,ih,h1]
theorem zBH(B:Nat): ∀l m:List Nat,val B (l++m)=val B l+B^l.length*val B m
 |[],m=>by simp[val]
 |x::r,m=>by
  simp only[List.cons_append,val,zBH B r m,List.length_cons,Nat.pow_succ]
  rw[Nat.mul_add,Nat.add_assoc,← Nat.mul_assoc B,Nat.mul_comm B (B^r.length)]
theorem zEw(B x:Nat):val B [x]=x:=by simp[val]
theorem zBK(B:Nat)(l:List Nat)(x:Nat):val B (l++[x])=val B l+B^l.length*x:=by rw[zBH,zEw]
theorem zDY(B n:Nat):val B (List.replicate n 0)=0:=by
 induction n with
 |zero=>rfl
 |succ n ih=>rw[List.replicate_succ,val,ih];omega
theorem zIe(B:Nat)(l:List Nat)(n:Nat):val B (l++List.replicate n 0)=val B l:=by rw[zBH,zDY];omega
theorem zB5{B:Nat}(hB:0<B)(n:Nat):Lim B (List.replicate n 0):=fun x hx=>by rw[(List.mem_replicate.1 hx).2];exact hB
theorem zGu(l:List Nat)(i:Nat)(h:i<l.length):l.take (i+1)=l.take i++[l.getD i 0]:=by
 rw[List.take_add_one,List.getD_eq_getElem?_getD,List.getElem?_eq_getElem h];rfl
theorem zAa(B:Nat)(l:List Nat)(i:Nat):val B (l.take (i+1))=val B (l.take i)+B^i*l.getD i 0:=by
 by_cases h:i<l.length
 ·rw[zGu l i h,zBK,List.length_take,Nat.min_eq_left (by omega)]
 ·rw[List.take_of_length_le (by omega),List.take_of_length_le (by omega),List.getD_eq_getElem?_getD,List.getElem?_eq_none (by omega)];simp
theorem zAW(B:Nat)(l:List Nat)(i:Nat)(h:l.length≤i):val B (l.take i)=val B l:=by rw[List.take_of_length_le h]
theorem zCS(B:Nat)(l:List Nat)(i:Nat)(h:i≤l.length):val B l=val B (l.take i)+B^i*val B (l.drop i):=by
 have:=zBH B (l.take i) (l.drop i)
 rwa[List.take_append_drop,List.length_take,Nat.min_eq_left h]at this
theorem zA5{B:Nat}: ∀{l:List Nat},Lim B l→val B l<B^l.length
 |[],_=>by simp[val]
 |x::r,h=>by
  have ih:=zA5 h.tail
  have hx:=h.head
  rw[val,List.length_cons,Nat.pow_succ,Nat.mul_comm (B^r.length) B]
  calc x+B*val B r<B+B*val B r:=by omega
   _=B*(val B r+1):=by rw[Nat.mul_add,Nat.mul_one,Nat.add_comm]
   _≤B*B^r.length:=Nat.mul_le_mul_left _ ih
theorem zAu{B:Nat}(hB:2≤B): ∀(k n:Nat),n<B^k→(digs B n).length≤k
 |0,n,h=>by
  have:n=0:=by simpa using h
  subst this;simp[zAL]
 |k+1,n,h=>by
  rcases Nat.eq_zero_or_pos n with e|e
  ·subst e;simp[zAL]
  ·rw[zAf hB e,List.length_cons]
   have:n / B<B^k:=Nat.div_lt_of_lt_mul (by rw[Nat.mul_comm,← Nat.pow_succ];exact h)
   have:=zAu hB k _ this
   omega
theorem zFn: ∀l:List Nat,(tr l).length≤l.length
 |[]=>by simp[tr]
 |x::r=>by
  have:=zFn r
  rw[tr]
  split
  ·split<;>simp
  ·rename_i y t e;rw[e]at this;simp at this ⊢; omega
theorem zPz: ∀l:List Nat,∃n,l=tr l++List.replicate n 0
 |[]=>⟨0,rfl⟩
 |x::r=>by
  obtain⟨n,h⟩:=zPz r
  rw[tr]
  split
  ·rename_i e
   rw[e,List.nil_append]at h
   split
   ·rename_i h0;exact⟨n+1,by rw[List.replicate_succ,← h,h0];rfl⟩
   ·exact⟨n,by rw[List.singleton_append,← h]⟩
  ·rename_i y t e
   rw[e]at h
   exact⟨n,by rw[List.cons_append,← h]⟩
theorem zGC{l:List Nat}: ∀{n:Nat},n≤l.length→(∀i,n≤i→i<l.length→l.getD i 0=0)→(n=0∨l.getD (n-1) 0≠0)→l.take n=tr l:=by
 induction l with
 |nil=>intro n _ _ _;simp[tr]
 |cons x r ih=>
  intro n hn h0 h1
  cases n with
  |zero=>
   have hr:=ih (n:=0) (Nat.zero_le _) (fun i _ hi=>by have:=h0 (i+1) (by omega) (by simpa using hi);simpa using this) (.inl rfl)
   have hx:x=0:=by have:=h0 0 (by omega) (by simp);simpa using this
   rw[tr,← hr]
   simp[hx]
  |succ m=>
   have h0': ∀i,m≤i→i<r.length→r.getD i 0=0:=fun i hi hl=>by have:=h0 (i+1) (by omega) (by simpa using hl);simpa using this
   cases m with
   |zero=>
    have hr:=ih (n:=0) (Nat.zero_le _) h0' (.inl rfl)
    have hx:x≠0:=by rcases h1 with h|h; · omega
                    ·simpa using h
    rw[tr,← hr]
    simp[hx]
   |succ k=>
    have hk:k+1≤r.length:=by simpa using hn
    have h1':r.getD k 0≠0:=by rcases h1 with h|h; · omega
                              ·simpa using h
    have hr:=ih (n:=k+1) hk h0' (.inr (by simpa using h1'))
    rw[tr,← hr]
    cases r with
    |nil=>simp at hk
    |cons y t=>simp
theorem zBe{B n:Nat}(hB:2≤B)(h:0<n):(digs B n).getD ((digs B n).length-1) 0≠0:=by
 induction n using Nat.strongRecOn with
 |_ n ih=>
  rw[zAf hB h]
  rcases Nat.eq_zero_or_pos (n / B)with e|e
  ·rw[e,zAL]
   simp
   have:=Nat.div_add_mod n B
   rw[e]at this;omega
  ·have:=ih _ (Nat.div_lt_self h (by omega)) e
   have hp:0<(digs B (n / B)).length:=by
    rw[zAf hB e];simp
   rw[List.length_cons]
   rw[show(digs B (n / B)).length+1-1=((digs B (n / B)).length-1)+1 by omega]
   simpa using this
theorem zBw{B:Nat}{l m:List Nat}(hl:Lim B l)(hB:0<B)(i:Nat)(hi:i<l.length)(he:l.length=m.length)(hd:l.drop (i+1)=m.drop (i+1))(h:l.getD i 0<m.getD i 0):val B l<val B m:=by
 rw[zCS B l (i+1) (by omega),zCS B m (i+1) (by omega),hd,zAa,zAa]
 have h1:val B (l.take i)<B^i:=by
  have:=zA5 (hl.take i)
  rwa[List.length_take,Nat.min_eq_left (by omega)]at this
 have h2:B^i*l.getD i 0+B^i≤B^i*m.getD i 0:=by
  rw[← Nat.mul_succ];exact Nat.mul_le_mul_left _ h
 omega
theorem zBL{B a b:Nat}(hB:2≤B)(h:(digs B a).length<(digs B b).length):a<b:=by
 apply Nat.lt_of_not_le
 intro hle
 rcases Nat.eq_zero_or_pos b with e|e
 ·subst e;rw[zAL]at h;simp at h
 ·have h1:a<B^(digs B a).length:=by
   have:=zA5 (zAG hB a);rwa[zAJ hB]at this
  have h2:=zAu hB (digs B a).length b (by omega)
  omega
theorem zE1{P B s d c A:Nat}(h:A+P*s=d):A+P*(s%B)+P*B*(s / B)=d:=by
 rw[Nat.mul_assoc,Nat.add_assoc,← Nat.mul_add,Nat.mod_add_div];exact h
theorem zJs(l:List Nat)(n i x:Nat)(hi:l.length=i)(hn:0<n):(l++List.replicate n 0).set i x=(l++[x])++List.replicate (n-1) 0:=by
 subst hi
 obtain⟨k,rfl⟩: ∃k,n=k+1:=⟨n-1,by omega⟩
 rw[List.set_append_right _ _ (Nat.le_refl _),Nat.sub_self,List.replicate_succ,List.set_cons_zero,List.append_assoc]
 rfl
theorem zCI(l:List Nat)(N i x:Nat)(hi:l.length=i)(hn:i<N):(l++List.replicate (N-i) 0).set i x=(l++[x])++List.replicate (N-(i+1)) 0:=by
 rw[zJs l _ i x hi (by omega),Nat.sub_sub]
theorem zBa{B x:Nat}{l:List Nat}(h:Lim B l)(hx:x<B):Lim B (l++[x]):=h.append (Lim.one hx)
end Go.Proofs.YtmndejlpfmmaiaaGreatDoor.Ma
namespace Go.Proofs.YtmndejlpfmmaiaaGreatDoor.Ma
theorem zAk{l:List Nat}{i:Nat}(h:l.length≤i):l.getD i 0=0:=by rw[List.getD_eq_getElem?_getD,List.getElem?_eq_none h];rfl
def AddI(a b:List Nat)(i c:Nat)(done:List Nat):Prop:=
 done.length=i∧Lim 4294967296 done∧c≤1∧val 4294967296 done+4294967296^i*c=val 4294967296 (a.take i)+val 4294967296 (b.take i)
theorem AddI.zero(a b:List Nat):AddI a b 0 0 []:=⟨rfl,Lim.nil _,by omega,by simp[val]⟩
theorem AddI.step{a b done:List Nat}{i c s:Nat}(h:AddI a b i c done)(ha:Lim 4294967296 a)(hb:Lim 4294967296 b)(hs:s=c+a.getD i 0+b.getD i 0):AddI a b (i+1) (s / 2^32) (done++[s%4294967296]):=by
 obtain⟨h2,h3,h4,h5⟩:=h
 have hx:=ha.getD (by omega) i
 have hy:=hb.getD (by omega) i
 refine⟨by simp[h2],zBa h3 (Nat.mod_lt _ (by omega)),by omega,?_⟩
 show val 4294967296 (done++[s%4294967296])+4294967296^(i+1)*(s / 4294967296)=_
 rw[zBK,h2,Nat.pow_succ,zE1 (B:=4294967296) (c:=0) rfl,zAa,zAa,hs,Nat.mul_add,Nat.mul_add,← Nat.add_assoc,← Nat.add_assoc,h5]
 omega
theorem AddI.end{a b done:List Nat}{c:Nat}(h:AddI a b a.length c done)(hab:b.length≤a.length):tr (done++[c])=digs 4294967296 (val 4294967296 a+val 4294967296 b):=by
 obtain⟨h2,h3,h4,h5⟩:=h
 rw[zAt (by omega) (zBa h3 (by omega)),zBK,h2,h5,zAW _ _ _ (Nat.le_refl _),zAW _ _ _ hab]
def SubI(a b:List Nat)(i c:Nat)(done:List Nat):Prop:=
 done.length=i∧Lim 4294967296 done∧c≤1∧val 4294967296 done+val 4294967296 (b.take i)=val 4294967296 (a.take i)+4294967296^i*c
theorem SubI.zero(a b:List Nat):SubI a b 0 0 []:=⟨rfl,Lim.nil _,by omega,by simp[val]⟩
theorem SubI.step{a b done:List Nat}{i c y d:Nat}(h:SubI a b i c done)(ha:Lim 4294967296 a)(hb:Lim 4294967296 b)(hy:y=c+b.getD i 0)(hd:d=(a.getD i 0+18446744073709551616-y)%18446744073709551616):
 SubI a b (i+1) (d / 2^32%2) (done++[d%4294967296]):=by
 obtain⟨h2,h3,h4,h5⟩:=h
 have hx:=ha.getD (by omega) i
 have hy':=hb.getD (by omega) i
 refine⟨by simp[h2],zBa h3 (Nat.mod_lt _ (by omega)),by omega,?_⟩
 have key:d%4294967296+y=a.getD i 0+4294967296*(d / 2^32%2):=by omega
 rw[zBK,h2,zAa,zAa,Nat.pow_succ]
 have e:4294967296^i*(d%4294967296)+4294967296^i*y=4294967296^i*a.getD i 0+4294967296^i*4294967296*(d / 2^32%2):=by
  rw[← Nat.mul_add,key,Nat.mul_add,Nat.mul_assoc]
 rw[hy,Nat.mul_add]at e
 omega
theorem SubI.end{a b done:List Nat}{c:Nat}(h:SubI a b a.length c done)(ha:Lim 4294967296 a)(hab:val 4294967296 b≤val 4294967296 a):tr done=digs 4294967296 (val 4294967296 a-val 4294967296 b):=by
 obtain⟨h2,h3,h4,h5⟩:=h
 have hlt:=zA5 h3
 rw[h2]at hlt
 rw[zAW _ a _ (Nat.le_refl _)]at h5
 have hb':val 4294967296 (b.take a.length)=val 4294967296 b:=by
  by_cases hl:b.length≤a.length
  ·exact zAW _ _ _ hl
  ·have h6:=zCS 4294967296 b a.length (by omega)
   have h7:=zA5 ha
   rcases Nat.eq_zero_or_pos (val 4294967296 (b.drop a.length))with e|e
   ·rw[e]at h6;omega
   ·have:4294967296^a.length*1≤4294967296^a.length*val 4294967296 (b.drop a.length):=Nat.mul_le_mul_left _ e
    omega
 rw[hb']at h5
 have hc:c=0:=by
  rcases Nat.eq_zero_or_pos c with e|e
  ·exact e
  ·have:c=1:=by omega
   subst this
   have:=zA5 ha
   omega
 subst hc
 rw[zAt (by omega) h3]
 congr 1;omega
def MulI(a b:List Nat)(i:Nat)(out:List Nat):Prop:=
 out.length=a.length+b.length∧Lim 4294967296 out∧val 4294967296 out=val 4294967296 (a.take i)*val 4294967296 b∧∀j,i+b.length≤j→out.getD j 0=0
def MulK(a b:List Nat)(i k c:Nat)(out:List Nat):Prop:=
 out.length=a.length+b.length∧Lim 4294967296 out∧c<4294967296∧val 4294967296 out+4294967296^(i+k)*c=val 4294967296 (a.take i)*val 4294967296 b+4294967296^i*(a.getD i 0*val 4294967296 (b.take k))∧∀j,i+b.length≤j→out.getD j 0=0
theorem zEv{B:Nat}: ∀{l:List Nat}{i:Nat}(x:Nat),i<l.length→val B (l.set i x)+B^i*l.getD i 0=val B l+B^i*x
 |[],i,x,h=>by simp at h
 |y::r,0,x,_=>by simp[val];omega
 |y::r,i+1,x,h=>by
  have ih:=zEv (B:=B) (l:=r) (i:=i) x (by simpa using h)
  simp only[List.set_cons_succ,val,Nat.pow_succ]
  rw[show(y::r).getD (i+1) 0=r.getD i 0 by simp]
  have e:B*(val B (r.set i x)+B^i*r.getD i 0)=B*(val B r+B^i*x):=by rw[ih]
  rw[Nat.mul_add,Nat.mul_add,← Nat.mul_assoc,← Nat.mul_assoc,Nat.mul_comm B (B^i)]at e
  omega
theorem zCy{B:Nat}{l:List Nat}(h:Lim B l)(i x:Nat)(hx:x<B):Lim B (l.set i x):=fun y hy=>by
 rcases List.mem_or_eq_of_mem_set hy with h1|h1
 ·exact h y h1
 ·rw[h1];exact hx
theorem zBT{l:List Nat}{i j x:Nat}:(l.set i x).getD j 0=if i=j∧j<l.length then x else l.getD j 0:=by
 rw[List.getD_eq_getElem?_getD,List.getElem?_set,List.getD_eq_getElem?_getD]
 by_cases e:i=j
 ·subst e
  by_cases h:i<l.length
  ·simp[h]
  ·simp[h]
 ·simp[e]
theorem MulI.zero(a b:List Nat):MulI a b 0 (List.replicate (a.length+b.length) 0):=
 ⟨by simp,zB5 (by omega) _,by rw[zDY];simp[val],fun j _=>by
  rw[List.getD_eq_getElem?_getD,List.getElem?_replicate];split<;>rfl⟩
theorem MulK.start{a b out:List Nat}{i:Nat}(h:MulI a b i out):MulK a b i 0 0 out:=by
 obtain⟨h1,h2,h3,h4⟩:=h
 exact⟨h1,h2,by omega,by simp[val,h3],h4⟩
theorem zOS{x y c o:Nat}(hx:x<4294967296)(hy:y<4294967296)(hc:c<4294967296)(ho:o<4294967296):c+(x*y+o)<18446744073709551616:=by
 have:x*y≤4294967295*4294967295:=Nat.mul_le_mul (by omega) (by omega)
 omega
theorem MulK.step{a b out:List Nat}{i k c s:Nat}(h:MulK a b i k c out)(hi:i<a.length)(hk:k<b.length)(ha:Lim 4294967296 a)(hb:Lim 4294967296 b)(hs:s=c+(a.getD i 0*b.getD k 0+out.getD (i+k) 0)):
 MulK a b i (k+1) (s / 2^32) (out.set (i+k) (s%4294967296)):=by
 obtain⟨h1,h2,h3,h4,h5⟩:=h
 have hs2:s<18446744073709551616:=hs▸zOS (ha.getD (by omega) i) (hb.getD (by omega) k) h3 (h2.getD (by omega) _)
 refine⟨by simpa using h1,zCy h2 _ _ (Nat.mod_lt _ (by omega)),by omega,?_,fun j hj=>?_⟩
 ·have e:=zEv (B:=4294967296) (l:=out) (i:=i+k) (s%4294967296) (by omega)
  rw[zAa,show(2:Nat)^32=4294967296 from rfl]
  have e2:4294967296^(i+k)*(s%4294967296)+4294967296^(i+(k+1))*(s / 4294967296)=4294967296^(i+k)*s:=by
   rw[← Nat.add_assoc,Nat.pow_succ,Nat.mul_assoc,← Nat.mul_add,Nat.mod_add_div]
  have e3:4294967296^(i+k)*s=4294967296^(i+k)*c+(4294967296^i*(a.getD i 0*(4294967296^k*b.getD k 0))+4294967296^(i+k)*out.getD (i+k) 0):=by
   rw[hs,Nat.mul_add,Nat.mul_add,Nat.pow_add]
   congr 2
   rw[Nat.mul_assoc,Nat.mul_left_comm (4294967296^k)]
  rw[Nat.mul_add (a.getD i 0),Nat.mul_add (4294967296^i)]
  omega
 ·rw[zBT,if_neg (by omega)];exact h5 j hj
theorem MulK.end{a b out:List Nat}{i c:Nat}(h:MulK a b i b.length c out)(hi:i<a.length):MulI a b (i+1) (out.set (i+b.length) c):=by
 obtain⟨h1,h2,h3,h4,h5⟩:=h
 refine⟨by simpa using h1,zCy h2 _ _ h3,?_,fun j hj=>?_⟩
 ·have e:=zEv (B:=4294967296) (l:=out) (i:=i+b.length) c (by omega)
  rw[h5 _ (Nat.le_refl _),Nat.mul_zero,Nat.add_zero]at e
  rw[zAW 4294967296 b _ (Nat.le_refl _)]at h4
  rw[e,h4,zAa,Nat.add_mul,Nat.mul_assoc]
 ·rw[zBT,if_neg (by omega)];exact h5 j (by omega)
theorem MulI.end{a b out:List Nat}(h:MulI a b a.length out):tr out=digs 4294967296 (val 4294967296 a*val 4294967296 b):=by
 obtain⟨h1,h2,h3,_⟩:=h
 rw[zAt (by omega) h2,h3,zAW _ _ _ (Nat.le_refl _)]
def DivI(a:List Nat)(d k r:Nat)(out:List Nat):Prop:=
 out.length=a.length∧Lim 4294967296 out∧r<d∧val 4294967296 (a.drop k)=val 4294967296 (out.drop k)*d+r
theorem DivI.zero(a:List Nat){d:Nat}(hd:0<d):DivI a d a.length 0 (List.replicate a.length 0):=
 ⟨by simp,zB5 (by omega) _,hd,by rw[List.drop_of_length_le (Nat.le_refl _),List.drop_of_length_le (by simp)];simp[val]⟩
theorem zBh(B:Nat){l:List Nat}{k:Nat}(h:k<l.length):val B (l.drop k)=l.getD k 0+B*val B (l.drop (k+1)):=by
 rw[List.drop_eq_getElem_cons h,val,List.getD_eq_getElem?_getD,List.getElem?_eq_getElem h];rfl
theorem zIE(l:List Nat)(k x:Nat):(l.set k x).drop (k+1)=l.drop (k+1):=by
 apply List.ext_getElem?
 intro i
 rw[List.getElem?_drop,List.getElem?_drop,List.getElem?_set_ne (by omega)]
theorem DivI.step{a out:List Nat}{d k r s:Nat}(h:DivI a d (k+1) r out)(hk:k<a.length)(ha:Lim 4294967296 a)(hd:d<4294967296)(hs:s=r*2^32+a.getD k 0):
 DivI a d k (s%d) (out.set k (s / d%4294967296)):=by
 obtain⟨h1,h2,h3,h4⟩:=h
 have hx:=ha.getD (by omega) k
 have hq:s / d<4294967296:=by
  apply Nat.div_lt_of_lt_mul
  rw[hs]
  have:r+1≤d:=h3
  have:(r+1)*4294967296≤d*4294967296:=Nat.mul_le_mul_right _ this
  omega
 refine⟨by simpa using h1,zCy h2 _ _ (Nat.mod_lt _ (by omega)),Nat.mod_lt _ (by omega),?_⟩
 rw[Nat.mod_eq_of_lt hq,zBh _ hk,h4,zBh _ (show k<(out.set k (s / d)).length by simp;omega),zIE,zBT,if_pos ⟨rfl,by omega⟩]
 have e:=Nat.div_add_mod s d
 rw[Nat.add_mul,Nat.mul_comm (s / d) d,Nat.mul_add,Nat.mul_assoc]
 omega
theorem DivI.end{a out:List Nat}{d r:Nat}(h:DivI a d 0 r out):tr out=digs 4294967296 (val 4294967296 a / d)∧r=val 4294967296 a%d:=by
 obtain⟨h1,h2,h3,h4⟩:=h
 rw[List.drop_zero,List.drop_zero]at h4
 rw[zAt (by omega) h2,h4,Nat.mul_comm,Nat.mul_add_div (by omega),Nat.mul_add_mod,Nat.div_eq_of_lt h3,Nat.mod_eq_of_lt h3,Nat.add_zero]
 exact⟨rfl,rfl⟩
end Go.Proofs.YtmndejlpfmmaiaaGreatDoor.Ma
namespace Go.Proofs.YtmndejlpfmmaiaaGreatDoor.Ma
def MulJ(a b:List Nat)(i:Nat)(out:List Nat):Prop:=
 out.length=a.length+b.length+1∧Lim 65536 out∧val 65536 out=val 65536 (a.take i)*val 65536 b∧∀j,i+b.length≤j→out.getD j 0=0
def MulH(a b:List Nat)(i k c:Nat)(out:List Nat):Prop:=
 out.length=a.length+b.length+1∧Lim 65536 out∧c<65536∧val 65536 out+65536^(i+k)*c=val 65536 (a.take i)*val 65536 b+65536^i*(a.getD i 0*val 65536 (b.take k))∧∀j,i+b.length≤j→out.getD j 0=0
theorem MulJ.zero(a b:List Nat):MulJ a b 0 (List.replicate (a.length+b.length+1) 0):=
 ⟨by simp,zB5 (by omega) _,by rw[zDY];simp[val],fun j _=>by
  rw[List.getD_eq_getElem?_getD,List.getElem?_replicate];split<;>rfl⟩
theorem MulH.start{a b out:List Nat}{i:Nat}(h:MulJ a b i out):MulH a b i 0 0 out:=by
 obtain⟨h1,h2,h3,h4⟩:=h
 exact⟨h1,h2,by omega,by simp[val,h3],h4⟩
theorem zKV{x y c o:Nat}(hx:x<65536)(hy:y<65536)(hc:c<65536)(ho:o<65536):c+(x*y+o)<4294967296:=by
 have:x*y≤65535*65535:=Nat.mul_le_mul (by omega) (by omega)
 omega
theorem MulH.step{a b out:List Nat}{i k c s:Nat}(h:MulH a b i k c out)(hi:i<a.length)(hk:k<b.length)(ha:Lim 65536 a)(hb:Lim 65536 b)(hs:s=c+(a.getD i 0*b.getD k 0+out.getD (i+k) 0)):
 MulH a b i (k+1) (s / 65536) (out.set (i+k) (s%65536)):=by
 obtain⟨h1,h2,h3,h4,h5⟩:=h
 have hs2:s<4294967296:=hs▸zKV (ha.getD (by omega) i) (hb.getD (by omega) k) h3 (h2.getD (by omega) _)
 refine⟨by simpa using h1,zCy h2 _ _ (Nat.mod_lt _ (by omega)),by omega,?_,fun j hj=>?_⟩
 ·have e:=zEv (B:=65536) (l:=out) (i:=i+k) (s%65536) (by omega)
  rw[zAa]
  have e2:65536^(i+k)*(s%65536)+65536^(i+(k+1))*(s / 65536)=65536^(i+k)*s:=by
   rw[← Nat.add_assoc,Nat.pow_succ,Nat.mul_assoc,← Nat.mul_add,Nat.mod_add_div]
  have e3:65536^(i+k)*s=65536^(i+k)*c+(65536^i*(a.getD i 0*(65536^k*b.getD k 0))+65536^(i+k)*out.getD (i+k) 0):=by
   rw[hs,Nat.mul_add,Nat.mul_add,Nat.pow_add]
   congr 2
   rw[Nat.mul_assoc,Nat.mul_left_comm (65536^k)]
  rw[Nat.mul_add (a.getD i 0),Nat.mul_add (65536^i)]
  omega
 ·rw[zBT,if_neg (by omega)];exact h5 j hj
theorem MulH.end{a b out:List Nat}{i c:Nat}(h:MulH a b i b.length c out)(hi:i<a.length):MulJ a b (i+1) (out.set (i+b.length) c):=by
 obtain⟨h1,h2,h3,h4,h5⟩:=h
 refine⟨by simpa using h1,zCy h2 _ _ h3,?_,fun j hj=>?_⟩
 ·have e:=zEv (B:=65536) (l:=out) (i:=i+b.length) c (by omega)
  rw[h5 _ (Nat.le_refl _),Nat.mul_zero,Nat.add_zero]at e
  rw[zAW 65536 b _ (Nat.le_refl _)]at h4
  rw[e,h4,zAa,Nat.add_mul,Nat.mul_assoc]
 ·rw[zBT,if_neg (by omega)];exact h5 j (by omega)
theorem MulJ.end{a b out:List Nat}(h:MulJ a b a.length out):tr out=digs 65536 (val 65536 a*val 65536 b):=by
 obtain⟨h1,h2,h3,_⟩:=h
 rw[zAt (by omega) h2,h3,zAW _ _ _ (Nat.le_refl _)]
theorem zE4{B:Nat}(hB:2≤B){l:List Nat}(h:Lim B l)(h0:l=[]∨l.getD (l.length-1) 0≠0):l=digs B (val B l):=by
 have:=zGC (l:=l) (n:=l.length) (Nat.le_refl _) (fun i h1 h2=>by omega) (by
  rcases h0 with e|e
  ·left;rw[e];rfl
  ·exact .inr e)
 rw[List.take_of_length_le (Nat.le_refl _)]at this
 rw[← zAt hB h];exact this
def pad(B n k:Nat):List Nat:=digs B n++List.replicate (k-(digs B n).length) 0
theorem zWq{B:Nat}(hB:2≤B){l:List Nat}(h:Lim B l):l=pad B (val B l) l.length:=by
 obtain⟨j,e⟩:=zPz l
 unfold pad
 rw[← zAt hB h]
 have:j=l.length-(tr l).length:=by
  have:=congrArg List.length e
  simp at this;omega
 rw[← this];exact e
theorem zDP{B n k:Nat}(hB:2≤B):Lim B (pad B n k):=(zAG hB n).append (zB5 (by omega) _)
theorem zFE{B n k:Nat}(hB:2≤B):val B (pad B n k)=n:=by unfold pad;rw[zIe,zAJ hB]
theorem zD8{B n k:Nat}(h:(digs B n).length≤k):(pad B n k).length=k:=by unfold pad;simp;omega
def MakeI(l:List Nat)(i:Nat)(done:List Nat):Prop:=done.length=2*i∧Lim 65536 done∧val 65536 done=val 4294967296 (l.take i)
theorem MakeI.zero(l:List Nat):MakeI l 0 []:=⟨rfl,Lim.nil _,by simp[val]⟩
theorem MakeI.step{l done:List Nat}{i:Nat}(h:MakeI l i done)(hl:Lim 4294967296 l):MakeI l (i+1) (done++[l.getD i 0%65536,l.getD i 0 / 65536]):=by
 obtain⟨h1,h2,h3⟩:=h
 have hx:=hl.getD (by omega) i
 refine⟨by simp[h1];omega,h2.append (Lim.cons (Nat.mod_lt _ (by omega)) (Lim.one (by omega))),?_⟩
 rw[zBH,h3,h1,zAa,Nat.pow_mul]
 congr 2
 simp only[val]
 omega
def LimbsI(d:List Nat)(k:Nat)(done:List Nat):Prop:=done.length=k∧Lim 4294967296 done∧val 4294967296 done=val 65536 (d.take (2*k))∧∀j,j<k→done.getD j 0=d.getD (2*j) 0+65536*d.getD (2*j+1) 0
theorem LimbsI.zero(d:List Nat):LimbsI d 0 []:=⟨rfl,Lim.nil _,by simp[val],fun j h=>by omega⟩
theorem zEi(l:List Nat)(x j:Nat):(l++[x]).getD j 0=if j<l.length then l.getD j 0 else if j=l.length then x else 0:=by
 rw[List.getD_eq_getElem?_getD,List.getElem?_append]
 split
 ·rfl
 ·split
  ·rename_i h;subst h;simp
  ·rw[List.getElem?_eq_none (by simp;omega)];rfl
theorem LimbsI.step{d done:List Nat}{k x:Nat}(h:LimbsI d k done)(hd:Lim 65536 d)(hx:x=d.getD (2*k) 0+65536*d.getD (2*k+1) 0):LimbsI d (k+1) (done++[x]):=by
 obtain⟨h1,h2,h3,h4⟩:=h
 have a:=hd.getD (by omega) (2*k)
 have b:=hd.getD (by omega) (2*k+1)
 refine⟨by simp[h1],zBa h2 (by omega),?_,fun j hj=>?_⟩
 ·rw[zBK,h3,h1,show 2*(k+1)=2*k+1+1 by omega,zAa,zAa,hx,Nat.pow_succ,Nat.pow_mul,Nat.mul_add,Nat.mul_assoc,Nat.add_assoc]
 ·rw[zEi]
  by_cases e:j<done.length
  ·rw[if_pos e];exact h4 j (by omega)
  ·rw[if_neg e,if_pos (by omega),hx,show j=k by omega]
theorem LimbsI.end{n k:Nat}{done:List Nat}(h:LimbsI (digs 65536 n) k done)(h0:(digs 65536 n).length≤2*k)(h1:2*k≤(digs 65536 n).length+1):done=digs 4294967296 n:=by
 obtain⟨g1,g2,g3,g4⟩:=h
 have e:val 4294967296 done=n:=by rw[g3,zAW _ _ _ h0,zAJ (by omega)]
 rw[← e]
 rcases Nat.eq_zero_or_pos n with hz|hz
 ·subst hz
  rw[zAL]at h1
  have:done=[]:=List.eq_nil_of_length_eq_zero (by simp at h1;omega)
  subst this;simp[val,zAL]
 ·refine zE4 (by omega) g2 (.inr ?_)
  have hl:=zBe (B:=65536) (by omega) hz
  have hp:0<(digs 65536 n).length:=by rw[zAf (by omega) hz];simp
  rw[g4 _ (by omega)]
  rw[g1]
  rcases Nat.lt_or_ge ((digs 65536 n).length-1) (2*(k-1)+1)with h|h
  ·rw[show(digs 65536 n).length-1=2*(k-1) by omega]at hl;omega
  ·rw[show(digs 65536 n).length-1=2*(k-1)+1 by omega]at hl;omega
def PlusI(a b:List Nat)(i c:Nat)(done:List Nat):Prop:=
 done.length=i∧Lim 65536 done∧c≤1∧val 65536 done+65536^i*c=val 65536 (a.take i)+val 65536 (b.take i)∧(a.length≤i→b.length≤i→c=0→done=[]∨done.getD (i-1) 0≠0)
theorem PlusI.zero(a b:List Nat):PlusI a b 0 0 []:=⟨rfl,Lim.nil _,by omega,by simp[val],fun _ _ _=>.inl rfl⟩
theorem PlusI.step{m n i c s:Nat}{done:List Nat}(h:PlusI (digs 65536 m) (digs 65536 n) i c done)(hc:i<(digs 65536 m).length∨i<(digs 65536 n).length∨0<c)(hs:s=c+(digs 65536 m).getD i 0+(digs 65536 n).getD i 0):
 PlusI (digs 65536 m) (digs 65536 n) (i+1) (s / 65536) (done++[s%65536]):=by
 obtain⟨h1,h2,h3,h4,h5⟩:=h
 have ha:=(zAG (B:=65536) (by omega) m).getD (by omega) i
 have hb:=(zAG (B:=65536) (by omega) n).getD (by omega) i
 refine⟨by simp[h1],zBa h2 (Nat.mod_lt _ (by omega)),by omega,?_,fun g1 g2 g3=>.inr ?_⟩
 ·rw[zBK,h1,Nat.pow_succ,zE1 (B:=65536) (c:=0) rfl,zAa,zAa,hs,Nat.mul_add,Nat.mul_add,← Nat.add_assoc,← Nat.add_assoc,h4]
  omega
 ·rw[zEi,if_neg (by omega),if_pos (by omega)]
  have top: ∀p,i<(digs 65536 p).length→(digs 65536 p).length≤i+1→(digs 65536 p).getD i 0≠0:=by
   intro p q1 q2
   have hp:0<p:=by rcases Nat.eq_zero_or_pos p with e|e; · subst e;rw[zAL]at q1;simp at q1
                   ·exact e
   have:=zBe (B:=65536) (by omega) hp
   rwa[show(digs 65536 p).length-1=i by omega]at this
  rcases hc with q|q|q
  ·have:=top m q g1;omega
  ·have:=top n q g2;omega
  ·omega
theorem PlusI.end{m n i:Nat}{done:List Nat}(h:PlusI (digs 65536 m) (digs 65536 n) i 0 done)(ha:(digs 65536 m).length≤i)(hb:(digs 65536 n).length≤i):done=digs 65536 (m+n):=by
 obtain⟨h1,h2,h3,h4,h5⟩:=h
 rw[zAW _ _ _ ha,zAW _ _ _ hb,zAJ (by omega),zAJ (by omega),Nat.mul_zero,Nat.add_zero]at h4
 rw[← h4]
 refine zE4 (by omega) h2 ?_
 rw[h1];exact h5 ha hb rfl
def MinI(a b:List Nat)(i c:Nat)(done:List Nat):Prop:=
 done.length=i∧Lim 65536 done∧c≤1∧val 65536 done+val 65536 (b.take i)=val 65536 (a.take i)+65536^i*c
theorem MinI.zero(a b:List Nat):MinI a b 0 0 []:=⟨rfl,Lim.nil _,by omega,by simp[val]⟩
theorem MinI.step{a b done:List Nat}{i c c' y d:Nat}(h:MinI a b i c done)(hd:d<65536)(hy:y=c+b.getD i 0)(hc:c'≤1)(key:d+y=a.getD i 0+65536*c'):MinI a b (i+1) c' (done++[d]):=by
 obtain⟨h2,h3,h4,h5⟩:=h
 refine⟨by simp[h2],zBa h3 hd,hc,?_⟩
 rw[zBK,h2,zAa,zAa,Nat.pow_succ]
 have e:65536^i*d+65536^i*y=65536^i*a.getD i 0+65536^i*65536*c':=by
  rw[← Nat.mul_add,key,Nat.mul_add,Nat.mul_assoc]
 rw[hy,Nat.mul_add]at e
 omega
theorem MinI.end{a b done:List Nat}{c:Nat}(h:MinI a b a.length c done)(ha:Lim 65536 a)(hl:b.length≤a.length)(hab:val 65536 b≤val 65536 a):done=pad 65536 (val 65536 a-val 65536 b) a.length:=by
 obtain⟨h2,h3,h4,h5⟩:=h
 have hlt:=zA5 h3
 rw[h2]at hlt
 rw[zAW _ a _ (Nat.le_refl _),zAW _ b _ hl]at h5
 have hc:c=0:=by
  rcases Nat.eq_zero_or_pos c with e|e
  ·exact e
  ·have:c=1:=by omega
   subst this
   have:=zA5 ha
   omega
 subst hc
 have e:val 65536 done=val 65536 a-val 65536 b:=by omega
 rw[← e,← h2]
 exact zWq (by omega) h3
end Go.Proofs.YtmndejlpfmmaiaaGreatDoor.Ma
namespace Go.Proofs.YtmndejlpfmmaiaaGreatDoor.Ma
def blen(n:Nat):Nat:=if n=0 then 0 else Nat.log2 n+1
theorem zBP{n k:Nat}:blen n≤k↔n<2^k:=by
 unfold blen
 split
 ·rename_i h;subst h;simp[Nat.pow_pos]
 ·rename_i h;rw[Nat.succ_le_iff];exact Nat.log2_lt h
theorem zIq:blen 0=0:=rfl
theorem zEQ{n:Nat}:0<blen n↔0<n:=by
 have:= @zBP n 0
 simp at this;omega
theorem zYq{n k:Nat}(h:n<2^k)(h':k=0∨2^(k-1)≤n):blen n=k:=by
 have h1:=zBP.2 h
 rcases h' with e|e
 ·omega
 ·have h2: ¬blen n≤k-1:=fun x=>by have:=zBP.1 x;omega
  omega
theorem zH4{n:Nat}(h:0<n):2^(blen n-1)≤n:=by
 have hp:=zEQ.2 h
 have: ¬blen n≤blen n-1:=by omega
 rw[zBP]at this;omega
theorem zPe(n:Nat):n<2^blen n:=zBP.1 (Nat.le_refl _)
theorem zGJ{lo hi s:Nat}(hlo:lo<2^s)(hhi:0<hi):blen (lo+2^s*hi)=s+blen hi:=by
 have hb:=zEQ.2 hhi
 refine zYq ?_ (.inr ?_)
 ·rw[Nat.pow_add]
  have:2^s*(hi+1)≤2^s*2^blen hi:=Nat.mul_le_mul_left _ (zPe hi)
  rw[Nat.mul_succ]at this;omega
 ·rw[show s+blen hi-1=s+(blen hi-1) by omega,Nat.pow_add]
  exact Nat.le_trans (Nat.mul_le_mul_left _ (zH4 hhi)) (Nat.le_add_left _ _)
theorem zDu{n s:Nat}(h:2^s≤n):blen n=s+blen (n / 2^s):=by
 have hp:0<2^s:=Nat.pow_pos (by omega)
 have:=zGJ (lo:=n%2^s) (hi:=n / 2^s) (s:=s) (Nat.mod_lt _ hp) (Nat.div_pos h hp)
 rwa[Nat.mod_add_div]at this
theorem zRK{n:Nat}(h:0<n):blen n=blen (n / 2)+1:=by
 rcases Nat.lt_or_ge n 2 with e|e
 ·obtain rfl:n=1:=by omega
  rfl
 ·have:=zDu (n:=n) (s:=1) e
  rw[this,Nat.pow_one,Nat.add_comm]
theorem zEK{w n:Nat}(hw:1≤w)(hn:0<n):blen n=w*((digs (2^w) n).length-1)+blen ((digs (2^w) n).getD ((digs (2^w) n).length-1) 0):=by
 have hB:2≤2^w:=by
  calc 2=2^1:=rfl
   _≤2^w:=Nat.pow_le_pow_right (by omega) hw
 have hv:=zAJ hB n
 have hl:=zAG hB n
 have ht:=zBe hB hn
 have hp:0<(digs (2^w) n).length:=by rw[zAf hB hn];simp
 generalize digs (2^w) n=X at*
 have e:=zAa (2^w) X (X.length-1)
 rw[show X.length-1+1=X.length by omega,List.take_of_length_le (Nat.le_refl _),hv]at e
 have hlo:=zA5 (hl.take (X.length-1))
 rw[List.length_take,Nat.min_eq_left (by omega),← Nat.pow_mul]at hlo
 rw[← Nat.pow_mul]at e
 have:=zGJ hlo (Nat.pos_of_ne_zero ht)
 rwa[← e]at this
end Go.Proofs.YtmndejlpfmmaiaaGreatDoor.Ma
namespace Go.Proofs.YtmndejlpfmmaiaaGreatDoor.Ma
theorem zIM{B:Nat}{l:List Nat}{n:Nat}(hl:l.length=n+1):val B l=val B (l.take n)+B^n*l.getD n 0:=by
 have:=zAa B l n
 rwa[List.take_of_length_le (by omega)]at this
structure DigI(u v:List Nat)(n:Nat):Prop where
 hu:u.length=n+3
 hv:v.length=n+2
 lu:Lim 4294967296 u
 lv:Lim 4294967296 v
 top:2147483648≤v.getD (n+1) 0
 small:val 4294967296 u<4294967296*val 4294967296 v
section
variable {u v:List Nat} {n:Nat}
def U2(u:List Nat)(n:Nat):Nat:=u.getD (n+2) 0*2^32+u.getD (n+1) 0
theorem DigI.facts(h:DigI u v n): ∃P lu lv:Nat,0<P∧lu<P∧lv<P∧val 4294967296 u=(U2 u n*4294967296+u.getD n 0)*P+lu∧val 4294967296 v=(v.getD (n+1) 0*4294967296+v.getD n 0)*P+lv:=by
 have a1:=zIM (B:=4294967296) (l:=u) (n:=n+2) h.hu
 have a2:=zAa 4294967296 u (n+1)
 have a3:=zAa 4294967296 u n
 have b1:=zIM (B:=4294967296) (l:=v) (n:=n+1) h.hv
 have b2:=zAa 4294967296 v n
 have l1:=zA5 (h.lu.take n)
 have l2:=zA5 (h.lv.take n)
 rw[List.length_take,Nat.min_eq_left (by have:=h.hu;omega)]at l1
 rw[List.length_take,Nat.min_eq_left (by have:=h.hv;omega)]at l2
 refine⟨4294967296^n,val 4294967296 (u.take n),val 4294967296 (v.take n),Nat.pow_pos (by omega),l1,l2,?_,?_⟩
 ·rw[a1,a2,a3,U2,show 4294967296^(n+2)=4294967296^n*4294967296*4294967296 by rw[Nat.pow_succ,Nat.pow_succ],show 4294967296^(n+1)=4294967296^n*4294967296 by rw[Nat.pow_succ]]
  clear a1 a2 a3 b1 b2 l1 l2
  generalize val 4294967296 (u.take n)=t
  generalize 4294967296^n=P
  generalize u.getD (n+2) 0=x
  generalize u.getD (n+1) 0=y
  generalize u.getD n 0=z
  have e1:P*4294967296*4294967296*x=x*P*18446744073709551616:=by grind
  have e2:P*4294967296*y=y*P*4294967296:=by grind
  have e3:((x*2^32+y)*4294967296+z)*P=x*P*18446744073709551616+y*P*4294967296+z*P:=by grind
  have e4:P*z=z*P:=Nat.mul_comm _ _
  omega
 ·rw[b1,b2,Nat.pow_succ]
  clear a1 a2 a3 b1 b2 l1 l2
  generalize val 4294967296 (v.take n)=t
  generalize 4294967296^n=P
  generalize v.getD (n+1) 0=x
  generalize v.getD n 0=y
  have e1:P*4294967296*x=x*P*4294967296:=by grind
  have e2:(x*4294967296+y)*P=x*P*4294967296+y*P:=by grind
  have e4:P*y=y*P:=Nat.mul_comm _ _
  omega
theorem DigI.lims(h:DigI u v n):u.getD (n+2) 0<4294967296∧u.getD (n+1) 0<4294967296∧u.getD n 0<4294967296∧v.getD (n+1) 0<4294967296∧v.getD n 0<4294967296:=
 ⟨h.lu.getD (by omega) _,h.lu.getD (by omega) _,h.lu.getD (by omega) _,h.lv.getD (by omega) _,h.lv.getD (by omega) _⟩
theorem DigI.vpos(h:DigI u v n):0<val 4294967296 v:=by
 obtain⟨P,lu,lv,hP,_,_,_,e⟩:=h.facts
 have:=h.top
 rw[e]
 have:0<(v.getD (n+1) 0*4294967296+v.getD n 0)*P:=Nat.mul_pos (by omega) hP
 omega
def GuessI(u v:List Nat)(n g r:Nat):Prop:=g*v.getD (n+1) 0+r=U2 u n∧val 4294967296 u / val 4294967296 v≤g∧g≤4294967297
theorem DigI.start(h:DigI u v n):GuessI u v n (U2 u n / v.getD (n+1) 0) (U2 u n%v.getD (n+1) 0):=by
 obtain⟨P,lu,lv,hP,hlu,hlv,eu,ev⟩:=h.facts
 have hl:=h.lims
 have ht:=h.top
 have hs:=h.small
 have hq:val 4294967296 u / val 4294967296 v*val 4294967296 v≤val 4294967296 u:=Nat.div_mul_le_self _ _
 refine⟨by rw[Nat.mul_comm];exact Nat.div_add_mod _ _,?_,?_⟩
 ·rw[Nat.le_div_iff_mul_le (by omega)]
  generalize val 4294967296 u / val 4294967296 v=q at*
  apply Nat.le_of_lt_succ
  have h1:q*v.getD (n+1) 0*(4294967296*P)≤q*val 4294967296 v:=by
   rw[ev,Nat.mul_assoc]
   apply Nat.mul_le_mul_left
   rw[Nat.add_mul,Nat.mul_assoc];omega
  have h2:val 4294967296 u<(U2 u n+1)*(4294967296*P):=by
   rw[eu]
   have:(U2 u n*4294967296+u.getD n 0+1)*P≤(U2 u n+1)*4294967296*P:=Nat.mul_le_mul_right _ (by omega)
   rw[Nat.add_mul (_+_) 1,Nat.one_mul,Nat.mul_assoc]at this
   omega
  exact Nat.lt_of_mul_lt_mul_right (Nat.lt_of_le_of_lt (Nat.le_trans h1 hq) h2)
 ·
  have h3:u.getD (n+2) 0<v.getD (n+1) 0+1:=by
   have k1:u.getD (n+2) 0*(4294967296*4294967296*P)≤val 4294967296 u:=by
    rw[eu,U2]
    have:u.getD (n+2) 0*(4294967296*4294967296)*P≤((u.getD (n+2) 0*2^32+u.getD (n+1) 0)*4294967296+u.getD n 0)*P:=Nat.mul_le_mul_right _ (by omega)
    rw[Nat.mul_assoc]at this
    omega
   have k2:val 4294967296 v<(v.getD (n+1) 0+1)*4294967296*P:=by
    rw[ev]
    have:(v.getD (n+1) 0*4294967296+v.getD n 0+1)*P≤(v.getD (n+1) 0+1)*4294967296*P:=Nat.mul_le_mul_right _ (by omega)
    rw[Nat.add_mul (_+_) 1,Nat.one_mul]at this
    omega
   have k3:u.getD (n+2) 0*(4294967296*4294967296*P)<(v.getD (n+1) 0+1)*(4294967296*4294967296*P):=by
    have:4294967296*val 4294967296 v<4294967296*((v.getD (n+1) 0+1)*4294967296*P):=Nat.mul_lt_mul_of_pos_left k2 (by omega)
    have e:4294967296*((v.getD (n+1) 0+1)*4294967296*P)=(v.getD (n+1) 0+1)*(4294967296*4294967296*P):=by
     rw[Nat.mul_assoc (_+_),Nat.mul_left_comm,Nat.mul_assoc 4294967296 4294967296 P]
    omega
   exact Nat.lt_of_mul_lt_mul_right k3
  apply Nat.le_of_lt_succ
  apply Nat.div_lt_of_lt_mul
  unfold U2
  generalize v.getD (n+1) 0=v1 at*
  generalize u.getD (n+2) 0=x at*
  generalize u.getD (n+1) 0=y at*
  omega
theorem DigI.q_lt(h:DigI u v n):val 4294967296 u / val 4294967296 v<4294967296:=Nat.div_lt_of_lt_mul (by rw[Nat.mul_comm];exact h.small)
theorem GuessI.step{g r:Nat}(h:DigI u v n)(hg:GuessI u v n g r)(hc:4294967296≤g∨r*2^32+u.getD n 0<g*v.getD n 0):0<g∧GuessI u v n (g-1) (r+v.getD (n+1) 0):=by
 obtain⟨g1,g2,g3⟩:=hg
 have hlt:val 4294967296 u / val 4294967296 v<g:=by
  rcases hc with hc|hc
  ·exact Nat.lt_of_lt_of_le h.q_lt hc
  ·obtain⟨P,lu,lv,hP,hlu,hlv,eu,ev⟩:=h.facts
   apply Nat.div_lt_of_lt_mul
   rw[Nat.mul_comm,ev,eu]
   have k1:(U2 u n*4294967296+u.getD n 0+1)*P≤g*(v.getD (n+1) 0*4294967296+v.getD n 0)*P:=by
    apply Nat.mul_le_mul_right
    rw[Nat.mul_add,← Nat.mul_assoc,← g1,Nat.add_mul]
    omega
   rw[Nat.add_mul (_+_) 1,Nat.one_mul]at k1
   rw[Nat.mul_add,← Nat.mul_assoc]
   omega
 have hp:0<g:=Nat.lt_of_le_of_lt (Nat.zero_le _) hlt
 refine⟨hp,?_,Nat.le_sub_one_of_lt hlt,by omega⟩
 have e:g*v.getD (n+1) 0=(g-1)*v.getD (n+1) 0+v.getD (n+1) 0:=by
  conv=>lhs;rw[show g=g-1+1 by omega,Nat.add_mul,Nat.one_mul]
 omega
theorem GuessI.endA{g r:Nat}(h:DigI u v n)(hg:GuessI u v n g r)(hc:g*v.getD n 0≤r*2^32+u.getD n 0)(hB:g<4294967296):g≤val 4294967296 u / val 4294967296 v+1:=by
 obtain⟨g1,g2,g3⟩:=hg
 obtain⟨P,lu,lv,hP,hlu,hlv,eu,ev⟩:=h.facts
 have ht:=h.top
 rcases Nat.eq_zero_or_pos g with e0|e0
 ·rw[e0];exact Nat.zero_le _
 have key:(g-1)*val 4294967296 v≤val 4294967296 u:=by
  have e:g*val 4294967296 v=(g-1)*val 4294967296 v+val 4294967296 v:=by
   conv=>lhs;rw[show g=g-1+1 by omega,Nat.add_mul,Nat.one_mul]
  have k1:g*val 4294967296 v≤(U2 u n*4294967296+u.getD n 0)*P+g*P:=by
   rw[ev,Nat.mul_add,← Nat.mul_assoc]
   have a1:g*(v.getD (n+1) 0*4294967296+v.getD n 0)*P≤(U2 u n*4294967296+u.getD n 0)*P:=by
    apply Nat.mul_le_mul_right
    rw[Nat.mul_add,← Nat.mul_assoc,← g1,Nat.add_mul]
    omega
   have a2:g*lv≤g*P:=Nat.mul_le_mul_left _ (by omega)
   omega
  have k2:g*P≤val 4294967296 v:=by
   rw[ev]
   have:g*P≤(v.getD (n+1) 0*4294967296+v.getD n 0)*P:=Nat.mul_le_mul_right _ (by omega)
   omega
  omega
 have:=(Nat.le_div_iff_mul_le h.vpos).2 key
 generalize val 4294967296 u / val 4294967296 v=q at*
 omega
theorem GuessI.endB{g r:Nat}(h:DigI u v n)(hg:GuessI u v n g r)(hr:4294967296≤r)(hB:g≤4294967296):g≤val 4294967296 u / val 4294967296 v:=by
 obtain⟨g1,g2,g3⟩:=hg
 obtain⟨P,lu,lv,hP,hlu,hlv,eu,ev⟩:=h.facts
 have hl:=h.lims
 rw[Nat.le_div_iff_mul_le h.vpos]
 have k2:val 4294967296 v≤(v.getD (n+1) 0+1)*4294967296*P:=by
  rw[ev]
  have:(v.getD (n+1) 0*4294967296+v.getD n 0+1)*P≤(v.getD (n+1) 0+1)*4294967296*P:=Nat.mul_le_mul_right _ (by omega)
  rw[Nat.add_mul (_+_) 1,Nat.one_mul]at this
  omega
 have k3:g*val 4294967296 v≤g*((v.getD (n+1) 0+1)*4294967296*P):=Nat.mul_le_mul_left _ k2
 have k4:g*((v.getD (n+1) 0+1)*4294967296*P)=(g*v.getD (n+1) 0+g)*4294967296*P:=by
  rw[Nat.mul_assoc (_+_),← Nat.mul_assoc,Nat.mul_add,Nat.mul_one,Nat.mul_assoc (_+_)]
 have k5:(g*v.getD (n+1) 0+g)*4294967296*P≤(U2 u n*4294967296+u.getD n 0)*P:=Nat.mul_le_mul_right _ (by omega)
 rw[eu];omega
end
def LessI(u v:List Nat)(t i c b:Nat)(done:List Nat):Prop:=
 done.length=i∧Lim 4294967296 done∧c<4294967296∧b≤1∧(v.length<i→c=0)∧val 4294967296 (u.take i)+4294967296^i*(c+b)=val 4294967296 done+t*val 4294967296 (v.take i)
theorem LessI.zero(u v:List Nat)(t:Nat):LessI u v t 0 0 0 []:=⟨rfl,Lim.nil _,by omega,by omega,fun _=>rfl,by simp[val]⟩
theorem LessI.step{u v done:List Nat}{t i c b c1 d:Nat}(h:LessI u v t i c b done)(hu:Lim 4294967296 u)(hv:Lim 4294967296 v)(ht:t<4294967296)(hc:c1=c+v.getD i 0*t)(hd:d=((u.getD i 0+18446744073709551616-c1%4294967296)%18446744073709551616+18446744073709551616-b)%18446744073709551616):
 LessI u v t (i+1) (c1 / 2^32) (d / 2^32%2) (done++[d%4294967296]):=by
 obtain⟨h1,h2,h3,h4,h5,h6⟩:=h
 have hx:=hu.getD (by omega) i
 have hy:=hv.getD (by omega) i
 have hm:v.getD i 0*t≤4294967295*4294967295:=Nat.mul_le_mul (by omega) (by omega)
 refine⟨by simp[h1],zBa h2 (Nat.mod_lt _ (by omega)),by omega,by omega,fun hi=>?_,?_⟩
 ·have hz:=zAk (show v.length≤i by omega)
  rw[hz,Nat.zero_mul]at hc
  omega
 ·have key2:u.getD i 0+4294967296*(c1 / 2^32+d / 2^32%2)=d%4294967296+t*v.getD i 0+(c+b):=by
   have:v.getD i 0*t=t*v.getD i 0:=Nat.mul_comm _ _
   omega
  rw[zAa,zAa,zBK,h1,Nat.pow_succ]
  have e:4294967296^i*u.getD i 0+4294967296^i*4294967296*(c1 / 2^32+d / 2^32%2)=4294967296^i*(d%4294967296)+4294967296^i*(t*v.getD i 0)+4294967296^i*(c+b):=by
   rw[Nat.mul_assoc,← Nat.mul_add,← Nat.mul_add,← Nat.mul_add,key2]
  rw[Nat.mul_add t,Nat.mul_left_comm t]
  generalize 4294967296^i*4294967296*(c1 / 2^32+d / 2^32%2)=X at*
  generalize 4294967296^i*(d%4294967296)=Y at*
  generalize 4294967296^i*(t*v.getD i 0)=Z at*
  generalize 4294967296^i*(c+b)=V at*
  generalize 4294967296^i*u.getD i 0=S at*
  generalize t*val 4294967296 (v.take i)=T at*
  clear key2 hm hd hc h3 h4 h5
  omega
theorem LessI.end{u v done:List Nat}{t c b:Nat}(h:LessI u v t u.length c b done)(hl:v.length<u.length):val 4294967296 u+4294967296^u.length*b=val 4294967296 done+t*val 4294967296 v:=by
 obtain⟨h1,h2,h3,h4,h5,h6⟩:=h
 rw[h5 hl,Nat.zero_add,List.take_of_length_le (Nat.le_refl _),List.take_of_length_le (by omega)]at h6
 exact h6
end Go.Proofs.YtmndejlpfmmaiaaGreatDoor.Ma
namespace Go.Proofs.YtmndejlpfmmaiaaGreatDoor.Ma
def zHV(q:Nat)(done:List Nat)(c m:Nat):List Nat:=List.replicate q 0++(done++c::List.replicate m 0)
theorem zMR{q c m:Nat}{done:List Nat}:(zHV q done c m).length=q+(done.length+(m+1)):=by simp[zHV]
theorem zSx{q c m:Nat}{done:List Nat}:(zHV q done c m).getD (done.length+q) 0=c:=by
 unfold zHV
 rw[List.getD_eq_getElem?_getD,List.getElem?_append_right (by simp),List.getElem?_append_right (by simp)]
 simp
theorem zTs{q c m x:Nat}{done:List Nat}:(zHV q done c m).set (done.length+q) x=zHV q done x m:=by
 unfold zHV
 rw[List.set_append_right _ _ (by simp),List.set_append_right _ _ (by simp)]
 simp
theorem zPI{q c m:Nat}{done:List Nat}:(zHV q done c (m+1)).getD (done.length+q+1) 0=0:=by
 unfold zHV
 rw[List.getD_eq_getElem?_getD,List.getElem?_append_right (by simp;omega),List.getElem?_append_right (by simp;omega)]
 rw[show done.length+q+1-(List.replicate q 0).length-done.length=1 by simp;omega]
 simp[List.replicate_succ]
theorem zO6{q c m x:Nat}{done:List Nat}:(zHV q done c (m+1)).set (done.length+q+1) x=zHV q (done++[c]) x m:=by
 unfold zHV
 rw[List.set_append_right _ _ (by simp;omega),List.set_append_right _ _ (by simp;omega)]
 rw[show done.length+q+1-(List.replicate q 0).length-done.length=1 by simp;omega]
 simp[List.replicate_succ]
theorem zQE{q m:Nat}:zHV q [] 0 m=List.replicate (q+(m+1)) 0:=by
 unfold zHV
 rw[List.nil_append,← List.replicate_succ,List.replicate_append_replicate]
def ShlI(a:List Nat)(p i c:Nat)(done:List Nat):Prop:=done.length=i∧Lim 4294967296 done∧c<2^p∧val 4294967296 done+4294967296^i*c=val 4294967296 (a.take i)*2^p
theorem ShlI.zero(a:List Nat)(p:Nat):ShlI a p 0 0 []:=⟨rfl,Lim.nil _,Nat.pow_pos (by omega),by simp[val]⟩
theorem zVW{c m k:Nat}(hc:c<2^k)(hm:m%2^k=0):c ||| m=c+m:=by
 have e:m=2^k*(m / 2^k):=by
  have:=Nat.div_add_mod m (2^k);omega
 rw[e,Nat.or_comm,← Nat.two_pow_add_eq_or_of_lt hc,Nat.add_comm]
theorem zP4{x p:Nat}(hp:p<32):x*2^p%4294967296%2^p=0:=by
 have:(4294967296:Nat)=2^p*2^(32-p):=by rw[← Nat.pow_add,show p+(32-p)=32 by omega]
 rw[this,Nat.mod_mul_right_mod,Nat.mul_mod_left]
theorem ShlI.step{a done:List Nat}{p i c y:Nat}(h:ShlI a p i c done)(hp:p<32)(ha:Lim 4294967296 a)(hy:y=a.getD i 0*2^p):c+y%4294967296<4294967296∧y / 2^32<2^p∧ShlI a p (i+1) (y / 2^32) (done++[c+y%4294967296]):=by
 obtain⟨h1,h2,h3,h4⟩:=h
 have hx:=ha.getD (by omega) i
 have hB:(4294967296:Nat)=2^p*2^(32-p):=by rw[← Nat.pow_add,show p+(32-p)=32 by omega]
 have hz:y%4294967296%2^p=0:=by rw[hy];exact zP4 hp
 have k1:c+y%4294967296<4294967296:=by
  have h5:y%4294967296<4294967296:=Nat.mod_lt _ (by omega)
  generalize y%4294967296=m at*
  have e:m=2^p*(m / 2^p):=by have:=Nat.div_add_mod m (2^p);omega
  have h6:m / 2^p<2^(32-p):=by
   apply Nat.div_lt_of_lt_mul;rw[← hB];exact h5
  have h7:2^p*(m / 2^p+1)≤2^p*2^(32-p):=Nat.mul_le_mul_left _ h6
  rw[← hB,Nat.mul_succ]at h7
  omega
 have k2:y / 2^32<2^p:=by
  apply Nat.div_lt_of_lt_mul
  rw[hy]
  exact Nat.mul_lt_mul_of_pos_right hx (Nat.pow_pos (by omega))
 refine⟨k1,k2,by simp[h1],zBa h2 k1,k2,?_⟩
 rw[zBK,h1,zAa,Nat.pow_succ,Nat.add_mul,← h4,Nat.mul_assoc (4294967296^i) (a.getD i 0),← hy,Nat.mul_add]
 have e:4294967296^i*(y%4294967296)+4294967296^i*4294967296*(y / 2^32)=4294967296^i*y:=by
  rw[Nat.mul_assoc,← Nat.mul_add];congr 1;exact Nat.mod_add_div y 4294967296
 omega
theorem ShlI.end{a done:List Nat}{p q c:Nat}(h:ShlI a p a.length c done)(hp:p<32):tr (zHV q done c 0)=digs 4294967296 (val 4294967296 a*2^(32*q+p)):=by
 obtain⟨h1,h2,h3,h4⟩:=h
 have hc:c<4294967296:=Nat.lt_of_lt_of_le h3 (by
  calc 2^p≤2^32:=Nat.pow_le_pow_right (by omega) (by omega)
   _=4294967296:=rfl)
 have hl:Lim 4294967296 (zHV q done c 0):=(zB5 (by omega) q).append (h2.append (Lim.cons hc (by simpa using Lim.nil 4294967296)))
 rw[zAt (by omega) hl]
 congr 1
 unfold zHV
 rw[List.replicate_zero,zBH,zDY,List.length_replicate,zBK,h1,h4,zAW _ _ _ (Nat.le_refl _),Nat.zero_add,Nat.pow_add,Nat.pow_mul]
 rw[show(2:Nat)^32=4294967296 from rfl]
 exact Nat.mul_left_comm _ _ _
theorem zCY{B:Nat}(hB:2≤B){l:List Nat}(hl:Lim B l){q:Nat}(hq:q≤l.length):val B (l.drop q)=val B l / B^q:=by
 have h1:=zCS B l q hq
 have h2:=zA5 (hl.take q)
 rw[List.length_take,Nat.min_eq_left hq]at h2
 rw[h1,Nat.add_mul_div_left _ _ (Nat.pow_pos (by omega)),Nat.div_eq_of_lt h2,Nat.zero_add]
def ShrI(N p i:Nat)(done:List Nat):Prop:=done.length=i∧Lim 4294967296 done∧val 4294967296 done=N / 2^p%4294967296^i
theorem ShrI.step{a done:List Nat}{p i y:Nat}(h:ShrI (val 4294967296 a) p i done)(hp:p<32)(ha:Lim 4294967296 a)(hi:i<a.length)(hy:y=a.getD i 0+a.getD (i+1) 0*2^32):ShrI (val 4294967296 a) p (i+1) (done++[y / 2^p%4294967296]):=by
 obtain⟨h1,h2,h3⟩:=h
 refine⟨by simp[h1],zBa h2 (Nat.mod_lt _ (by omega)),?_⟩
 rw[zBK,h1,h3,Nat.mod_pow_succ]
 congr 2
 have e1:val 4294967296 a / 2^p / 4294967296^i=val 4294967296 (a.drop i) / 2^p:=by
  rw[zCY (by omega) ha (by omega),Nat.div_div_eq_div_mul,Nat.div_div_eq_div_mul,Nat.mul_comm]
 rw[e1,zBh 4294967296 hi]
 have e2: ∃M,val 4294967296 (a.drop (i+1))=a.getD (i+1) 0+4294967296*M:=by
  by_cases h:i+1<a.length
  ·exact⟨_,zBh 4294967296 h⟩
  ·exact⟨0,by rw[List.drop_of_length_le (by omega),zAk (by omega)];simp[val]⟩
 obtain⟨M,e2⟩:=e2
 have hB:(4294967296:Nat)=2^p*2^(32-p):=by rw[← Nat.pow_add,show p+(32-p)=32 by omega]
 have e3:a.getD i 0+4294967296*val 4294967296 (a.drop (i+1))=y+2^p*(2^(32-p)*(4294967296*M)):=by
  rw[e2,hy,Nat.mul_add,← Nat.mul_assoc (2^p),← hB]
  omega
 rw[e3,Nat.add_mul_div_left _ _ (Nat.pow_pos (by omega)),← Nat.mul_assoc,Nat.mul_comm _ 4294967296,Nat.mul_assoc,Nat.add_mul_mod_self_left]
theorem ShrI.end{a done:List Nat}{p:Nat}(h:ShrI (val 4294967296 a) p a.length done)(ha:Lim 4294967296 a):tr done=digs 4294967296 (val 4294967296 a / 2^p):=by
 obtain⟨h1,h2,h3⟩:=h
 rw[zAt (by omega) h2,h3,Nat.mod_eq_of_lt (Nat.lt_of_le_of_lt (Nat.div_le_self _ _) (zA5 ha))]
theorem zK9{pre w post:List Nat}{i:Nat}(hi:i<w.length):(pre++(w++post)).getD (pre.length+i) 0=w.getD i 0:=by
 rw[List.getD_eq_getElem?_getD,List.getElem?_append_right (by omega),Nat.add_sub_cancel_left,List.getElem?_append_left hi,List.getD_eq_getElem?_getD]
theorem zPH{pre w post:List Nat}{i x:Nat}(hi:i<w.length):(pre++(w++post)).set (pre.length+i) x=pre++(w.set i x++post):=by
 rw[List.set_append_right _ _ (by omega),Nat.add_sub_cancel_left,List.set_append_left _ _ hi]
theorem zH8{done u:List Nat}{i:Nat}(hd:done.length=i)(hi:i<u.length):(done++u.drop i).getD i 0=u.getD i 0:=by
 rw[List.getD_eq_getElem?_getD,List.getElem?_append_right (by omega),hd,Nat.sub_self,List.getElem?_drop,Nat.add_zero,List.getD_eq_getElem?_getD]
theorem zIZ{done u:List Nat}{i x:Nat}(hd:done.length=i)(hi:i<u.length):(done++u.drop i).set i x=(done++[x])++u.drop (i+1):=by
 rw[List.set_append_right _ _ (by omega),hd,Nat.sub_self,List.drop_eq_getElem_cons hi,List.set_cons_zero,List.append_assoc];rfl
end Go.Proofs.YtmndejlpfmmaiaaGreatDoor.Ma
namespace Go.Proofs.YtmndejlpfmmaiaaGreatDoor.Ma
structure DivK(T V n k0 M:Nat)(ul ql:List Nat):Prop where
 hM:M≤k0+1
 ulen:ul.length=n+k0+1
 ulim:Lim 4294967296 ul
 qlen:ql.length=k0+1
 qlim:Lim 4294967296 ql
 small:val 4294967296 (ul.drop M)<V
 whole:T=V*(4294967296^M*val 4294967296 (ql.drop M))+val 4294967296 ul
theorem DivK.seg{T V n k0 k:Nat}{ul ql:List Nat}(h:DivK T V n k0 (k+1) ul ql)(hV:V<4294967296^n):
 val 4294967296 ((ul.drop k).take (n+1))=val 4294967296 (ul.drop k)∧val 4294967296 (ul.drop k)<4294967296*V∧val 4294967296 (ul.drop (k+(n+1)))=0:=by
 have hM:=h.hM
 have hu:=h.ulen
 have h1:val 4294967296 (ul.drop k)=ul.getD k 0+4294967296*val 4294967296 (ul.drop (k+1)):=zBh 4294967296 (by omega)
 have hx:=h.ulim.getD (by omega) k
 have hs:=h.small
 have h2:val 4294967296 (ul.drop k)<4294967296*V:=by omega
 have h3:=zCS 4294967296 (ul.drop k) (n+1) (by rw[List.length_drop];omega)
 rw[List.drop_drop]at h3
 have h4:4294967296*V<4294967296^(n+1):=by rw[Nat.pow_succ];omega
 have h5:val 4294967296 (ul.drop (k+(n+1)))=0:=by
  rcases Nat.eq_zero_or_pos (val 4294967296 (ul.drop (k+(n+1))))with e|e
  ·exact e
  ·have:4294967296^(n+1)*1≤4294967296^(n+1)*val 4294967296 (ul.drop (k+(n+1))):=Nat.mul_le_mul_left _ e
   omega
 rw[h5,Nat.mul_zero,Nat.add_zero]at h3
 exact⟨h3.symm,h2,h5⟩
theorem DivK.step{T V n k0 k qd:Nat}{ul ql w:List Nat}(h:DivK T V n k0 (k+1) ul ql)(hV:V<4294967296^n)(hV0:0<V)(hw:w.length=n+1)(lw:Lim 4294967296 w)
 (vw:val 4294967296 w=val 4294967296 ((ul.drop k).take (n+1))%V) (hq:qd=val 4294967296 ((ul.drop k).take (n+1)) / V):
 DivK T V n k0 k (ul.take k++(w++ul.drop (k+(n+1)))) (ql.set k (qd%4294967296)):=by
 obtain⟨s1,s2,s3⟩:=h.seg hV
 rw[s1]at vw hq
 have hM:=h.hM
 have hu:=h.ulen
 have hql:=h.qlen
 have hqd:qd<4294967296:=by rw[hq];exact Nat.div_lt_of_lt_mul (by rw[Nat.mul_comm];exact s2)
 have e0:(ul.take k++(w++ul.drop (k+(n+1)))).drop k=w++ul.drop (k+(n+1)):=by
  rw[List.drop_append_of_le_length (by rw[List.length_take];omega),List.drop_of_length_le (by rw[List.length_take];omega),List.nil_append]
 have e1:val 4294967296 (w++ul.drop (k+(n+1)))=val 4294967296 (ul.drop k)%V:=by rw[zBH,s3,Nat.mul_zero,Nat.add_zero,vw]
 refine⟨by omega,by simp[hw];omega,(h.ulim.take k).append (lw.append (h.ulim.drop _)),by simpa using hql,zCy h.qlim _ _ (Nat.mod_lt _ (by omega)),?_,?_⟩
 ·rw[e0,e1];exact Nat.mod_lt _ hV0
 ·rw[zBH,e1,List.length_take,Nat.min_eq_left (by omega),Nat.mod_eq_of_lt hqd]
  rw[zBh 4294967296 (show k<(ql.set k qd).length by simp;omega),zIE,zBT,if_pos ⟨rfl,by omega⟩]
  have hw0:=h.whole
  rw[zCS 4294967296 ul k (by omega)]at hw0
  have hdm:=Nat.div_add_mod (val 4294967296 (ul.drop k)) V
  rw[← hq]at hdm
  rw[hw0,Nat.pow_succ]
  generalize 4294967296^k=P at*
  generalize val 4294967296 (ql.drop (k+1))=R at*
  generalize val 4294967296 (ul.take k)=X at*
  generalize val 4294967296 (ul.drop k)%V=Z at*
  generalize val 4294967296 (ul.drop k)=Y at*
  rw[← hdm]
  grind
theorem DivK.end{T V n k0:Nat}{ul ql:List Nat}(h:DivK T V n k0 0 ul ql):val 4294967296 ql=T / V∧val 4294967296 ul=T%V:=by
 have hw:=h.whole
 have hs:=h.small
 rw[List.drop_zero,Nat.pow_zero,Nat.one_mul]at hw
 rw[List.drop_zero]at hs
 rw[hw,Nat.mul_add_div (by omega),Nat.mul_add_mod,Nat.div_eq_of_lt hs,Nat.mod_eq_of_lt hs]
 exact⟨rfl,rfl⟩
theorem zXU{Bv:Nat}{s:Nat}(hB:0<Bv)(hs:s=32-blen ((digs 4294967296 Bv).getD ((digs 4294967296 Bv).length-1) 0)):
 (digs 4294967296 (Bv*2^s)).length=(digs 4294967296 Bv).length∧Bv*2^s<4294967296^(digs 4294967296 Bv).length∧2147483648≤(digs 4294967296 (Bv*2^s)).getD ((digs 4294967296 Bv).length-1) 0:=by
 have hb:blen Bv=32*((digs 4294967296 Bv).length-1)+blen ((digs 4294967296 Bv).getD ((digs 4294967296 Bv).length-1) 0):=zEK (w:=32) (by omega) hB
 have hn:0<(digs 4294967296 Bv).length:=by rw[zAf (by omega) hB];simp
 have ht:=(zAG (B:=4294967296) (by omega) Bv).getD (by omega) ((digs 4294967296 Bv).length-1)
 have htl:blen ((digs 4294967296 Bv).getD ((digs 4294967296 Bv).length-1) 0)≤32:=zBP.2 (by omega)
 have hV:0<Bv*2^s:=Nat.mul_pos hB (Nat.pow_pos (by omega))
 have hbv:blen (Bv*2^s)=s+blen Bv:=by
  have:=zGJ (lo:=0) (hi:=Bv) (s:=s) (Nat.pow_pos (by omega)) hB
  rwa[Nat.zero_add,Nat.mul_comm]at this
 have hb2:blen (Bv*2^s)=32*((digs 4294967296 (Bv*2^s)).length-1)+blen ((digs 4294967296 (Bv*2^s)).getD ((digs 4294967296 (Bv*2^s)).length-1) 0):=zEK (w:=32) (by omega) hV
 have hn2:0<(digs 4294967296 (Bv*2^s)).length:=by rw[zAf (by omega) hV];simp
 have ht2:=(zAG (B:=4294967296) (by omega) (Bv*2^s)).getD (by omega) ((digs 4294967296 (Bv*2^s)).length-1)
 have htl2:blen ((digs 4294967296 (Bv*2^s)).getD ((digs 4294967296 (Bv*2^s)).length-1) 0)≤32:=zBP.2 (by omega)
 have htp2:0<blen ((digs 4294967296 (Bv*2^s)).getD ((digs 4294967296 (Bv*2^s)).length-1) 0):=zEQ.2 (Nat.pos_of_ne_zero (zBe (by omega) hV))
 have e1:(digs 4294967296 (Bv*2^s)).length=(digs 4294967296 Bv).length:=by omega
 have e2:Bv*2^s<4294967296^(digs 4294967296 Bv).length:=by
  have h1:blen (Bv*2^s)≤32*(digs 4294967296 Bv).length:=by omega
  rw[zBP,Nat.pow_mul]at h1;exact h1
 refine⟨e1,e2,?_⟩
 rw[e1]at hb2 htp2
 have e3:blen ((digs 4294967296 (Bv*2^s)).getD ((digs 4294967296 Bv).length-1) 0)=32:=by omega
 have:=zH4 (zEQ.1 htp2)
 rw[e3]at this
 exact this
end Go.Proofs.YtmndejlpfmmaiaaGreatDoor.Ma
namespace Go.Proofs.YtmndejlpfmmaiaaGreatDoor.Ma
def DivJ(a:List Nat)(d k r:Nat)(out:List Nat):Prop:=
 out.length=a.length∧Lim 65536 out∧r<d∧val 65536 (a.drop k)=val 65536 (out.drop k)*d+r
theorem DivJ.zero(a:List Nat){d:Nat}(hd:0<d):DivJ a d a.length 0 (List.replicate a.length 0):=
 ⟨by simp,zB5 (by omega) _,hd,by rw[List.drop_of_length_le (Nat.le_refl _),List.drop_of_length_le (by simp)];simp[val]⟩
theorem DivJ.step{a out:List Nat}{d k r s:Nat}(h:DivJ a d (k+1) r out)(hk:k<a.length)(ha:Lim 65536 a)(hd:d<65536)(hs:s=r*65536+a.getD k 0):
 DivJ a d k (s%d) (out.set k (s / d%65536)):=by
 obtain⟨h1,h2,h3,h4⟩:=h
 have hx:=ha.getD (by omega) k
 have hq:s / d<65536:=by
  apply Nat.div_lt_of_lt_mul
  rw[hs]
  have:r+1≤d:=h3
  have:(r+1)*65536≤d*65536:=Nat.mul_le_mul_right _ this
  omega
 refine⟨by simpa using h1,zCy h2 _ _ (Nat.mod_lt _ (by omega)),Nat.mod_lt _ (by omega),?_⟩
 rw[Nat.mod_eq_of_lt hq,zBh _ hk,h4,zBh _ (show k<(out.set k (s / d)).length by simp;omega),zIE,zBT,if_pos ⟨rfl,by omega⟩]
 have e:=Nat.div_add_mod s d
 rw[Nat.add_mul,Nat.mul_comm (s / d) d,Nat.mul_add,Nat.mul_assoc]
 omega
theorem DivJ.end{a out:List Nat}{d r:Nat}(h:DivJ a d 0 r out):tr out=digs 65536 (val 65536 a / d)∧r=val 65536 a%d:=by
 obtain⟨h1,h2,h3,h4⟩:=h
 rw[List.drop_zero,List.drop_zero]at h4
 rw[zAt (by omega) h2,h4,Nat.mul_comm,Nat.mul_add_div (by omega),Nat.mul_add_mod,Nat.div_eq_of_lt h3,Nat.mod_eq_of_lt h3,Nat.add_zero]
 exact⟨rfl,rfl⟩
theorem zUp{B n:Nat}(hB:2≤B)(j:Nat):(digs B n).getD j 0=n / B^j%B:=by
 by_cases h:j<(digs B n).length
 ·have h1:=zCY hB (zAG hB n) (q:=j) (by omega)
  rw[zAJ hB]at h1
  rw[← h1,zBh B h,Nat.add_mul_mod_self_left,Nat.mod_eq_of_lt ((zAG hB n).getD (by omega) j)]
 ·rw[zAk (by omega)]
  have h1:=zA5 (zAG hB n)
  rw[zAJ hB]at h1
  have h2:B^(digs B n).length≤B^j:=Nat.pow_le_pow_right (by omega) (by omega)
  rw[Nat.div_eq_of_lt (by omega),Nat.zero_mod]
theorem zZ8{n k:Nat}:(digs 65536 n).getD (k / 16) 0 / 2^(k%16)%2=n / 2^k%2:=by
 rw[zUp (by omega)]
 have e:2^k=65536^(k / 16)*2^(k%16):=by
  conv=>lhs;rw[← Nat.div_add_mod k 16,Nat.pow_add,Nat.pow_mul]
 rw[e,← Nat.div_div_eq_div_mul]
 generalize n / 65536^(k / 16)=x
 have ht:k%16<16:=Nat.mod_lt _ (by omega)
 generalize k%16=t at*
 have h16:(65536:Nat)=2^t*(2*2^(15-t)):=by
  rw[Nat.mul_comm 2,← Nat.pow_succ,← Nat.pow_add,show t+(15-t+1)=16 by omega]
 rw[h16,Nat.mod_mul_right_div_self,Nat.mod_mul_right_mod]
theorem zYj{n k:Nat}(h:2^k≤n):k / 16<(digs 65536 n).length:=by
 apply Nat.lt_of_not_le
 intro hle
 have h1:=zA5 (zAG (B:=65536) (by omega) n)
 rw[zAJ (by omega)]at h1
 have h2:(65536:Nat)^(digs 65536 n).length≤65536^(k / 16):=Nat.pow_le_pow_right (by omega) hle
 have h3:(65536:Nat)^(k / 16)≤2^k:=by
  rw[show(65536:Nat)=2^16 from rfl,← Nat.pow_mul]
  exact Nat.pow_le_pow_right (by omega) (Nat.mul_div_le _ _)
 omega
def DblI(x:List Nat)(c0 i c:Nat)(done:List Nat):Prop:=done.length=i∧Lim 65536 done∧c≤1∧val 65536 done+65536^i*c=2*val 65536 (x.take i)+c0∧(∀j,j+1=i→c=0→x.getD j 0≠0→done.getD j 0≠0)
theorem DblI.zero(x:List Nat){c0:Nat}(h:c0≤1):DblI x c0 0 c0 []:=⟨rfl,Lim.nil _,h,by simp[val],fun j h=>by omega⟩
theorem DblI.step{x done:List Nat}{c0 i c s:Nat}(h:DblI x c0 i c done)(hx:Lim 65536 x)(hs:s=c+2*x.getD i 0):DblI x c0 (i+1) (s / 65536) (done++[s%65536]):=by
 obtain⟨h1,h2,h3,h4,_⟩:=h
 have a:=hx.getD (by omega) i
 refine⟨by simp[h1],zBa h2 (Nat.mod_lt _ (by omega)),by omega,?_,fun j hj hc hn=>?_⟩
 ·rw[zBK,h1,Nat.pow_succ,zE1 (B:=65536) (c:=0) rfl,zAa,hs,Nat.mul_add,Nat.mul_add,Nat.mul_left_comm]
  omega
 ·rw[zEi,if_neg (by omega),if_pos (by omega)]
  rw[show j=i by omega]at hn
  omega
theorem DblI.end{R c0 c:Nat}{done:List Nat}(h:DblI (digs 65536 R) c0 (digs 65536 R).length c done)(hc0:c0≤1):(if 0<c then done++[c]else done)=digs 65536 (2*R+c0):=by
 obtain⟨h1,h2,h3,h4,h5⟩:=h
 rw[zAW _ _ _ (Nat.le_refl _),zAJ (by omega)]at h4
 by_cases hc:0<c
 ·rw[if_pos hc]
  have e:=zE4 (B:=65536) (by omega) (zBa h2 (show c<65536 by omega)) (.inr (by rw[zEi];simp;omega))
  rw[zBK,h1,h4]at e
  exact e
 ·rw[if_neg hc]
  obtain rfl:c=0:=by omega
  rw[Nat.mul_zero,Nat.add_zero]at h4
  rw[← h4]
  refine zE4 (by omega) h2 ?_
  rcases Nat.eq_zero_or_pos R with e|e
  ·left;rw[e,zAL]at h1;exact List.eq_nil_of_length_eq_zero h1
  ·right
   have hp:0<(digs 65536 R).length:=by rw[zAf (by omega) e];simp
   rw[h1]
   exact h5 _ (by omega) rfl (zBe (by omega) e)
theorem zQi{A V k:Nat}(hV:0<V):(V≤2*(A / 2^(k+1)%V)+A / 2^k%2→A / 2^k%V=2*(A / 2^(k+1)%V)+A / 2^k%2-V∧A / 2^k / V=2*(A / 2^(k+1) / V)+1)∧
 (2*(A / 2^(k+1)%V)+A / 2^k%2<V→A / 2^k%V=2*(A / 2^(k+1)%V)+A / 2^k%2∧A / 2^k / V=2*(A / 2^(k+1) / V)):=by
 have e1:A / 2^(k+1)=A / 2^k / 2:=by rw[Nat.pow_succ,Nat.div_div_eq_div_mul]
 rw[e1]
 generalize A / 2^k=Y
 have e2:=Nat.div_add_mod Y 2
 have e3:=Nat.div_add_mod (Y / 2) V
 have e4:=Nat.mod_lt (Y / 2) hV
 have e5:Y%2<2:=Nat.mod_lt _ (by omega)
 generalize Y / 2 / V=q at*
 generalize Y / 2%V=r at*
 have e6:Y=(2*r+Y%2)+V*(2*q):=by
  have:V*(2*q)=2*(V*q):=Nat.mul_left_comm _ _ _
  omega
 constructor
 ·intro h
  have e7:Y=(2*r+Y%2-V)+V*(2*q+1):=by rw[Nat.mul_add,Nat.mul_one];omega
  generalize 2*r+Y%2-V=s at*
  have hs:s<V:=by
   have:V*(2*q+1)=V*(2*q)+V:=by rw[Nat.mul_add,Nat.mul_one]
   omega
  conv=>lhs;rw[e7]
  rw[Nat.add_mul_mod_self_left,Nat.mod_eq_of_lt hs]
  refine⟨rfl,?_⟩
  rw[e7,Nat.add_mul_div_left _ _ hV,Nat.div_eq_of_lt hs,Nat.zero_add]
 ·intro h
  generalize 2*r+Y%2=s at*
  rw[e6,Nat.add_mul_mod_self_left,Nat.mod_eq_of_lt h,Nat.add_mul_div_left _ _ hV,Nat.div_eq_of_lt h,Nat.zero_add]
  exact⟨rfl,rfl⟩
theorem zQN{ql:List Nat}{k M:Nat}(hl:Lim 65536 ql)(hk:k / 16<ql.length)(hv:val 65536 ql=M*2^(k+1)):
 (ql.getD (k / 16) 0 ||| 2^(k%16))=ql.getD (k / 16) 0+2^(k%16)∧ql.getD (k / 16) 0+2^(k%16)<65536∧val 65536 (ql.set (k / 16) (ql.getD (k / 16) 0+2^(k%16)))=(2*M+1)*2^k:=by
 have ht:k%16<16:=Nat.mod_lt _ (by omega)
 have e:2^k=65536^(k / 16)*2^(k%16):=by
  conv=>lhs;rw[← Nat.div_add_mod k 16,Nat.pow_add,Nat.pow_mul]
 have hd:=zCY (B:=65536) (by omega) hl (q:=k / 16) (by omega)
 rw[zBh 65536 hk]at hd
 have hg:=hl.getD (by omega) (k / 16)
 have hs:=zEv (B:=65536) (ql.getD (k / 16) 0+2^(k%16)) hk
 rw[Nat.mul_add,← e]at hs
 have hv2:val 65536 ql / 65536^(k / 16)=M*(2*2^(k%16)):=by
  rw[hv,Nat.pow_succ,e,Nat.mul_comm (65536^(k / 16)),Nat.mul_right_comm,← Nat.mul_assoc,Nat.mul_div_cancel _ (Nat.pow_pos (by omega)),Nat.mul_comm (2^(k%16)) 2]
 rw[hv2]at hd
 generalize ql.getD (k / 16) 0=g at*
 generalize k%16=t at*
 have h16:(65536:Nat)=2^(t+1)*2^(15-t):=by rw[← Nat.pow_add,show t+1+(15-t)=16 by omega]
 have hp:(2:Nat)^(t+1)=2*2^t:=by rw[Nat.pow_succ,Nat.mul_comm]
 have hz:g%2^(t+1)=0:=by
  generalize val 65536 (ql.drop (k / 16+1))=Z at*
  have h1:(g+65536*Z)%2^(t+1)=0:=by rw[hd,hp,Nat.mul_mod_left]
  rw[h16,Nat.mul_assoc,Nat.add_mul_mod_self_left]at h1
  exact h1
 have hpos:0<2^t:=Nat.pow_pos (by omega)
 refine⟨?_,?_,?_⟩
 ·rw[Nat.or_comm,zVW (c:=2^t) (k:=t+1) (by omega) hz,Nat.add_comm]
 ·have h2:g=2^(t+1)*(g / 2^(t+1)):=by have:=Nat.div_add_mod g (2^(t+1));omega
  have h3:g / 2^(t+1)<2^(15-t):=Nat.div_lt_of_lt_mul (by rw[← h16];exact hg)
  have h4:2^(t+1)*(g / 2^(t+1)+1)≤2^(t+1)*2^(15-t):=Nat.mul_le_mul_left _ h3
  rw[← h16,Nat.mul_add,Nat.mul_one]at h4
  omega
 ·rw[Nat.add_mul,Nat.one_mul,Nat.mul_comm 2 M,Nat.mul_assoc]
  rw[hv,Nat.pow_succ,Nat.mul_comm (2^k) 2]at hs
  omega
end Go.Proofs.YtmndejlpfmmaiaaGreatDoor.Ma
namespace Go.Proofs.YtmndejlpfmmaiaaGreatDoor.Ma
theorem zT2(a b:Int):Int.gcd b (a%b)=Int.gcd a b:=by
 rw[Int.gcd_comm a b]
 apply Nat.dvd_antisymm
 ·refine Int.dvd_gcd (Int.gcd_dvd_left _ _) ?_
  have h1:=Int.gcd_dvd_left b (a%b)
  have h2:=Int.gcd_dvd_right b (a%b)
  have h3:=Int.dvd_add (Int.dvd_mul_of_dvd_left (c:=a / b) h1) h2
  rwa[Int.mul_ediv_add_emod]at h3
 ·refine Int.dvd_gcd (Int.gcd_dvd_left _ _) ?_
  have h1:=Int.gcd_dvd_left b a
  have h2:=Int.gcd_dvd_right b a
  have h3:=Int.dvd_sub h2 (Int.dvd_mul_of_dvd_left (c:=a / b) h1)
  rwa[← Int.emod_def]at h3
def SzI(x y a b u v:Int):Prop:=
 (a=x∧b=y∧u=1∧v=0)∨(a=y∧u=0∧v=1∧0≤b∧b<(y.natAbs:Int))∨
 (0<a∧0≤b∧b<a∧a<(y.natAbs:Int)∧(u.natAbs:Int)≤3*(y.natAbs:Int)∧a*(v.natAbs:Int)+b*(u.natAbs:Int)≤3*(y.natAbs:Int))
def BzI(x y a b u v:Int):Prop:=Int.gcd a b=Int.gcd x y∧y ∣ a-u*x∧y ∣ b-v*x∧SzI x y a b u v
theorem BzI.start(x y:Int):BzI x y x y 1 0:=by
 refine⟨rfl,?_,?_,.inl ⟨rfl,rfl,rfl,rfl⟩⟩
 ·rw[Int.one_mul,Int.sub_self];exact Int.dvd_zero _
 ·rw[Int.zero_mul,Int.sub_zero];exact Int.dvd_refl _
theorem SzI.step{x y a b u v:Int}(hy:y≠0)(hb:b≠0)(h:SzI x y a b u v):SzI x y b (a%b) v (u-a / b*v):=by
 have m0:=Int.emod_nonneg a hb
 have m1:=Int.emod_lt a hb
 have m2:=Int.mul_ediv_add_emod a b
 rcases h with⟨rfl,rfl,rfl,rfl⟩|⟨rfl,rfl,rfl,h1,h2⟩|⟨h1,h2,h3,h4,h5,h6⟩
 ·exact .inr (.inl ⟨rfl,rfl,by simp,m0,by omega⟩)
 ·refine .inr (.inr ⟨by omega,m0,by omega,h2,by omega,?_⟩)
  have e:(0-a / b*1:Int).natAbs=(a / b).natAbs:=by simp
  rw[e]
  have e2:b*((a / b).natAbs:Int)=((b*(a / b)).natAbs:Int):=by
   rw[Int.natAbs_mul,Int.natCast_mul]
   congr 1;omega
  rw[e2]
  generalize b*(a / b)=w at*
  simp only[Int.natAbs_one]
  omega
 ·have hb0:0<b:=by omega
  have hq:0≤a / b:=Int.ediv_nonneg (by omega) h2
  have hv:(v.natAbs:Int)≤3*(y.natAbs:Int):=by
   have e1:0≤b*(u.natAbs:Int):=Int.mul_nonneg h2 (by omega)
   have e2:1*(v.natAbs:Int)≤a*(v.natAbs:Int):=Int.mul_le_mul_of_nonneg_right (by omega) (by omega)
   omega
  refine .inr (.inr ⟨hb0,m0,by omega,by omega,hv,?_⟩)
  have t1:((u-a / b*v).natAbs:Int)≤(u.natAbs:Int)+a / b*(v.natAbs:Int):=by
   have:=Int.natAbs_sub_le u (a / b*v)
   rw[Int.natAbs_mul]at this
   have e:(((a / b).natAbs*v.natAbs:Nat):Int)=a / b*(v.natAbs:Int):=by rw[Int.natCast_mul];congr 1;omega
   omega
  have t2:=Int.mul_le_mul_of_nonneg_left t1 (Int.le_of_lt hb0)
  have t3:b*((u.natAbs:Int)+a / b*(v.natAbs:Int))+a%b*(v.natAbs:Int)=b*(u.natAbs:Int)+(b*(a / b)+a%b)*(v.natAbs:Int):=by grind
  rw[m2]at t3
  omega
theorem BzI.step{x y a b u v:Int}(hy:y≠0)(hb:b≠0)(h:BzI x y a b u v):BzI x y b (a%b) v (u-a / b*v):=by
 obtain⟨h1,h2,h3,h4⟩:=h
 refine⟨by rw[zT2,h1],h3,?_,h4.step hy hb⟩
 have e:a%b-(u-a / b*v)*x=(a-u*x)-(b-v*x)*(a / b):=by
  rw[Int.emod_def];grind
 rw[e]
 exact Int.dvd_sub h2 (Int.dvd_mul_of_dvd_left h3)
theorem BzI.last{x y a u v:Int}(h:BzI x y a 0 u v)(hy:y≠0):a≠0∧a.natAbs=Int.gcd x y:=by
 have e:a.natAbs=Int.gcd x y:=by rw[← h.1,Int.gcd_zero_right]
 refine⟨fun z=>?_,e⟩
 subst z
 have:=Int.gcd_eq_zero_iff.1 (show Int.gcd x y=0 by rw[← e];rfl)
 exact hy this.2
end Go.Proofs.YtmndejlpfmmaiaaGreatDoor.Ma
namespace Go.Proofs.YtmndejlpfmmaiaaGreatDoor.Fw
open Go Go.Proofs.YtmndejlpfmmaiaaGreatDoor.Ma
theorem zQb(x:Int):IntKind.u8.wrap x=x%256:=by unfold IntKind.wrap;simp[IntKind.bits,IntKind.signed]
theorem zIJ(x:Int):IntKind.u32.wrap x=x%4294967296:=by unfold IntKind.wrap;simp[IntKind.bits,IntKind.signed]
theorem zBy(x:Int):IntKind.u64.wrap x=x%18446744073709551616:=by unfold IntKind.wrap;simp[IntKind.bits,IntKind.signed]
theorem zXJ{x:Int}(h0:0≤x)(h1:x<256):IntKind.u8.wrap x=x:=by rw[zQb];omega
theorem zTA{x:Int}(h0:0≤x)(h1:x<4294967296):IntKind.u32.wrap x=x:=by rw[zIJ];omega
theorem zS5{x:Int}(h0:0≤x)(h1:x<18446744073709551616):IntKind.u64.wrap x=x:=by rw[zBy];omega
theorem zR4(a b:Nat):Int.fdiv (a:Int) (b:Int)=((a / b:Nat):Int):=by
 rw[Int.fdiv_eq_ediv_of_nonneg _ (by omega)];simp
theorem zSo(a b:Nat):Int.tdiv (a:Int) (b:Int)=((a / b:Nat):Int):=by
 rw[Int.tdiv_eq_ediv_of_nonneg (by omega)];simp
theorem zUm(a b:Nat):Int.tmod (a:Int) (b:Int)=((a%b:Nat):Int):=by
 rw[Int.tmod_eq_emod_of_nonneg (by omega)];simp
theorem zXr{w a b:Nat}(ha:a<2^w)(hb:b<2^w):(BitVec.ofInt w (a:Int) &&& BitVec.ofInt w (b:Int)).toNat=a &&& b:=by
 rw[BitVec.toNat_and,BitVec.ofInt_natCast,BitVec.ofInt_natCast,BitVec.toNat_ofNat,BitVec.toNat_ofNat,Nat.mod_eq_of_lt ha,Nat.mod_eq_of_lt hb]
theorem zaJ{w a b:Nat}(ha:a<2^w)(hb:b<2^w):(BitVec.ofInt w (a:Int) ||| BitVec.ofInt w (b:Int)).toNat=a ||| b:=by
 rw[BitVec.toNat_or,BitVec.ofInt_natCast,BitVec.ofInt_natCast,BitVec.toNat_ofNat,BitVec.toNat_ofNat,Nat.mod_eq_of_lt ha,Nat.mod_eq_of_lt hb]
theorem zWj{a b k:Nat}(h:b<2^k):a*2^k ||| b=a*2^k+b:=by rw[Nat.mul_comm];exact(Nat.two_pow_add_eq_or_of_lt h a).symm
section
variable {K:AV→Prop}
theorem zZb{n:Nat}(h:n<256):IntKind.u8.wrap (n:Int)=n:=zXJ (by omega) (by omega)
theorem zEN{n:Nat}(h:n<4294967296):IntKind.u32.wrap (n:Int)=n:=zTA (by omega) (by omega)
theorem zDV{n:Nat}(h:n<18446744073709551616):IntKind.u64.wrap (n:Int)=n:=zS5 (by omega) (by omega)
theorem zRD{n:Nat}(h:n<9223372036854775808):IntKind.i64.wrap (n:Int)=n:=zCD (by omega) (by omega)
theorem zao(n:Nat):IntKind.u8.wrap (n:Int)=((n%256:Nat):Int):=by rw[zQb];omega
theorem zVS(n:Nat):IntKind.u32.wrap (n:Int)=((n%4294967296:Nat):Int):=by rw[zIJ];omega
theorem zV2(n:Nat):IntKind.u64.wrap (n:Int)=((n%18446744073709551616:Nat):Int):=by rw[zBy];omega
theorem zPd(k:IntKind)(a b:Nat):zAv .add (.int k a) (.int k b) K↔K (.int k (k.wrap ((a+b:Nat):Int))):=by
 simp[zAv,zAi]
theorem zQe(k:IntKind)(a b:Nat):zAv .mul (.int k a) (.int k b) K↔K (.int k (k.wrap ((a*b:Nat):Int))):=by
 simp[zAv,zAi]
theorem zP0(k:IntKind){a b:Nat}(h:b≤a):zAv .sub (.int k a) (.int k b) K↔K (.int k (k.wrap ((a-b:Nat):Int))):=by
 have:((a-b:Nat):Int)=(a:Int)-b:=by omega
 simp[zAv,zAi,this]
theorem zJ8{a b:Nat}(hb:b≤18446744073709551616):zAv .sub (.int .u64 a) (.int .u64 b) K↔K (.int .u64 (((a+18446744073709551616-b)%18446744073709551616:Nat):Int)):=by
 have:((a:Int)-b)%18446744073709551616=(((a+18446744073709551616-b)%18446744073709551616:Nat):Int):=by omega
 simp only[zAv,zAi,zBy,this,true_and]
theorem zRd(k:IntKind)(a b:Nat):zAv .quo (.int k a) (.int k b) K↔b≠0∧K (.int k (k.wrap ((a / b:Nat):Int))):=by
 simp only[zAv,zAi,zSo,true_and,ne_eq,Int.natCast_eq_zero]
theorem zIU(k:IntKind)(a b:Nat):zAv .rem (.int k a) (.int k b) K↔b≠0∧K (.int k ((a%b:Nat):Int)):=by
 simp only[zAv,zAi,zUm,true_and,ne_eq,Int.natCast_eq_zero]
theorem zQD(k k':IntKind)(a:Nat){b:Nat}(h:b≤k.bits):zAv .shr (.int k a) (.int k' b) K↔K (.int k ((a / 2^b:Nat):Int)):=by
 have:((2:Int)^b)=((2^b:Nat):Int):=by simp
 simp only[zAv,Int.toNat_natCast,Nat.min_eq_left h,this,zR4]
 simp
theorem zRA(k k':IntKind)(a:Nat){b:Nat}(h:b≤k.bits):zAv .shl (.int k a) (.int k' b) K↔K (.int k (k.wrap ((a*2^b:Nat):Int))):=by
 simp only[zAv,Int.toNat_natCast,Nat.min_eq_left h]
 simp
theorem zIt(k':IntKind)(a:Nat){b:Nat}(h:b≤64):zAv .shr (.int .u64 a) (.int k' b) K↔K (.int .u64 ((a / 2^b:Nat):Int)):=zQD .u64 k' a h
theorem zJy(k':IntKind)(a:Nat){b:Nat}(h:b≤32):zAv .shr (.int .u32 a) (.int k' b) K↔K (.int .u32 ((a / 2^b:Nat):Int)):=zQD .u32 k' a h
theorem zJK(k':IntKind)(a:Nat){b:Nat}(h:b≤64):zAv .shl (.int .u64 a) (.int k' b) K↔K (.int .u64 (IntKind.u64.wrap ((a*2^b:Nat):Int))):=zRA .u64 k' a h
theorem zJb(k':IntKind)(a:Nat){b:Nat}(h:b≤32):zAv .shl (.int .u32 a) (.int k' b) K↔K (.int .u32 (IntKind.u32.wrap ((a*2^b:Nat):Int))):=zRA .u32 k' a h
theorem zGf(k:IntKind){a b:Nat}(ha:a<2^k.bits)(hb:b<2^k.bits):zAv .and (.int k a) (.int k b) K↔K (.int k (k.wrap ((a &&& b:Nat):Int))):=by
 simp only[zAv,zAi,zXr ha hb,true_and]
theorem zG1(k:IntKind){a b:Nat}(ha:a<2^k.bits)(hb:b<2^k.bits):zAv .or (.int k a) (.int k b) K↔K (.int k (k.wrap ((a ||| b:Nat):Int))):=by
 simp only[zAv,zAi,zaJ ha hb,true_and]
theorem zMS{a:Nat}(ha:a<18446744073709551616):zAv .and (.int .u64 a) (.int .u64 ((1:Nat):Int)) K↔K (.int .u64 ((a%2:Nat):Int)):=by
 rw[zGf .u64 (by simpa[IntKind.bits]using ha) (by simp[IntKind.bits]),Nat.and_one_is_mod,zDV (by omega)]
theorem zJD{a:Nat}(ha:a<18446744073709551616):zAv .and (.int .u64 a) (.int .u64 ((4294967295:Nat):Int)) K↔K (.int .u64 ((a%4294967296:Nat):Int)):=by
 rw[zGf .u64 (by simpa[IntKind.bits]using ha) (by simp[IntKind.bits]),show 4294967295=2^32-1 from rfl,Nat.and_two_pow_sub_one_eq_mod,zDV (by omega)]
def zcl(a:Nat):Nat:=a*2^32
theorem zLp{k':IntKind}{a:Nat}(ha:a<4294967296):zAv .shl (.int .u64 a) (.int k' ((32:Nat):Int)) K↔K (.int .u64 ((zcl a:Nat):Int)):=by
 rw[zJK _ _ (by omega),zDV (by omega)];exact Iff.rfl
theorem zMW{a b:Nat}(ha:a<4294967296)(hb:b<4294967296):zAv .or (.int .u64 ((zcl a:Nat):Int)) (.int .u64 b) K↔K (.int .u64 ((a*2^32+b:Nat):Int)):=by
 unfold zcl
 rw[zG1 .u64 (by simp[IntKind.bits];omega) (by simp[IntKind.bits];omega),zWj (by omega),zDV (by omega)]
theorem zIv{a b:Nat}(ha:a<4294967296)(hb:b<4294967296):zAv .or (.int .u64 a) (.int .u64 ((zcl b:Nat):Int)) K↔K (.int .u64 ((a+b*2^32:Nat):Int)):=by
 unfold zcl
 rw[zG1 .u64 (by simp[IntKind.bits];omega) (by simp[IntKind.bits];omega),Nat.or_comm,zWj (by omega),zDV (by omega),Nat.add_comm]
theorem zOY(k:IntKind)(a b:Nat):zAv .eql (.int k a) (.int k b) K↔K (.bool (decide (a=b))):=by
 simp only[zAv,zAi,true_and,Int.natCast_inj]
theorem zOq(k:IntKind)(a b:Nat):zAv .neq (.int k a) (.int k b) K↔K (.bool (!decide (a=b))):=by
 simp only[zAv,zAi,true_and,Int.natCast_inj]
theorem zKR(k:IntKind)(a b:Nat):zAv .lss (.int k a) (.int k b) K↔K (.bool (decide (a<b))):=by
 simp only[zAv,zAi,true_and,Int.ofNat_lt]
theorem zRR(k:IntKind)(a b:Nat):zAv .leq (.int k a) (.int k b) K↔K (.bool (decide (a≤b))):=by
 simp only[zAv,zAi,true_and,Int.ofNat_le]
theorem zQg(k:IntKind)(a b:Nat):zAv .gtr (.int k a) (.int k b) K↔K (.bool (decide (b<a))):=by
 simp only[zAv,zAi,true_and,Int.ofNat_lt]
theorem zOl(k:IntKind)(a b:Nat):zAv .geq (.int k a) (.int k b) K↔K (.bool (decide (b≤a))):=by
 simp only[zAv,zAi,true_and,Int.ofNat_le]
theorem zLh(k k':IntKind)(a:Nat):zEr k (.int k' a) K↔K (.int k (k.wrap ((a:Nat):Int))):=by
 simp only[zEr]
end
def U(l:List Nat):List AV:=l.map fun x:Nat=>.int .u32 (x:Int)
@[simp] theorem U_len (l:List Nat):(U l).length=l.length:=by simp[U]
theorem zXR(l m:List Nat):U (l++m)=U l++U m:=by simp[U]
theorem zFm(l:List Nat)(n:Nat):U (l.take n)=(U l).take n:=by simp[U,List.map_take]
theorem zRg(l:List Nat)(n:Nat):U (l.drop n)=(U l).drop n:=by simp[U,List.map_drop]
theorem zdi(n x:Nat):U (List.replicate n x)=List.replicate n (.int .u32 (x:Int)):=by simp[U]
theorem zLz(l:List Nat):(U l).all AV.cell=true:=by simp[U,AV.cell]
def LS(l:List Nat)(t:Bool):AV:=.seq l.length (U l) t
theorem zGO(l:List Nat)(i:Nat)(h:i<l.length):(U l).drop i=.int .u32 ((l.getD i 0:Nat):Int)::(U l).drop (i+1):=by
 rw[List.drop_eq_getElem_cons (by simpa using h)]
 congr 1
 simp[U,h]
theorem zNg(l:List Nat)(i x:Nat)(h:i<l.length):zAh (U l) i [.int .u32 (x:Int)]=U (l.set i x):=by
 unfold zAh U
 rw[List.map_set,List.set_eq_take_append_cons_drop,if_pos (by simpa using h)]
 simp
end Go.Proofs.YtmndejlpfmmaiaaGreatDoor.Fw
namespace Go.Proofs.YtmndejlpfmmaiaaGreatDoor.Fw
open Go
def opK(P:Program)(r:List AOper)(s:St)(d:Option Nat)(K:St→Prop)(v:AV)(H:AHeap):Prop:=zA2 P r ⟨s.D,zB9 s.E d v,H⟩ K
def zdJ(kp:List Nat)(q:St→Prop)(s:St):Prop:=q (s.keep kp)
def pk(K:AV→AHeap→Prop)(H:AHeap)(r:AV):Prop:=K r H
section
variable {P:Program} {Q:Exit→St→Prop} {s:St} {K:St→Prop}
theorem zWE:W P .skip Q s=Q .normal s:=id rfl
theorem zcw{l:List AOper}{kp:List Nat}:W P (.reg l kp) Q s=zA2 P l s (zdJ kp (Q .normal)):=id rfl
theorem zZd{a b:ACode}:W P (.seq a b) Q s=W P a (zDK (W P b Q) Q) s:=id rfl
def zQ4(P:Program)(a b:ACode)(Q:Exit→St→Prop)(s:St):AV→Prop
 |.bool t=>(t=true→W P a Q s)∧(t=false→W P b Q s)
 |_=>False
theorem zWP{c:Opd}{a b:ACode}:W P (.cond c a b) Q s=zQ4 P a b Q s (c.ev s.E.get):=by
 simp only[W];cases c.ev s.E.get<;>rfl
theorem zQF{a b:ACode}:zQ4 P a b Q s (.bool true)=W P a Q s:=by simp[zQ4]
theorem zO4{a b:ACode}:zQ4 P a b Q s (.bool false)=W P b Q s:=by simp[zQ4]
theorem zP2{n:Nat}{c:ACode}:W P (.block n c) Q s=W P c (zDZ n Q) s:=id rfl
theorem zVP{n:Nat}:W P (.exit n) Q s=Q (.exit n) s:=id rfl
theorem zaL:W P .ret Q s=Q .ret s:=id rfl
theorem zPV{c:ACode}:W P (.scope0 c) Q s=W P c (zF0 Q) s:=id rfl
theorem zVf{l:Nat}:W P (.goto l) Q s=Q (.goto l) s:=id rfl
theorem zVw{Q:Exit→St→Prop}{n:Nat}{s:St}:zW1 Q (.goto n) s=Q (.goto n) s:=id rfl
theorem zRN{l:Nat}:zHx l K Q (.goto l) s=K s:=by simp[zHx]
theorem zQK{l:Nat}:zHx l K Q .normal s=Q .normal s:=id rfl
theorem zPM{l:Nat}:zHx l K Q .ret s=Q .ret s:=id rfl
theorem zRP{l n:Nat}:zHx l K Q (.exit n) s=Q (.exit n) s:=id rfl
theorem zQz{l:Nat}:zDK K Q (.goto l) s=Q (.goto l) s:=id rfl
theorem zLg{l n:Nat}:zDZ n Q (.goto l) s=Q (.goto l) s:=id rfl
theorem zWn{Q:Exit→St→Prop}{n:Nat}{s:St}:zW1 Q (.exit n) s=Settle (Q (.exit n)) s:=id rfl
theorem zWk{Q:Exit→St→Prop}{s:St}:zW1 Q .ret s=Q .ret s:=id rfl
theorem zAO{σ:Type}{c:ACode}(f:σ→St)(inv:σ→Prop)(m:σ→Nat)(x0:σ)(h0:Settle (fun s'=>s'=f x0) s)(hi:inv x0)(h: ∀x,inv x→W P c (zDK (Settle fun s'=> ∃x',m x'<m x∧inv x'∧s'=f x') (zW1 Q)) (f x)):W P (.loop c) Q s:=by
 refine⟨fun n s'=> ∃x,m x=n∧inv x∧s'=f x,⟨m x0,h0.mono fun s' e=>⟨x0,rfl,hi,e⟩⟩,?_⟩
 rintro n s' ⟨x,rfl,hx,rfl⟩
 have:=h x hx
 have e:(zDK (Settle fun s''=> ∃n',n'<m x∧∃x,m x=n'∧inv x∧s''=f x) (zW1 Q))=zDK (Settle fun s'=> ∃x',m x'<m x∧inv x'∧s'=f x') (zW1 Q):=by
  funext e s'
  cases e<;>simp only[zDK]
  congr 1
  funext s''
  simp only[eq_iff_iff]
  exact⟨fun⟨_,h1,x',h2,h3,h4⟩=>⟨x',h2▸h1,h3,h4⟩,fun⟨x',h1,h2,h3⟩=>⟨_,h1,x',rfl,h2,h3⟩⟩
 rw[e];exact this
theorem zPX{K:St→Prop}:zDK K Q .normal s=K s:=id rfl
theorem zMd{K:St→Prop}:zDK K Q .normal=K:=id rfl
theorem zRY{K:St→Prop}{n:Nat}:zDK K Q (.exit n) s=Q (.exit n) s:=id rfl
theorem zRB{K:St→Prop}:zDK K Q .ret s=Q .ret s:=id rfl
theorem zM7{n:Nat}:zDZ n Q .normal=Q .normal:=id rfl
theorem zLW{n:Nat}:zDZ n Q .ret s=Q .ret s:=id rfl
theorem zMG{n:Nat}:zDZ n Q (.exit n) s=Q .normal s:=by simp[zDZ]
theorem zMJ{n m:Nat}(h:m≠n):zDZ n Q (.exit m) s=Q (.exit m) s:=by simp[zDZ,h]
theorem zLn:zF0 Q .normal=Q .normal:=id rfl
theorem zMq:zF0 Q .ret s=Q .ret s:=id rfl
theorem zM2{n:Nat}:zF0 Q (.exit n) s=Q (.exit n) s:=id rfl
theorem zPB{kp:List Nat}{D:List Nat}{E:Env}{H:AHeap}:zdJ kp K ⟨D,E,H⟩=K ⟨D,E.keep kp,H⟩:=id rfl
theorem zLS{l:List Nat}:Env.keep [] l=[]:=id rfl
theorem zJI{k:Nat}{v:AV}{r:Env}{l:List Nat}:Env.keep ((k,v)::r) l=if l.contains k then(k,v)::Env.keep r l else Env.keep r l:=id rfl
theorem zMs{k t:Nat}{v:AV}{r:Env}:Env.get ((k,v)::r) t=if k=t then v else Env.get r t:=id rfl
theorem zRT{t:Nat}{x:AV}:Env.set [] t x=[(t,x)]:=id rfl
theorem zL6{k t:Nat}{v x:AV}{r:Env}:Env.set ((k,v)::r) t x=if t<k then(t,x)::(k,v)::r else if k=t then(t,x)::r else(k,v)::Env.set r t x:=id rfl
theorem zWF:zA2 P [] s K=K s:=id rfl
theorem zP6{d:Option Nat}{o:AOp}{r:List AOper}:zA2 P (⟨d,none,o⟩::r) s K=zB0 P o s.E.get s.H (opK P r s d K):=id rfl
def grd(P:Program)(d:Option Nat)(o:AOp)(r:List AOper)(b:Bool)(s:St)(K:St→Prop):AV→Prop
 |.bool b'=>(b'=b→zB0 P o s.E.get s.H (opK P r s d K))∧(b'≠b→opK P r s d K und s.H)
 |.tup []=>opK P r s d K und s.H
 |_=>False
theorem zMo{d:Option Nat}{o:AOp}{r:List AOper}{t:Nat}{b:Bool}:zA2 P (⟨d,some (t,b),o⟩::r) s K=grd P d o r b s K (s.E.get t):=by
 simp only[zA2]
 cases s.E.get t with
 |tup l=>cases l<;>rfl
 |_=>rfl
theorem zcT{d:Option Nat}{o:AOp}{r:List AOper}{b:Bool}:grd P d o r b s K und=opK P r s d K und s.H:=id rfl
theorem zWv{d:Option Nat}{o:AOp}{r:List AOper}:grd P d o r true s K (.bool true)=zB0 P o s.E.get s.H (opK P r s d K):=by simp[grd]
theorem zVa{d:Option Nat}{o:AOp}{r:List AOper}:grd P d o r false s K (.bool false)=zB0 P o s.E.get s.H (opK P r s d K):=by simp[grd]
theorem zV4{d:Option Nat}{o:AOp}{r:List AOper}:grd P d o r true s K (.bool false)=opK P r s d K und s.H:=by simp[grd]
theorem zVz{d:Option Nat}{o:AOp}{r:List AOper}:grd P d o r false s K (.bool true)=opK P r s d K und s.H:=by simp[grd]
theorem zLq{r:List AOper}{D:List Nat}{E:Env}{H':AHeap}{d:Nat}{v:AV}{H:AHeap}:opK P r ⟨D,E,H'⟩ (some d) K v H=zA2 P r ⟨D,E.set d v,H⟩ K:=id rfl
theorem zMN{r:List AOper}{D:List Nat}{E:Env}{H':AHeap}{v:AV}{H:AHeap}:opK P r ⟨D,E,H'⟩ none K v H=zA2 P r ⟨D,E,H⟩ K:=id rfl
end
section
variable {P:Program} {E:Nat→AV} {H:AHeap} {K:AV→AHeap→Prop}
theorem zcj{v:AV}:pk K H v=K v H:=id rfl
theorem zbs{x:Opd}:zB0 P (.mov x) E H K=K (x.ev E) H:=id rfl
def zOc(E:Nat→AV)(H:AHeap)(K:AV→AHeap→Prop)(a b:Opd):AV→Prop
 |.bool t=>(t=true→K (a.ev E) H)∧(t=false→K (b.ev E) H)
 |_=>False
theorem zVj{c a b:Opd}:zB0 P (.pick c a b) E H K=zOc E H K a b (c.ev E):=by
 simp only[zB0,zCp];cases c.ev E<;>rfl
theorem zRL{a b:Opd}:zOc E H K a b (.bool true)=K (a.ev E) H:=by simp[zOc]
theorem zPR{a b:Opd}:zOc E H K a b (.bool false)=K (b.ev E) H:=by simp[zOc]
theorem zZv{op:BinOp}{x y:Opd}:zB0 P (.bin op x y) E H K=zAv op (x.ev E) (y.ev E) (pk K H):=id rfl
theorem zV5{op:BinOp}{x y:Opd}:zB0 P (.binB op x y) E H K=zJL op (x.ev E) (y.ev E) (pk K H):=id rfl
theorem zf9{op:UnOp}{x:Opd}:zB0 P (.un op x) E H K=unW op (x.ev E) (pk K H):=id rfl
theorem zWQ{g:Bool}{x:Opd}:zB0 P (.nilS g x) E H K=zOR g (x.ev E) (pk K H):=id rfl
theorem zWg{k:IntKind}{x:Opd}:zB0 P (.conv k x) E H K=zEr k (x.ev E) (pk K H):=id rfl
theorem zb2{x:Opd}{i:Nat}:zB0 P (.ext x i) E H K=zK8 (x.ev E) i (pk K H):=id rfl
theorem zbC{off:Nat}{n:Option Nat}{x:Opd}:zB0 P (.fld off n x) E H K=zOV off n (x.ev E) (pk K H):=id rfl
theorem zQ8{z:List AV}{ps:List (Nat×Nat×Opd)}:zB0 P (.build z ps) E H K=zEo z (evP E ps) (pk K H):=id rfl
theorem zVd{n:Option Nat}{x:Opd}:zB0 P (.load n x) E H K=zA9 H n (x.ev E) (pk K H):=id rfl
theorem zVi{off:Nat}{x:Opd}:zB0 P (.fldA off x) E H K=(zEA H (x.ev E)∧zGK off (x.ev E) (pk K H)):=id rfl
theorem zVG{es:Nat}{x i:Opd}:zB0 P (.idxA es x i) E H K=(zCB H (x.ev E)∧zBg es (x.ev E) (i.ev E) (pk K H)):=id rfl
theorem zV8{x i:Opd}:zB0 P (.idxS x i) E H K=zGT (x.ev E) (i.ev E) (pk K H):=id rfl
theorem zZ7{s:Bool}{x:Opd}:zB0 P (.len s x) E H K=zDr s (x.ev E) (pk K H):=id rfl
theorem zbi{es:Nat}{x:Opd}{lo hi mx:Option Opd}:zB0 P (.slc es x lo hi mx) E H K=(zDD es H (x.ev E)∧zDU es (x.ev E) (evO E lo) (evO E hi) (evO E mx) (pk K H)):=id rfl
theorem zVU{x:Opd}{lo hi:Option Opd}:zB0 P (.slcS x lo hi) E H K=zH3 (x.ev E) (evO E lo) (evO E hi) (pk K H):=id rfl
theorem zaZ{f:Fn}{a b:List Opd}:zB0 P (.mkF f a b) E H K=K (.fn f (evs E a) (evs E b)) H:=id rfl
theorem zfk{m:Bool}{x y:Opd}:zB0 P (.gr m x y) E H K=zT0 m (x.ev E) (y.ev E) (pk K H):=id rfl
theorem zat{z:List AV}{len es:Nat}{ps:List (Nat×Nat×Opd)}:zB0 P (.bsl z len es ps) E H K=zUP z len es (evP E ps) (pk K H):=id rfl
theorem zU9{f:Opd}{ars:List Opd}:zB0 P (.call f ars) E H K=zBn P (f.ev E) (evs E ars) H K:=id rfl
theorem zOU{ty es:Nat}{cells:List AV}:zB0 P (.alloc ty es cells) E H K=zHK H ty es cells K:=id rfl
def zfj(H:AHeap)(ty es:Nat)(K:AV→AHeap→Prop):Option (List AV)→Prop
 |some l=>zHK H ty es l K
 |none=>False
theorem zdD{ty es:Nat}{x:Opd}:zB0 P (.box ty es x) E H K=zfj H ty es K (x.ev E).cells:=by
 simp only[zB0];cases(x.ev E).cells<;>rfl
theorem zVt{ty es:Nat}{l:List AV}:zfj H ty es K (some l)=zHK H ty es l K:=id rfl
theorem zRr{n:Nat}{x v:Opd}:zB0 P (.store n x v) E H K=zGD H n (x.ev E) (v.ev E) K:=id rfl
theorem zaM{ty es bytes:Nat}{z:List AV}{i:Nat}:zB0 P (.mks ty es bytes z (.t i) (.t i)) E H K=zOP H ty es bytes z (Opd.ev E (.t i)) (Opd.ev E (.t i)) K:=by simp[zB0,zIC]
theorem zWD{ty es bytes:Nat}{z:List AV}{k:IntKind}{n:Int}:zB0 P (.mks ty es bytes z (.k (.int k n)) (.k (.int k n))) E H K=zOP H ty es bytes z (.int k n) (.int k n) K:=by simp[zB0,zIC,Opd.ev]
theorem zU8{ty es bytes:Nat}{z:List AV}{x:AV}{i:Nat}:zB0 P (.mks ty es bytes z (.k x) (.t i)) E H K=zZC H ty es bytes z (Opd.ev E (.k x)) (Opd.ev E (.t i)) K:=by simp[zB0,zIC]
theorem zWV{ty es bytes:Nat}{z:List AV}{i j:Nat}(h:(i==j)=false):zB0 P (.mks ty es bytes z (.t i) (.t j)) E H K=zZC H ty es bytes z (Opd.ev E (.t i)) (Opd.ev E (.t j)) K:=by simp[zB0,zIC,h]
theorem za0{ty es bytes:Nat}{x y:Opd}:zB0 P (.app ty es bytes x y) E H K=zKG H ty es bytes (x.ev E) (y.ev E) K:=id rfl
theorem zbu{es:Nat}{x y:Opd}:zB0 P (.cpy es x y) E H K=zZB H es (x.ev E) (y.ev E) K:=id rfl
theorem zfp{n:Nat}:(Opd.t n).ev E=E n:=id rfl
theorem zfx{v:AV}:(Opd.k v).ev E=v:=id rfl
theorem zQd:evs E []=[]:=id rfl
theorem zM3{x:Opd}{l:List Opd}:evs E (x::l)=x.ev E::evs E l:=id rfl
theorem zMp:evO E none=none:=id rfl
theorem zMY{x:Opd}:evO E (some x)=some (x.ev E):=id rfl
theorem zP7:evP E []=[]:=id rfl
theorem zME{a b:Nat}{x:Opd}{l:List (Nat×Nat×Opd)}:evP E ((a,b,x)::l)=(a,b,x.ev E)::evP E l:=id rfl
end
section
variable {H:AHeap} {K:AV→Prop}
theorem zBD{l:List Nat}{t:Bool}:zDr false (LS l t) K=(l.length<2^63→K (.int .i64 ((l.length:Nat):Int))):=id rfl
theorem zAs{b L off n:Nat}{t:Bool}:zDr false (.own b L off n t) K=(n<2^63→K (.int .i64 ((n:Nat):Int))):=id rfl
@[simp high] theorem len_LSk {l:List Nat} {t:Bool} (h:l.length<2^63):zDr false (LS l t) K=K (.int .i64 ((l.length:Nat):Int)):=by rw[zBD];simp[h]
@[simp high] theorem len_ownk {b L off n:Nat} {t:Bool} (h:n<2^63):zDr false (.own b L off n t) K=K (.int .i64 ((n:Nat):Int)):=by rw[zAs];simp[h]
theorem zM9{es b L off n:Nat}{t:Bool}{k k' k'':IntKind}{i j m:Nat}(h:i≤j)(h1:j≤m)(h2:m≤n):zDU es (.own b L off n t) (some (.int k (i:Int))) (some (.int k' (j:Int))) (some (.int k'' (m:Int))) K=K (.own b L (off+i*es) (j-i) (decide (j=m))):=by
 have e1:((j:Int)-(i:Int)).toNat=j-i:=by omega
 have e3:((j:Int)=m)↔j=m:=by omega
 simp[zDU,zC9,e1,e3,h,h1,h2]
theorem zJ9{es b L off n:Nat}{t:Bool}{k' k'':IntKind}{j m:Nat}(h1:j≤m)(h2:m≤n):zDU es (.own b L off n t) none (some (.int k' (j:Int))) (some (.int k'' (m:Int))) K=K (.own b L off j (decide (j=m))):=by
 have e3:((j:Int)=m)↔j=m:=by omega
 have e4:(0:Int)≤j:=by omega
 simp[zDU,zC9,e3,e4,h1,h2]
theorem zL4{es b L off n:Nat}{t:Bool}{k k':IntKind}{i j:Nat}(h:i≤j)(h1:j≤n):zDU es (.own b L off n t) (some (.int k (i:Int))) (some (.int k' (j:Int))) none K=K (.own b L (off+i*es) (j-i) (t&&decide (j=n))):=by
 have e1:((j:Int)-(i:Int)).toNat=j-i:=by omega
 have e3:((j:Int)=n)↔j=n:=by omega
 simp[zDU,zC9,e1,e3,h,h1]
theorem zJG{es b L off n:Nat}{t:Bool}{k':IntKind}{j:Nat}(h1:j≤n):zDU es (.own b L off n t) none (some (.int k' (j:Int))) none K=K (.own b L off j (t&&decide (j=n))):=by
 have e3:((j:Int)=n)↔j=n:=by omega
 have e4:(0:Int)≤j:=by omega
 simp[zDU,zC9,e3,e4,h1]
theorem zLV{l:List Nat}{t:Bool}{k':IntKind}{b:Nat}(h1:b≤l.length):zDU 1 (LS l t) none (some (.int k' (b:Int))) none K=K (LS (l.take b) (t&&decide (b=l.length))):=by
 have e2:min b l.length=b:=by omega
 have e3:((b:Int)=l.length)↔b=l.length:=by omega
 have e4:(0:Int)≤b:=by omega
 simp[zDU,LS,zC9,e2,e3,e4,h1,zFm]
theorem zPW{l:List Nat}{t:Bool}{k k':IntKind}{a b:Nat}(h:a≤b)(h1:b≤l.length):zDU 1 (LS l t) (some (.int k (a:Int))) (some (.int k' (b:Int))) none K=K (LS ((l.drop a).take (b-a)) (t&&decide (b=l.length))):=by
 have e1:((b:Int)-(a:Int)).toNat=b-a:=by omega
 have e2:min (b-a) (l.length-a)=b-a:=by omega
 have e3:((b:Int)=l.length)↔b=l.length:=by omega
 simp[zDU,LS,zC9,e1,e2,e3,h,h1,zFm,zRg]
theorem zQf{l:List Nat}{t:Bool}{k:IntKind}{a:Nat}(h:a≤l.length):zDU 1 (LS l t) (some (.int k (a:Int))) none none K=K (LS (l.drop a) t):=by
 have e1:((l.length:Int)-(a:Int)).toNat=l.length-a:=by omega
 simp[zDU,LS,zC9,e1,h,zRg,List.take_of_length_le]
theorem zMI{l:List Nat}{t:Bool}:zCB H (LS l t)=True:=id rfl
theorem zM1{es:Nat}{l:List Nat}{t:Bool}:zDD es H (LS l t)=True:=id rfl
theorem zV3{l:List Nat}{t:Bool}{k:IntKind}{i:Nat}(h:i<l.length):zBg 1 (LS l t) (.int k (i:Int)) K=K (.cptr ((U l).drop i)):=by
 simp[zBg,LS,h]
theorem zKS{l:List Nat}{i:Nat}(h:i<l.length):zA9 H none (.cptr ((U l).drop i)) K=K (.int .u32 ((l.getD i 0:Nat):Int)):=by
 simp only[zA9,zA4,zGO l i h,eq_iff_iff]
 simp
theorem zO0{l:List Nat}{t:Bool}{k k' k'':IntKind}{a b c:Nat}(h:a≤b)(h1:b≤c)(h2:c≤l.length):zDU 1 (LS l t) (some (.int k (a:Int))) (some (.int k' (b:Int))) (some (.int k'' (c:Int))) K=K (LS ((l.drop a).take (b-a)) (decide (b=c))):=by
 have e1:((b:Int)-(a:Int)).toNat=b-a:=by omega
 have e2:min (b-a) (l.length-a)=b-a:=by omega
 have e3:((b:Int)=c)↔b=c:=by omega
 simp[zDU,LS,zC9,e1,e2,e3,h,h1,h2,zFm,zRg]
theorem zMZ{l:List Nat}{t:Bool}{k' k'':IntKind}{b c:Nat}(h1:b≤c)(h2:c≤l.length):zDU 1 (LS l t) none (some (.int k' (b:Int))) (some (.int k'' (c:Int))) K=K (LS (l.take b) (decide (b=c))):=by
 have e1:((b:Int)-0).toNat=b:=by omega
 have e2:min b l.length=b:=by omega
 have e3:((b:Int)=c)↔b=c:=by omega
 have e4:(0:Int)≤b:=by omega
 simp[zDU,LS,zC9,e2,e3,e4,h1,h2,zFm]
end
section
variable {Q:AV→AHeap→Prop} {E:Nat→AV} {H:AHeap}
def zU4(K:List AV→Prop)(v:AV)(l:List AV):Prop:=K (v::l)
def zbN(E:Nat→AV)(H:AHeap)(r:List RV)(K:List AV→Prop)(v:AV):Prop:=zKF E H r (zU4 K v)
theorem zWK{rs:List RV}{E:Env}:zFF rs Q .ret ⟨[],E,H⟩=zKF E.get H rs (zYK Q H):=by simp[zFF,zPC]
theorem zWT{rs:List RV}{E:Env}:zFF rs Q .normal ⟨[],E,H⟩=zKF E.get H rs (zYK Q H):=by simp[zFF,zPC]
theorem zV1{rs:List RV}{E:Env}{d:Nat}{D:List Nat}:zFF rs Q .ret ⟨d::D,E,H⟩=(H d=some (.raw (.deferred (some [])))∧zFF rs Q .ret ⟨D,E,H.upd d none⟩):=by simp[zFF,zPC]
theorem zWh{rs:List RV}{E:Env}{d:Nat}{D:List Nat}:zFF rs Q .normal ⟨d::D,E,H⟩=(H d=some (.raw (.deferred (some [])))∧zFF rs Q .normal ⟨D,E,H.upd d none⟩):=by simp[zFF,zPC]
theorem zZM{P:Program}{Q:Exit→St→Prop}{g:Opd}{ps:List Nat}{a b:ACode}{D:List Nat}{E:Env}:W P (.rfn g ps a b) Q ⟨D,E,H⟩=zZp P ps (W P a) (W P b) (g.ev E.get) Q ⟨D,E,H⟩:=id rfl
theorem zLx{K:List AV→Prop}:zKF E H [] K=K []:=id rfl
theorem zWs{n:Nat}{r:List RV}{K:List AV→Prop}:zKF E H (.t n::r) K=zKF E H r (zU4 K (E n)):=id rfl
theorem zI6{n:Nat}{ag:Option Nat}{r:List RV}{K:List AV→Prop}:zKF E H (.cell n ag::r) K=zA9 H ag (E n) (zbN E H r K):=id rfl
theorem zMB{K:List AV→Prop}{v:AV}{l:List AV}:zU4 K v l=K (v::l):=id rfl
theorem zMy{r:List RV}{K:List AV→Prop}{v:AV}:zbN E H r K v=zKF E H r (zU4 K v):=id rfl
theorem zVD{v:AV}:zYK Q H [v]=SetR Q v H:=id rfl
theorem zWR{v v':AV}{l:List AV}:zYK Q H (v::v'::l)=SetR Q (.tup (v::v'::l)) H:=id rfl
theorem zVX:zYK Q H []=SetR Q (.tup []) H:=id rfl
end
def Ap(a b:Nat):Prop:=a≠b
theorem Ap.symm{a b:Nat}(h:Ap a b):Ap b a:=Ne.symm h
section
variable {H:AHeap} {K:AV→Prop} {K2:AV→AHeap→Prop}
def ldC(n:Option Nat)(K:AV→Prop)(l:List AV):Prop:=
 match n with
 |some _=>K (.agg l)
 |none=>match l with
  |[y]=>K y
  |_=>False
theorem zcZ{n:Nat}{l:List AV}:ldC (some n) K l=K (.agg l):=id rfl
theorem zcd{y:AV}:ldC none K [y]=K y:=id rfl
def ldP(n:Option Nat)(L off:Nat)(K:AV→Prop):Option ABlk→Prop
 |some (.row _ _ cells)=>cells.length=L∧off+n.getD 1≤L∧ldC n K ((cells.drop off).take (n.getD 1))
 |some (.glob _ cells)=>cells.length=L∧off+n.getD 1≤L∧ldC n K ((cells.drop off).take (n.getD 1))
 |_=>False
theorem zFx{n:Option Nat}{b L off:Nat}:zA9 H n (.ptr b L off) K=ldP n L off K (H b):=by
 simp only[zA9,zA4,ldP]
 cases n<;>cases H b with
 |none=>rfl
 |some x=>cases x<;>rfl
theorem zPc{n:Option Nat}{L off:Nat}{ty es:Nat}{x:AV}{cells:List AV}:ldP n L off K (some (.row ty es (x::cells)))=((x::cells).length=L∧off+n.getD 1≤L∧ldC n K (((x::cells).drop off).take (n.getD 1))):=id rfl
theorem zcB{L off:Nat}{ty es:Nat}{l:List Nat}(hL:l.length=L)(h:off<L):ldP none L off K (some (.row ty es (U l)))=K (.int .u32 ((l.getD off 0:Nat):Int)):=by
 subst hL
 have:off+1≤l.length:=h
 simp[ldP,this,zGO l off h,ldC]
def zNk(L:Nat):Option ABlk→Prop
 |some y=>y.len=L
 |none=>False
theorem zMF{b L off:Nat}:zEA H (.ptr b L off)=zNk L (H b):=by
 simp only[zEA,zNk];cases H b<;>rfl
theorem zGU{L ty es:Nat}{cells:List AV}:zNk L (some (.row ty es cells))=(cells.length=L):=id rfl
theorem zGx{L ty es:Nat}{cells:List AV}(h:cells.length=L):zNk L (some (.row ty es cells))=True:=by rw[zGU];simp[h]
theorem zJe{l:List AV}:zEA H (.cptr l)=True:=id rfl
def zJr(L:Nat):Option ABlk→Prop
 |some (.row _ _ cells)=>cells.length=L
 |_=>False
theorem zI9{b L off n:Nat}{t:Bool}:zCB H (.own b L off n t)=zJr L (H b):=by
 simp only[zCB,zJr]
 cases H b with
 |none=>rfl
 |some x=>cases x<;>rfl
theorem zHM{L ty es:Nat}{cells:List AV}:zJr L (some (.row ty es cells))=(cells.length=L):=id rfl
theorem zGb{L ty es:Nat}{cells:List AV}(h:cells.length=L):zJr L (some (.row ty es cells))=True:=by simp[zJr,h]
def zJY(es L:Nat):Option ABlk→Prop
 |some (.row _ es' cells)=>cells.length=L∧es'=es
 |_=>False
theorem zJm{es b L off n:Nat}{t:Bool}:zDD es H (.own b L off n t)=zJY es L (H b):=by
 simp only[zDD,zJY]
 cases H b with
 |none=>rfl
 |some x=>cases x<;>rfl
theorem zGy{es es' L ty:Nat}{cells:List AV}:zJY es L (some (.row ty es' cells))=(cells.length=L∧es'=es):=id rfl
theorem zFq{es L ty:Nat}{cells:List AV}(h:cells.length=L):zJY es L (some (.row ty es cells))=True:=by simp[zJY,h]
theorem zI8{n:Nat}{l:List AV}{t:Bool}:zCB H (.seq n l t)=True:=id rfl
theorem zI7{es n:Nat}{l:List AV}{t:Bool}:zDD es H (.seq n l t)=True:=id rfl
theorem zMk{off b L o:Nat}:zGK off (.ptr b L o) K=K (.ptr b L (o+off)):=id rfl
theorem zJt{off:Nat}{l:List AV}:zGK off (.cptr l) K=K (.cptr (l.drop off)):=id rfl
theorem zQZ{es b L off n:Nat}{t:Bool}{k:IntKind}{i:Nat}(h:i<n):zBg es (.own b L off n t) (.int k (i:Int)) K=K (.ptr b L (off+i*es)):=by
 simp[zBg,h]
def stP(H:AHeap)(n b L off:Nat)(K:AV→AHeap→Prop):Option (List AV)→Option ABlk→Prop
 |some l,some (.row ty es cells)=>cells.length=L∧l.length=n∧off+n≤L∧K .bot (H.upd b (some (.row ty es (zAh cells off l))))
 |_,_=>False
theorem zHd{n b L off:Nat}{y:AV}:zGD H n (.ptr b L off) y K2=stP H n b L off K2 y.cells (H b):=by
 simp only[zGD,stP]
 cases H b with
 |none=>cases y.cells<;>rfl
 |some x=>cases x<;>cases y.cells<;>rfl
theorem zRF{n b L off ty es:Nat}{x:AV}{cells l:List AV}:stP H n b L off K2 (some l) (some (.row ty es (x::cells)))=((x::cells).length=L∧l.length=n∧off+n≤L∧K2 .bot (H.upd b (some (.row ty es (zAh (x::cells) off l))))):=id rfl
theorem zcJ{b L off ty es x:Nat}{l:List Nat}(hL:l.length=L)(h:off<L):stP H 1 b L off K2 (some [.int .u32 (x:Int)]) (some (.row ty es (U l)))=K2 .bot (H.upd b (some (.row ty es (U (l.set off x))))):=by
 subst hL
 have:off+1≤l.length:=h
 simp[stP,this,zNg l off x h]
theorem zJj{k:IntKind}{n:Int}:(AV.int k n).cells=some [.int k n]:=id rfl
theorem zHQ{b:Bool}:(AV.bool b).cells=some [.bool b]:=id rfl
theorem zIy{l:List AV}(h:l.all AV.cell=true):(AV.agg l).cells=some l:=by simp[AV.cells,h]
theorem zLP{b:Bool}{l:List Nat}{t:Bool}:(AV.agg [.bool b,LS l t]).cells=some [.bool b,LS l t]:=rfl
theorem zIo{b:Bool}{n:Nat}{l:List AV}{t:Bool}:(AV.agg [.bool b,.seq n l t]).cells=some [.bool b,.seq n l t]:=rfl
theorem zLl{l:List Nat}{t:Bool}:(LS l t).cells=some [LS l t]:=id rfl
theorem zI5{n:Nat}{l:List AV}{t:Bool}:(AV.seq n l t).cells=some [.seq n l t]:=id rfl
theorem zIz{b L off n:Nat}{t:Bool}:(AV.own b L off n t).cells=some [.own b L off n t]:=id rfl
theorem zLU{k:IntKind}{n:Int}:(AV.int k n).cell=true:=id rfl
theorem zIp{b:Bool}:(AV.bool b).cell=true:=id rfl
theorem zQk{l:List Nat}{t:Bool}:(LS l t).cell=true:=id rfl
theorem zMD{n:Nat}{l:List AV}{t:Bool}:(AV.seq n l t).cell=true:=id rfl
theorem zL0{b L off n:Nat}{t:Bool}:(AV.own b L off n t).cell=true:=id rfl
theorem zHf{cells l:List AV}{off:Nat}:zAh cells off l=cells.take off++l++cells.drop (off+l.length):=id rfl
theorem zM4{a b:Bool}:zJL .eql (.bool a) (.bool b) K=K (.bool (a==b)):=id rfl
theorem zFb{a b:Bool}:zJL .neq (.bool a) (.bool b) K=K (.bool (!(a==b))):=id rfl
theorem zVI{b:Bool}:unW .not (.bool b) K=K (.bool (!b)):=id rfl
theorem zVQ{k:IntKind}{n:Int}:unW .neg (.int k n) K=K (.int k (k.wrap (0-n))):=id rfl
theorem zaQ{x:AV}{l:List AV}:zK8 (.tup (x::l)) 0 K=K x:=id rfl
theorem zZ6{x y:AV}{l:List AV}:zK8 (.tup (x::y::l)) 1 K=K y:=id rfl
theorem zc8{x y z:AV}{l:List AV}:zK8 (.tup (x::y::z::l)) 2 K=K z:=id rfl
theorem zZ9{x:AV}{l:List AV}:zOV 0 none (.agg (x::l)) K=K x:=id rfl
theorem zbt{x y:AV}{l:List AV}:zOV 1 none (.agg (x::y::l)) K=K y:=id rfl
theorem zZm{x y z:AV}{l:List AV}:zOV 2 none (.agg (x::y::z::l)) K=K z:=id rfl
theorem zbd{off n:Nat}{l:List AV}:zOV off (some n) (.agg l) K=(off+n≤l.length∧K (.agg ((l.drop off).take n))):=id rfl
def buK(K:AV→Prop):Option (List AV)→Prop
 |some l=>K (.agg l)
 |none=>False
theorem zMU{z:List AV}{ps:List (Nat×Nat×AV)}:zEo z ps K=buK K (zDL z ps):=by
 simp only[zEo,buK];cases zDL z ps<;>rfl
theorem za5{l:List AV}:buK K (some l)=K (.agg l):=id rfl
def bsK(n:Nat)(K:AV→Prop):Option (List AV)→Prop
 |some l=>K (.seq n l true)
 |none=>False
theorem zVO{z:List AV}{n es:Nat}{ps:List (Nat×Nat×AV)}:zUP z n es ps K=bsK n K (zDL (zB8 z (n*es)) ps):=by
 simp only[zUP,bsK];cases zDL (zB8 z (n*es)) ps<;>rfl
theorem zZ1{n:Nat}{l:List AV}:bsK n K (some l)=K (.seq n l true):=id rfl
theorem zLw{cells:List AV}:zDL cells []=some cells:=id rfl
def zSB(cells:List AV)(off size:Nat)(r:List (Nat×Nat×AV)):Option (List AV)→Option (List AV)
 |some l=>if l.length=size∧off+l.length≤cells.length then zDL (zAh cells off l) r else none
 |none=>none
theorem zJz{cells:List AV}{off size:Nat}{x:AV}{r:List (Nat×Nat×AV)}:zDL cells ((off,size,x)::r)=zSB cells off size r x.cells:=by
 simp only[zDL,zSB];cases x.cells<;>rfl
theorem zPu{cells l:List AV}{off size:Nat}{r:List (Nat×Nat×AV)}(h:l.length=size)(h':off+l.length≤cells.length):zSB cells off size r (some l)=zDL (zAh cells off l) r:=by
 simp only[zSB,if_pos (And.intro h h')]
theorem zdU{z:AV}:zB8 [z] 1=[z]:=by rw[zEP];rfl
theorem zfZ{z:AV}:zB8 [z] 2=[z,z]:=by rw[zEP];rfl
theorem zfi{z:AV}:zB8 [z] 3=[z,z,z]:=by rw[zEP];rfl
theorem zft{z:AV}:zB8 [z] 4=[z,z,z,z]:=by rw[zEP];rfl
def zfD(H:AHeap)(ty n:Nat)(K:AV→AHeap→Prop):Prop:= ∀b,H b=none→K (.own b n 0 n true) (H.upd b (some (.row ty 1 (U (List.replicate n 0)))))
theorem zDe{ty n:Nat}(h: ∀b,H b=none→K2 (.own b n 0 n true) (H.upd b (some (.row ty 1 (U (List.replicate n 0)))))):zfD H ty n K2:=h
theorem zAD{ty es:Nat}{cells:List AV}(h: ∀b,H b=none→K2 (.ptr b cells.length 0) (H.upd b (some (.row ty es cells)))):zHK H ty es cells K2:=h
theorem zah{ty n:Nat}(h:n≤70368744177664):zOP H ty 1 4 [.int .u32 ((0:Nat):Int)] (.int .i64 (n:Int)) (.int .i64 (n:Int)) K2=zfD H ty n K2:=by
 have h1:(4:Int)*n≤281474976710656:=by omega
 have h2:(n:Int)<9223372036854775808:=by omega
 simp[zOP,zfD,h1,h2,zEP,zdi]
theorem zBZ{b i:Nat}{x:Option ABlk}(h:Ap i b):(H.upd b x) i=H i:=zAA H x h
theorem zDj{b b':Nat}{x y z:Option ABlk}(h:Ap b' b):((H.upd b x).upd b' y).upd b z=(H.upd b z).upd b' y:=by
 rw[zAq _ _ _ h,zAR]
theorem zGF{b b' b'':Nat}{x y y' z:Option ABlk}(h:Ap b' b)(h':Ap b'' b):(((H.upd b x).upd b' y).upd b'' y').upd b z=((H.upd b z).upd b' y).upd b'' y':=by
 rw[zAq _ _ _ h',zDj h]
theorem zF6{b b' b'' b3:Nat}{x y y' y3 z:Option ABlk}(h:Ap b' b)(h':Ap b'' b)(h3:Ap b3 b):((((H.upd b x).upd b' y).upd b'' y').upd b3 y3).upd b z=(((H.upd b z).upd b' y).upd b'' y').upd b3 y3:=by
 rw[zAq _ _ _ h3,zGF h h']
theorem zGX{b b' b'' b3 b4:Nat}{x y y' y3 y4 z:Option ABlk}(h:Ap b' b)(h':Ap b'' b)(h3:Ap b3 b)(h4:Ap b4 b):(((((H.upd b x).upd b' y).upd b'' y').upd b3 y3).upd b4 y4).upd b z=((((H.upd b z).upd b' y).upd b'' y').upd b3 y3).upd b4 y4:=by
 rw[zAq _ _ _ h4,zF6 h h' h3]
theorem zJ4{b b' b'' b3 b4 b5:Nat}{x y y' y3 y4 y5 z:Option ABlk}(h:Ap b' b)(h':Ap b'' b)(h3:Ap b3 b)(h4:Ap b4 b)(h5:Ap b5 b):((((((H.upd b x).upd b' y).upd b'' y').upd b3 y3).upd b4 y4).upd b5 y5).upd b z=(((((H.upd b z).upd b' y).upd b'' y').upd b3 y3).upd b4 y4).upd b5 y5:=by
 rw[zAq _ _ _ h5,zGX h h' h3 h4]
theorem zAB{b b':Nat}{x:ABlk}:(H.upd b (some x)) b'=none↔Ap b' b∧H b'=none:=by
 unfold AHeap.upd Ap
 by_cases e:b'=b
 ·simp[e]
 ·simp[e]
end
end Go.Proofs.YtmndejlpfmmaiaaGreatDoor.Fw
namespace Go.Proofs.YtmndejlpfmmaiaaGreatDoor.Fw
open Go Go.Proofs.YtmndejlpfmmaiaaGreatDoor.Ma
def Det(F:(AV→Prop)→Prop):Prop:= ∃(C:Prop)(v:AV),∀K,F K↔(C∧K v)
theorem Det.no{F:(AV→Prop)→Prop}(h: ∀K,¬F K):Det F:=⟨False,.bot,fun K=>⟨fun x=>(h K x).elim,fun x=>x.1.elim⟩⟩
theorem Det.yes{F:(AV→Prop)→Prop}{v:AV}(h: ∀K,F K↔K v):Det F:=⟨True,v,fun K=>by rw[h K,true_and]⟩
theorem Det.iff{F:(AV→Prop)→Prop}{C:Prop}{v:AV}(h: ∀K,F K↔(C∧K v)):Det F:=⟨C,v,h⟩
theorem zNQ(op:BinOp)(k:IntKind)(a b:Int):Det (zAi op k a b):=by
 cases op<;>first|exact .yes fun K=>Iff.rfl|exact .iff fun K=>Iff.rfl|exact .no fun K h=>h
theorem zNY(op:BinOp)(a b:ByteArray):Det (zJ3 op a b):=by
 cases op<;>first|exact .yes fun K=>Iff.rfl|exact .iff fun K=>Iff.rfl|exact .no fun K h=>h
theorem zAV{F:(AV→Prop)→Prop}{C:Prop}(h:Det F):Det (fun K=>C∧F K):=by
 obtain⟨C',v,h⟩:=h
 exact⟨C∧C',v,fun K=>by show(C∧F K)↔_;rw[h K,and_assoc]⟩
theorem zSi(op:BinOp)(x y:AV):Det (zAv op x y):=by
 cases x<;>cases y<;>first
  |exact .no fun K h=>h
  |exact zNY op _ _
  |(cases op<;>first|exact .iff fun K=>Iff.rfl|exact zAV (zNQ _ _ _ _))
theorem zPT(op:BinOp)(x y:AV):Det (zJL op x y):=by
 cases x<;>cases y<;>first
  |exact .no fun K h=>h
  |(cases op<;>first|exact .yes fun K=>Iff.rfl|exact .no fun K h=>h)
theorem zXt(op:UnOp)(x:AV):Det (unW op x):=by
 cases op<;>cases x<;>first|exact .yes fun K=>Iff.rfl|exact .no fun K h=>h
theorem zQI(k:IntKind)(x:AV):Det (zEr k x):=by
 cases x<;>first|exact .yes fun K=>Iff.rfl|exact .no fun K h=>h
theorem zTt(x:AV)(i:Nat):Det (zK8 x i):=by
 cases x with
 |tup l=>unfold zK8;cases e:l[i]? with
  |none=>exact .no fun K h=>by simp[e]at h
  |some y=>exact .yes (v:=y) fun K=>by simp[e]
 |_=>exact .no fun K h=>h
theorem zSc(off:Nat)(n:Option Nat)(x:AV):Det (zOV off n x):=by
 cases x with
 |agg l=>cases n with
  |some n=>exact .iff fun K=>Iff.rfl
  |none=>unfold zOV;cases e:l[off]? with
   |none=>exact .no fun K h=>by simp[e]at h
   |some y=>exact .yes (v:=y) fun K=>by simp[e]
 |_=>exact .no fun K h=>h
theorem zNJ(z:List AV)(ps:List (Nat×Nat×AV)):Det (zEo z ps):=by
 unfold zEo;cases e:zDL z ps with
 |none=>exact .no fun K h=>by simp at h
 |some l=>exact .yes (v:=.agg l) fun K=>by simp
theorem zTo(z:List AV)(n es:Nat)(ps:List (Nat×Nat×AV)):Det (zUP z n es ps):=by
 unfold zUP;cases e:zDL (zB8 z (n*es)) ps with
 |none=>exact .no fun K h=>by simp at h
 |some l=>exact .yes (v:=.seq n l true) fun K=>by simp
theorem zLM(l:List AV):Det (fun K=>match l with|[y]=>K y|_=>False):=by
 match l with
 |[]=>exact .no fun K h=>h
 |[y]=>exact .yes fun K=>Iff.rfl
 |_::_::_=>exact .no fun K h=>h
theorem zQ5(H:AHeap)(n:Option Nat)(x:AV):Det (zA9 H n x):=by
 cases x with
 |ptr b L off=>
  rw[show zA9 H n (.ptr b L off)=fun K=>ldP n L off K (H b)from funext fun K=>zFx]
  cases H b with
  |none=>exact .no fun K h=>h
  |some y=>cases y with
   |raw o=>exact .no fun K h=>h
   |loop=>exact .no fun K h=>h
   |row ty es cells=>cases n with
    |some n=>exact zAV (zAV (.yes fun K=>Iff.rfl))
    |none=>exact zAV (zAV (zLM _))
   |glob g cells=>cases n with
    |some n=>exact zAV (zAV (.yes fun K=>Iff.rfl))
    |none=>exact zAV (zAV (zLM _))
 |cptr cells=>cases n with
  |some n=>exact .iff fun K=>Iff.rfl
  |none=>exact zAV (zLM _)
 |_=>cases n<;>exact .no fun K h=>h
theorem zJX(off:Nat)(x:AV):Det (zGK off x):=by
 cases x<;>first|exact .yes fun K=>Iff.rfl|exact .no fun K h=>h
theorem zOf(es:Nat)(x i:AV):Det (zBg es x i):=by
 cases x<;>cases i<;>first|exact .no fun K h=>h|exact .iff fun K=>Iff.rfl|exact zAV (.iff fun K=>Iff.rfl)
theorem zRs(x i:AV):Det (zGT x i):=by
 cases x<;>cases i<;>first|exact .no fun K h=>h|exact .iff fun K=>Iff.rfl
theorem zUl(es:Nat)(x:AV)(lo hi mx:Option AV):Det (zDU es x lo hi mx):=by
 cases x with
 |seq n cells t=>
  unfold zDU
  split
  ·rename_i e;cases e
   split
   ·exact zAV (.iff fun K=>Iff.rfl)
   ·exact zAV (zAV (.iff fun K=>Iff.rfl))
   ·exact .no fun K h=>h
  ·rename_i e;cases e
  ·rename_i e;cases e
  ·rename_i e;cases e
  ·rename_i e;cases e
  ·rename_i h _ _ _ _;exact(h _ _ _ rfl).elim
 |own b L off n t=>
  unfold zDU
  split
  ·rename_i e;cases e
  ·rename_i e;cases e
   split
   ·exact .iff fun K=>Iff.rfl
   ·exact zAV (.iff fun K=>Iff.rfl)
   ·exact .no fun K h=>h
  ·rename_i e;cases e
  ·rename_i e;cases e
  ·rename_i e;cases e
  ·rename_i h _ _ _;exact(h _ _ _ _ _ rfl).elim
 |ext n cells=>
  unfold zDU
  split
  ·rename_i e;cases e
  ·rename_i e;cases e
  ·rename_i e;cases e
   split
   ·exact zAV (.iff fun K=>Iff.rfl)
   ·exact .no fun K h=>h
  ·rename_i e;cases e
  ·rename_i e;cases e
  ·rename_i h _ _;exact(h _ _ rfl).elim
 |ownc b L n cap=>
  unfold zDU
  split
  ·rename_i e;cases e
  ·rename_i e;cases e
  ·rename_i e;cases e
  ·rename_i e;cases e
   split
   ·exact zAV (.iff fun K=>Iff.rfl)
   ·exact .no fun K h=>h
  ·rename_i e;cases e
  ·rename_i h _;exact(h _ _ _ _ rfl).elim
 |exte es' n cells=>
  unfold zDU
  split
  ·rename_i e;cases e
  ·rename_i e;cases e
  ·rename_i e;cases e
  ·rename_i e;cases e
  ·rename_i e;cases e
   split
   ·exact zAV (.iff fun K=>Iff.rfl)
   ·exact .no fun K h=>h
  ·rename_i h;exact(h _ _ _ rfl).elim
 |_=>exact .no fun K h=>h
theorem zO3(x:AV)(lo hi:Option AV):Det (zH3 x lo hi):=by
 cases x with
 |str s=>
  unfold zH3
  dsimp only
  split
  ·exact .iff fun K=>Iff.rfl
  ·exact .no fun K h=>h
 |_=>exact .no fun K h=>h
theorem zSZ(m:Bool)(x y:AV):Det (zT0 m x y):=by
 cases x<;>cases y<;>first|exact .no fun K h=>h|exact .iff fun K=>Iff.rfl
theorem zTK(E:Nat→AV)(c a b:Opd):Det (fun K=>match c.ev E with|.bool t=>(t=true→K (a.ev E))∧(t=false→K (b.ev E))|_=>False):=by
 cases c.ev E with
 |bool t=>cases t with
  |true=>exact .yes (v:=a.ev E) fun K=>by simp
  |false=>exact .yes (v:=b.ev E) fun K=>by simp
 |_=>exact .no fun K h=>h
theorem zES{H:AHeap}{b L:Nat}{F:TypeId→Nat→List AV→(AV→Prop)→Prop}(h: ∀ty es cells,Det (F ty es cells)):Det (fun K=>zIi H b L fun ty es cells=>F ty es cells K):=by
 unfold zIi
 cases H b with
 |none=>exact .no fun K h=>h
 |some y=>cases y with
  |row ty es cells=>exact zAV (h ty es cells)
  |raw o=>exact .no fun K h=>h
  |loop=>exact .no fun K h=>h
  |glob g cells=>exact .no fun K h=>h
theorem zMA(o:Option (List UInt8)):Det (fun K=>zVT K o):=by
 cases o with
 |none=>exact .no fun K h=>h
 |some l=>exact .yes fun K=>Iff.rfl
theorem zR9(ng:Bool)(H:AHeap)(x y:AV):Det (zOD ng H x y):=by
 cases x<;>cases y<;>first
  |exact .no fun K h=>h
  |exact .yes fun K=>Iff.rfl
  |exact .iff fun K=>Iff.rfl
  |exact zAV (zAV (zAV (zAV (.yes fun K=>Iff.rfl))))
theorem zUY(H:AHeap)(x:AV):Det (zOO H x):=by
 cases x<;>first
  |exact .no fun K h=>h
  |exact zAV (zMA _)
  |exact zES fun _ _ _=>zAV (zAV (zMA _))
theorem zQH(n es:Nat)(H:AHeap)(x i:AV):Det (zGm n es H x i):=by
 cases i<;>first|exact .no fun K h=>h|exact zAV (zAV (zAV (zJX _ _)))
theorem zOu(n es:Nat)(H:AHeap)(x:AV):Det (zHu n es H x):=by
 cases x<;>first|exact .no fun K h=>h|exact zES fun _ _ _=>zAV (zAV (.iff fun K=>Iff.rfl))
theorem zSN(H:AHeap)(x:AV):Det (zR2 H x):=by
 cases x<;>first|exact .no fun K h=>h|exact .yes fun K=>Iff.rfl|exact zES fun _ _ _=>.iff fun K=>Iff.rfl
theorem zNO(u:TypeId)(cs:Nat)(H:AHeap)(x:AV):Det (zD2 u cs H x):=by
 cases x<;>first|exact .no fun K h=>h|exact .yes fun K=>Iff.rfl|exact zES fun _ _ _=>zAV (zAV (.iff fun K=>Iff.rfl))
theorem zUd(H:AHeap)(x:AV):Det (zSL H x):=by
 cases x<;>first|exact .no fun K h=>h|exact .iff fun K=>Iff.rfl|exact zES fun _ _ _=>.iff fun K=>Iff.rfl
theorem zT4(g n es:Nat)(H:AHeap)(i:AV):Det (zOa g n es H i):=by
 unfold zOa
 cases i<;>first|exact .no fun K h=>h|skip
 cases H g with
 |none=>exact .no fun K h=>h
 |some y=>cases y with
  |row ty es cells=>exact .no fun K h=>h
  |raw o=>exact .no fun K h=>h
  |loop=>exact .no fun K h=>h
  |glob g cells=>exact zAV (zAV (.iff fun K=>Iff.rfl))
theorem zTh(ng:Bool)(x y:AV):Det (zNw ng x y):=by
 unfold zNw
 split
 ·exact zAV (.iff fun K=>Iff.rfl)
 ·exact .no fun K h=>h
theorem zOs(ng:Bool)(x y:AV):Det (zK3 ng x y):=by
 unfold zK3
 split
 ·exact zAV (zAV (zAV (zAV (.iff fun K=>Iff.rfl))))
 ·exact .no fun K h=>h
theorem zT5(ng:Bool)(x:AV):Det (zY2 ng x):=by
 cases x with
 |fn f a b=>exact .yes fun K=>Iff.rfl
 |nilF=>exact .yes fun K=>Iff.rfl
 |_=>exact .no fun K h=>h
theorem zTi(x:AV):Det (zWY x):=by
 cases x with
 |seq n cells t=>cases t with
  |true=>exact .iff fun K=>Iff.rfl
  |false=>exact .no fun K h=>h
 |ownc=>exact .yes fun K=>Iff.rfl
 |_=>exact .no fun K h=>h
theorem zQ9(p:Prim)(l:List AV)(H:AHeap):Det (zCV p l H):=by
 have no: ∀{F:(AV→Prop)→Prop},(∀K,F K=False)→Det F:=fun h=>.no fun K k=>by rw[h K]at k;exact k
 match l with
 |[]=>cases p<;>exact no fun K=>rfl
 |[x]=>cases p with
  |nck=>exact .iff fun K=>Iff.rfl
  |peq ng=>exact no fun K=>rfl
  |b2s=>exact zUY H x
  |idxP n es=>exact no fun K=>rfl
  |slcP n es=>exact zOu n es H x
  |toU=>exact zSN H x
  |fromU u cs=>exact zNO u cs H x
  |usd=>exact zUd H x
  |gix g n es=>exact zT4 g n es H x
  |aeq ng=>exact no fun K=>rfl
  |cap=>exact zTi x
  |feq ng=>exact zT5 ng x
  |aeq5 ng=>exact no fun K=>rfl
 |[x,y]=>cases p with
  |peq ng=>exact zR9 ng H x y
  |aeq ng=>exact zTh ng x y
  |aeq5 ng=>exact zOs ng x y
  |idxP n es=>exact zQH n es H x y
  |_=>exact no fun K=>rfl
 |_::_::_::_=>cases p<;>exact no fun K=>rfl
theorem zSe(o:AOp)(ho:(∀s x,o≠.len s x)∧∀s x,o≠.nilS s x)(E:Nat→AV)(H:AHeap):Det (zCp o E H):=by
 cases o with
 |mov x=>exact .yes fun K=>Iff.rfl
 |pick c a b=>exact zTK E c a b
 |bin op x y=>exact zSi _ _ _
 |binB op x y=>exact zPT _ _ _
 |un op x=>exact zXt _ _
 |conv k x=>exact zQI _ _
 |nilS g x=>exact(ho.2 _ _ rfl).elim
 |ext x i=>exact zTt _ _
 |fld off n x=>exact zSc _ _ _
 |build z ps=>exact zNJ _ _
 |load n x=>exact zQ5 _ _ _
 |fldA off x=>exact zAV (zJX _ _)
 |idxA es x i=>exact zAV (zOf _ _ _)
 |idxS x i=>exact zRs _ _
 |len s x=>exact(ho.1 _ _ rfl).elim
 |slc es x lo hi mx=>exact zAV (zUl _ _ _ _ _)
 |slcS x lo hi=>exact zO3 _ _ _
 |mkF f a b=>exact .yes fun K=>Iff.rfl
 |gr m x y=>exact zSZ _ _ _
 |bsl z n es ps=>exact zTo _ _ _ _
 |prim p xs=>exact zQ9 _ _ _
 |_=>exact .no fun K h=>h
def dp(K:AV→List Nat→Option (Nat×ABlk)→Prop)(rd:List Nat)(v:AV):Prop:=K v rd none
def dK(P:Program)(un:Nat→Nat→Bool)(r:List AOper)(i:Nat)(d:Option Nat)(E:Env)(H:AHeap)(R:List (Nat×List Nat))(W:List (Nat×Nat))(K:Env→AHeap→Prop)(rv:AV)(rd:List Nat)(w:Option (Nat×ABlk)):Prop:=
 zGr un i R W rd (w.map Prod.fst)∧zB6 P un r (i+1) (zB9 E d rv) (zA3 H w) (zNt i rd R) (zRc i w W) K
def zXI(P:Program)(b:List AOper)(kp:List Nat)(q:St→Prop)(D:List Nat)(E:Env)(H:AHeap):Prop:=zA2 P b ⟨D,E,H⟩ (zdJ kp q)
def dcall(o:Bool)(P:Program)(f:AV)(args:List AV)(H:AHeap)(K:AV→List Nat→Option (Nat×ABlk)→Prop):Prop:=(∃rv rd,(∀H',(∀q,q∈rd→H' q=H q)→zBn P f args H' fun v H''=>v=rv∧H''=H')∧K rv rd none)∨
 o=true∧∃ty es n cells,cells.length=n*es∧(∀H',zBn P f args H' fun v H''=> ∃b,H' b=none∧v=.own b (n*es) 0 n false∧H''=H'.upd b (some (.row ty es cells)))∧∀b,H b=none→K (.own b (n*es) 0 n false) [] (some (b,.row ty es cells))
section
variable {P:Program} {Q:Exit→St→Prop} {E:Nat→AV} {H:AHeap} {K:AV→List Nat→Option (Nat×ABlk)→Prop}
theorem zLY{b:List AOper}{kp:List Nat}{q:St→Prop}{D:List Nat}{E:Env}:zXI P b kp q D E H=zA2 P b ⟨D,E,H⟩ (zdJ kp q):=id rfl
theorem zMK{un:Nat→Nat→Bool}{i:Nat}{E:Env}{R:List (Nat×List Nat)}{W:List (Nat×Nat)}{K:Env→AHeap→Prop}:zB6 P un [] i E H R W K=K E H:=id rfl
theorem zJO{un:Nat→Nat→Bool}{d:Option Nat}{o:AOp}{r:List AOper}{i:Nat}{E:Env}{R:List (Nat×List Nat)}{W:List (Nat×Nat)}{K:Env→AHeap→Prop}:
 zB6 P un (⟨d,none,o⟩::r) i E H R W K=exD P o E.get H (dK P un r i d E H R W K):=id rfl
theorem zdC{rd:List Nat}{v:AV}:dp K rd v=K v rd none:=id rfl
theorem zAp{o:AOp}(ho:(∀s x,o≠.len s x)∧∀s x,o≠.nilS s x)(h:exD P o E H K= ∃rv,zCp o E H (fun r=>r=rv)∧K rv (zBs E o) none):exD P o E H K↔zCp o E H (dp K (zBs E o)):=by
 obtain⟨C,v,hd⟩:=zSe o ho E H
 rw[h,hd]
 constructor
 ·rintro⟨rv,h1,h2⟩
  obtain⟨hc,e⟩:=(hd _).1 h1
  subst e;exact⟨hc,h2⟩
 ·rintro⟨hc,hk⟩
  exact⟨v,(hd _).2 ⟨hc,rfl⟩,hk⟩
theorem zb0{x:Opd}:exD P (.mov x) E H K↔K (x.ev E) (zBs E (.mov x)) none:=zAp (by simp) rfl
theorem zc7{c a b:Opd}:exD P (.pick c a b) E H K↔zCp (.pick c a b) E H (dp K (zBs E (.pick c a b))):=zAp (by simp) rfl
theorem zbc{op:BinOp}{x y:Opd}:exD P (.bin op x y) E H K↔zAv op (x.ev E) (y.ev E) (dp K (zBs E (.bin op x y))):=zAp (by simp) rfl
theorem zWt{op:BinOp}{x y:Opd}:exD P (.binB op x y) E H K↔zJL op (x.ev E) (y.ev E) (dp K (zBs E (.binB op x y))):=zAp (by simp) rfl
theorem zfw{op:UnOp}{x:Opd}:exD P (.un op x) E H K↔unW op (x.ev E) (dp K (zBs E (.un op x))):=zAp (by simp) rfl
theorem zVo{k:IntKind}{x:Opd}:exD P (.conv k x) E H K↔zEr k (x.ev E) (dp K (zBs E (.conv k x))):=zAp (by simp) rfl
theorem zcv{x:Opd}{i:Nat}:exD P (.ext x i) E H K↔zK8 (x.ev E) i (dp K (zBs E (.ext x i))):=zAp (by simp) rfl
theorem zbq{off:Nat}{n:Option Nat}{x:Opd}:exD P (.fld off n x) E H K↔zOV off n (x.ev E) (dp K (zBs E (.fld off n x))):=zAp (by simp) rfl
theorem zOt{z:List AV}{ps:List (Nat×Nat×Opd)}:exD P (.build z ps) E H K↔zEo z (evP E ps) (dp K (zBs E (.build z ps))):=zAp (by simp) rfl
theorem zVZ{n:Option Nat}{x:Opd}:exD P (.load n x) E H K↔zA9 H n (x.ev E) (dp K (zBs E (.load n x))):=zAp (by simp) rfl
theorem zV9{off:Nat}{x:Opd}:exD P (.fldA off x) E H K↔zEA H (x.ev E)∧zGK off (x.ev E) (dp K (zBs E (.fldA off x))):=zAp (by simp) rfl
theorem zWm{es:Nat}{x i:Opd}:exD P (.idxA es x i) E H K↔zCB H (x.ev E)∧zBg es (x.ev E) (i.ev E) (dp K (zBs E (.idxA es x i))):=zAp (by simp) rfl
theorem zWI{x i:Opd}:exD P (.idxS x i) E H K↔zGT (x.ev E) (i.ev E) (dp K (zBs E (.idxS x i))):=zAp (by simp) rfl
theorem zZe{es:Nat}{x:Opd}{lo hi mx:Option Opd}:exD P (.slc es x lo hi mx) E H K↔zDD es H (x.ev E)∧zDU es (x.ev E) (evO E lo) (evO E hi) (evO E mx) (dp K (zBs E (.slc es x lo hi mx))):=zAp (by simp) rfl
theorem zWA{x:Opd}{lo hi:Option Opd}:exD P (.slcS x lo hi) E H K↔zH3 (x.ev E) (evO E lo) (evO E hi) (dp K (zBs E (.slcS x lo hi))):=zAp (by simp) rfl
theorem zf4{m:Bool}{x y:Opd}:exD P (.gr m x y) E H K↔zT0 m (x.ev E) (y.ev E) (dp K (zBs E (.gr m x y))):=zAp (by simp) rfl
theorem zZh{z:List AV}{n es:Nat}{ps:List (Nat×Nat×Opd)}:exD P (.bsl z n es ps) E H K↔zUP z n es (evP E ps) (dp K (zBs E (.bsl z n es ps))):=zAp (by simp) rfl
theorem zZu{f:Go.Fn}{a b:List Opd}:exD P (.mkF f a b) E H K↔K (.fn f (evs E a) (evs E b)) (zBs E (.mkF f a b)) none:=zAp (by simp) rfl
theorem zWU{f:Opd}{ars:List Opd}:exD P (.call f ars) E H K=dcall (zKM f) P (f.ev E) (evs E ars) H K:=id rfl
def dlen(K:AV→List Nat→Option (Nat×ABlk)→Prop)(s:Bool):AV→Prop
 |.seq n _ _=>s=false∧K (.int .i64 n) [] none
 |.own _ _ _ n _=>s=false∧K (.int .i64 n) [] none
 |.str b=>s=true∧K (.int .i64 b.size) [] none
 |_=>False
theorem zbU{s:Bool}{x:Opd}:exD P (.len s x) E H K↔dlen K s (x.ev E):=by
 unfold exD
 dsimp only
 generalize x.ev E=y
 cases s<;>cases y<;>simp[dlen]
theorem zQO{l:List Nat}{t:Bool}:dlen K false (LS l t)=K (.int .i64 ((l.length:Nat):Int)) [] none:=by simp[dlen,LS]
theorem zLd{b L off n:Nat}{t:Bool}:dlen K false (.own b L off n t)=K (.int .i64 ((n:Nat):Int)) [] none:=by simp[dlen]
theorem zMC{s:ByteArray}:dlen K true (.str s)=K (.int .i64 ((s.size:Nat):Int)) [] none:=by simp[dlen]
theorem PFn.dcall{f:FuncId}{args:List AV}{r:AV}(h:PFn P f args r)(k:K r [] none){o:Bool}:dcall o P (.fn (.func f) [] []) args H K:=
 .inl ⟨r,[],fun _ _=>h.call ⟨rfl,rfl⟩,k⟩
end
def dn:Nat→Int
 |0=> -1
 |k+1=>(k:Int)
theorem zEt:dn 0= -1:=id rfl
theorem zCj{k:Nat}:dn (k+1)=(k:Int):=id rfl
theorem zC5{K:AV→Prop}{k:Nat}(h:k<9223372036854775808):zAv .sub (.int .i64 (k:Int)) (.int .i64 ((1:Nat):Int)) K↔K (.int .i64 (dn k)):=by
 have e:IntKind.i64.wrap ((k:Int)-((1:Nat):Int))=dn k:=by
  rw[zCD (by omega) (by omega)]
  cases k with
  |zero=>rfl
  |succ k=>simp only[dn];omega
 simp only[zAv,zAi,e,true_and]
theorem zC0{K:AV→Prop}:zAv .geq (.int .i64 (-1)) (.int .i64 ((0:Nat):Int)) K↔K (.bool false):=by
 simp[zAv,zAi]
theorem zeU{H:AHeap}{b ty n:Nat}{t t':Bool}{l o:List Nat}{K:AV→AHeap→Prop}(hH:H b=some (.row ty 1 (U o)))(ho:o.length=n)(h:l.length=n)(k:K (.int .i64 ((n:Nat):Int)) (H.upd b (some (.row ty 1 (U l))))):
 zZB H 1 (.own b n 0 n t) (LS l t') K:=by
 subst ho
 refine⟨by simp,zLz l,?_⟩
 dsimp only
 rw[hH]
 refine⟨by simp,by omega,?_⟩
 have e:zAh (U o) 0 ((U l).take (Nat.min l.length o.length*1))=U l:=by
  have e1:Nat.min l.length o.length*1=l.length:=by rw[h];simp
  rw[e1,List.take_of_length_le (by simp)]
  unfold zAh
  rw[List.drop_of_length_le (by simp[h])]
  simp
 rw[e,h]
 simpa using k
def zVM:ACode→ACode
 |.seq a _=>a
 |x=>x
def zBV:ACode→ACode
 |.seq _ b=>b
 |x=>x
def zIQ(c:ACode):ACode:=c
def grow(H0:AHeap)(ty:Nat)(l:List Nat)(x:AV)(H:AHeap):Prop:=
 (l=[]∧x=.seq 0 [] true∧H=H0)∨(l≠[]∧∃b,H0 b=none∧x=.own b l.length 0 l.length false∧H=H0.upd b (some (.row ty 1 (U l))))
theorem zDl{H0:AHeap}{ty:Nat}:grow H0 ty [] (.seq 0 [] true) H0:=.inl ⟨rfl,rfl,rfl⟩
theorem zEp{H0 H:AHeap}{ty:Nat}{l:List Nat}{x:AV}(h:grow H0 ty l x H){p:Nat}{y:ABlk}(hp:H0 p=some y):H p=some y:=by
 rcases h with⟨_,_,rfl⟩|⟨_,b,hb,_,rfl⟩
 ·exact hp
 ·rw[zAA _ _ (by rintro rfl;rw[hb]at hp;cases hp)];exact hp
theorem zRE{H0 H:AHeap}{ty n:Nat}{l m:List Nat}{x:AV}{t:Bool}{K:AV→AHeap→Prop}(h:grow H0 ty l x H)(hn:n=m.length)(hm:m≠[])(hb:l.length+m.length≤17592186044416)
 (k: ∀x' H',grow H0 ty (l++m) x' H'→K x' H'):zYJ H ty 1 4 x (.seq n (U m) t) K:=by
 subst hn
 have hpos:0<m.length:=List.length_pos_iff.2 hm
 refine⟨by simp,zLz m,?_⟩
 rcases h with⟨rfl,rfl,rfl⟩|⟨_,b,hb',rfl,rfl⟩
 ·simp only[List.length_nil]at hb
  refine⟨rfl,rfl,by omega,by omega,fun e=>absurd e (by omega),fun _ b hb'=>?_⟩
  refine k _ _ (.inr ⟨by simpa using hm,b,hb',?_,?_⟩)
  ·simp
  ·simp
 ·dsimp only
  rw[zAC]
  refine⟨by simp,rfl,by simp,rfl,rfl,by omega,by omega,?_⟩
  refine k _ _ (.inr ⟨by simp[hm],b,hb',?_,?_⟩)
  ·simp
  ·rw[zAR,zXR]
theorem zBF{H0 H:AHeap}{ty n:Nat}{l m:List Nat}{x:AV}{t:Bool}{K:AV→AHeap→Prop}(h:grow H0 ty l x H)(hn:n=m.length)(hm:m≠[])(hb:l.length+m.length≤17592186044416)
 (k: ∀x' H',grow H0 ty (l++m) x' H'→K x' H'):zKG H ty 1 4 x (.seq n (U m) t) K:=.inl (zRE h hn hm hb k)
theorem zL3{es n:Nat}{cells:List AV}{K:AV→Prop}:zDr false (.exte es n cells) K=K (.int .i64 ((n:Nat):Int)):=id rfl
theorem zHS{es' es n:Nat}{cells:List AV}{H:AHeap}:zDD es' H (.exte es n cells)=True:=id rfl
theorem Wk.X{l m:List Nat}:Wk (.ext l.length (U (l++m))) (LS l false):=by
 have e:(U (l++m)).take l.length=U l:=by rw[← zFm];simp
 have h:=Wk.ext (n:=l.length) (cells:=U (l++m))
 rw[e]at h
 exact h
theorem Settle.grown{K:St→Prop}{D:List Nat}{E:Env}{H0 H:AHeap}{ty:Nat}{l:List Nat}{x:AV}(t:Nat)(he:E.get t=x)(h:grow H0 ty l x H)(k:Settle K ⟨D,E.set t (LS l false),H0⟩):Settle K ⟨D,E,H⟩:=by
 rcases h with⟨rfl,rfl,rfl⟩|⟨_,b,hb,rfl,rfl⟩
 ·refine Settle.loose t ?_
  rw[he];exact k
 ·refine Settle.freeze t he (zAC _ _ _) (by simp) (.inr (by simp)) ?_
  rw[zAR,zAZ _ hb]
  have e:AV.seq l.length (((U l).drop 0).take (l.length*1)) false=LS l false:=by simp[LS,List.take_of_length_le]
  rw[e];exact k
def zdj:AOp→Bool
 |.call f _=>!zKM f
 |.alloc _ _ _|.box _ _ _|.store _ _ _|.mks _ _ _ _ _ _|.app _ _ _ _ _|.cpy _ _ _|.ust _ _ _|.rng _|.nxt _=>false
 |_=>true
def noW:List AOper→Bool
 |[]=>true
 |x::r=>zdj x.op&&noW r
theorem zJ7{P:Program}{o:AOp}{E:Nat→AV}{H:AHeap}{K K':AV→List Nat→Option (Nat×ABlk)→Prop}(h:zdj o=true)(hk: ∀rv rd,K rv rd none↔K' rv rd none):exD P o E H K↔exD P o E H K':=by
 cases o<;>first
  |(cases h;done)
  |(simp only[exD,hk];done)
  |(simp only[zdj,Bool.not_eq_true']at h;simp only[exD,hk,h,Bool.false_eq_true,false_and,or_false];done)
  |(unfold exD;dsimp only;split<;>first|exact Iff.rfl|exact hk _ _)
def zDE(P:Program):List AOper→Env→AHeap→(Env→AHeap→Prop)→Prop
 |[],E,H,K=>K E H
 |⟨d,none,o⟩::r,E,H,K=>exD P o E.get H fun rv _ _=>zDE P r (zB9 E d rv) H K
 |⟨d,some (t,b),o⟩::r,E,H,K=>match E.get t with
  |.bool b'=>(b'=b→exD P o E.get H fun rv _ _=>zDE P r (zB9 E d rv) H K)∧(b'≠b→zDE P r (zB9 E d und) H K)
  |.tup []=>zDE P r (zB9 E d und) H K
  |_=>False
theorem zGN{P:Program}{un:Nat→Nat→Bool}{H:AHeap}{K:Env→AHeap→Prop}: ∀{l:List AOper}(_:noW l=true)(i:Nat)(E:Env)(R:List (Nat×List Nat)),zB6 P un l i E H R [] K↔zDE P l E H K
 |[],_,_,_,_=>Iff.rfl
 |⟨d,none,o⟩::r,h,i,E,R=>by
  simp only[noW,Bool.and_eq_true]at h
  unfold zB6 zDE
  refine zJ7 h.1 fun rv rd=>?_
  have:=zGN (P:=P) (un:=un) (H:=H) (K:=K) h.2 (i+1) (zB9 E d rv) (zNt i rd R)
  simpa[zGr,zBR,zRc,zA3]using this
 |⟨d,some (t,b),o⟩::r,h,i,E,R=>by
  simp only[noW,Bool.and_eq_true]at h
  unfold zB6 zDE
  cases E.get t with
  |bool b'=>
   refine and_congr (imp_congr_right fun _=>zJ7 h.1 fun rv rd=>?_) (imp_congr_right fun _=>zGN h.2 (i+1) (zB9 E d und) R)
   have:=zGN (P:=P) (un:=un) (H:=H) (K:=K) h.2 (i+1) (zB9 E d rv) (zNt i rd R)
   simpa[zGr,zBR,zRc,zA3]using this
  |tup l=>cases l with
   |nil=>exact zGN h.2 (i+1) (zB9 E d und) R
   |cons x l=>exact Iff.rfl
  |_=>exact Iff.rfl
def pK(P:Program)(r:List AOper)(d:Option Nat)(E:Env)(H:AHeap)(K:Env→AHeap→Prop)(rv:AV)(_:List Nat)(_:Option (Nat×ABlk)):Prop:=zDE P r (zB9 E d rv) H K
def zGs(P:Program)(d:Option Nat)(o:AOp)(r:List AOper)(b:Bool)(E:Env)(H:AHeap)(K:Env→AHeap→Prop):AV→Prop
 |.bool b'=>(b'=b→exD P o E.get H (pK P r d E H K))∧(b'≠b→zDE P r (zB9 E d und) H K)
 |.tup []=>zDE P r (zB9 E d und) H K
 |_=>False
section
variable {P:Program} {Q:Exit→St→Prop} {H:AHeap} {E:Env} {K:Env→AHeap→Prop} {d:Option Nat} {o:AOp} {r:List AOper}
theorem zO5{a b:List AOper}{us kp:List Nat}{D:List Nat}(h:noW a=true):W P (.draw a b us kp) Q ⟨D,E,H⟩↔zDE P a E H (zXI P b kp (Q .normal) D):=zGN h 0 E []
theorem zWL:zDE P [] E H K=K E H:=id rfl
theorem zPq:zDE P (⟨d,none,o⟩::r) E H K=exD P o E.get H (pK P r d E H K):=id rfl
theorem zML{t:Nat}{b:Bool}:zDE P (⟨d,some (t,b),o⟩::r) E H K=zGs P d o r b E H K (E.get t):=by
 unfold zDE
 cases E.get t with
 |tup l=>cases l<;>rfl
 |_=>rfl
theorem zf5{n:Nat}{b:Bool}:zGs P (some n) o r b E H K und=zDE P r (E.set n und) H K:=id rfl
theorem zPP{n:Nat}{rv:AV}{rd:List Nat}{w:Option (Nat×ABlk)}:pK P r (some n) E H K rv rd w=zDE P r (E.set n rv) H K:=id rfl
theorem zc9:zGs P d o r true E H K (.bool true)=exD P o E.get H (pK P r d E H K):=by simp[zGs]
theorem zaH:zGs P d o r false E H K (.bool false)=exD P o E.get H (pK P r d E H K):=by simp[zGs]
theorem zbh{n:Nat}:zGs P (some n) o r true E H K (.bool false)=zDE P r (E.set n und) H K:=by simp[zGs,zB9]
theorem zZs{n:Nat}:zGs P (some n) o r false E H K (.bool true)=zDE P r (E.set n und) H K:=by simp[zGs,zB9]
def zNd(K:AV→List Nat→Option (Nat×ABlk)→Prop)(rd:List Nat)(x y:AV):AV→Prop
 |.bool t=>(t=true→K x rd none)∧(t=false→K y rd none)
 |_=>False
theorem zPO{c a b:Opd}{E:Nat→AV}{K:AV→List Nat→Option (Nat×ABlk)→Prop}:exD P (.pick c a b) E H K↔zNd K (zBs E (.pick c a b)) (a.ev E) (b.ev E) (c.ev E):=by
 rw[zc7];unfold zCp zNd dp;dsimp only;cases c.ev E<;>exact Iff.rfl
theorem zPA{K:AV→List Nat→Option (Nat×ABlk)→Prop}{rd:List Nat}{x y:AV}:zNd K rd x y (.bool true)=K x rd none:=by simp[zNd]
theorem zPw{K:AV→List Nat→Option (Nat×ABlk)→Prop}{rd:List Nat}{x y:AV}:zNd K rd x y (.bool false)=K y rd none:=by simp[zNd]
end
section
variable {P:Program} {Q:Exit→St→Prop} {H:AHeap} {E:Env} {d:Option Nat} {o:AOp} {r:List AOper} {un:Nat→Nat→Bool}
def zD3(P:Program)(un:Nat→Nat→Bool)(d:Option Nat)(o:AOp)(r:List AOper)(b:Bool)(i:Nat)(E:Env)(H:AHeap)(R:List (Nat×List Nat))(W:List (Nat×Nat))(K:Env→AHeap→Prop):AV→Prop
 |.bool b'=>(b'=b→exD P o E.get H (dK P un r i d E H R W K))∧(b'≠b→zB6 P un r (i+1) (zB9 E d und) H R W K)
 |.tup []=>zB6 P un r (i+1) (zB9 E d und) H R W K
 |_=>False
theorem zG0{t:Nat}{b:Bool}{i:Nat}{R:List (Nat×List Nat)}{W:List (Nat×Nat)}{K:Env→AHeap→Prop}:zB6 P un (⟨d,some (t,b),o⟩::r) i E H R W K=zD3 P un d o r b i E H R W K (E.get t):=by
 unfold zB6
 cases E.get t with
 |tup l=>cases l<;>rfl
 |_=>rfl
section
variable {i:Nat} {R:List (Nat×List Nat)} {W:List (Nat×Nat)} {K:Env→AHeap→Prop}
theorem zgC{b:Bool}{n:Nat}:zD3 P un (some n) o r b i E H R W K und=zB6 P un r (i+1) (E.set n und) H R W K:=id rfl
theorem zai:zD3 P un d o r true i E H R W K (.bool true)=exD P o E.get H (dK P un r i d E H R W K):=by simp[zD3]
theorem zZK:zD3 P un d o r false i E H R W K (.bool false)=exD P o E.get H (dK P un r i d E H R W K):=by simp[zD3]
theorem zaP{n:Nat}:zD3 P un (some n) o r true i E H R W K (.bool false)=zB6 P un r (i+1) (E.set n und) H R W K:=by simp[zD3,zB9]
theorem zaF{n:Nat}:zD3 P un (some n) o r false i E H R W K (.bool true)=zB6 P un r (i+1) (E.set n und) H R W K:=by simp[zD3,zB9]
end
theorem zQ7{a b:List AOper}{us kp:List Nat}{D:List Nat}(h:noW a=false):W P (.draw a b us kp) Q ⟨D,E,H⟩↔zB6 P (unM us) a 0 E H [] [] (zXI P b kp (Q .normal) D):=by
 have _:=h
 exact Iff.rfl
theorem zf6{n i:Nat}{R:List (Nat×List Nat)}{W:List (Nat×Nat)}{K:Env→AHeap→Prop}{rv:AV}{rd:List Nat}:
 dK P un r i (some n) E H R W K rv rd none=(zBR un i rd none W∧zB6 P un r (i+1) (E.set n rv) H (zNt i rd R) W K):=by
 simp[dK,zGr,zB9,zA3,zRc]
theorem zgJ{n i b:Nat}{x:ABlk}{R:List (Nat×List Nat)}{W:List (Nat×Nat)}{K:Env→AHeap→Prop}{rv:AV}{rd:List Nat}:
 dK P un r i (some n) E H R W K rv rd (some (b,x))=((zBR un i rd (some b) W∧zDF un i b R)∧zB6 P un r (i+1) (E.set n rv) (H.upd b (some x)) (zNt i rd R) ((i,b)::W) K):=by
 simp[dK,zGr,zB9,zA3,zRc]
theorem zam{i b:Nat}{x:ABlk}{R:List (Nat×List Nat)}{W:List (Nat×Nat)}{K:Env→AHeap→Prop}{rv:AV}{rd:List Nat}:
 dK P un r i none E H R W K rv rd (some (b,x))=((zBR un i rd (some b) W∧zDF un i b R)∧zB6 P un r (i+1) E (H.upd b (some x)) (zNt i rd R) ((i,b)::W) K):=by
 simp[dK,zGr,zB9,zA3,zRc]
theorem zVe{i:Nat}{rd:List Nat}{wr:Option Nat}:zBR un i rd wr []=True:=id rfl
theorem zfs{i j b':Nat}{W:List (Nat×Nat)}:zBR un i [] none ((j,b')::W)=zBR un i [] none W:=by simp[zBR]
theorem zf3{i j b' p:Nat}{W:List (Nat×Nat)}(h:Ap b' p):zBR un i [p] none ((j,b')::W)=zBR un i [p] none W:=by have h:b'≠p:=h;simp[zBR,h]
theorem zfo{i j b' b:Nat}{W:List (Nat×Nat)}(h:Ap b' b):zBR un i [] (some b) ((j,b')::W)=zBR un i [] (some b) W:=by
 have h:b'≠b:=h
 simp only[zBR,List.not_mem_nil,not_false_eq_true,true_and,ne_eq,Option.some.injEq]
 simp[Ne.symm h]
theorem zcI{i j b' p b:Nat}{W:List (Nat×Nat)}(h:Ap b' p)(h':Ap b' b):zBR un i [p] (some b) ((j,b')::W)=zBR un i [p] (some b) W:=by
 have h:b'≠p:=h
 have h':b'≠b:=h'
 simp only[zBR,List.mem_singleton,ne_eq,Option.some.injEq]
 simp[h,Ne.symm h']
theorem zgG{us:List Nat}{i j b':Nat}{rd:List Nat}{wr:Option Nat}{W:List (Nat×Nat)}(h:unM us j i=false):zBR (unM us) i rd wr ((j,b')::W)=zBR (unM us) i rd wr W:=by simp[zBR,h]
theorem zWp{i b:Nat}:zDF un i b []=True:=id rfl
theorem zfq{i j b p:Nat}{R:List (Nat×List Nat)}(h:Ap b p):zDF un i b ((j,[p])::R)=zDF un i b R:=by have h:b≠p:=h;simp[zDF,h]
theorem zfv{us:List Nat}{i j b:Nat}{rd:List Nat}{R:List (Nat×List Nat)}(h:unM us j i=false):zDF (unM us) i b ((j,rd)::R)=zDF (unM us) i b R:=by simp[zDF,h]
theorem zVy{i:Nat}{R:List (Nat×List Nat)}:zNt i [] R=R:=id rfl
theorem zRt{i x:Nat}{l:List Nat}{R:List (Nat×List Nat)}:zNt i (x::l) R=(i,x::l)::R:=id rfl
end
section
variable {E:Nat→AV}
theorem zWu{b L off:Nat}:zBJ (.ptr b L off)=[b]:=id rfl
theorem zWo{b L off n:Nat}{t:Bool}:zBJ (.own b L off n t)=[b]:=id rfl
theorem zPt{l:List AV}:zBJ (.cptr l)=[]:=id rfl
theorem zcg{l:List Nat}{t:Bool}:zBJ (LS l t)=[]:=id rfl
theorem zVn{n:Nat}{l:List AV}{t:Bool}:zBJ (.seq n l t)=[]:=id rfl
theorem zOm{n:Option Nat}{x:Opd}:zBs E (.load n x)=zBJ (x.ev E):=id rfl
theorem zRh{n:Nat}{x:Opd}:zBs E (.fldA n x)=zBJ (x.ev E):=id rfl
theorem zOb{n:Nat}{x i:Opd}:zBs E (.idxA n x i)=zBJ (x.ev E):=id rfl
theorem zVs{n:Nat}{x:Opd}{a b c:Option Opd}:zBs E (.slc n x a b c)=zBJ (x.ev E):=id rfl
theorem zWx{x:Opd}:zBs E (.mov x)=[]:=id rfl
theorem zRI{x y z:Opd}:zBs E (.pick x y z)=[]:=id rfl
theorem zWi{op:BinOp}{x y:Opd}:zBs E (.bin op x y)=[]:=id rfl
theorem zRX{op:BinOp}{x y:Opd}:zBs E (.binB op x y)=[]:=id rfl
theorem zcN{op:UnOp}{x:Opd}:zBs E (.un op x)=[]:=id rfl
theorem zRe{k:IntKind}{x:Opd}:zBs E (.conv k x)=[]:=id rfl
theorem zVv{n:Nat}{x:Opd}:zBs E (.ext x n)=[]:=id rfl
theorem zVR{n:Nat}{m:Option Nat}{x:Opd}:zBs E (.fld n m x)=[]:=id rfl
theorem zLX{z:List AV}{l:List (Nat×Nat×Opd)}:zBs E (.build z l)=[]:=id rfl
theorem zVN{z:List AV}{n m:Nat}{l:List (Nat×Nat×Opd)}:zBs E (.bsl z n m l)=[]:=id rfl
theorem zbF{m:Bool}{x y:Opd}:zBs E (.gr m x y)=[]:=id rfl
theorem zQB{x y:Opd}:zBs E (.idxS x y)=[]:=id rfl
theorem zPZ{x:Opd}{a b:Option Opd}:zBs E (.slcS x a b)=[]:=id rfl
theorem zWa{f:Go.Fn}{a b:List Opd}:zBs E (.mkF f a b)=[]:=id rfl
end
section
variable {P:Program} {E:Nat→AV} {H:AHeap} {K:AV→List Nat→Option (Nat×ABlk)→Prop}
def zLc(H:AHeap)(ty es:Nat)(cells:List AV)(K:AV→List Nat→Option (Nat×ABlk)→Prop):Prop:= ∀b,H b=none→K (.ptr b cells.length 0) [] (some (b,.row ty es cells))
theorem zQM{ty es:Nat}{cells:List AV}:exD P (.alloc ty es cells) E H K=zLc H ty es cells K:=id rfl
theorem zCd{ty es:Nat}{cells:List AV}(h: ∀b,H b=none→K (.ptr b cells.length 0) [] (some (b,.row ty es cells))):zLc H ty es cells K:=h
def zXT(H:AHeap)(ty es:Nat)(K:AV→List Nat→Option (Nat×ABlk)→Prop):Option (List AV)→Prop
 |some l=>zLc H ty es l K
 |none=>False
theorem zby{ty es:Nat}{x:Opd}:exD P (.box ty es x) E H K=zXT H ty es K (x.ev E).cells:=by
 unfold exD zXT;dsimp only;cases(x.ev E).cells<;>rfl
theorem zRj{ty es:Nat}{l:List AV}:zXT H ty es K (some l)=zLc H ty es l K:=id rfl
def zZE(n b L off:Nat)(K:AV→List Nat→Option (Nat×ABlk)→Prop):Option (List AV)→Option ABlk→Prop
 |some l,some (.row ty es cells)=>cells.length=L∧l.length=n∧off+n≤L∧K .bot [b] (some (b,.row ty es (zAh cells off l)))
 |_,_=>False
def zdW(H:AHeap)(n:Nat)(v:AV)(K:AV→List Nat→Option (Nat×ABlk)→Prop):AV→Prop
 |.ptr b L off=>zZE n b L off K v.cells (H b)
 |_=>False
theorem zQJ{n:Nat}{x v:Opd}:exD P (.store n x v) E H K=zdW H n (v.ev E) K (x.ev E):=by
 unfold exD zdW zZE
 dsimp only
 generalize x.ev E=y
 cases y with
 |ptr b L off=>
  dsimp only
  generalize H b=z
  generalize(v.ev E).cells=cs
  cases z with
  |none=>cases cs<;>rfl
  |some z=>cases z<;>cases cs<;>rfl
 |_=>rfl
theorem zVr{n b L off:Nat}{v:AV}:zdW H n v K (.ptr b L off)=zZE n b L off K v.cells (H b):=id rfl
theorem zMt{n b L off ty es:Nat}{x:AV}{cells l:List AV}:zZE n b L off K (some l) (some (.row ty es (x::cells)))=((x::cells).length=L∧l.length=n∧off+n≤L∧K .bot [b] (some (b,.row ty es (zAh (x::cells) off l)))):=id rfl
end
def Bt(l:List UInt8):List AV:=l.map fun b=>.int .u8 (b.toNat:Int)
theorem zCC{l:List UInt8}:(Bt l).length=l.length:=by simp[Bt]
theorem zIn{s:ByteArray}:zFG s=Bt s.data.toList:=id rfl
theorem zCL: ∀l:List UInt8,bytesOf (Bt l)=some l
 |[]=>rfl
 |x::l=>by
  have h:(0:Int)≤(x.toNat:Int)∧(x.toNat:Int)<256:=by have:=x.toNat_lt;omega
  show(if(0:Int)≤(x.toNat:Int)∧(x.toNat:Int)<256 then(bytesOf (Bt l)).map (UInt8.ofNat (x.toNat:Int).toNat:: ·)else none)=_
  rw[if_pos h,zCL l]
  simp
section
variable {P:Program} {E:Nat→AV} {H:AHeap} {K:AV→Prop} {K2:AV→AHeap→Prop} {KD:AV→List Nat→Option (Nat×ABlk)→Prop}
theorem zVH{p:Prim}{xs:List Opd}:zB0 P (.prim p xs) E H K2=zCV p (evs E xs) H (pk K2 H):=id rfl
theorem zcq{e:TypeId}{x n:Opd}:zB0 P (.ust e x n) E H K2=zcK e H (x.ev E) (n.ev E) K2:=id rfl
theorem za3{x:Opd}:zB0 P (.rng x) E H K2=zY7 H (x.ev E) K2:=id rfl
theorem zcs{x:Opd}:zB0 P (.nxt x) E H K2=zY8 H (x.ev E) K2:=id rfl
theorem zZg{ty es bytes:Nat}{zero:List AV}{i:Nat}{E:Nat→AV}{H:AHeap}{K:AV→List Nat→Option (Nat×ABlk)→Prop}:exD P (.mks ty es bytes zero (.t i) (.t i)) E H K↔zYI H ty es bytes zero (Opd.ev E (.t i)) (Opd.ev E (.t i)) K:=by simp[exD,zIC]
theorem zcU{ty es bytes:Nat}{x y:Opd}{E:Nat→AV}{H:AHeap}{K:AV→List Nat→Option (Nat×ABlk)→Prop}:exD P (.app ty es bytes x y) E H K=zed H ty es bytes (x.ev E) (y.ev E) K:=id rfl
theorem zV0{p:Prim}{xs:List Opd}:exD P (.prim p xs) E H KD↔zCV p (evs E xs) H (dp KD (zBs E (.prim p xs))):=zAp (by simp) rfl
theorem zLE{p:Prim}{x:Opd}(h:zLO p=[]):zBs E (.prim p [x])=zBJ (x.ev E):=by simp[zBs,evs,h]
theorem zVA{x:Opd}:zBs E (.prim .nck [x])=zBJ (x.ev E):=zLE rfl
theorem zWr{x:Opd}:zBs E (.prim .b2s [x])=zBJ (x.ev E):=zLE rfl
theorem zPs{n es:Nat}{x:Opd}:zBs E (.prim (.slcP n es) [x])=zBJ (x.ev E):=zLE rfl
theorem zVx{x:Opd}:zBs E (.prim .toU [x])=zBJ (x.ev E):=zLE rfl
theorem zLy{u:TypeId}{cs:Nat}{x:Opd}:zBs E (.prim (.fromU u cs) [x])=zBJ (x.ev E):=zLE rfl
theorem zWX{x:Opd}:zBs E (.prim .usd [x])=zBJ (x.ev E):=zLE rfl
theorem zV7{x:AV}:zCV .nck [x] H K=(zEA H x∧K x):=id rfl
theorem zWe{ng:Bool}{x y:AV}:zCV (.peq ng) [x,y] H K=zOD ng H x y K:=id rfl
theorem zWW{x:AV}:zCV .b2s [x] H K=zOO H x K:=id rfl
theorem zRH{n es:Nat}{x i:AV}:zCV (.idxP n es) [x,i] H K=zGm n es H x i K:=id rfl
theorem zRi{n es:Nat}{x:AV}:zCV (.slcP n es) [x] H K=zHu n es H x K:=id rfl
theorem zVY{x:AV}:zCV .toU [x] H K=zR2 H x K:=id rfl
theorem zM6{u:TypeId}{cs:Nat}{x:AV}:zCV (.fromU u cs) [x] H K=zD2 u cs H x K:=id rfl
theorem zWS{x:AV}:zCV .usd [x] H K=zSL H x K:=id rfl
theorem zVh{g n es:Nat}{x:AV}:zCV (.gix g n es) [x] H K=zOa g n es H x K:=id rfl
theorem zVu{x:AV}:zCV .cap [x] H K=zWY x K:=id rfl
theorem zWB{x:Opd}:zBs E (.prim .cap [x])=zBJ (x.ev E):=zLE rfl
theorem zOZ{n:Nat}{cells:List AV}{K:AV→Prop}:zWY (.seq n cells true) K=(n<2^63∧K (.int .i64 ((n:Nat):Int))):=id rfl
theorem zL8{b L n cap:Nat}{K:AV→Prop}:zWY (.ownc b L n cap) K=K (.int .i64 ((cap:Nat):Int)):=id rfl
theorem zMM{es b L n cap:Nat}{k:IntKind}{K:AV→Prop}:zDU es (.ownc b L n cap) none (some (.int k (cap:Int))) none K=K (.own b L 0 cap true):=by
 simp[zDU,zC9]
theorem zHN{es b L n cap:Nat}{H:AHeap}:zDD es H (.ownc b L n cap)=True:=id rfl
theorem zP9{ng:Bool}{x y:AV}:zCV (.aeq ng) [x,y] H K=zNw ng x y K:=id rfl
theorem zWf{ng:Bool}{k k':IntKind}{a b c d:Int}:zNw ng (.agg [.int k a,.int k' b]) (.agg [.int k c,.int k' d]) K↔K (.bool (ng !=(decide (a=c)&&decide (b=d)))):=by simp[zNw]
theorem zVJ{ng:Bool}:zOD ng H .nilP .nilP K=K (.bool (!ng)):=id rfl
theorem zVE{ng:Bool}{b L off:Nat}:zOD ng H (.ptr b L off) .nilP K=(zEA H (.ptr b L off)∧K (.bool ng)):=id rfl
theorem zVp{ng:Bool}{b L off:Nat}:zOD ng H (.ptr b L off) (.ptr b L off) K↔(zEA H (.ptr b L off)∧K (.bool (!ng))):=by
 simp[zOD]
def zR0(L:Nat)(F:TypeId→Nat→List AV→Prop):Option ABlk→Prop
 |some (.row ty es cells)=>cells.length=L∧F ty es cells
 |_=>False
theorem zHD{b L:Nat}{F:TypeId→Nat→List AV→Prop}:zIi H b L F=zR0 L F (H b):=by
 unfold zIi zR0;cases H b with
 |none=>rfl
 |some x=>cases x<;>rfl
theorem zWM{L ty es:Nat}{cells:List AV}{F:TypeId→Nat→List AV→Prop}(h:cells.length=L):zR0 L F (some (.row ty es cells))=F ty es cells:=by simp[zR0,h]
theorem zKt{b L off n:Nat}{t:Bool}:zOO H (.own b L off n t) K=zR0 L (fun _ es cells=>es=1∧off+n≤L∧zVT K (bytesOf ((cells.drop off).take n))) (H b):=zHD
theorem zVK{l:List UInt8}{t:Bool}:zOO H (.seq l.length (Bt l) t) K=K (.str ⟨l.toArray⟩):=by
 simp[zOO,zCC,zCL,zVT]
theorem zO9{l:List UInt8}:zVT K (bytesOf (Bt l))=K (.str ⟨l.toArray⟩):=by rw[zCL];rfl
theorem zVF{n es i:Nat}{k:IntKind}{x:AV}(h:i<n):zGm n es H x (.int k (i:Int)) K=(zEA H x∧zGK (i*es) x K):=by
 simp[zGm,h]
theorem zM0{n es b L off:Nat}:zHu n es H (.ptr b L off) K=zR0 L (fun _ es' _=>es'=es∧off+n*es≤L∧n<2^63∧K (.own b L off n true)) (H b):=zHD
theorem zQW:zR2 H .nilP K=K .nilP:=id rfl
theorem zPn{b L off:Nat}:zR2 H (.ptr b L off) K=zR0 L (fun _ _ _=>off<L∧K (.ptr b L off)) (H b):=zHD
theorem zJE{u:TypeId}{cs:Nat}:zD2 u cs H .nilP K=K .nilP:=id rfl
theorem zIm{u:TypeId}{cs b L off:Nat}:zD2 u cs H (.ptr b L off) K=zR0 L (fun ty _ _=>ty=u∧off=0∧cs≤L∧K (.ptr b L off)) (H b):=zHD
theorem zOw{b L off n:Nat}{t:Bool}:zSL H (.own b L off n t) K=zR0 L (fun _ _ _=>0<n∧K (.ptr b L off)) (H b):=zHD
def zfE(e:TypeId)(H:AHeap)(b L off:Nat)(m:Int)(K:AV→AHeap→Prop)(ty es:Nat)(cells:List AV):Prop:=ty=e∧off=0∧0<m∧m.toNat≤L∧m<9223372036854775808∧zej H b K (bytesOf (cells.take m.toNat))
theorem zPv{e:TypeId}{b L off:Nat}{m:Int}:zcK e H (.ptr b L off) (.int .i64 m) K2=zR0 L (zfE e H b L off m K2) (H b):=zHD
theorem zRU{e:TypeId}{b L es:Nat}{l:List UInt8}(h0:0<l.length)(hL:l.length=L)(h:l.length<9223372036854775808):zfE e H b L 0 ((l.length:Nat):Int) K2 e es (Bt l)=K2 (.str ⟨l.toArray⟩) (H.upd b none):=by
 have h1:(0:Int)<(l.length:Int):=by omega
 have h2:(l.length:Int)<9223372036854775808:=by omega
 have h3:(Bt l).take l.length=Bt l:=List.take_of_length_le (by rw[zCC];exact Nat.le_refl _)
 have h4:l.length≤L:=by omega
 simp only[zfE,true_and,h1,h2,Int.toNat_natCast,h3,h4,zCL,zej]
def zfK(H:AHeap)(s:ByteArray)(K:AV→AHeap→Prop):Prop:= ∀b,H b=none→K (.ptr b 0 0) (H.upd b (some (.raw (.stringIter s 0))))
theorem zOh{s:ByteArray}:zY7 H (.str s) K2=zfK H s K2:=id rfl
theorem zez{s:ByteArray}(h: ∀b,H b=none→K2 (.ptr b 0 0) (H.upd b (some (.raw (.stringIter s 0))))):zfK H s K2:=h
theorem zQL{b:Nat}:zY8 H (.ptr b 0 0) K2=zUK H b K2 (H b):=by simp[zY8]
theorem zPg{b pos:Nat}{s:ByteArray}(h:pos<s.size)(hb:zB3 s pos<128):zUK H b K2 (some (.raw (.stringIter s pos)))=K2 (.tup [.bool true,.int .i64 (pos:Int),.int .i32 (zB3 s pos:Int)]) (H.upd b (some (.raw (.stringIter s (pos+1))))):=by
 simp[zUK,h,hb];intro h';omega
theorem zO7{b pos:Nat}{s:ByteArray}(h:s.size≤pos):zUK H b K2 (some (.raw (.stringIter s pos)))=K2 (.tup [.bool false]) H:=by
 simp[zUK,h];intro h';omega
def zdO(g n es:Nat)(K:AV→Prop)(i:Int):Option ABlk→Prop
 |some (.glob g' cells)=>g'=g∧0≤i∧i<n∧K (.ptr g cells.length (i.toNat*es))
 |_=>False
theorem zQ3{g n es:Nat}{k:IntKind}{i:Int}:zOa g n es H (.int k i) K=zdO g n es K i (H g):=by
 unfold zOa zdO;cases H g with
 |none=>rfl
 |some x=>cases x<;>rfl
theorem zMf{n:Option Nat}{L off g:Nat}{cells:List AV}:ldP n L off K (some (.glob g cells))=(cells.length=L∧off+n.getD 1≤L∧ldC n K ((cells.drop off).take (n.getD 1))):=id rfl
theorem zIr{o:Obj}:zNk 0 (some (.raw o))=True:=by simp[zNk,ABlk.len]
theorem zWd{k:IntKind}{n:Int}:zBJ (.int k n)=[]:=id rfl
theorem zO1:zBJ .nilP=[]:=id rfl
theorem zI0{s:ByteArray}:(AV.str s).cells=some [.str s]:=id rfl
theorem zJa{b L off:Nat}:(AV.ptr b L off).cells=some [.ptr b L off]:=id rfl
theorem zHc:AV.nilP.cells=some [.nilP]:=id rfl
theorem zMX{s:ByteArray}:(AV.str s).cell=true:=id rfl
theorem zMb{b L off:Nat}:(AV.ptr b L off).cell=true:=id rfl
theorem zJQ:AV.nilP.cell=true:=id rfl
end
theorem zAM{P:Program}{f:FuncId}{args:List AV}{H:AHeap}{K:AV→AHeap→Prop}(h:Run P f args H K):zBn P (.fn (.func f) [] []) args H K:=by simpa[zBn]using h
theorem zAS{G:AHeap}{p q:Nat}{b:ABlk}(h:G p=some b)(n:G q=none):Ap q p:=by
 intro e;rw[e,h]at n;cases n
theorem Le.trans{A B C:AHeap}(h:Le A B)(h':Le B C):Le A C:=fun b x e=>h' b x (h b x e)
theorem zAK{k:IntKind}{n m:Int}{K:AV→Prop}:zAv .eql (.int k n) (.int k m) K↔K (.bool (decide (n=m))):=by simp[zAv,zAi]
theorem zfB{P:Program}{c:ACode}{Q:Exit→St→Prop}{D:List Nat}{E:Env}{H:AHeap}(h: ∀M,M=H→W P c Q ⟨D,E,M⟩):W P c Q ⟨D,E,H⟩:=h H rfl
theorem Le.none{H G:AHeap}{q:Nat}(h:Le H G)(n:G q=none):H q=none:=by
 cases e:H q with
 |none=>rfl
 |some z=>have:=h _ _ e;rw[n]at this;cases this
end Go.Proofs.YtmndejlpfmmaiaaGreatDoor.Fw
namespace Go.Proofs.YtmndejlpfmmaiaaGreatDoor.Fw
open Go
end Go.Proofs.YtmndejlpfmmaiaaGreatDoor.Fw
namespace Go.Proofs.YtmndejlpfmmaiaaGreatDoor.Fw
open Go
theorem zJ6{n:Nat}:zEl [] n=[]:=id rfl
theorem zHC{x:AV}{r:List AV}{n:Nat}:zEl (x::r) n=(n,x)::zEl r (n+1):=id rfl
theorem Xa:type_of%(And.intro (And.intro (And.intro (And.intro (And.intro (And.intro (And.intro (@zZd) (@zcw)) (And.intro (@zP2) (@zWE))) (And.intro (And.intro (@zVP) (@zaL)) (And.intro (@zPV) (@zWP)))) (And.intro (And.intro (And.intro (@zWn) (@zWk)) (And.intro (@zVw) (@zVf))) (And.intro (And.intro (@zQK) (@zPM)) (And.intro (@zRP) (@zRN))))) (And.intro (And.intro (And.intro (And.intro (@zQz) (@zLg)) (And.intro (@zPX) (@zMd))) (And.intro (And.intro (@zRY) (@zRB)) (And.intro (@zM7) (@zLW)))) (And.intro (And.intro (And.intro (@zMG) (@zMJ)) (And.intro (@zLn) (@zMq))) (And.intro (And.intro (@zM2) (@zPB)) (And.intro (@zWF) (@zP6)))))) (And.intro (And.intro (And.intro (And.intro (And.intro (@zMo) (@zLq)) (And.intro (@zMN) (@zcj))) (And.intro (And.intro (@zbs) (@zVj)) (And.intro (@zZv) (@zV5)))) (And.intro (And.intro (And.intro (@zf9) (@zWg)) (And.intro (@zWQ) (@zb2))) (And.intro (And.intro (@zbC) (@zQ8)) (And.intro (@zVd) (@zVi))))) (And.intro (And.intro (And.intro (And.intro (@zVG) (@zV8)) (And.intro (@zZ7) (@zbi))) (And.intro (And.intro (@zVU) (@zaZ)) (And.intro (@zfk) (@zat)))) (And.intro (And.intro (And.intro (@zU9) (@zOU)) (And.intro (@zdD) (@zRr))) (And.intro (And.intro (@zaM) (@zWD)) (And.intro (@zU8) (And.intro (@zWV) (@za0)))))))) (And.intro (And.intro (And.intro (And.intro (And.intro (And.intro (@zbu) (@zWK)) (And.intro (@zWT) (@zV1))) (And.intro (And.intro (@zWh) (@zZM)) (And.intro (@zLx) (@zWs)))) (And.intro (And.intro (And.intro (@zI6) (@zMB)) (And.intro (@zMy) (@zVD))) (And.intro (And.intro (@zWR) (@zVX)) (And.intro (@zO5) (@zWL))))) (And.intro (And.intro (And.intro (And.intro (@zPq) (@zML)) (And.intro (@zPP) (@zPO))) (And.intro (And.intro (@zLY) (@zMK)) (And.intro (@zJO) (@zG0)))) (And.intro (And.intro (And.intro (@zf6) (@zgJ)) (And.intro (@zam) (@zQ7))) (And.intro (And.intro (@zQM) (@zby)) (And.intro (@zQJ) (@zcU)))))) (And.intro (And.intro (And.intro (And.intro (And.intro (@zZg) (@zdC)) (And.intro (@zb0) (@zbc))) (And.intro (And.intro (@zWt) (@zfw)) (And.intro (@zVo) (@zcv)))) (And.intro (And.intro (And.intro (@zbq) (@zOt)) (And.intro (@zVZ) (@zV9))) (And.intro (And.intro (@zWm) (@zWI)) (And.intro (@zZe) (@zWA))))) (And.intro (And.intro (And.intro (And.intro (@zf4) (@zZh)) (And.intro (@zZu) (@zWU))) (And.intro (And.intro (@zbU) (@zVH)) (And.intro (@zcq) (@za3)))) (And.intro (And.intro (And.intro (@zcs) (@zV0)) (And.intro (@zVA) (@zWB))) (And.intro (And.intro (@zWr) (@zPs)) (And.intro (@zVx) (And.intro (@zLy) (@zWX))))))))):=And.intro (And.intro (And.intro (And.intro (And.intro (And.intro (And.intro (@zZd) (@zcw)) (And.intro (@zP2) (@zWE))) (And.intro (And.intro (@zVP) (@zaL)) (And.intro (@zPV) (@zWP)))) (And.intro (And.intro (And.intro (@zWn) (@zWk)) (And.intro (@zVw) (@zVf))) (And.intro (And.intro (@zQK) (@zPM)) (And.intro (@zRP) (@zRN))))) (And.intro (And.intro (And.intro (And.intro (@zQz) (@zLg)) (And.intro (@zPX) (@zMd))) (And.intro (And.intro (@zRY) (@zRB)) (And.intro (@zM7) (@zLW)))) (And.intro (And.intro (And.intro (@zMG) (@zMJ)) (And.intro (@zLn) (@zMq))) (And.intro (And.intro (@zM2) (@zPB)) (And.intro (@zWF) (@zP6)))))) (And.intro (And.intro (And.intro (And.intro (And.intro (@zMo) (@zLq)) (And.intro (@zMN) (@zcj))) (And.intro (And.intro (@zbs) (@zVj)) (And.intro (@zZv) (@zV5)))) (And.intro (And.intro (And.intro (@zf9) (@zWg)) (And.intro (@zWQ) (@zb2))) (And.intro (And.intro (@zbC) (@zQ8)) (And.intro (@zVd) (@zVi))))) (And.intro (And.intro (And.intro (And.intro (@zVG) (@zV8)) (And.intro (@zZ7) (@zbi))) (And.intro (And.intro (@zVU) (@zaZ)) (And.intro (@zfk) (@zat)))) (And.intro (And.intro (And.intro (@zU9) (@zOU)) (And.intro (@zdD) (@zRr))) (And.intro (And.intro (@zaM) (@zWD)) (And.intro (@zU8) (And.intro (@zWV) (@za0)))))))) (And.intro (And.intro (And.intro (And.intro (And.intro (And.intro (@zbu) (@zWK)) (And.intro (@zWT) (@zV1))) (And.intro (And.intro (@zWh) (@zZM)) (And.intro (@zLx) (@zWs)))) (And.intro (And.intro (And.intro (@zI6) (@zMB)) (And.intro (@zMy) (@zVD))) (And.intro (And.intro (@zWR) (@zVX)) (And.intro (@zO5) (@zWL))))) (And.intro (And.intro (And.intro (And.intro (@zPq) (@zML)) (And.intro (@zPP) (@zPO))) (And.intro (And.intro (@zLY) (@zMK)) (And.intro (@zJO) (@zG0)))) (And.intro (And.intro (And.intro (@zf6) (@zgJ)) (And.intro (@zam) (@zQ7))) (And.intro (And.intro (@zQM) (@zby)) (And.intro (@zQJ) (@zcU)))))) (And.intro (And.intro (And.intro (And.intro (And.intro (@zZg) (@zdC)) (And.intro (@zb0) (@zbc))) (And.intro (And.intro (@zWt) (@zfw)) (And.intro (@zVo) (@zcv)))) (And.intro (And.intro (And.intro (@zbq) (@zOt)) (And.intro (@zVZ) (@zV9))) (And.intro (And.intro (@zWm) (@zWI)) (And.intro (@zZe) (@zWA))))) (And.intro (And.intro (And.intro (And.intro (@zf4) (@zZh)) (And.intro (@zZu) (@zWU))) (And.intro (And.intro (@zbU) (@zVH)) (And.intro (@zcq) (@za3)))) (And.intro (And.intro (And.intro (@zcs) (@zV0)) (And.intro (@zVA) (@zWB))) (And.intro (And.intro (@zWr) (@zPs)) (And.intro (@zVx) (And.intro (@zLy) (@zWX))))))))
theorem Xb:type_of%(And.intro (And.intro (And.intro (And.intro (And.intro (And.intro (And.intro (@zgC) (And.intro (@zai) (@zZK))) (And.intro (And.intro (@zaP) (@zaF)) (And.intro (@zVu) (@zOZ)))) (And.intro (And.intro (And.intro (@zL8) (@zMM)) (And.intro (@zHN) (@zL3))) (And.intro (And.intro (@zHS) (@zVe)) (And.intro (@zfs) (@zf3))))) (And.intro (And.intro (And.intro (@zfo) (And.intro (@zcI) (@zgG))) (And.intro (And.intro (@zWp) (@zfq)) (And.intro (@zfv) (@zVy)))) (And.intro (And.intro (And.intro (@zRt) (@zWu)) (And.intro (@zWo) (@zPt))) (And.intro (And.intro (@zcg) (@zVn)) (And.intro (@zOm) (@zRh)))))) (And.intro (And.intro (And.intro (And.intro (@zOb) (And.intro (@zVs) (@zWx))) (And.intro (And.intro (@zRI) (@zWi)) (And.intro (@zRX) (@zcN)))) (And.intro (And.intro (And.intro (@zRe) (@zVv)) (And.intro (@zVR) (@zLX))) (And.intro (And.intro (@zVN) (@zbF)) (And.intro (@zQB) (@zPZ))))) (And.intro (And.intro (And.intro (@zWa) (And.intro (@zRj) (@zVr))) (And.intro (And.intro (@zMt) (@zQF)) (And.intro (@zO4) (@zWv)))) (And.intro (And.intro (And.intro (@zVa) (@zV4)) (And.intro (@zVz) (@zRL))) (And.intro (And.intro (@zPR) (@zVt)) (And.intro (@zLS) (@zJI))))))) (And.intro (And.intro (And.intro (And.intro (And.intro (@zMs) (And.intro (@zRT) (@zL6))) (And.intro (And.intro (@zfp) (@zfx)) (And.intro (@zQd) (@zM3)))) (And.intro (And.intro (And.intro (@zMp) (@zMY)) (And.intro (@zP7) (@zME))) (And.intro (And.intro (@len_LSk) (@len_ownk)) (And.intro (@zMI) (@zM1))))) (And.intro (And.intro (And.intro (@zV3) (And.intro (@zKS) (@zO0))) (And.intro (And.intro (@zMZ) (@zPd)) (And.intro (@zP0) (@zJ8)))) (And.intro (And.intro (And.intro (@zQe) (@zQg)) (And.intro (@zKR) (@zOl))) (And.intro (And.intro (@zRR) (@zOY)) (And.intro (@zOq) (@zIt)))))) (And.intro (And.intro (And.intro (And.intro (@zJy) (And.intro (@zLp) (@zMS))) (And.intro (And.intro (@zJD) (@zMW)) (And.intro (@zIv) (@zRd)))) (And.intro (And.intro (And.intro (@zIU) (@zLh)) (And.intro (@zZb) (@zEN))) (And.intro (And.intro (@zDV) (@zRD)) (And.intro (@zcZ) (@zcd))))) (And.intro (And.intro (And.intro (@zFx) (And.intro (@zPc) (@zcB))) (And.intro (And.intro (@zMF) (@zGx)) (And.intro (@zGU) (@zJe)))) (And.intro (And.intro (And.intro (@zI9) (@zGb)) (And.intro (@zHM) (@zJm))) (And.intro (And.intro (@zFq) (@zGy)) (And.intro (@zI8) (@zI7)))))))) (And.intro (And.intro (And.intro (And.intro (And.intro (And.intro (@zMk) (And.intro (@zJt) (@zQZ))) (And.intro (And.intro (@zHd) (@zRF)) (And.intro (@zcJ) (@zJj)))) (And.intro (And.intro (And.intro (@zHQ) (@zLP)) (And.intro (@zIo) (@zIy))) (And.intro (And.intro (@zLl) (@zI5)) (And.intro (@zIz) (@zLU))))) (And.intro (And.intro (And.intro (@zIp) (And.intro (@zQk) (@zMD))) (And.intro (And.intro (@zL0) (@zHf)) (And.intro (@zM4) (@zFb)))) (And.intro (And.intro (And.intro (@zVI) (@zVQ)) (And.intro (@zaQ) (@zZ6))) (And.intro (And.intro (@zc8) (@zZ9)) (And.intro (@zbt) (@zZm)))))) (And.intro (And.intro (And.intro (And.intro (@zbd) (And.intro (@zMU) (@za5))) (And.intro (And.intro (@zVO) (@zZ1)) (And.intro (@zLw) (@zJz)))) (And.intro (And.intro (And.intro (@zPu) (@zah)) (And.intro (@zAC) (@zBZ))) (And.intro (And.intro (@zAR) (@zDj)) (And.intro (@zGF) (@zF6))))) (And.intro (And.intro (And.intro (@zGX) (And.intro (@zJ4) (@U_len))) (And.intro (And.intro (@zdU) (@zfZ)) (And.intro (@zfi) (@zft)))) (And.intro (And.intro (And.intro (@zc9) (@zaH)) (And.intro (@zbh) (@zZs))) (And.intro (And.intro (@zPA) (@zPw)) (And.intro (@zQO) (@zLd))))))) (And.intro (And.intro (And.intro (And.intro (And.intro (@zMC) (And.intro (@zC5) (@zC0))) (And.intro (And.intro (@zEt) (@zCj)) (And.intro (@zM9) (@zJ9)))) (And.intro (And.intro (And.intro (@zL4) (@zJG)) (And.intro (@zPW) (@zLV))) (And.intro (And.intro (@zQf) (@zao)) (And.intro (@zVS) (@zV2))))) (And.intro (And.intro (And.intro (@zV7) (And.intro (@zWe) (@zWW))) (And.intro (And.intro (@zRH) (@zRi)) (And.intro (@zVY) (@zM6)))) (And.intro (And.intro (And.intro (@zWS) (@zVh)) (And.intro (@zcT) (@zf5))) (And.intro (And.intro (@zP9) (@zWf)) (And.intro (@zVJ) (@zVE)))))) (And.intro (And.intro (And.intro (And.intro (@zVp) (And.intro (@zWM) (@zKt))) (And.intro (And.intro (@zVK) (@zO9)) (And.intro (@zVF) (@zM0)))) (And.intro (And.intro (And.intro (@zQW) (@zPn)) (And.intro (@zJE) (@zIm))) (And.intro (And.intro (@zOw) (@zPv)) (And.intro (@zRU) (@zOh))))) (And.intro (And.intro (And.intro (@zQL) (And.intro (@zPg) (@zO7))) (And.intro (And.intro (@zQ3) (@zIr)) (And.intro (@zWd) (@zO1)))) (And.intro (And.intro (And.intro (@zI0) (@zJa)) (And.intro (@zHc) (@zMX))) (And.intro (And.intro (@zMb) (@zJQ)) (And.intro (@zJ6) (@zHC))))))))):=And.intro (And.intro (And.intro (And.intro (And.intro (And.intro (And.intro (@zgC) (And.intro (@zai) (@zZK))) (And.intro (And.intro (@zaP) (@zaF)) (And.intro (@zVu) (@zOZ)))) (And.intro (And.intro (And.intro (@zL8) (@zMM)) (And.intro (@zHN) (@zL3))) (And.intro (And.intro (@zHS) (@zVe)) (And.intro (@zfs) (@zf3))))) (And.intro (And.intro (And.intro (@zfo) (And.intro (@zcI) (@zgG))) (And.intro (And.intro (@zWp) (@zfq)) (And.intro (@zfv) (@zVy)))) (And.intro (And.intro (And.intro (@zRt) (@zWu)) (And.intro (@zWo) (@zPt))) (And.intro (And.intro (@zcg) (@zVn)) (And.intro (@zOm) (@zRh)))))) (And.intro (And.intro (And.intro (And.intro (@zOb) (And.intro (@zVs) (@zWx))) (And.intro (And.intro (@zRI) (@zWi)) (And.intro (@zRX) (@zcN)))) (And.intro (And.intro (And.intro (@zRe) (@zVv)) (And.intro (@zVR) (@zLX))) (And.intro (And.intro (@zVN) (@zbF)) (And.intro (@zQB) (@zPZ))))) (And.intro (And.intro (And.intro (@zWa) (And.intro (@zRj) (@zVr))) (And.intro (And.intro (@zMt) (@zQF)) (And.intro (@zO4) (@zWv)))) (And.intro (And.intro (And.intro (@zVa) (@zV4)) (And.intro (@zVz) (@zRL))) (And.intro (And.intro (@zPR) (@zVt)) (And.intro (@zLS) (@zJI))))))) (And.intro (And.intro (And.intro (And.intro (And.intro (@zMs) (And.intro (@zRT) (@zL6))) (And.intro (And.intro (@zfp) (@zfx)) (And.intro (@zQd) (@zM3)))) (And.intro (And.intro (And.intro (@zMp) (@zMY)) (And.intro (@zP7) (@zME))) (And.intro (And.intro (@len_LSk) (@len_ownk)) (And.intro (@zMI) (@zM1))))) (And.intro (And.intro (And.intro (@zV3) (And.intro (@zKS) (@zO0))) (And.intro (And.intro (@zMZ) (@zPd)) (And.intro (@zP0) (@zJ8)))) (And.intro (And.intro (And.intro (@zQe) (@zQg)) (And.intro (@zKR) (@zOl))) (And.intro (And.intro (@zRR) (@zOY)) (And.intro (@zOq) (@zIt)))))) (And.intro (And.intro (And.intro (And.intro (@zJy) (And.intro (@zLp) (@zMS))) (And.intro (And.intro (@zJD) (@zMW)) (And.intro (@zIv) (@zRd)))) (And.intro (And.intro (And.intro (@zIU) (@zLh)) (And.intro (@zZb) (@zEN))) (And.intro (And.intro (@zDV) (@zRD)) (And.intro (@zcZ) (@zcd))))) (And.intro (And.intro (And.intro (@zFx) (And.intro (@zPc) (@zcB))) (And.intro (And.intro (@zMF) (@zGx)) (And.intro (@zGU) (@zJe)))) (And.intro (And.intro (And.intro (@zI9) (@zGb)) (And.intro (@zHM) (@zJm))) (And.intro (And.intro (@zFq) (@zGy)) (And.intro (@zI8) (@zI7)))))))) (And.intro (And.intro (And.intro (And.intro (And.intro (And.intro (@zMk) (And.intro (@zJt) (@zQZ))) (And.intro (And.intro (@zHd) (@zRF)) (And.intro (@zcJ) (@zJj)))) (And.intro (And.intro (And.intro (@zHQ) (@zLP)) (And.intro (@zIo) (@zIy))) (And.intro (And.intro (@zLl) (@zI5)) (And.intro (@zIz) (@zLU))))) (And.intro (And.intro (And.intro (@zIp) (And.intro (@zQk) (@zMD))) (And.intro (And.intro (@zL0) (@zHf)) (And.intro (@zM4) (@zFb)))) (And.intro (And.intro (And.intro (@zVI) (@zVQ)) (And.intro (@zaQ) (@zZ6))) (And.intro (And.intro (@zc8) (@zZ9)) (And.intro (@zbt) (@zZm)))))) (And.intro (And.intro (And.intro (And.intro (@zbd) (And.intro (@zMU) (@za5))) (And.intro (And.intro (@zVO) (@zZ1)) (And.intro (@zLw) (@zJz)))) (And.intro (And.intro (And.intro (@zPu) (@zah)) (And.intro (@zAC) (@zBZ))) (And.intro (And.intro (@zAR) (@zDj)) (And.intro (@zGF) (@zF6))))) (And.intro (And.intro (And.intro (@zGX) (And.intro (@zJ4) (@U_len))) (And.intro (And.intro (@zdU) (@zfZ)) (And.intro (@zfi) (@zft)))) (And.intro (And.intro (And.intro (@zc9) (@zaH)) (And.intro (@zbh) (@zZs))) (And.intro (And.intro (@zPA) (@zPw)) (And.intro (@zQO) (@zLd))))))) (And.intro (And.intro (And.intro (And.intro (And.intro (@zMC) (And.intro (@zC5) (@zC0))) (And.intro (And.intro (@zEt) (@zCj)) (And.intro (@zM9) (@zJ9)))) (And.intro (And.intro (And.intro (@zL4) (@zJG)) (And.intro (@zPW) (@zLV))) (And.intro (And.intro (@zQf) (@zao)) (And.intro (@zVS) (@zV2))))) (And.intro (And.intro (And.intro (@zV7) (And.intro (@zWe) (@zWW))) (And.intro (And.intro (@zRH) (@zRi)) (And.intro (@zVY) (@zM6)))) (And.intro (And.intro (And.intro (@zWS) (@zVh)) (And.intro (@zcT) (@zf5))) (And.intro (And.intro (@zP9) (@zWf)) (And.intro (@zVJ) (@zVE)))))) (And.intro (And.intro (And.intro (And.intro (@zVp) (And.intro (@zWM) (@zKt))) (And.intro (And.intro (@zVK) (@zO9)) (And.intro (@zVF) (@zM0)))) (And.intro (And.intro (And.intro (@zQW) (@zPn)) (And.intro (@zJE) (@zIm))) (And.intro (And.intro (@zOw) (@zPv)) (And.intro (@zRU) (@zOh))))) (And.intro (And.intro (And.intro (@zQL) (And.intro (@zPg) (@zO7))) (And.intro (And.intro (@zQ3) (@zIr)) (And.intro (@zWd) (@zO1)))) (And.intro (And.intro (And.intro (@zI0) (@zJa)) (And.intro (@zHc) (@zMX))) (And.intro (And.intro (@zMb) (@zJQ)) (And.intro (@zJ6) (@zHC))))))))
theorem Xc:type_of%(And.intro (And.intro (And.intro (And.intro (And.intro (@List.contains_cons.{0}) (@List.contains_nil.{0})) (And.intro (@Bool.or_false) (And.intro (@Bool.or_true) (@Bool.false_or)))) (And.intro (And.intro (@Bool.true_or) (And.intro (@Bool.false_eq_true) (@true_and))) (And.intro (@and_true) (And.intro (@not_false_eq_true) (@not_true_eq_false))))) (And.intro (And.intro (And.intro (@decide_true) (@decide_false)) (And.intro (@List.length_cons.{0}) (And.intro (@List.length_nil.{0}) (@List.length_append.{0})))) (And.intro (And.intro (@List.length_replicate.{0}) (And.intro (@List.length_set.{0}) (@List.drop_zero.{0}))) (And.intro (@List.drop_succ_cons.{0}) (And.intro (@List.drop_nil.{0}) (@List.take_zero.{0})))))) (And.intro (And.intro (And.intro (And.intro (@List.take_succ_cons.{0}) (@List.take_nil.{0})) (And.intro (@List.cons_append.{0}) (And.intro (@List.nil_append.{0}) (@List.append_nil.{0})))) (And.intro (And.intro (@List.all_cons.{0}) (And.intro (@List.all_nil.{0}) (@Bool.and_self))) (And.intro (@Bool.and_true) (And.intro (@Bool.true_and) (@Option.getD_none.{0}))))) (And.intro (And.intro (And.intro (@Option.getD_some.{0}) (@Nat.zero_add)) (And.intro (@Nat.add_zero) (And.intro (@Nat.mul_one) (@Bool.not_true)))) (And.intro (And.intro (@Bool.not_false) (And.intro (@beq_self_eq_true.{0}) (@Nat.zero_le))) (And.intro (@Nat.le_refl) (And.intro (@Nat.lt_irrefl) (@Nat.not_lt_zero))))))):=And.intro (And.intro (And.intro (And.intro (And.intro (@List.contains_cons.{0}) (@List.contains_nil.{0})) (And.intro (@Bool.or_false) (And.intro (@Bool.or_true) (@Bool.false_or)))) (And.intro (And.intro (@Bool.true_or) (And.intro (@Bool.false_eq_true) (@true_and))) (And.intro (@and_true) (And.intro (@not_false_eq_true) (@not_true_eq_false))))) (And.intro (And.intro (And.intro (@decide_true) (@decide_false)) (And.intro (@List.length_cons.{0}) (And.intro (@List.length_nil.{0}) (@List.length_append.{0})))) (And.intro (And.intro (@List.length_replicate.{0}) (And.intro (@List.length_set.{0}) (@List.drop_zero.{0}))) (And.intro (@List.drop_succ_cons.{0}) (And.intro (@List.drop_nil.{0}) (@List.take_zero.{0})))))) (And.intro (And.intro (And.intro (And.intro (@List.take_succ_cons.{0}) (@List.take_nil.{0})) (And.intro (@List.cons_append.{0}) (And.intro (@List.nil_append.{0}) (@List.append_nil.{0})))) (And.intro (And.intro (@List.all_cons.{0}) (And.intro (@List.all_nil.{0}) (@Bool.and_self))) (And.intro (@Bool.and_true) (And.intro (@Bool.true_and) (@Option.getD_none.{0}))))) (And.intro (And.intro (And.intro (@Option.getD_some.{0}) (@Nat.zero_add)) (And.intro (@Nat.add_zero) (And.intro (@Nat.mul_one) (@Bool.not_true)))) (And.intro (And.intro (@Bool.not_false) (And.intro (@beq_self_eq_true.{0}) (@Nat.zero_le))) (And.intro (@Nat.le_refl) (And.intro (@Nat.lt_irrefl) (@Nat.not_lt_zero))))))
theorem Xd:type_of%(And.intro (And.intro (@U_len) (And.intro (@List.length_append.{0}) (@List.length_replicate.{0}))) (And.intro (@List.length_cons.{0}) (And.intro (@List.length_nil.{0}) (@List.length_set.{0})))):=(And.intro (And.intro (@U_len) (And.intro (@List.length_append.{0}) (@List.length_replicate.{0}))) (And.intro (@List.length_cons.{0}) (And.intro (@List.length_nil.{0}) (@List.length_set.{0}))))
theorem Xe{p:Prop}(h:p:=by first|assumption|(apply Ap.symm;assumption)|omega|decide|(simp only[Xd]<;>omega)):p:=h
end Go.Proofs.YtmndejlpfmmaiaaGreatDoor.Fw
namespace Go.Proofs.YtmndejlpfmmaiaaGreatDoor.Fw
open Go Go.Proofs.YtmndejlpfmmaiaaGreatDoor.Ma
def Ctx.renew(c:Ctx)(b b':Nat)(x:ABlk):Ctx:={ c with μ:=fun i=>if i=b' then c.μ b else c.μ i,U:=fun i=>c.U i∨i=b',H:=(c.H.upd b none).upd b' (some x) }
theorem Ctx.renew_H{c:Ctx}{b b' i:Nat}{x y:ABlk}(h:(c.renew b b' x).H i=some y):(i=b'∧y=x)∨(i≠b'∧i≠b∧c.H i=some y):=by
 have h2:((c.H.upd b none).upd b' (some x)) i=some y:=h
 rcases zBS h2 with⟨e,e2⟩|⟨e,e2⟩
 ·injection e2 with e2;exact .inl ⟨e,e2.symm⟩
 ·rcases zBS e2 with⟨_,e4⟩|⟨e3,e4⟩
  ·cases e4
  ·exact .inr ⟨e,e3,e4⟩
theorem Ctx.renew_later{c:Ctx}{b b':Nat}{x:ABlk}(hb:ABlk.mut (c.H b))(hU: ¬c.U b')(hR: ¬c.R b'):Later c (c.renew b b' x):=by
 refine⟨⟨Nat.le_refl _,rfl,rfl,rfl,fun _ h=>.inl h,?_,?_⟩,fun i h=>⟨h,fun k=>k.resolve_right fun e=>hR (e▸h)⟩⟩
 ·intro i x' hi hx
  rcases Ctx.renew_H hx with⟨e,_⟩|⟨e,_,e2⟩
  ·exact absurd (e▸hi) hU
  ·refine⟨x',e2,Nat.le_refl _,fun _=>⟨if_neg e,fun _ _ cells e'=>⟨cells,e',fun arr h=>⟨arr,?_,rfl⟩⟩⟩⟩
   show c.w.heap[if i=b' then c.μ b else c.μ i]? =_
   rw[if_neg e];exact h
 ·rintro k _ hm
  refine⟨rfl,fun⟨i,hi,e⟩=>hm ?_⟩
  have e':(if i=b' then c.μ b else c.μ i)=k:=e
  cases hy:(c.renew b b' x).H i with
  |none=>rw[hy]at hi;exact hi.elim
  |some y=>
   rw[hy]at hi
   rcases Ctx.renew_H hy with⟨e1,_⟩|⟨e1,_,e2⟩
   ·rw[if_pos e1]at e';exact⟨b,hb,e'⟩
   ·rw[if_neg e1]at e';exact⟨i,by rw[e2];exact hi,e'⟩
theorem Ctx.renew_ok{c:Ctx}(hok:Ok c){b b' ty es m:Nat}{cells:List AV}(hb:c.H b=some (.row ty es cells))(hU: ¬c.U b')(hR: ¬c.R b'):Ok (c.renew b b' (.row ty es (cells.take m))):=by
 have hbn:c.H b≠none:=by rw[hb];simp
 have later:=Ctx.renew_later (x:=.row ty es (cells.take m)) (zGH hb) hU hR
 have get: ∀i,(c.renew b b' (.row ty es (cells.take m))).H i≠none→i=b'∨(i≠b'∧i≠b∧c.H i≠none):=by
  intro i hi
  obtain⟨y,hy⟩:=Option.ne_none_iff_exists'.1 hi
  rcases Ctx.renew_H hy with⟨e1,_⟩|⟨e1,e2,e3⟩
  ·exact .inl e1
  ·exact .inr ⟨e1,e2,by rw[e3];simp⟩
 refine⟨?_,?_,?_,?_⟩
 ·intro i hi
  rcases get i hi with e|⟨_,_,e⟩
  ·exact .inr e
  ·exact .inl (hok.used i e)
 ·obtain⟨M,hM⟩:=hok.fin
  refine⟨M+b'+1,fun i hi=>?_⟩
  rcases hi with(h|h)|h
  ·have:=hM i (.inl h);omega
  ·omega
  ·have:=hM i (.inr h);omega
 ·intro i j hi hj e
  have e':(if i=b' then c.μ b else c.μ i)=(if j=b' then c.μ b else c.μ j):=e
  rcases get i hi with e1|⟨e1,e2,e3⟩<;>rcases get j hj with f1|⟨f1,f2,f3⟩
  ·rw[e1,f1]
  ·rw[if_pos e1,if_neg f1]at e'
   exact absurd (hok.inj j b f3 hbn e'.symm) f2
  ·rw[if_neg e1,if_pos f1]at e'
   exact absurd (hok.inj i b e3 hbn e') e2
  ·rw[if_neg e1,if_neg f1]at e'
   exact hok.inj i j e3 f3 e'
 ·intro i y hy
  rcases Ctx.renew_H hy with⟨rfl,rfl⟩|⟨e1,_,e3⟩
  ·obtain⟨arr,g1,g2,g3⟩:=hok.blk b _ hb
   refine⟨arr,?_,by rw[List.length_take];omega,fun k hk hk'=>?_⟩
   ·show c.w.heap[if i=i then c.μ b else c.μ i]? =_
    rw[if_pos rfl];exact g1
   ·have hk2:k<cells.length:=by rw[List.length_take]at hk;omega
    have:=(g3 k hk2 hk').later later
    rw[List.getElem_take];exact this
  ·exact(hok.blk i y e3).later later (if_neg e1) rfl
theorem Settle.renew{K:St→Prop}{D:List Nat}{E:Env}{H:AHeap}(t:Nat){b L n ty:Nat}{ti:Bool}{l:List Nat}(he:E.get t=.own b L 0 n ti)(hH:H b=some (.row ty 1 (U l)))(hL:l.length=L)(hn:n≤L)
 (h: ∀b',(H.upd b none) b'=none→Settle K ⟨D,E.set t (.own b' n 0 n false),(H.upd b none).upd b' (some (.row ty 1 (U (l.take n))))⟩):Settle K ⟨D,E,H⟩:=by
 refine Settle.join ?_
 intro N c a hc hok hr
 have hc':c.H=H:=hc
 subst hc'
 obtain⟨M,hM⟩:=hok.fin
 have hU: ¬c.U M:=fun k=>by have:=hM M (.inl k);omega
 have hR: ¬c.R M:=fun k=>by have:=hM M (.inr k);omega
 have hbn:c.H b≠none:=by rw[hH];simp
 have hbM:M≠b:=fun e=>hU (e▸hok.used b hbn)
 have later:=Ctx.renew_later (b':=M) (x:=.row ty 1 ((U l).take n)) (zGH hH) hU hR
 have hfree:(c.H.upd b none) M=none:=by
  rw[zAA _ _ hbM]
  cases e:c.H M with
  |none=>rfl
  |some x=>exact absurd (hok.used M (by rw[e];simp)) hU
 have hk:=h M hfree
 rw[zFm]at hk
 refine⟨c.renew b M (.row ty 1 ((U l).take n)),_,rfl,rfl,Ctx.renew_ok hok hH hU hR,?_,later,hk⟩
 have hr':=hr.later later
 refine⟨hr'.size,fun u=>?_,hr'.dlen,hr'.dmark⟩
 show Enc _ (Env.get (E.set t (.own M n 0 n false)) u) _
 rw[Env.get_set]
 split
 ·rename_i e;subst e
  have:=hr.tmp u
  rw[show E.get u=_ from he]at this
  generalize a.tmps.getD u undef=v at this
  cases this with
  |own _ _ _ _ _ _ hs hb0 hL0 hv=>
   refine .own M n 0 n false v hs (.inr rfl) (fun x hx=>?_) (fun ty' es' cells' hx _=>?_)
   ·have hx2:((c.H.upd b none).upd M (some (.row ty 1 ((U l).take n)))) M=some x:=hx
    rw[zAC]at hx2
    injection hx2 with hx2
    subst hx2
    show n≤((U l).take n).length
    rw[List.length_take,U_len];omega
   ·have hx2:((c.H.upd b none).upd M (some (.row ty 1 ((U l).take n)))) M=some (.row ty' es' cells'):=hx
    rw[zAC]at hx2
    injection hx2 with hx2
    injection hx2 with q1 q2 q3
    subst q1;subst q2
    obtain⟨base,cap,arr,g1,g2,g3,g4,_,g6,g7⟩:=hv ty 1 (U l) hH (by rw[U_len];exact hL)
    refine⟨base,cap,arr,g1,?_,g3,g4,(fun e=>absurd e (by simp)),?_,g7⟩
    ·show cap=0∨base=some ⟨if M=M then c.μ b else c.μ M,0,none⟩
     rw[if_pos rfl];exact g2
    ·show c.w.heap[if M=M then c.μ b else c.μ M]? =_
     rw[if_pos rfl];exact g6
 ·exact hr'.tmp u
def zKu(H0:AHeap)(ty:Nat)(l:List Nat)(x:AV)(H:AHeap):Prop:=
 (l=[]∧x=.seq 0 [] true∧H=H0)∨(∃b,H0 b=none∧x=.own b l.length 0 l.length false∧H=H0.upd b (some (.row ty 1 (U l))))
theorem grow.toO{H0 H:AHeap}{ty:Nat}{l:List Nat}{x:AV}(h:grow H0 ty l x H):zKu H0 ty l x H:=by
 rcases h with h|⟨_,h⟩
 ·exact .inl h
 ·exact .inr h
theorem appO{H0 H:AHeap}{ty n:Nat}{l m:List Nat}{x:AV}{t:Bool}{K:AV→AHeap→Prop}(h:zKu H0 ty l x H)(hn:n=m.length)(hm:m≠[])(hb:l.length+m.length≤17592186044416)
 (k: ∀x' H',zKu H0 ty (l++m) x' H'→K x' H'):zKG H ty 1 4 x (.seq n (U m) t) K:=by
 rcases h with⟨rfl,rfl,rfl⟩|⟨b,hb',rfl,rfl⟩
 ·exact zBF zDl hn hm hb fun x' H' g=>k x' H' g.toO
 ·by_cases hl:l=[]
  ·subst hl;subst hn
   refine .inl ⟨by simp,zLz m,?_⟩
   dsimp only
   rw[zAC]
   simp only[List.length_nil]at hb
   refine⟨by simp,rfl,by simp,rfl,rfl,by simp only[List.length_nil];omega,by simp only[List.length_nil];omega,?_⟩
   refine k _ _ (.inr ⟨b,hb',?_,?_⟩)
   ·simp
   ·rw[zAR,zXR]
  ·exact zBF (.inr ⟨hl,b,hb',rfl,rfl⟩) hn hm hb fun x' H' g=>k x' H' g.toO
theorem Settle.grownO{K:St→Prop}{D:List Nat}{E:Env}{H0 H:AHeap}{ty:Nat}{l:List Nat}{x:AV}(t:Nat)(he:E.get t=x)(h:zKu H0 ty l x H)(k:Settle K ⟨D,E.set t (LS l false),H0⟩):Settle K ⟨D,E,H⟩:=by
 rcases h with⟨rfl,rfl,rfl⟩|⟨b,hb,rfl,rfl⟩
 ·refine Settle.loose t ?_
  rw[he];exact k
 ·refine Settle.freeze t he (zAC _ _ _) (by simp) (.inr (by simp)) ?_
  rw[zAR,zAZ _ hb]
  have e:AV.seq l.length (((U l).drop 0).take (l.length*1)) false=LS l false:=by simp[LS,List.take_of_length_le]
  rw[e];exact k
end Go.Proofs.YtmndejlpfmmaiaaGreatDoor.Fw
namespace Go.Proofs.YtmndejlpfmmaiaaGreatDoor.Fw
open Go
def Un(A B:AHeap):AHeap:=fun b=>match A b with|some x=>some x|none=>B b
def Dj(A B:AHeap):Prop:= ∀b,A b=none∨B b=none
def zRG:AHeap:=fun _=>none
theorem zGk{B:AHeap}:Un zRG B=B:=funext fun _=>rfl
theorem zCa{A B:AHeap}{b:Nat}{x:ABlk}:Un (A.upd b (some x)) B=(Un A B).upd b (some x):=by
 funext i;simp only[Un,AHeap.upd];by_cases e:i=b
 ·simp[e]
 ·simp[e]
theorem zBd{A B:AHeap}{b:Nat}{x:Option ABlk}(h:A b=none):Un A (B.upd b x)=(Un A B).upd b x:=by
 funext i;simp only[Un,AHeap.upd];by_cases e:i=b
 ·subst e;simp[h]
 ·simp[e]
theorem zBv{A B:AHeap}{b:Nat}:Un A B b=none↔A b=none∧B b=none:=by
 unfold Un;cases h:A b<;>simp
theorem zPl{B:AHeap}:Dj zRG B:=fun _=>.inl rfl
theorem zJF{A B:AHeap}{b:Nat}{x:Option ABlk}(h:Dj A B)(hb:B b=none):Dj (A.upd b x) B:=fun i=>by
 by_cases e:i=b
 ·subst e;exact .inr hb
 ·rw[zAA _ _ e];exact h i
theorem zDc{A B:AHeap}{b:Nat}{x:Option ABlk}(h:Dj A B)(hb:A b=none):Dj A (B.upd b x):=fun i=>by
 by_cases e:i=b
 ·subst e;exact .inl hb
 ·rw[zAA _ _ e];exact h i
theorem zSj{A B:AHeap}{b:Nat}{x:ABlk}(h:Dj A B)(hb:A b=some x):B b=none:=(h b).resolve_left (by rw[hb];simp)
theorem zDG{A B:AHeap}{b:Nat}{x:ABlk}(h:Dj A B)(hb:B b=some x):A b=none:=(h b).resolve_right (by rw[hb];simp)
def zZk(P:Program)(f:FuncId)(caps:List AV){α:Type}(enc:α→List AV)(xs:List α):Prop:=
 ∀(b:Nat)(J:List α→AHeap→Prop)(Jx:AHeap→Prop),
  (∀pre x rest A B,xs=pre++x::rest→Dj A B→J pre A→YieldW P b (enc x) (Un A B) fun r H'=> ∃A',Dj A' B∧H'=Un A' B∧((r=.bool true∧J (pre++[x]) A')∨(r=.bool false∧Jx A')))→
  ∀A B,Dj A B→J [] A→Run P f ([.yld b]++caps) (Un A B) fun _ H'=> ∃A',Dj A' B∧H'=Un A' B∧(J xs A'∨Jx A')
def zd4{α:Type}(J:List α→AHeap→Prop)(Jx:Code→AHeap→Prop)(l:List α)(B:AHeap):Exit→St→Prop
 |.normal,s=>Settle (fun s=> ∃A,Dj A B∧s.H=Un A B∧J l A) s
 |.ret,s=>Settle (fun s=> ∃A,Dj A B∧s.H=Un A B∧Jx .ret A) s
 |.exit i,s=>Settle (fun s=> ∃A,Dj A B∧s.H=Un A B∧Jx (.exit i) A) s
 |_,_=>False
theorem zUA{P:Program}{ps:List Nat}{asg bd:ACode}{f:FuncId}{caps:List AV}{Q:Exit→St→Prop}{D:List Nat}{E:Env}{α:Type}{enc:α→List AV}{xs:List α}(hit:zZk P f caps enc xs)(hps: ∀x,(enc x).length=ps.length)
 (J:List α→AHeap→Prop) (Jx:Code→AHeap→Prop) (A B:AHeap) {H:AHeap} (hd:Dj A B) (hH:H=Un A B) (h0:J [] A)
 (hbody: ∀pre x rest A B,xs=pre++x::rest→Dj A B→J pre A→
  ∀R1,(∀E1 A1,Dj A1 B→(∀R2 B1,(∀e s,zd4 J Jx (pre++[x]) B1 e s→R2 e s)→Dj A1 B1→W P bd R2 ⟨[],E1,Un A1 B1⟩)→R1 .normal ⟨[],E1,Un A1 B⟩)→W P asg R1 ⟨[],zHs E ps (enc x),Un A B⟩)
 (hend: ∀d A',Dj A' B→A' d=none→B d=none→J xs A'→Q .normal ⟨d::D,E,(Un A' B).upd d (some (.raw (.deferred (some []))))⟩)
 (hexit: ∀d A' c,Dj A' B→A' d=none→B d=none→Jx c A'→zQ2 Q (some c) ⟨d::D,E,(Un A' B).upd d (some (.raw (.deferred (some []))))⟩):
 zZp P ps (W P asg) (W P bd) (.fn (.func f) [] caps) Q ⟨D,E,H⟩:=by
 subst hH
 intro L b d hb hdn hbd hy
 obtain⟨hAb,hBb⟩:=zBv.1 hb
 obtain⟨hAd,hBd⟩:=zBv.1 hdn
 have hd2:Dj A (B.upd d (some (.raw (.deferred (some []))))):=zDc hd hAd
 have hB2b:(B.upd d (some (.raw (.deferred (some []))))) b=none:=by rw[zAA _ _ hbd];exact hBb
 have run:=hit b (fun pre A'=> ∃A0,A'=A0.upd b (some (L .ready none))∧A0 b=none∧J pre A0) (fun A'=> ∃A0 c,A'=A0.upd b (some (L .done (some c)))∧A0 b=none∧Jx c A0) ?_
  (A.upd b (some (L .ready none))) (B.upd d (some (.raw (.deferred (some []))))) (zJF hd2 hB2b) ⟨A,rfl,hAb,h0⟩
 ·rw[zCa,zBd hAd]at run
  refine run.mono ?_
  rintro r H' ⟨A',hdj,rfl,(⟨A0,rfl,h0b,hj⟩|⟨A0,c,rfl,h0b,hj⟩)⟩
  ·have hA0d:A0 d=none:=by
    have:=zDG hdj (zAC _ _ _)
    rwa[zAA _ _ (Ne.symm hbd)]at this
   have hdj0:Dj A0 B:=fun i=>by
    by_cases e:i=b
    ·subst e;exact .inl h0b
    ·by_cases e2:i=d
     ·subst e2;exact .inl hA0d
     ·have:=hdj i
      rwa[zAA _ _ e,zAA _ _ e2]at this
   refine⟨.ready,none,by simp,by rw[zCa,zAC],?_⟩
   rw[zCa,zAR,zAZ _ (zBv.2 ⟨h0b,hB2b⟩),zBd hA0d]
   exact hend d A0 hdj0 hA0d hBd hj
  ·have hA0d:A0 d=none:=by
    have:=zDG hdj (zAC _ _ _)
    rwa[zAA _ _ (Ne.symm hbd)]at this
   have hdj0:Dj A0 B:=fun i=>by
    by_cases e:i=b
    ·subst e;exact .inl h0b
    ·by_cases e2:i=d
     ·subst e2;exact .inl hA0d
     ·have:=hdj i
      rwa[zAA _ _ e,zAA _ _ e2]at this
   refine⟨.done,some c,by simp,by rw[zCa,zAC],?_⟩
   rw[zCa,zAR,zAZ _ (zBv.2 ⟨h0b,hB2b⟩),zBd hA0d]
   exact hexit d A0 c hdj0 hA0d hBd hj
 ·rintro pre x rest A' B' hx hdj ⟨A0,rfl,h0b,hj⟩
  have hB'b:B' b=none:=zSj hdj (zAC _ _ _)
  have hdj0:Dj A0 B':=fun i=>by
   by_cases e:i=b
   ·subst e;exact .inl h0b
   ·have:=hdj i
    rwa[zAA _ _ e]at this
  refine hy _ _ _ (by rw[zCa,zAC]) (by simpa using hps x) fun R1 k1=>?_
  rw[zCa,← zBd (B:=B') h0b]
  refine hbody pre x rest A0 (B'.upd b (some (L .ready none))) hx (zDc hdj0 h0b) hj R1 fun E1 A1 hd1 k2=>?_
  have hA1b:A1 b=none:=zDG hd1 (zAC _ _ _)
  have hdj1:Dj A1 B':=fun i=>by
   by_cases e:i=b
   ·subst e;exact .inl hA1b
   ·have:=hd1 i
    rwa[zAA _ _ e]at this
  refine k1 _ rfl (by dsimp only;rw[zBd hA1b,zAC]) fun R2 k3=>?_
  dsimp only
  rw[zBd hA1b,zAR,← zBd hA1b]
  refine k2 R2 _ (fun e s hs=>k3 e s ?_) (zDc hdj1 hA1b)
  have fin: ∀(st:LoopState)(jc:Option Code)(A2:AHeap),Dj A2 (B'.upd b (some (L .busy none)))→(Un A2 (B'.upd b (some (L .busy none)))) b=some (L .busy none)∧Dj (A2.upd b (some (L st jc))) B'∧(Un A2 (B'.upd b (some (L .busy none)))).upd b (some (L st jc))=Un (A2.upd b (some (L st jc))) B'∧A2 b=none:=by
   intro st jc A2 h2
   have hA2b:A2 b=none:=zDG h2 (zAC _ _ _)
   have hdj2:Dj A2 B':=fun i=>by
    by_cases e:i=b
    ·subst e;exact .inl hA2b
    ·have:=h2 i
     rwa[zAA _ _ e]at this
   exact⟨by rw[zBd hA2b,zAC],zJF hdj2 hB'b,by rw[zBd hA2b,zAR,zCa],hA2b⟩
  cases e with
  |normal=>
   refine Settle.mono hs ?_
   rintro s ⟨A2,h2,e2,hj2⟩
   obtain⟨f1,f2,f3,f4⟩:=fin .ready none A2 h2
   exact⟨by rw[e2];exact f1,_,f2,by rw[e2];exact f3,.inl ⟨rfl,A2,rfl,f4,hj2⟩⟩
  |ret=>
   refine Settle.mono hs ?_
   rintro s ⟨A2,h2,e2,hj2⟩
   obtain⟨f1,f2,f3,f4⟩:=fin .done (some .ret) A2 h2
   exact⟨by rw[e2];exact f1,_,f2,by rw[e2];exact f3,.inr ⟨rfl,A2,_,rfl,f4,hj2⟩⟩
  |exit j=>
   refine Settle.mono hs ?_
   rintro s ⟨A2,h2,e2,hj2⟩
   obtain⟨f1,f2,f3,f4⟩:=fin .done (some (.exit j)) A2 h2
   exact⟨by rw[e2];exact f1,_,f2,by rw[e2];exact f3,.inr ⟨rfl,A2,_,rfl,f4,hj2⟩⟩
  |goto j=>exact hs.elim
  |panic j=>exact hs.elim
  |outgrown=>exact hs.elim
theorem Enc.freezeP{c:Ctx}(hok:Ok c){b L off:Nat}{ty:TypeId}{es:Nat}{cells:List AV}{v:Value}(h:Enc c (.ptr b L off) v)(hH:c.H b=some (.row ty es cells))(hL:cells.length=L):Enc (c.drop b) (.cptr (cells.drop off)) v:=by
 cases h with
 |ptr _ _ _ _ _ hb hL' hv=>
  obtain rfl:=hv _ hH hL
  obtain⟨arr,g1,g2,g3⟩:=hok.blk b _ hH
  refine .cptr _ (c.μ b) off (fun i=>arr.getD (off+i) undef) ?_ (Array.getElem?_eq_some_iff.1 g1).1 (fun i hi=>?_) (fun i hi=>?_)
  ·rintro⟨i,hi,e⟩
   cases hx:(c.drop b).H i with
   |none=>have hi':ABlk.mut ((c.drop b).H i):=hi;rw[hx]at hi';exact hi'
   |some x=>
    obtain⟨hne,hci⟩:=c.drop_H b i x hx
    exact hne (hok.inj i b (by rw[hci];simp) (by rw[hH];simp) e)
  ·have hi':off+i<cells.length:=by simp only[List.length_drop]at hi;omega
   have h6:off+i<arr.size:=by omega
   show World.cell? c.w _=_
   simp only[World.cell?,g1]
   rw[Array.getD_eq_getD_getElem?]
   simp[h6]
  ·have hi':off+i<cells.length:=by simp only[List.length_drop]at hi;omega
   have h6:off+i<arr.size:=by omega
   have:=(g3 (off+i) hi' h6).later (c.drop_later b)
   simpa[Array.getD_eq_getD_getElem?,h6]using this
def zGv(b:Nat)(cells:List AV):AV→AV
 |.ptr b' L off=>if b'=b∧cells.length=L then .cptr (cells.drop off)else .ptr b' L off
 |x=>x
def frzP(b:Nat)(cells:List AV):AV→AV
 |.fn f first caps=>.fn f first (caps.map (zGv b cells))
 |x=>zGv b cells x
theorem zEY{c:Ctx}(hok:Ok c){b:Nat}{ty:TypeId}{es:Nat}{cells:List AV}(hH:c.H b=some (.row ty es cells))(x:AV)(v:Value)(h:Enc c x v):Enc (c.drop b) (zGv b cells x) v:=by
 unfold zGv
 split
 ·split
  ·rename_i e;obtain⟨rfl,e⟩:=e;exact Enc.freezeP hok h hH e
  ·exact h.later (c.drop_later b)
 ·exact h.later (c.drop_later b)
theorem zMv{c:Ctx}(hok:Ok c){b:Nat}{ty:TypeId}{es:Nat}{cells:List AV}(hH:c.H b=some (.row ty es cells))(x:AV)(v:Value)(h:Enc c x v):Enc (c.drop b) (frzP b cells x) v:=by
 unfold frzP
 split
 ·cases h with
  |fn f first caps fv cv hf hcs h1 h2=>exact .fn _ _ _ _ _ hf (by simpa using hcs) (fun i hi hi'=>(h1 i hi hi').later (c.drop_later b)) (Enc.list_map (zEY hok hH) h2)
 ·exact zEY hok hH _ _ h
theorem SetR.frzP{Q:AV→AHeap→Prop}{r:AV}{H:AHeap}(b:Nat){ty:TypeId}{es:Nat}{cells:List AV}(hb:H b=some (.row ty es cells))(h:SetR Q (frzP b cells r) (H.upd b none)):SetR Q r H:=
 SetR.join fun c v hH hok he=>⟨c.drop b,_,rfl,Ctx.drop_ok hok b,c.drop_later b,zMv hok (hH▸hb) _ _ he,by show SetR Q _ (c.H.upd b none);rw[hH];exact h⟩
def zA7(H0:AHeap)(ty es n:Nat)(cells:List AV)(x:AV)(H:AHeap):Prop:=
 (n=0∧cells=[]∧x=.seq 0 [] true∧H=H0)∨(0<n∧cells.length=n*es∧∃b,H0 b=none∧x=.own b (n*es) 0 n false∧H=H0.upd b (some (.row ty es cells)))
theorem zAl{H0:AHeap}{ty es:Nat}:zA7 H0 ty es 0 [] (.seq 0 [] true) H0:=.inl ⟨rfl,rfl,rfl,rfl⟩
theorem zFe{H0 H:AHeap}{ty es n:Nat}{cells:List AV}{x:AV}(h:zA7 H0 ty es n cells x H):Le H0 H:=by
 rcases h with⟨_,_,_,rfl⟩|⟨_,_,b,hb,_,rfl⟩
 ·exact Le.refl _
 ·exact(Le.refl _).upd hb
theorem zGS{H0 H:AHeap}{ty es n:Nat}{cells:List AV}{x:AV}(h:zA7 H0 ty es n cells x H){p:Nat}{y:ABlk}(hp:H0 p=some y):H p=some y:=zFe h p y hp
theorem zFB{H0 H:AHeap}{ty es bytes n m:Nat}{cells ys:List AV}{x:AV}{t:Bool}{K:AV→AHeap→Prop}(h:zA7 H0 ty es n cells x H)(hy:ys.length=m*es)(hc:ys.all AV.cell=true)(hm:0<m)(hb:(n+m)*bytes≤70368744177664)(hb2:n+m≤70368744177664)
 (k: ∀x' H',zA7 H0 ty es (n+m) (cells++ys) x' H'→K x' H'):zKG H ty es bytes x (.seq m ys t) K:=by
 refine .inl ⟨hy,hc,?_⟩
 rcases h with⟨rfl,rfl,rfl,rfl⟩|⟨hn,hl,b,hb',rfl,rfl⟩
 ·refine⟨rfl,by simp,hb,hb2,fun e=>absurd e (by omega),fun _ b hb'=>?_⟩
  exact k _ _ (.inr ⟨by omega,by simp[hy],b,hb',rfl,by simp⟩)
 ·dsimp only
  rw[zAC]
  refine⟨hl,rfl,rfl,rfl,rfl,hb,hb2,?_⟩
  exact k _ _ (.inr ⟨by omega,by rw[List.length_append,hl,hy,Nat.add_mul],b,hb',rfl,by rw[zAR]⟩)
theorem zRa{H0 H:AHeap}{ty es n:Nat}{cells:List AV}{x:AV}{Q:AV→AHeap→Prop}(h:zA7 H0 ty es n cells x H)(hq:Q (.seq n cells false) H0):SetR Q x H:=by
 rcases h with⟨rfl,rfl,rfl,rfl⟩|⟨_,hl,b,hb,rfl,rfl⟩
 ·exact SetR.loose (SetR.now hq)
 ·refine SetR.frz b (zAC _ _ _) ?_
  rw[zAR,zAZ _ hb]
  have e:frz b es cells (.own b (n*es) 0 n false)=.seq n cells false:=by simp[frz,zIh,zDw,hl,List.take_of_length_le]
  rw[e];exact SetR.now hq
theorem Settle.grownC{K:St→Prop}{D:List Nat}{E:Env}{H0 H:AHeap}{ty es n:Nat}{cells:List AV}{x:AV}(t:Nat)(he:E.get t=x)(h:zA7 H0 ty es n cells x H)(k:Settle K ⟨D,E.set t (.seq n cells false),H0⟩):Settle K ⟨D,E,H⟩:=by
 rcases h with⟨rfl,rfl,rfl,rfl⟩|⟨_,hl,b,hb,rfl,rfl⟩
 ·refine Settle.loose t ?_
  rw[he];exact k
 ·refine Settle.freeze t he (zAC _ _ _) (by simp[hl]) (.inr (by simp)) ?_
  rw[zAR,zAZ _ hb]
  have e:AV.seq n ((cells.drop 0).take (n*es)) false=.seq n cells false:=by simp[hl,List.take_of_length_le]
  rw[e];exact k
def zFk(H0:AHeap)(p tb ty es n:Nat)(cells:List AV)(H:AHeap):Prop:=
 H0 p=none∧((n=0∧cells=[]∧H=H0.upd p (some (.row tb 0 [.seq 0 [] true])))∨
  (0<n∧cells.length=n*es∧∃b,Ap b p∧H0 b=none∧H=(H0.upd b (some (.row ty es cells))).upd p (some (.row tb 0 [.own b (n*es) 0 n false]))))
theorem zJh{H0:AHeap}{p tb ty es:Nat}(hp:H0 p=none):zFk H0 p tb ty es 0 [] (H0.upd p (some (.row tb 0 [.seq 0 [] true]))):=⟨hp,.inl ⟨rfl,rfl,rfl⟩⟩
theorem zKD{H0 H:AHeap}{p tb ty es bytes n m:Nat}{cells:List AV}(h:zFk H0 p tb ty es n cells H): ∃x,H p=some (.row tb 0 [x])∧
 ∀{ys:List AV}{t:Bool}{K:AV→AHeap→Prop},ys.length=m*es→ys.all AV.cell=true→0<m→(n+m)*bytes≤70368744177664→n+m≤70368744177664→
  (∀x' H',H' p=some (.row tb 0 [x])→AV.cells x'=some [x']→zFk H0 p tb ty es (n+m) (cells++ys) (H'.upd p (some (.row tb 0 [x'])))→K x' H')→zKG H ty es bytes x (.seq m ys t) K:=by
 obtain⟨hp,h⟩:=h
 rcases h with⟨rfl,rfl,rfl⟩|⟨hn,hl,b,hbp,hb',rfl⟩
 ·refine⟨_,zAC _ _ _,fun{ys t K} hy hc hm hb hb2 k=>.inl ⟨hy,hc,rfl,by simp,hb,hb2,fun e=>absurd e (by omega),fun _ b hbn=>?_⟩⟩
  obtain⟨b1,b2⟩:=zAB.1 hbn
  refine k _ _ ?_ rfl ⟨hp,.inr ⟨by omega,by simp[hy],b,b1,b2,?_⟩⟩
  ·rw[zAA _ _ (Ne.symm b1),zAC]
  ·rw[List.nil_append,zAq _ _ _ (Ne.symm b1),zAR]
 ·refine⟨_,zAC _ _ _,fun{ys t K} hy hc hm hb hb2 k=>.inl ⟨hy,hc,?_⟩⟩
  dsimp only
  rw[zAA _ _ hbp,zAC]
  refine⟨hl,rfl,rfl,rfl,rfl,hb,hb2,?_⟩
  refine k _ _ ?_ rfl ⟨hp,.inr ⟨by omega,by rw[List.length_append,hl,hy,Nat.add_mul],b,hbp,hb',?_⟩⟩
  ·rw[zAA _ _ (Ne.symm hbp),zAC]
  ·rw[zAq _ _ _ (Ne.symm hbp),zAR,zAR]
theorem zNA{A B:AHeap}{p tb ty es n:Nat}{cells:List AV}(h:zFk zRG p tb ty es n cells A)(hd:Dj A B):zFk B p tb ty es n cells (Un A B):=by
 obtain⟨_,h⟩:=h
 rcases h with⟨rfl,rfl,rfl⟩|⟨hn,hl,b,hbp,hb',rfl⟩
 ·exact⟨zSj hd (zAC _ _ _),.inl ⟨rfl,rfl,by rw[zCa,zGk]⟩⟩
 ·refine⟨zSj hd (zAC _ _ _),.inr ⟨hn,hl,b,hbp,zSj (b:=b) (x:=.row ty es cells) hd (by rw[zAA _ _ hbp,zAC]),by rw[zCa,zCa,zGk]⟩⟩
theorem zLo{B H:AHeap}{p tb ty es n:Nat}{cells:List AV}(h:zFk B p tb ty es n cells H): ∃A,Dj A B∧H=Un A B∧zFk zRG p tb ty es n cells A:=by
 obtain⟨hp,h⟩:=h
 rcases h with⟨rfl,rfl,rfl⟩|⟨hn,hl,b,hbp,hb',rfl⟩
 ·exact⟨_,zJF zPl hp,by rw[zCa,zGk],zJh rfl⟩
 ·exact⟨_,zJF (zJF zPl hb') hp,by rw[zCa,zCa,zGk],rfl,.inr ⟨hn,hl,b,hbp,rfl,rfl⟩⟩
theorem zGL{H0 H:AHeap}{p tb ty es n:Nat}{cells:List AV}(h:zFk H0 p tb ty es n cells H): ∃x,H p=some (.row tb 0 [x])∧((x=.seq 0 [] true∧n=0∧cells=[])∨(0<n∧cells.length=n*es∧∃b,x=.own b (n*es) 0 n false∧H b=some (.row ty es cells)))∧Le H0 H:=by
 obtain⟨hp,h⟩:=h
 rcases h with⟨rfl,rfl,rfl⟩|⟨hn,hl,b,hbp,hb',rfl⟩
 ·exact⟨_,zAC _ _ _,.inl ⟨rfl,rfl,rfl⟩,(Le.refl _).upd hp⟩
 ·refine⟨_,zAC _ _ _,.inr ⟨hn,hl,b,rfl,by rw[zAA _ _ hbp,zAC]⟩,((Le.refl _).upd hb').upd (by rw[zAA _ _ (Ne.symm hbp)];exact hp)⟩
end Go.Proofs.YtmndejlpfmmaiaaGreatDoor.Fw
namespace Go.Proofs.YtmndejlpfmmaiaaGreatDoor.Fw
open Go Go.Proofs.YtmndejlpfmmaiaaGreatDoor.Ma
set_option maxRecDepth 20000
theorem zNe{H0 H:AHeap}{ty es n:Nat}{cells:List AV}{x:AV}{k:IntKind}{e:Int}{Q:AV→AHeap→Prop}(h:zA7 H0 ty es n cells x H)(hq:Q (.tup [.seq n cells false,.int k e]) H0):SetR Q (.tup [x,.int k e]) H:=by
 rcases h with⟨rfl,rfl,rfl,rfl⟩|⟨hn,hl,b,hb,rfl,rfl⟩
 ·exact SetR.loose (SetR.now hq)
 ·refine SetR.frz b (zAC _ _ _) ?_
  rw[zAR,zAZ _ hb]
  have e:frz b es cells (.tup [.own b (n*es) 0 n false,.int k e])=.tup [.seq n cells false,.int k e]:=by simp[frz,zIh,zDw,hl,List.take_of_length_le]
  rw[e];exact SetR.now hq
theorem zNy{H0 H M:AHeap}{ty es n:Nat}{cells:List AV}{y:AV}(h:zA7 H0 ty es n cells y H)(hm: ∀b,H0 b=none→H b≠none→M b=H b): ∃H1,zA7 H1 ty es n cells y M∧∀H2,Le H2 M→(∀b,H0 b=none→H2 b=none)→Le H2 H1:=by
 rcases h with⟨rfl,rfl,rfl,rfl⟩|⟨hn,hl,b,hb,rfl,rfl⟩
 ·exact⟨M,zAl,fun _ h _=>h⟩
 ·have e:=hm b hb (by rw[zAC];simp)
  rw[zAC]at e
  refine⟨M.upd b none,.inr ⟨hn,hl,b,zAC _ _ _,rfl,by rw[zAR,zAZ _ e]⟩,fun H2 h h3 i x hi=>?_⟩
  have hib:i≠b:=by rintro rfl;rw[h3 _ hb]at hi;cases hi
  rw[zAA _ _ hib];exact h i x hi
theorem zBp{H1 H2 M:AHeap}{ty es n:Nat}{cells:List AV}{y:AV}(h:zA7 H1 ty es n cells y M)(hl:Le H2 H1): ∃M2,zA7 H2 ty es n cells y M2∧Le M2 M:=by
 rcases h with⟨rfl,rfl,rfl,rfl⟩|⟨hn,hlen,b,hb,rfl,rfl⟩
 ·exact⟨H2,zAl,hl⟩
 ·have hb2:H2 b=none:=by
   cases e:H2 b with
   |none=>rfl
   |some x=>have:=hl b x e;rw[hb]at this;cases this
  refine⟨_,.inr ⟨hn,hlen,b,hb2,rfl,rfl⟩,fun i x hi=>?_⟩
  by_cases e:i=b
  ·subst e;rw[zAC]at hi ⊢; exact hi
  ·rw[zAA _ _ e]at hi ⊢; exact hl i x hi
theorem zCH{H0 H:AHeap}{ty es n:Nat}{cells:List AV}{y:AV}(h:zA7 H0 ty es n cells y H){b:Nat}(hb:H b=none):H0 b=none:=by
 cases e:H0 b with
 |none=>rfl
 |some x=>rw[zFe h b x e]at hb;cases hb
theorem zCT{H0 H:AHeap}{ty es n:Nat}{cells:List AV}{y:AV}(h:zA7 H0 ty es n cells y H){q:Nat}{r:ABlk}(hq:H q=none):zA7 (H0.upd q (some r)) ty es n cells y (H.upd q (some r)):=by
 rcases h with⟨rfl,rfl,rfl,rfl⟩|⟨hn,hlen,b,hb,rfl,rfl⟩
 ·exact zAl
 ·obtain⟨e,e2⟩:=zAB.1 hq
  refine .inr ⟨hn,hlen,b,zAB.2 ⟨Ne.symm e,hb⟩,rfl,zAq _ _ _ (Ne.symm e)⟩
theorem zMu{H:AHeap}:Le zRG H:=fun _ _ h=>by cases h
def Lent(H:AHeap)(x y:AV):Prop:= ∀(c:Ctx),c.H=H→Ok c→∀v,Enc c x v→Enc (c.dropTo zRG) y v
theorem Lent.same{H:AHeap}{x:AV}:Lent H x x:=fun c _ _ _ h=>h.later (c.dropTo_later zMu)
theorem Lent.own{H:AHeap}{b ty es n:Nat}{t:Bool}{cells:List AV}(hH:H b=some (.row ty es cells))(hL:cells.length=n*es):Lent H (.own b (n*es) 0 n t) (.seq n cells t):=by
 intro c hc hok v he
 have h1:=Enc.freeze hok he (hc▸hH) hL (.inr (by omega))
 rw[List.drop_zero,List.take_of_length_le (by omega)]at h1
 exact h1.later ((c.drop b).dropTo_later zMu)
theorem Lent.grown{H0 H:AHeap}{ty es n:Nat}{cells:List AV}{x:AV}(h:zA7 H0 ty es n cells x H):Lent H x (.seq n cells false):=by
 rcases h with⟨rfl,rfl,rfl,rfl⟩|⟨hn,hl,b,hb,rfl,rfl⟩
 ·intro c _ _ v he
  exact zCo _ _ (he.later (c.dropTo_later zMu))
 ·exact Lent.own (zAC _ _ _) hl
def LentL(H:AHeap):List AV→List AV→Prop
 |[],[]=>True
 |x::xs,y::ys=>Lent H x y∧LentL H xs ys
 |_,_=>False
theorem LentL.len{H:AHeap}: ∀{xs ys:List AV},LentL H xs ys→ys.length=xs.length
 |[],[],_=>rfl
 |_::_,_::_,h=>by simp[LentL.len h.2]
 |[],_::_,h=>h.elim
 |_::_,[],h=>h.elim
theorem LentL.get{H:AHeap}: ∀{xs ys:List AV},LentL H xs ys→∀i(h:i<xs.length)(h':i<ys.length),Lent H (xs[i]) (ys[i])
 |_::_,_::_,h,0,_,_=>h.1
 |_::_,_::_,h,i+1,a,b=>LentL.get h.2 i (by simpa using a) (by simpa using b)
 |[],[],_,_,a,_=>absurd a (by simp)
 |[],_::_,h,_,_,_=>h.elim
 |_::_,[],h,_,_,_=>h.elim
theorem PFn.frozen{P:Program}{f:FuncId}{args:List AV}{ty es n:Nat}{cells:List AV}(h: ∀(H:AHeap)(Q:AV→AHeap→Prop),(∀x H',zA7 H ty es n cells x H'→Q x H')→Run P f args H Q):PFn P f args (.seq n cells false):=fun H Q hq=>
 Run.settle (h H _ fun _ _ g=>zRa g hq)
theorem PFn.frozen1{P:Program}{f:FuncId}{args:List AV}{ty es n:Nat}{cells:List AV}{k:IntKind}{e:Int}(h: ∀(H:AHeap)(Q:AV→AHeap→Prop),(∀x H',zA7 H ty es n cells x H'→Q (.tup [x,.int k e]) H')→Run P f args H Q):PFn P f args (.tup [.seq n cells false,.int k e]):=fun H Q hq=>
 Run.settle (h H _ fun _ _ g=>zNe g hq)
section
variable {K:AV→Prop} {K2:AV→AHeap→Prop} {H:AHeap} {k:IntKind} {n m:Int} {t:Bool}
theorem zAU:zAv .neq (.int k n) (.int k m) K↔K (.bool (!decide (n=m))):=by simp[zAv,zAi]
theorem zAw:zAv .gtr (.int k n) (.int k m) K↔K (.bool (decide (m<n))):=by simp[zAv,zAi]
theorem zAc:zAv .lss (.int k n) (.int k m) K↔K (.bool (decide (n<m))):=by simp[zAv,zAi]
theorem zBE{n:Nat}{c:List AV}(h:n<9223372036854775808):zDr false (.seq n c t) K=K (.int .i64 ((n:Nat):Int)):=by simp[zDr,h]
theorem zHg{es n i:Nat}{c:List AV}(hl:c.length=n*es)(h:i<n):zBg es (.seq n c t) (.int k (i:Int)) K=K (.cptr (c.drop (i*es))):=by simp[zBg,hl,h]
end
theorem zCf{α:Type}{f:α→List AV}{es:Nat}(hf: ∀q,(f q).length=es): ∀l:List α,(l.flatMap f).length=l.length*es
 |[]=>by simp
 |a::l=>by rw[List.flatMap_cons,List.length_append,hf,zCf hf l,List.length_cons,Nat.add_mul];omega
theorem zGP{l m:List AV}{n k:Nat}(h:l.length=n):(l++m).drop (n+k)=m.drop k:=by subst h;simp
theorem zEM{α:Type}{f:α→List AV}{es:Nat}(hf: ∀q,(f q).length=es): ∀(l:List α)(i:Nat)(h:i<l.length),(l.flatMap f).drop (i*es)=f (l[i])++(l.flatMap f).drop ((i+1)*es)
 |a::l,0,_=>by
  have e:=zGP (m:=l.flatMap f) (k:=0) (hf a)
  rw[List.flatMap_cons,Nat.zero_mul,List.drop_zero,Nat.zero_add,Nat.one_mul,show es=es+0 from rfl,e];rfl
 |a::l,i+1,h=>by
  have ih:=zEM hf l i (by simpa using h)
  rw[List.flatMap_cons,show(i+1)*es=es+i*es by rw[Nat.add_mul];omega,show(i+1+1)*es=es+(i+1)*es by simp only[Nat.add_mul];omega,zGP (hf a),zGP (hf a),ih];rfl
theorem zTO{α:Type}{f:α→List AV}{es:Nat}(hf: ∀q,(f q).length=es){l:List α}{k j:Nat}(hk:k<l.length)(hj:j<es)(h:k*es+j<(l.flatMap f).length):(l.flatMap f)[k*es+j]=(f (l[k]))[j]'(by rw[hf];exact hj):=by
 have e:=zEM hf l k hk
 have e2:((l.flatMap f).drop (k*es))[j]'(by rw[List.length_drop];omega)=(l.flatMap f)[k*es+j]:=List.getElem_drop ..
 rw[← e2]
 simp only[e]
 exact List.getElem_append_left (by rw[hf];exact hj)
structure Ins where
 op:Int
 to:Int
 a:Int
 b:Int
 c:Int
def I64(n:Int):Prop:= -9223372036854775808≤n∧n<9223372036854775808
def Ins.ok(i:Ins):Prop:=I64 i.op∧I64 i.to∧I64 i.a∧I64 i.b∧I64 i.c
def zDM(i:Ins):List AV:=[.int .i64 i.op,.int .i64 i.to,.int .i64 i.a,.int .i64 i.b,.int .i64 i.c]
theorem zDs(i:Ins):(zDM i).length=5:=rfl
structure PR where
 ins:Int
 regs:Int
 code:List Ins
 outs:List Int
abbrev zBI(l:List Ins)(t:Bool):AV:=.seq l.length (l.flatMap zDM) t
abbrev zAr(l:List Int)(t:Bool):AV:=.seq l.length (l.map fun n=>.int .i64 n) t
def zEF(p:PR):AV:=.agg [.int .i64 p.ins,.int .i64 p.regs,zBI p.code false,zAr p.outs false]
def PR.ok(p:PR):Prop:=I64 p.ins∧I64 p.regs∧(∀i,i∈p.code→i.ok)∧p.code.length≤140737488355328∧(∀n,n∈p.outs→I64 n)∧p.outs.length≤140737488355328
structure Pt where
 a:Int
 b:Int
def ptC(p:Pt):List AV:=[.int .i64 p.a,.int .i64 p.b]
def Pt.ok(p:Pt):Prop:=I64 p.a∧I64 p.b
abbrev zBr(l:List Pt)(t:Bool):AV:=.seq l.length (l.flatMap ptC) t
structure Cl where
 kind:Int
 who:Int
 k:Int
def Cl.ok(p:Cl):Prop:=I64 p.kind∧I64 p.who∧I64 p.k
end Go.Proofs.YtmndejlpfmmaiaaGreatDoor.Fw
