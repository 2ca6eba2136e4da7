import Derived.Test.YtchkllapojehpaaGreatP1
set_option linter.all false
section
namespace Go.Ab
theorem vk {lk:List VM}(hu:I7 (·.1) lk){x:VM}(hx:x∈lk):CO lk x.1=x.2.1:=by
 unfold CO
 cases hf:lk.find? (fun m=>m.1==x.1)with
 |none=>exact absurd (List.find?_eq_none.1 hf x hx) (by simp)
 |some y=>
  have h1:=List.find?_some hf
  have h2:=List.mem_of_find?_eq_some hf
  simp only[beq_iff_eq]at h1
  obtain⟨i,hi,rfl⟩:=List.getElem_of_mem h2
  obtain⟨j,hj,rfl⟩:=List.getElem_of_mem hx
  by_cases hij:i=j
  ·subst hij;rfl
  ·rcases Nat.lt_or_gt_of_ne hij with h|h
   ·have:=List.pairwise_iff_getElem.1 hu i j hi hj h;simp only at this;omega
   ·have:=List.pairwise_iff_getElem.1 hu j i hj hi h;simp only at this;omega
theorem zT {lk:List VM}(hu:I7 (·.1) lk){key id:Int}(ho:CO lk key=id)(h0:id≠0):CA (·.1) lk (key,id,())=lk:=by
 have hx:∃x∈lk,x.1=key:=by
  unfold CO at ho
  cases hf:lk.find? (fun m=>m.1==key)with
  |none=>rw[hf]at ho;exact absurd ho.symm h0
  |some y=>exact⟨y,List.mem_of_find?_eq_some hf,by simpa using List.find?_some hf⟩
 obtain⟨x,e1,e2,e3⟩:=LC (f:=fun x:VM=>x.1) (l:=lk) (m:=(key,id,())) ((OA hu key).2 hx)
 obtain⟨hlt,e4⟩:=List.getElem?_eq_some_iff.1 e1
 have hx':x∈lk:=by rw[<-e4];exact List.getElem_mem hlt
 have e2':x.1=key:=e2
 have hxi:x.2.1=id:=by rw[<-vk hu hx',e2',ho]
 have hxe:x=(key,id,()):=Prod.ext e2' (Prod.ext hxi rfl)
 rw[e3]
 apply List.ext_getElem?
 intro i
 rw[List.getElem?_set]
 split
 ·rename_i h
  subst h
  rw[e1,hxe]
 ·rfl
theorem uW {lk:List VM}(hl:lk.length<=1048576)(hv:Qa lk)(hu:I7 (·.1) lk){key id:Int}(hk:inB key 0 5=true)(hi:inB id 1 9=true)(ho:CO lk key=0\/CO lk key=id)(hpos:∀m∈lk,m.2.1≠0):
 GQ (lk,key,id,())=some (true,CA (·.1) lk (key,id,()),()):=by
 have hi0:id≠0:=by have:=Bk.1 hi;omega
 have hcp:GA (lk,())=some (lk,()):=by unfold GA;simp only;rw[if_pos (by omega)]
 unfold GQ
 simp only[hcp,QJ hl,Kb hl,AC hv,Eu,hk,hi,Option.bind_some,Bool.not_true,cond_false]
 rcases ho with h|h
 ·have h2:((0:Int)==id)=false:=by rw[beq_eq_false_iff_ne];exact fun h=>hi0 h.symm
  simp only[h,bne_self_eq_false,cond_false,h2]
  have hno:EM (fun x:VM=>x.1) lk key=false:=by
   cases hh:EM (fun x:VM=>x.1) lk key with
   |false=>rfl
   |true=>
    obtain⟨x,hx,hxk⟩:=(OA hu key).1 hh
    have:=vk hu hx
    rw[hxk,h]at this
    exact absurd this.symm (hpos x hx)
  refine(N1 (l:=lk) (p:=fun x=>decide (x.1<key)) hl (fun i h=>?_) ?_ _).trans ?_
  ·have c:(0:Int)<=(i:Int)/\(i:Int)<(lk.length:Int):=by omega
   unfold CJ
   simp only[decide_eq_true c.2,cond_true,c.1,c.2,and_self,if_true,Nat.zero_add,Int.toNat_natCast,List.getElem?_eq_getElem h,Option.bind_some,Am h (by omega)]
   cases decide (lk[i].1<key)<;>rfl
  ·unfold CJ
   simp only[Int.lt_irrefl,decide_false,cond_false]
  ·have hle:=UB (l:=lk) (p:=fun x=>decide (x.1<key))
   generalize hc:(lk.takeWhile fun x=>decide (x.1<key)).length=c at hle
   rw[OU (m:=(key,id,())) hc]
   have q1:(lk.take c).length<=2199023255552:=by simp;omega
   have q2:(lk.take c++[(key,id,())]).length<=2199023255552:=by simp;omega
   have q3:(lk.take c++[(key,id,())]++lk.drop c).length<=2199023255552:=by simp;omega
   have c1:(0:Int)<=0/\(0:Int)<=(c:Int)/\(c:Int)<=(lk.length:Int):=by omega
   have c2:(0:Int)<=(c:Int)/\(c:Int)<=(lk.length:Int)/\(lk.length:Int)<=(lk.length:Int):=by omega
   simp only[A6a,A69,hno,cond_false]
   rw[if_pos c1,if_pos q1,if_pos q2,if_pos c2,if_pos q3]
 ·have h2:(id != 0)=true:=by simpa using hi0
  simp only[h,h2,cond_true,bne_self_eq_false,cond_false,beq_self_eq_true,zT hu h hi0]
theorem A01 {wt:List VM}{out:List Int}(hl:out.length<=1048576)(x:Int){τ:Type}(A:List Int×List Int×Unit->Option τ)(N:Unit->Option τ):
 ((AE (fun v=>CL (wt,x,out,()) v _ some) (0,())).bind fun p=>Az p (fun p=>A (p.1,p.2.1,())) fun p=>N p)=if x∈out then A ([x],out++[x],())else N ():=by
 have e:=Mk (B:=fun v=>CL (wt,x,out,()) v _ some) (l:=out) (fun i=>((i:Int),())) (fun m=>m==x) (fd:=fun i=>.inl ([x],out++[x],())) (no:=.inr ()) (fun i h=>by
  have c:(0:Int)<=(i:Int)/\(i:Int)<(out.length:Int):=by omega
  have c2:(out++[x]).length<=4398046511104:=by simp;omega
  unfold CL
  simp only[decide_eq_true c.2,cond_true,c.1,c.2,and_self,if_true,Nat.zero_add,Int.toNat_natCast,List.getElem?_eq_getElem h,Option.bind_some,Am h (by omega),c2]
  cases out[i]==x<;>rfl) (by
  unfold CL
  simp only[Int.lt_irrefl,decide_false,cond_false]) (t0:=(0,())) rfl
 erw [e]
 cases hf:out.findIdx? (fun m=>m==x)with
 |none=>
  have hn:x∉out:=fun h=>by
   have:=List.findIdx?_eq_none_iff.1 hf x h
   simp at this
  simp only[Option.bind_some,Az,hn,if_false]
 |some i=>
  obtain⟨h1,h2,_⟩:=List.findIdx?_eq_some_iff_getElem.1 hf
  have hn:x∈out:=by
   have:out[i]=x:=by simpa using h2
   rw[<-this];exact List.getElem_mem h1
  simp only[Option.bind_some,Az,hn,if_true]
theorem wh {wt:List VM}(hl:wt.length<=1048576)(hok:ML wt):∀(n:Nat) (out:List Int) (x:Int),x∉out->out.Nodup->(∀y∈out,inB y 1 9=true)->inB x 1 9=true->9<=out.length+n->
 ((AE (fun v=>CM (wt,()) v _ some) (x,out,())).bind fun p=>Az p (fun p=>some ((p.2.1,()):List Int×Unit)) fun p=>Az p (fun p=>some (p.1,())) fun p=>Az p (fun p=>some (p.1,())) fun p=>some (p.1,()))=some (Hy wt n (out++[x]) x,()):=by
 have hw:=fun m hm=>(((J8 _).1 hok).1 m hm).2.1
 intro n
 induction n with
 |zero=>
  intro out x h1 h2 h3 h4 h5
  have:=A02 (out:=out++[x]) (by rw[List.nodup_append];exact⟨h2,by simp,fun a ha b hb=>by rw[List.mem_singleton.1 hb];rintro rfl;exact h1 ha⟩) (fun y hy=>by
   rcases List.mem_append.1 hy with h|h
   ·exact h3 y h
   ·rw[List.mem_singleton.1 h];exact h4)
  simp at this;omega
 |succ n ih=>
  intro out x h1 h2 h3 h4 h5
  have hx:=Bk.1 h4
  have hnd:(out++[x]).Nodup:=by rw[List.nodup_append];exact⟨h2,by simp,fun a ha b hb=>by rw[List.mem_singleton.1 hb];rintro rfl;exact h1 ha⟩
  have hin:∀y∈out++[x],inB y 1 9=true:=fun y hy=>by
   rcases List.mem_append.1 hy with h|h
   ·exact h3 y h
   ·rw[List.mem_singleton.1 h];exact h4
  have h9:=A02 hnd hin
  simp only[List.length_append,List.length_cons,List.length_nil]at h9
  have step:∀(x:Int) (out:List Int),inB x 1 9=true->out.length<=9->CM (wt,()) (x,out,()) _ some=if x∈out then some (Sum.inr (Sum.inl ([x],out++[x],())))else some (Sum.inl ((Ul wt x).getD 0,out++[x],())):=by
   intro x out hx hlen
   have hx':=Bk.1 hx
   have c2:(out++[x]).length<=4398046511104:=by simp;omega
   unfold CM
   simp only[decide_eq_true (by omega:x>0),cond_true,Ka hl,AC hok,Option.bind_some,decide_eq_true (by omega:x<=9)]
   refine(A01 (wt:=wt) (by omega:out.length<=1048576) x (fun p=>some (Sum.inr (Sum.inl p))) _).trans ?_
   simp only[c2,if_true,kt hl,Option.bind_some]
  rw[Bf]
  erw [step x out h4 (by omega)]
  simp only[h1,if_false,Option.bind_some]
  unfold Hy
  cases hf:Ul wt x with
  |none=>
   simp only[Option.getD_none]
   rw[Bf]
   unfold CM
   simp only[gt_iff_lt,Int.lt_irrefl,decide_false,cond_false,Option.bind_some,Az]
  |some y=>
   simp only[Option.getD_some]
   have hy:inB y 1 9=true:=by
    unfold Ul at hf
    cases hg:wt.find? (fun m=>m.1==x)with
    |none=>rw[hg]at hf;cases hf
    |some m=>
     rw[hg]at hf
     obtain rfl:m.2.1=y:=by simpa using hf
     exact hw m (List.mem_of_find?_eq_some hg)
   by_cases hm:y∈out++[x]
   ·rw[Bf]
    erw [step y (out++[x]) hy (by simp;omega)]
    simp only[hm,if_true,Option.bind_some,Az]
   ·simp only[hm,if_false]
    exact ih (out++[x]) y hm hnd hin hy (by simp;omega)
theorem vQ {wt:List VM}(hu:I7 (·.1) wt)(a b:Int):Ul (CA (·.1) wt (a,b,())) a=some b:=by
 unfold Ul
 have hup:=LB (f:=fun x:VM=>x.1) hu (a,b,())
 have hm:(a,b,())∈CA (fun x:VM=>x.1) wt (a,b,()):=(Ig hu).2 (.inl rfl)
 cases hf:(CA (fun x:VM=>x.1) wt (a,b,())).find? (fun m=>m.1==a)with
 |none=>exact absurd (List.find?_eq_none.1 hf _ hm) (by simp)
 |some y=>
  have h1:y.1=a:=by simpa using List.find?_some hf
  have h2:=List.mem_of_find?_eq_some hf
  rcases(Ig hu).1 h2 with rfl|⟨_,h3⟩
  ·rfl
  ·exact absurd h1 h3
theorem Q2 (wt:List VM):∀(n:Nat) (out:List Int) (x:Int),out.length<=(Hy wt n out x).length
 |0,out,x=>Nat.le_refl _
 |n+1,out,x=>by
  unfold Hy
  split
  ·exact Nat.le_refl _
  ·split
   ·simp
   ·rename_i y _ _
    have:=Q2 wt n (out++[y]) y
    simp at this;omega
theorem YB {e:EG}(H:OkG e){a b:Int}(ha:inB a 1 9=true)(hb:inB b 1 9=true)(hab:a≠b):FN (e.2.2.2.1,a,b,())=some (Q0 e.2.2.2.1 a b,()):=by
 have hl:=H.wtLen
 have hw0:ML e.2.2.2.1:=(J8 _).2 ⟨H.wtA,H.wtU⟩
 have hw1:ML (CA (·.1) e.2.2.2.1 (a,b,())):=WH H.wtA H.wtU ha hb hab
 have hpl:(CA (·.1) e.2.2.2.1 (a,b,())).length<=1048576:=by have:=Pq (f:=fun x:VM=>x.1) e.2.2.2.1 (a,b,());omega
 have hs:=Wj (wt:=e.2.2.2.1) (by omega) hw0 ha hb hab
 have hc:=wh (wt:=CA (·.1) e.2.2.2.1 (a,b,())) hpl hw1 10 [] a (by simp) (by simp) (by simp) ha (by simp)
 unfold FN Q0
 simp only[hs,Option.bind_some,Bool.not_true,cond_false]
 unfold Jy
 erw [hc]
 simp only[Option.bind_some,List.nil_append]
 have h0:2<=(Hy (CA (·.1) e.2.2.2.1 (a,b,())) 10 [a] a).length:=by
  unfold Hy
  have hab':b∉[a]:=by simpa using fun h:b=a=>hab h.symm
  simp only[vQ H.wtU,hab',if_false]
  have:=Q2 (CA (fun x:VM=>x.1) e.2.2.2.1 (a,b,())) 9 ([a]++[b]) b
  simpa using this
 have h2:=OD (CA (·.1) e.2.2.2.1 (a,b,())) 10 [a] a
 generalize Hy (CA (·.1) e.2.2.2.1 (a,b,())) 10 [a] a=c at h0 h2 ⊢
 simp only[List.length_cons,List.length_nil]at h2
 have c0:(c.length:Int)>1:=by omega
 have c1:(0:Int)<=(c.length:Int)-1/\(c.length:Int)-1<(c.length:Int):=by omega
 have hj:((c.length:Int)-1).toNat=c.length-1:=by omega
 simp only[decide_eq_true c0,cond_true,I6 (by omega:c.length<9223372036854775808),c1,and_self,if_true,Nat.zero_add,hj,List.getLast?_eq_getElem?,List.getElem?_eq_getElem (by omega:c.length-1<c.length),Option.bind_some]
 rfl
end Go.Ab
end
section
namespace Go.Ab
theorem KG {l:List VV}(hl:Hm l)(hok:Lh l){v:VV}(hv:l[l.length-1]?=some v):BD (l,())=some v:=by
 unfold Hm at hl
 have hpos:0<l.length:=by
  obtain⟨h,_⟩:=List.getElem?_eq_some_iff.1 hv;omega
 unfold BD
 have h:lAt l ((l.length:Int)-1)=some v:=by
  rw[show((l.length:Int)-1)=((l.length-1:Nat):Int) by omega,Ak (by omega)]
  rw[List.getElem?_eq_getElem (by omega)]at hv;exact hv
 simp only[TY hl,AC hok,Option.bind_some,Bool.not_true,cond_false,I6 (by omega:l.length<9223372036854775808),h]
theorem OV {t:TX}(ht:smT t):AO (tup t,())=some (LH t,()):=Qk ht.1 ht.2
theorem OkG.txOk {e:EG}(H:OkG e){k:Nat}(hk:k<e.2.1.length):LH e.2.1[k]=true:=(H.txA _ (List.getElem_mem hk)).1
theorem Oo {e:EG}(H:OkG e){k:Nat}(hk:k<e.2.1.length)(ha:e.2.1[k].2.2.1=1){key:Int}(hkey:inB key 0 5=true):
 Gz ((e.1,()),tup e.2.1[k],key,())=some (true,()):=by
 unfold Gz
 simp only[M9 H.small.fs,AC H.st,OV (H.smT hk),H.txOk hk,cond_true,Eu,hkey,Option.bind_some]
 simp only[ha,beq_self_eq_true,cond_true]
theorem uS {t:TX}(h:smT t)(key:Int):Id (tup t,key,())=some (fx (t.2.2.2.2.2.2.2.2.1.findIdx? fun m=>m.1==key),()):=by
 unfold Id
 exact El (l:=t.2.2.2.2.2.2.2.2.1) (p:=fun m=>m.1==key) h.2 (fun i hi=>by
  unfold Eb
  simp only[Ak hi,Option.bind_some,decide_eq_true (by omega:(i:Int)<(t.2.2.2.2.2.2.2.2.1.length:Int)),cond_true,Am hi (by have:=h.2;omega)]
  cases t.2.2.2.2.2.2.2.2.1[i].1==key<;>rfl) (by
  unfold Eb
  simp only[Int.lt_irrefl,decide_false,cond_false])
theorem TW {e:EG}(H:OkG e){k:Nat}(hk:k<e.2.1.length)(ha:e.2.1[k].2.2.1=1){key:Int}(hkey:inB key 0 5=true):
 FT ((e.1,()),tup e.2.1[k],key,())=some (match JT e.1 e.2.1[k] key with|none=>(0,0,0,0,0,3,())|some v=>(v.1,v.2.1,v.2.2.1,v.2.2.2.1,v.2.2.2.2.1,0,())):=by
 obtain⟨n,hn,v,e1,e2,e3,e4,e5,e6,e7⟩:=H.ltst hkey
 have hmem:=List.getElem_mem hn
 have hok:=(H.gd.ok _ hmem).1
 have hsm:=H.small.fs.2 _ hmem
 have hkn:key.toNat=n:=by omega
 unfold FT JT
 simp only[Oo H hk ha hkey,e6,Option.bind_some,Bool.not_true,cond_false,KG hsm hok e4,hkn,List.getElem?_eq_getElem hn]
 cases h2:e.2.1[k].2.1==2
 ·have hc:¬((e.1[n].length:Int)-1<0):=by omega
  have hj:((e.1[n].length:Int)-1).toNat=e.1[n].length-1:=by omega
  simp only[cond_false,decide_eq_false hc,hj,e4,Option.bind_some]
  cases e.2.1[k].2.1==4
  ·rfl
  ·simp only[cond_true,Bool.true_and]
   cases decide (v.2.2.1>e.2.1[k].2.2.2.1)<;>rfl
 ·have h4:(e.2.1[k].2.1==4)=false:=by rw[beq_iff_eq]at h2;rw[h2];rfl
  simp only[cond_true,h4,Bool.false_and,cond_false]
  unfold L9
  simp only[M9 H.small.fs,AC H.st,Option.bind_some,Bool.not_true,cond_false,Eu,hkey,e6,uV hsm hok]
  cases hd:decide (vA e.1[n] e.2.1[k].2.2.2.1 e.1[n].length<0)
  ·have h0:0<=vA e.1[n] e.2.1[k].2.2.2.1 e.1[n].length:=by have:=of_decide_eq_false hd;omega
   have h1:=(Qp e.1[n] e.2.1[k].2.2.2.1 e.1[n].length).2
   obtain⟨j,hj⟩:=Int.eq_ofNat_of_zero_le h0
   rw[hj]at h1 ⊢
   have hjl:j<e.1[n].length:=by omega
   simp only[cond_false,Ak hjl,Option.bind_some,Int.toNat_natCast,List.getElem?_eq_getElem hjl,Bool.not_true]
  ·simp only[cond_true,Option.bind_some,Bool.not_false]
theorem uJ {e:EG}(H:OkG e){k:Nat}(hk:k<e.2.1.length)(ha:e.2.1[k].2.2.1=1){key:Int}(hkey:inB key 0 5=true):
 I9 ((e.1,()),e.2.2.1,tup e.2.1[k],key,())=some (Gc e.1 e.2.2.1 e.2.1[k] key,()):=by
 obtain⟨n,hn,v,e1,e2,e3,e4,e5,e6,e7⟩:=H.ltst hkey
 have hmem:=List.getElem_mem hn
 have hok:=(H.gd.ok _ hmem).1
 have hsm:=H.small.fs.2 _ hmem
 have hle:=YT (((Kr _).1 hok).1 v e7)
 have himp:decide (v.2.2.1>e.2.1[k].2.2.2.1)=true->decide (v.2.2.2.1>e.2.1[k].2.2.2.1)=true:=fun h=>by
  have:=of_decide_eq_true h
  exact decide_eq_true (by omega)
 unfold I9 Gc
 simp only[Oo H hk ha hkey,e6,Option.bind_some,Bool.not_true,cond_false,KG hsm hok e4,Kb H.small.fk,AC ((N6 _).2 ⟨H.lkA,H.lkU⟩),QJ H.small.fk,e5,crV,LA,bne]
 generalize (CO e.2.2.1 key==0)=b1
 generalize (CO e.2.2.1 key==e.2.1[k].1)=b2
 generalize (e.2.1[k].2.1==1)=b3
 generalize (e.2.1[k].2.1==2)=b4
 generalize (e.2.1[k].2.1==4)=b5
 generalize decide (v.2.2.1>e.2.1[k].2.2.2.1)=b6 at himp
 generalize decide (v.2.2.2.1>e.2.1[k].2.2.2.1)=b7 at himp
 cases b1<;>cases b2<;>cases b3<;>cases b4<;>cases b5<;>cases b6<;>cases b7<;>first|rfl|exact absurd (himp rfl) (by decide)
theorem uP {l:List VM}(hl:l.length<=1048576)(m:VM):HA (l,(m.1,m.2.1,()),())=some (CA (·.1) l m,()):=by
 unfold HA
 refine(N1 (l:=l) (p:=fun x=>decide (x.1<m.1)) hl (fun i h=>?_) ?_ _).trans ?_
 ·unfold DP
  simp only[Ak h,Option.bind_some,decide_eq_true (by omega:(i:Int)<(l.length:Int)),cond_true,Am h (by omega)]
  cases decide (l[i].1<m.1)<;>rfl
 ·unfold DP
  simp only[Int.lt_irrefl,decide_false,cond_false]
 ·have hle:=UB (l:=l) (p:=fun x=>decide (x.1<m.1))
  generalize hc:(l.takeWhile fun x=>decide (x.1<m.1)).length=c at hle
  rw[OU (m:=m) hc]
  have q1:(l.take c).length<=2199023255552:=by simp;omega
  have q2:(l.take c++[m]).length<=2199023255552:=by simp;omega
  have q3:(l.take c++[m]++l.drop c).length<=2199023255552:=by simp;omega
  have q4:(l.take c++[m]++l.drop (c+1)).length<=2199023255552:=by simp;omega
  simp only[slA hle,Option.bind_some]
  rw[if_pos q1]
  erw [if_pos q2]
  by_cases hlt:c<l.length
  ·have hh:=jB (f:=fun x:VM=>x.1) (l:=l) (t:=m.1) (by rw[hc];exact hlt)
   simp only[hc]at hh
   simp only[decide_eq_true (by omega:(c:Int)<(l.length:Int)),cond_true,Ak hlt,Option.bind_some,Am hlt (by omega),slB hle,slB (by omega:c+1<=l.length),hh]
   cases l[c].1==m.1
   ·erw [if_pos q3]<;>rfl
   ·erw [if_pos q4]<;>rfl
  ·have hh:=X0 (f:=fun x:VM=>x.1) (l:=l) (t:=m.1) (by rw[hc];exact hlt)
   simp only[decide_eq_false (by omega:¬(c:Int)<(l.length:Int)),cond_false,slB hle,Option.bind_some,hh]
   erw [if_pos q3]<;>rfl
def ptl (m:VM):List VM->List VM|[]=>[]|x::r=>if x=m then r else x::r
theorem uE (l:List VM)(m:VM):KF l m=l.takeWhile (fun x=>HU x m)++m::ptl m (l.dropWhile fun x=>HU x m):=by
 unfold KF
 cases l.dropWhile fun x=>HU x m<;>rfl
theorem uQ {l:List VM}(hl:l.length<=1048576)(m:VM):I8 (l,(m.1,m.2.1,()),())=some (KF l m,()):=by
 have hb:∀a b:VM,decide (Cg a b)=HU a b:=fun a b=>by
  rw[Bool.eq_iff_iff,decide_eq_true_eq,LW]
 unfold I8
 refine(N1 (l:=l) (p:=fun x=>HU x m) hl (fun i h=>?_) ?_ _).trans ?_
 ·unfold E7
  have:=WF l[i] m
  simp only[Ak h,Option.bind_some,decide_eq_true (by omega:(i:Int)<(l.length:Int)),cond_true,Am h (by omega),this,hb]
  cases HU l[i] m<;>rfl
 ·unfold E7
  simp only[Int.lt_irrefl,decide_false,cond_false]
 ·have hle:=UB (l:=l) (p:=fun x=>HU x m)
  obtain⟨t1,t2⟩:=Qc (l:=l) (p:=fun x=>HU x m)
  have hp:KF l m=l.take (l.takeWhile fun x=>HU x m).length++m::ptl m (l.drop (l.takeWhile fun x=>HU x m).length):=by
   rw[uE,t1,t2]
  rw[hp]
  clear hp t1 t2
  generalize (l.takeWhile fun x=>HU x m).length=c at hle
  have q0:l.length<=2199023255552:=by omega
  have q1:(l.take c).length<=2199023255552:=by simp;omega
  have q2:(l.take c++[m]).length<=2199023255552:=by simp;omega
  have q3:(l.take c++[m]++l.drop c).length<=2199023255552:=by simp;omega
  simp only[slA hle,Option.bind_some,slB hle,q0,q1,if_true]
  by_cases hlt:c<l.length
  ·simp only[decide_eq_true (by omega:(c:Int)<(l.length:Int)),cond_true,Ak hlt,Option.bind_some,Bool.and_true]
   rw[List.drop_eq_getElem_cons hlt]at q3 ⊢
   by_cases hx:l[c]=m
   ·have h1:(l[c].1==m.1&&l[c].2.1==m.2.1)=true:=by rw[hx];simp
    simp only[h1,cond_true,ptl]
    rw[if_pos hx,<-hx,<-List.drop_eq_getElem_cons hlt,List.take_append_drop]
   ·have h1:(l[c].1==m.1&&l[c].2.1==m.2.1)=false:=by
     cases h:(l[c].1==m.1&&l[c].2.1==m.2.1)with
     |false=>rfl
     |true=>
      rw[Bool.and_eq_true,beq_iff_eq,beq_iff_eq]at h
      exact absurd (Prod.ext h.1 (Prod.ext h.2 rfl)) hx
    simp only[h1,cond_false,ptl,hx,if_false]
    erw [if_pos q2,if_pos q3]
    simp
  ·have h0:l.drop c=[]:=List.drop_of_length_le (by omega)
   simp only[decide_eq_false (by omega:¬(c:Int)<(l.length:Int)),cond_false,h0,ptl]at q3 ⊢
   erw [if_pos q2,if_pos q3]
   simp
end Go.Ab
end
section
namespace Go.Ab
def kI (t:TX)(b:Bool):Int×Int×Int×Int×Int×Int×Int×Bool×List VM×List VM×Unit:=
 (t.1,t.2.1,t.2.2.1,t.2.2.2.1,t.2.2.2.2.1,t.2.2.2.2.2.1,t.2.2.2.2.2.2.1,b,t.2.2.2.2.2.2.2.1,t.2.2.2.2.2.2.2.2.1,())
theorem uL {t:TX}(ht:smT t)(hok:LH t=true)(ha:t.2.2.1=1){key:Int}(hkey:inB key 0 5=true){v:VV}(hv:okV v=true):
 Ib (tup t,key,(v.1,v.2.1,v.2.2.1,v.2.2.2.1,v.2.2.2.2.1,()),())=some (match MT t key v with|none=>kI t false|some t'=>kI t' true):=by
 have h60:(((t.2.2.2.2.2.2.2.1.length:Nat):Int)==60)=(t.2.2.2.2.2.2.2.1.length==60):=by
  rw[Bool.eq_iff_iff,beq_iff_eq,beq_iff_eq];omega
 have ha':(t.2.2.1 != 1)=false:=by rw[ha];rfl
 have hpr:=uQ ht.1 (key,v.2.2.1,())
 simp only at hpr
 unfold Ib MT
 simp only[NA t ht,OV ht,hok,Option.bind_some,Bool.not_true,cond_false,ha',Eu,hkey,jp v,hv,h60,hpr]
 cases t.2.2.2.2.2.2.2.1.length==60<;>rfl
theorem uK {e:EG}(H:OkG e){k:Nat}(hk:k<e.2.1.length)(ha:e.2.1[k].2.2.1=1){key val:Int}(hkey:inB key 0 5=true)(hval:inB val (-1) 99=true):
 FP ((e.1,()),tup e.2.1[k],key,val,())=some (kI (O3 e.2.1[k] (mx e.2.1[k].2.2.2.2.1 (LA (Ew e.1 key))) (CA (·.1) e.2.1[k].2.2.2.2.2.2.2.2.1 (key,val,()))) true):=by
 obtain⟨n,hn,v,e1,e2,e3,e4,e5,e6,e7⟩:=H.ltst hkey
 have hmem:=List.getElem_mem hn
 have ht:=H.smT hk
 have ha':(e.2.1[k].2.2.1 != 1)=false:=by rw[ha];rfl
 have hpw:=uP ht.2 (key,val,())
 simp only at hpw
 unfold FP
 simp only[NA _ ht,M9 H.small.fs,AC H.st,OV ht,H.txOk hk,Option.bind_some,Bool.not_true,cond_false,ha',Eu,hkey,hval,hpw,e6,KG (H.small.fs.2 _ hmem) (H.gd.ok _ hmem).1 e4,e5,LA,kI,O3]
theorem QH {e:EG}(H:OkG e){k:Nat}(hk:k<e.2.1.length)(ha:e.2.1[k].2.2.1=1){key:Int}(hkey:inB key 0 5=true)(ce:Bool):
 Gy ((k:Int),key,Iv ce e)=some ((Fv e k key).1,(Fv e k key).2.1,Iv ce (Fv e k key).2.2):=by
 have hs:=H.small
 have ht:=H.smT hk
 have c:(0:Int)<=(k:Int)/\(k:Int)<(e.2.1.length:Int):=by omega
 have hfw:=uS ht key
 have hch:=TW H hk ha hkey
 simp only[tup]at hfw hch
 unfold Gy Fv Iv
 simp only[c,and_self,if_true,Nat.zero_add,Int.toNat_natCast,List.getElem?_eq_getElem hk,Option.bind_some,hfw,X1,Rz]
 cases hf:e.2.1[k].2.2.2.2.2.2.2.2.1.findIdx? (fun m=>m.1==key)with
 |some i=>
  obtain⟨h1,_⟩:=List.findIdx?_eq_some_iff_getElem.1 hf
  have c:(0:Int)<=(i:Int)/\(i:Int)<(e.2.1[k].2.2.2.2.2.2.2.2.1.length:Int):=by omega
  simp only[Option.isSome_some,cond_true,fx,c,and_self,if_true,Nat.zero_add,Int.toNat_natCast,List.getElem?_eq_getElem h1,Option.bind_some,Option.map_some]
 |none=>
  simp only[Option.isSome_none,cond_false,hch,Option.bind_some]
  cases hcp:JT e.1 e.2.1[k] key with
  |none=>
   simp only[bne,show((3:Int)==0)=false from rfl,Bool.not_false,cond_true,IR hk hs.fk hs.fw ce ha,Option.bind_some,Jt,FV]
  |some v=>
   have hv:okV v=true:=by
    obtain⟨l,h1,h2⟩:=Q1 hcp
    exact((Kr _).1 (H.gd.ok l (List.mem_of_getElem? h1)).1).1 v h2
   have htr:=uL ht (H.txOk hk) ha hkey hv
   simp only[tup]at htr
   simp only[bne,show((0:Int)==0)=true from rfl,Bool.not_true,cond_false,htr,Option.bind_some]
   cases MT e.2.1[k] key v with
   |none=>rfl
   |some t'=>rfl
theorem Wi {k:Nat}{hi:Int}{ce:Bool}(hh:hi<=5):∀(n:Nat) (key:Int) (out:List Int) (e:EG),OkG e->k<e.2.1.length->(∀t,e.2.1[k]?=some t->t.2.2.1=1)->0<=key->key+n=hi+1->out.length<=key.toNat->
 ((AE (fun v=>Dj ((k:Int),hi,0,()) v _ some) (key,ce,e.2.2.2.2,e.1,e.2.1,e.2.2.1,e.2.2.2.1,out,())).bind fun p=>Az p (fun p=>some
   ((p.2.2.2.2.1,p.1,p.2.1,p.2.2.1,p.2.2.2.1,p.2.2.2.2.2.2.1,p.2.2.2.2.2.2.2.1,[],()):Int×Bool×Int×List (List VV)×List TX×List VM×List VM×List Int×Unit)) fun p=>some (0,p.1,p.2.1,p.2.2.1,p.2.2.2.1,p.2.2.2.2.1,p.2.2.2.2.2.1,p.2.2.2.2.2.2.1,()))=
 some ((E4 k n key out e).1,ce,(E4 k n key out e).2.2.2.2.2.2,(E4 k n key out e).2.2.1,(E4 k n key out e).2.2.2.1,(E4 k n key out e).2.2.2.2.1,(E4 k n key out e).2.2.2.2.2.1,(E4 k n key out e).2.1,()):=by
 intro n
 induction n with
 |zero=>
  intro key out e H hk ha h0 hn ho
  rw[Bf]
  have hd:¬key<=hi:=by omega
  simp only[Dj,decide_eq_false hd,cond_false,Option.bind_some,Az,E4]
 |succ n ih=>
  intro key out e H hk ha h0 hn ho
  have hkey:inB key 0 5=true:=Bk.2 ⟨h0,by omega⟩
  have hr:=QH H hk (ha _ (List.getElem?_eq_getElem hk)) hkey ce
  have hs:=H.read (List.getElem?_eq_getElem hk) (ha _ (List.getElem?_eq_getElem hk)) hkey
  unfold Iv at hr
  rw[Bf]
  have hd:key<=hi:=by omega
  simp only[Dj,decide_eq_true hd,cond_true,hr,Option.bind_some,E4]
  cases hc:(Fv e k key).2.1==0
  ·simp only[bne,hc,Bool.not_false,cond_true,Option.bind_some,Az,cond_false]
  ·have hc':(Fv e k key).2.1=0:=by simpa using hc
   obtain⟨t',ht1,ht2,ht3⟩:=hs.2.1 hc'
   have hlen:(out++[(Fv e k key).1]).length<=4398046511104:=by
    have:key.toNat<=5:=by omega
    simp;omega
   have hw:IntKind.i64.wrap (key+1)=key+1:=De (by omega) (by omega)
   simp only[bne,hc,Bool.not_true,cond_false,hlen,if_true,Option.bind_some,hw,cond_true]
   exact ih (key+1) (out++[(Fv e k key).1]) (Fv e k key).2.2 hs.1 (by rw[hs.2.2];exact hk) (fun t ht=>by rw[ht1]at ht;obtain rfl:t'=t:=(by simpa using ht);exact ht2) (by omega) (by omega) (by simp;omega)
theorem Yy {e:EG}(H:OkG e){k:Nat}(hk:k<e.2.1.length)(ha:e.2.1[k].2.2.1=1){lo hi:Int}(h0:0<=lo)(h1:lo<=hi+1)(h2:hi<=5)(ce:Bool):
 Jx ((k:Int),lo,hi,Iv ce e)=some (YS ce (E4 k (hi-lo+1).toNat lo [] e)):=
 Wi h2 (hi-lo+1).toNat lo [] e H hk (fun t ht=>by rw[List.getElem?_eq_getElem hk]at ht;obtain rfl:e.2.1[k]=t:=(by simpa using ht);exact ha) h0 (by omega) (by simp)
theorem Wh {e:EG}(H:OkG e){k:Nat}(hk:k<e.2.1.length)(ha:e.2.1[k].2.2.1=1){key val:Int}(hkey:inB key 0 5=true)(hval:inB val (-1) 99=true)(a b c d:Int)(ce:Bool):
 HB ((k:Int),a,b,c,key,d,val,Iv ce e)=some ((LX e k key val).1,Iv ce (LX e k key val).2):=by
 have hs:=H.small
 have hid:=H.idIn hk
 have c0:(0:Int)<=(k:Int)/\(k:Int)<(e.2.1.length:Int):=by omega
 have hwc:=uJ H hk ha hkey
 have htw:=uK H hk ha hkey hval
 simp only[tup]at hwc htw
 unfold HB LX Iv
 simp only[c0,and_self,if_true,Nat.zero_add,Int.toNat_natCast,List.getElem?_eq_getElem hk,Option.bind_some,hwc,QJ hs.fk]
 cases hc:(Gc e.1 e.2.2.1 e.2.1[k] key==1)
 ·simp only[cond_false]
  cases hc0:(Gc e.1 e.2.2.1 e.2.1[k] key==0)
  ·simp only[bne,hc0,Bool.not_false,cond_true,IR hk hs.fk hs.fw ce ha,Option.bind_some,cond_false,Jt,FV]
  ·have hc0':Gc e.1 e.2.2.1 e.2.1[k] key=0:=by simpa using hc0
   have htl:HD (e.2.1[k].2.1,())=some (e.2.1[k].2.1==1||e.2.1[k].2.1==2,()):=by
    unfold HD
    cases e.2.1[k].2.1==1<;>rfl
   simp only[bne,hc0,Bool.not_true,cond_false,cond_true,htw,htl,Option.bind_some]
   cases ht:(e.2.1[k].2.1==1||e.2.1[k].2.1==2)
   ·simp only[cond_false,kI,O3]
   ·simp only[cond_true,uW (lk:=e.2.2.1) hs.fk ((N6 _).2 ⟨H.lkA,H.lkU⟩) H.lkU hkey hid (PI hc0' ht) (fun m hm=>by have:=Bk.1 (H.lkA m hm).2;omega),Option.bind_some,kI,O3]
 ·have hc':Gc e.1 e.2.2.1 e.2.1[k] key=1:=by simpa using hc
  obtain⟨n0,n1⟩:=RA hc'
  have ho:=WR H n0
  have hab:e.2.1[k].1≠CO e.2.2.1 key:=fun h=>n1 h.symm
  simp only[cond_true,YB H hid ho hab,Option.bind_some]
  cases Q0 e.2.2.2.1 e.2.1[k].1 (CO e.2.2.1 key)
  ·simp only[cond_false,Wj hs.fw ((J8 _).2 ⟨H.wtA,H.wtU⟩) hid ho hab,Option.bind_some,hc']
  ·simp only[cond_true,IR hk hs.fk hs.fw ce ha,Option.bind_some,Jt,FV]
end Go.Ab
end
section
namespace Go.Ab
section
variable {e:EG}(H:OkG e){k:Nat}(hk:k<e.2.1.length)(ha:e.2.1[k].2.2.1=1)
include H hk ha
theorem uT:HG ((e.1,()),tup e.2.1[k],())=some (Mp e.1 e.2.1[k],()):=by
 have hg:=Oo H hk ha (key:=0) rfl
 have hwl:=(H.smT hk).2
 have hwr:=H.wrIn hk
 simp only[tup]at hg
 unfold HG Mp
 simp only[hg,Option.bind_some,Bool.not_true,cond_false]
 have hD:∀i (h:i<e.2.1[k].2.2.2.2.2.2.2.2.1.length),∀(hc:Bool),decide (crV (Ew e.1 e.2.1[k].2.2.2.2.2.2.2.2.1[i].1)>e.2.1[k].2.2.2.1)=hc->
  BG (e.1,tup e.2.1[k]) ((i:Int),()) _ some=bif !hc then some (.inl (((i+1:Nat):Int),()))else bif e.2.1[k].2.1==2 then some (.inr (.inl ()))else bif e.2.1[k].2.1==4 then some (.inr (.inr (.inl ())))else some (.inl (((i+1:Nat):Int),())):=by
  intro i h hc hh
  obtain⟨n,hn,v,e1,e2,e3,e4,e5,e6,e7⟩:=H.ltst (hwr _ (List.getElem_mem h))
  have hmem:=List.getElem_mem hn
  rw[e5,crV]at hh
  have hnn:decide (v.2.2.1<=e.2.1[k].2.2.2.1)=!hc:=by
   cases hc
   ·have:=of_decide_eq_false hh;exact decide_eq_true (by omega)
   ·have:=of_decide_eq_true hh;exact decide_eq_false (by omega)
  unfold BG
  simp only[Ak h,Option.bind_some,decide_eq_true (by omega:(i:Int)<(e.2.1[k].2.2.2.2.2.2.2.2.1.length:Int)),cond_true,Am h (by omega),e6,KG (H.small.fs.2 _ hmem) (H.gd.ok _ hmem).1 e4,hnn]
 have hE:BG (e.1,tup e.2.1[k]) ((e.2.1[k].2.2.2.2.2.2.2.2.1.length:Int),()) _ some=some (.inr (.inr (.inr ()))):=by
  unfold BG
  simp only[Int.lt_irrefl,decide_false,cond_false]
 have hsplit:∀(p:VM->Bool) (l:List VM),(dec (∀i,i<l.length->∃h:i<l.length,p l[i]=false))=!l.any p:=by
  intro p l
  cases hb:l.any p with
  |false=>
   rw[List.any_eq_false]at hb
   exact AC fun i h=>⟨h,by simpa using hb _ (List.getElem_mem h)⟩
  |true=>
   obtain⟨x,hx,hp⟩:=List.any_eq_true.1 hb
   obtain⟨i,hi,rfl⟩:=List.getElem_of_mem hx
   exact Bl fun h=>by obtain⟨_,h2⟩:=h i hi;rw[hp]at h2;cases h2
 cases h2:(e.2.1[k].2.1==2||e.2.1[k].2.1==4)
 ·have h2':=Bool.or_eq_false_iff.1 h2
  refine(CU (B:=fun v=>BG (e.1,tup e.2.1[k]) v _ some) (n:=e.2.1[k].2.2.2.2.2.2.2.2.1.length) (c:=fun _=>True) (X:=some (0,())) (no:=none) (fun i h=>⟨fun _=>?_,fun hn=>absurd trivial hn⟩) ⟨.inr (.inr ()),hE,rfl⟩).trans ?_
  ·refine(hD i h _ rfl).trans ?_
   simp only[h2'.1,h2'.2,cond_false]
   cases decide (crV (Ew e.1 e.2.1[k].2.2.2.2.2.2.2.2.1[i].1)>e.2.1[k].2.2.2.1)<;>rfl
  ·rw[AC (fun i h=>trivial)]
   simp only[cond_true,h2'.1,h2'.2,cond_false]
   cases e.2.1[k].2.2.2.2.2.2.2.2.1.any _<;>rfl
 ·refine(CU (B:=fun v=>BG (e.1,tup e.2.1[k]) v _ some) (n:=e.2.1[k].2.2.2.2.2.2.2.2.1.length) (c:=fun i=>∃h:i<e.2.1[k].2.2.2.2.2.2.2.2.1.length,(fun m:VM=>decide (crV (Ew e.1 m.1)>e.2.1[k].2.2.2.1)) e.2.1[k].2.2.2.2.2.2.2.2.1[i]=false) (X:=some (0,())) (no:=some (bif e.2.1[k].2.1==2 then 2 else 3,())) (fun i h=>⟨fun hc=>?_,fun hn=>?_⟩) ⟨.inr (.inr ()),hE,rfl⟩).trans ?_
  ·obtain⟨_,hc⟩:=hc
   exact(hD i h false hc).trans rfl
  ·have hc:decide (crV (Ew e.1 e.2.1[k].2.2.2.2.2.2.2.2.1[i].1)>e.2.1[k].2.2.2.1)=true:=by
    cases hd:decide (crV (Ew e.1 e.2.1[k].2.2.2.2.2.2.2.2.1[i].1)>e.2.1[k].2.2.2.1)with
    |true=>rfl
    |false=>exact absurd ⟨h,hd⟩ hn
   cases h3:e.2.1[k].2.1==2
   ·have h4:(e.2.1[k].2.1==4)=true:=by rw[h3]at h2;exact h2
    exact⟨_,(hD i h true hc).trans (by simp only[Bool.not_true,cond_false,h3,h4,cond_true];rfl),rfl⟩
   ·exact⟨_,(hD i h true hc).trans (by simp only[Bool.not_true,cond_false,h3,cond_true];rfl),rfl⟩
  ·have hs:=hsplit (fun m:VM=>decide (crV (Ew e.1 m.1)>e.2.1[k].2.2.2.1)) e.2.1[k].2.2.2.2.2.2.2.2.1
   erw [hs]
   cases e.2.1[k].2.2.2.2.2.2.2.2.1.any _
   ·rfl
   ·cases h3:e.2.1[k].2.1==2
    ·have h4:(e.2.1[k].2.1==4)=true:=by rw[h3]at h2;exact h2
     simp only[h4,cond_true,cond_false,Bool.not_true]
    ·simp only[cond_true,cond_false,Bool.not_true]
omit ha in
theorem uN:HF ((e.1,()),tup e.2.1[k],())=some (rlP e.1 e.2.1[k],()):=by
 have hsm:=H.smT hk
 have hwr:=H.wrIn hk
 have htx:=OV hsm
 simp only[tup]at htx
 unfold HF rlP
 simp only[M9 H.small.fs,AC H.st,htx,H.txOk hk,Option.bind_some,Bool.not_true,cond_false]
 refine Gi (l:=e.2.1[k].2.2.2.2.2.2.2.1) (f:=fun n m=>mx n m.2.1) (X:=fun n=>(AE (fun v=>CZ (e.1,tup e.2.1[k]) v _ some) (n,0,())).bind fun p=>some (p.1,())) 0 (fun i h n=>?_) (fun n=>⟨(n,()),?_,rfl⟩) ?_
 ·unfold DQ
  simp only[Ak h,Option.bind_some]
  rw[decide_eq_true (by omega),Am h (by have:=hsm.1;omega)];rfl
 ·unfold DQ
  simp only
  rw[decide_eq_false (by omega)];rfl
 ·refine Gi (l:=e.2.1[k].2.2.2.2.2.2.2.2.1) (f:=fun n m=>mx n (LA (Ew e.1 m.1))) (X:=fun n=>some (n,())) _ (fun i h n=>?_) (fun n=>⟨(n,()),?_,rfl⟩) rfl
  ·obtain⟨n',hn,v,e1,e2,e3,e4,e5,e6,e7⟩:=H.ltst (hwr _ (List.getElem_mem h))
   have hmem:=List.getElem_mem hn
   unfold CZ
   simp only[tup,Ak h,Option.bind_some,e6,KG (H.small.fs.2 _ hmem) (H.gd.ok _ hmem).1 e4,e5,LA]
   rw[decide_eq_true (by omega),Am h (by have:=hsm.2;omega)];rfl
  ·unfold CZ
   simp only[tup]
   rw[decide_eq_false (by omega)];rfl
theorem ku (hst:e.2.2.2.2+1<=999):F9 ((e.1,()),tup e.2.1[k],e.2.2.2.2+1,())=some (loP e.1 e.2.1[k],hiP e.1 e.2.1[k] (e.2.2.2.2+1),true,()):=by
 have hsm:=H.smT hk
 have hx:=(H.txA _ (List.getElem_mem hk)).2.2.2 ha
 have hrl:=uN H hk
 have hrh:=uO H.small.fs H.st _ hsm (H.txOk hk) hx
 have hex:=QL H.small.fs H.st hsm.1 hsm.2 (H.txOk hk) (H.rdIn hk)
 have ha':(e.2.1[k].2.2.1 != 1)=false:=by rw[ha];rfl
 have h0:=H.stamp0
 have hl:=H.last
 have hl0:0<=e.1.foldl Jk 0:=((P4 e.1 0).1 (Int.le_refl _)).1
 have hw:IntKind.i64.wrap (e.1.foldl Jk 0+1)=e.1.foldl Jk 0+1:=De (by omega) (by omega)
 have hi:inB (e.2.2.2.2+1) (e.1.foldl Jk 0+1) 999=true:=Bk.2 ⟨by omega,hst⟩
 simp only[tup]at hrl
 unfold F9
 simp only[hex,AC hx,Option.bind_some,Bool.not_true,cond_false,ha',QI H.small.fs H.st,hw,Eu,hi,hrl,hrh,loP,hiP]
omit ha in
theorem Wk:Ge ((e.1,()),tup e.2.1[k],())=some (!Ni e.1 e.2.1[k],()):=by
 have hwl:=(H.smT hk).2
 have hwr:=H.wrIn hk
 unfold Ge
 have hsp:∀m∈e.2.1[k].2.2.2.2.2.2.2.2.1,∃(n:Nat) (hn:n<e.1.length),lAt e.1 m.1=some e.1[n]/\e.1[m.1.toNat]?=some e.1[n]:=fun m hm=>by
  obtain⟨n,hn,e1,e2,e3⟩:=Uh H.gd.six (hwr m hm)
  exact⟨n,hn,e2,e3⟩
 have he:=Mk (B:=fun v=>F7 (e.1,tup e.2.1[k]) v _ some) (l:=e.2.1[k].2.2.2.2.2.2.2.2.1) (fun i=>((i:Int),())) (fun m=>match e.1[m.1.toNat]? with|some l=>decide (l.length>=50)|none=>false) (fd:=fun i=>.inl ()) (no:=.inr ()) (fun i h=>by
  obtain⟨n,hn,q1,q2⟩:=hsp _ (List.getElem_mem h)
  have q3:decide ((e.1[n].length:Int)>=50)=decide (e.1[n].length>=50):=by
   rw[Bool.eq_iff_iff,decide_eq_true_eq,decide_eq_true_eq];omega
  unfold F7
  simp only[tup,Ak h,Option.bind_some,decide_eq_true (by omega:(i:Int)<(e.2.1[k].2.2.2.2.2.2.2.2.1.length:Int)),cond_true,Am h (by omega),q1,q2,q3]
  cases decide (e.1[n].length>=50)<;>rfl) (by
  unfold F7
  simp only[tup,Int.lt_irrefl,decide_false,cond_false]) (t0:=(0,())) rfl
 erw [he]
 unfold Ni
 cases hf:e.2.1[k].2.2.2.2.2.2.2.2.1.findIdx? (fun m=>match e.1[m.1.toNat]? with|some l=>decide (l.length>=50)|none=>false)with
 |none=>
  have:=congrArg Option.isSome hf
  rw[List.findIdx?_isSome]at this
  simp only[Option.bind_some,Az]
  erw [this];rfl
 |some i=>
  have:=congrArg Option.isSome hf
  rw[List.findIdx?_isSome]at this
  simp only[Option.bind_some,Az]
  erw [this];rfl
theorem Yz (st lo hi:Int):DN ((e.1,()),tup e.2.1[k],st,lo,hi,())=some (e.2.1[k].1,e.2.1[k].2.1,2,e.2.1[k].2.2.2.1,lo,hi,st,P8 e.1 e.2.1[k] st hi,e.2.1[k].2.2.2.2.2.2.2.1,e.2.1[k].2.2.2.2.2.2.2.2.1,()):=by
 have hsm:=H.smT hk
 have hwr:=H.wrIn hk
 have hrd:=H.rdIn hk
 have hx:=(H.txA _ (List.getElem_mem hk)).2.2.2 ha
 have hwl:=QV ((D6 _).1 (H.txOk hk)).2.1
 unfold DN P8
 simp only[QM H.small.fs,NA _ hsm,Option.bind_some]
 obtain⟨f1,f2⟩:=Mm (l:=e.2.1[k].2.2.2.2.2.2.2.1) (f:=Mx st) (Inv:=fun s i=>stOK s 0/\∀m∈e.2.1[k].2.2.2.2.2.2.2.1,Hk s m) (n0:=e.1)
  (B:=fun v=>Di (st,hi,e.2.1[k].1,e.2.1[k].2.1,e.2.1[k].2.2.1,e.2.1[k].2.2.2.1,e.2.1[k].2.2.2.2.1,e.2.1[k].2.2.2.2.2.1,e.2.1[k].2.2.2.2.2.2.1,e.2.1[k].2.2.2.2.2.2.2.1,e.2.1[k].2.2.2.2.2.2.2.2.1,0,0,0,0,0,0,0,e.2.1[k].1,e.2.1[k].2.1,2,e.2.1[k].2.2.2.1,lo,hi,st,e.2.1[k].2.2.2.2.2.2.2.1,e.2.1[k].2.2.2.2.2.2.2.2.1,()) v _ some)
  (fun i h s hI=>by
    obtain⟨_,hm,_⟩:=hrd i h
    obtain⟨a,h0,hlt,l,e1,e2,e3,hl⟩:=K3 hI.1.1 hm
    obtain⟨l',j,x1,x2⟩:=hI.2 _ (List.getElem_mem h)
    rw[e3]at x1;obtain rfl:l=l':=(by simpa using x1)
    have hj:=PD x2
    have hls:=(hI.1.small (by omega)).2 _ hl
    have c1:(0:Int)<=(a:Int)/\(a:Int)<(s.length:Int):=by omega
    have c2:(0:Int)<=(j:Int)/\(j:Int)<(l.length:Int):=by omega
    unfold Di Mx
    simp only[decide_eq_true (by omega:(i:Int)<(e.2.1[k].2.2.2.2.2.2.2.1.length:Int)),cond_true,Ak h,Option.bind_some,h0,c1,and_self,if_true,Nat.zero_add,Int.toNat_natCast,e1,QK hls,x2,fx,c2,List.getElem?_eq_getElem hj,Am h (by have:=hsm.1;omega),e3,Rh])
  (fun i h s hI=>⟨RE st hI.1,fun m hm=>PE st (hI.2 m hm)⟩)
  ⟨H.st.stOK,hx⟩
  (fun s=>by
    unfold Di
    simp only[Int.lt_irrefl,decide_false,cond_false])
 erw [f1]
 simp only[Option.bind_some]
 obtain⟨g1,g2⟩:=Mm (l:=e.2.1[k].2.2.2.2.2.2.2.2.1) (f:=OH st e.2.1[k].1 hi) (Inv:=fun s i=>stOK s i) (n0:=e.2.1[k].2.2.2.2.2.2.2.1.foldl (Mx st) e.1)
  (B:=fun v=>CY (st,hi,e.2.1[k].1,e.2.1[k].2.1,e.2.1[k].2.2.1,e.2.1[k].2.2.2.1,e.2.1[k].2.2.2.2.1,e.2.1[k].2.2.2.2.2.1,e.2.1[k].2.2.2.2.2.2.1,e.2.1[k].2.2.2.2.2.2.2.1,e.2.1[k].2.2.2.2.2.2.2.2.1,0,0,0,0,0,0,0,e.2.1[k].1,e.2.1[k].2.1,2,e.2.1[k].2.2.2.1,lo,hi,st,e.2.1[k].2.2.2.2.2.2.2.1,e.2.1[k].2.2.2.2.2.2.2.2.1,()) v _ some)
  (fun i h s hI=>by
    obtain⟨a,h0,hlt,l,e1,e2,e3,hl⟩:=K3 hI.1 (hwr _ (List.getElem_mem h))
    have h5:=hI.2 l hl
    have hjl:l.length-1<l.length:=by omega
    have c1:(0:Int)<=(a:Int)/\(a:Int)<(s.length:Int):=by omega
    have c2:(0:Int)<=(l.length:Int)-1/\(l.length:Int)-1<(l.length:Int):=by omega
    have hj:((l.length:Int)-1).toNat=l.length-1:=by omega
    have c4:l.length+1<=879609302220:=by omega
    unfold CY OH
    simp only[decide_eq_true (by omega:(i:Int)<(e.2.1[k].2.2.2.2.2.2.2.2.1.length:Int)),cond_true,Ak h,Option.bind_some,h0,c1.1,c1.2,true_and,and_self,if_true,Nat.zero_add,Int.toNat_natCast,e1,I6 (by omega:l.length<9223372036854775808),c2.1,c2.2,hj,List.getElem?_eq_getElem hjl,List.length_set,Iz hlt,JV,List.length_append,List.length_cons,List.length_nil,c4,Am h (by have:=hsm.2;omega),e3,ln,Nat.le_refl,Nat.zero_lt_one])
  (fun i h s hI=>RD st _ hi hI)
  f2.1
  (fun s=>by
    unfold CY
    simp only[Int.lt_irrefl,decide_false,cond_false])
 erw [g1]
 rfl
end
end Go.Ab
end
section
namespace Go.Ab
theorem TV {e:EG}(H:OkG e){k:Nat}(hk:k<e.2.1.length)(ha:e.2.1[k].2.2.1=1)(ce:Bool):
 GO ((k:Int),Iv ce e)=some ((Ip ce e k).1,ce,(Ip ce e k).2.2.2.2.2,(Ip ce e k).2.2.1,(Ip ce e k).2.1,(Ip ce e k).2.2.2.1,(Ip ce e k).2.2.2.2.1,()):=by
 have hs:=H.small
 have hst0:=H.stamp0
 have hst1:=H.stamp
 have c0:(0:Int)<=(k:Int)/\(k:Int)<(e.2.1.length:Int):=by omega
 have hcc:=uT H hk ha
 have hft:=Wk H hk
 have hin:=Yz H hk ha
 simp only[tup]at hcc hft hin
 unfold GO Ip Iv
 simp only[c0,and_self,if_true,Nat.zero_add,Int.toNat_natCast,List.getElem?_eq_getElem hk,Option.bind_some,hcc]
 cases hc:(Mp e.1 e.2.1[k]==0)
 ·simp only[cond_false,Bool.not_false,cond_true,IR hk hs.fk hs.fw ce ha,Option.bind_some,Jt,FV]
 ·have hc':Mp e.1 e.2.1[k]=0:=by simpa using hc
  simp only[cond_true,Bool.not_true,cond_false]
  cases h9:(e.2.2.2.2==999)
  ·have h9':e.2.2.2.2≠999:=by simpa using h9
   have hw:IntKind.i64.wrap (e.2.2.2.2+1)=e.2.2.2.2+1:=De (by omega) (by omega)
   have hfw:=ku H hk ha (by omega)
   simp only[tup]at hfw
   simp only[cond_false,hc',beq_self_eq_true,cond_true,Gm,Fh,List.getElem?_eq_getElem hk,Option.bind_some,hw,hfw,hft,hin,Bool.not_true,cond_false]
   have hge:decide (hiP e.1 e.2.1[k] (e.2.2.2.2+1)<=loP e.1 e.2.1[k])=decide (loP e.1 e.2.1[k]>=hiP e.1 e.2.1[k] (e.2.2.2.2+1)):=rfl
   have hkset:k<(e.2.1.set k (Ms e.2.1[k] (loP e.1 e.2.1[k]) (hiP e.1 e.2.1[k] (e.2.2.2.2+1)) (e.2.2.2.2+1))).length:=by simpa using hk
   have hend:=YA (e:=(P8 e.1 e.2.1[k] (e.2.2.2.2+1) (hiP e.1 e.2.1[k] (e.2.2.2.2+1)),e.2.1.set k (Ms e.2.1[k] (loP e.1 e.2.1[k]) (hiP e.1 e.2.1[k] (e.2.2.2.2+1)) (e.2.2.2.2+1)),e.2.2.1,e.2.2.2.1,e.2.2.2.2+1)) hkset hs.fk hs.fw ce (by simp[Ms])
   simp only[Ms,List.getElem_set_self]at hend
   rw[hge]
   cases ce
   ·simp only[cond_false,Bool.false_and,Bool.false_or]
    cases Ni e.1 e.2.1[k]
    ·simp only[Bool.not_false,Bool.not_true,cond_false,cond_true,Rr,Option.bind_some,c0.1,c0.2,and_self,if_true,Nat.zero_add,Int.toNat_natCast,List.getElem?_eq_getElem hk,hend,Jt,Ms]
    ·simp only[Bool.not_true,Bool.not_false,cond_true,cond_false,Rr,IR hk hs.fk hs.fw _ ha,Option.bind_some,Jt,FV]
   ·simp only[cond_true,Bool.true_and]
    cases decide (loP e.1 e.2.1[k]>=hiP e.1 e.2.1[k] (e.2.2.2.2+1))
    ·simp only[cond_false,Bool.false_or]
     cases Ni e.1 e.2.1[k]
     ·simp only[Bool.not_false,Bool.not_true,cond_false,cond_true,Rr,Option.bind_some,c0.1,c0.2,and_self,if_true,Nat.zero_add,Int.toNat_natCast,List.getElem?_eq_getElem hk,hend,Jt,Ms]
     ·simp only[Bool.not_true,Bool.not_false,cond_true,cond_false,Rr,IR hk hs.fk hs.fw _ ha,Option.bind_some,Jt,FV]
    ·simp only[cond_true,Bool.true_or,Rr,cond_false,IR hk hs.fk hs.fw _ ha,Option.bind_some,Jt,FV]
  ·simp only[cond_true]
theorem uM {e:EG}(hs:SmallE e.1 e.2.1 e.2.2.1 e.2.2.2.1)(ce:Bool)(o:OPt):
 FQ ((ce,(e.1,()),e.2.1,e.2.2.1,e.2.2.2.1,e.2.2.2.2,()),o,())=bif okE e.1 e.2.1 e.2.2.1 e.2.2.2.1 e.2.2.2.2&&MM o then(let r:=O1 ce e o;some (ce,r.2.2.2.2.2.2,r.1,r.2.2.1,r.2.2.2.1,r.2.2.2.2.1,r.2.2.2.2.2.1,r.2.1,()))else some (ce,e.2.2.2.2,6,e.1,e.2.1,e.2.2.1,e.2.2.2.1,[],()):=by
 unfold FQ
 have hop:=uR o
 simp only[Wm hs,zM hs,Wl hs.fl,Option.bind_some]
 cases hE:okE e.1 e.2.1 e.2.2.1 e.2.2.2.1 e.2.2.2.2
 ·simp only[Bool.not_false,cond_true,Bool.false_and,cond_false]
 ·simp only[Bool.not_true,cond_false,Bool.true_and]
  erw [hop]
  simp only[Option.bind_some]
  cases ho:MM o
  ·simp only[Bool.not_false,cond_true,cond_false]
  ·have H:=(U7 e).1 hE
   obtain⟨o1,o2,o3,o4,o5,o6⟩:=(QX o).1 ho
   simp only[Bool.not_true,cond_false,cond_true,vP]
   unfold O1
   cases h1:(o.1==1)
   ·simp only[cond_false]
    rcases w8 H o.2.1 with⟨ha,k,hk,hf,h2,h3⟩|ha
    ·have hw:=H.wake o.2.1
     have hwk:=Yx (l:=e.2.2.2.1) hs.fw o.2.1
     have h2':(e.2.1[k].2.2.1 != 1)=false:=by rw[h2];rfl
     have kR:=QH hw (k:=k) hk h2 (key:=o.2.2.2.1) (ce:=ce)
     have kS:=Yy hw (k:=k) hk h2 (lo:=o.2.2.2.1) (hi:=o.2.2.2.2.1) (ce:=ce)
     have kW:=fun h h'=>Wh hw (k:=k) hk h2 (key:=o.2.2.2.1) (val:=o.2.2.2.2.2.1) h h' o.1 o.2.1 o.2.2.1 o.2.2.2.2.1 ce
     have kC:=TV hw (k:=k) hk h2 ce
     have kE:=IR (e:=(e.1,e.2.1,e.2.2.1,wkW e.2.2.2.1 o.2.1,e.2.2.2.2)) hk hs.fk hw.small.fw ce h2
     simp only[Iv]at kR kS kW kC kE
     simp only[hf,ha,Option.isNone_some,cond_true,show(!(false==false))=false from rfl,cond_false,fx,Ak hk,Option.bind_some,h2',hwk]
     cases h4:(o.1==2)
     ·simp only[cond_false]
      cases h5:(o.1==4)
      ·simp only[cond_false]
       cases h6:(o.1==3)
       ·simp only[cond_false]
        cases h7:(o.1==5)
        ·simp only[cond_false,List.getElem?_eq_getElem hk]
         erw [kE]
         rfl
        ·simp only[cond_true]
         erw [kC]
         rfl
       ·simp only[h6,Bool.or_true,Bool.true_or,cond_true]at o4 o6
        simp only[cond_true]
        erw [kW o4 o6]
        rfl
      ·simp only[h5,Bool.or_true,cond_true]at o4 o5
       rw[Bk]at o4 o5
       simp only[cond_true]
       erw [kS o4.1 (by omega) o5.2]
       rfl
     ·simp only[h4,Bool.true_or,cond_true]at o4
      simp only[cond_true]
      erw [kR o4]
      simp only[Option.bind_some,E4]
      cases hz:(Fv (e.1,e.2.1,e.2.2.1,wkW e.2.2.2.1 o.2.1,e.2.2.2.2) k o.2.2.2.1).2.1==0 with
      |false=>rfl
      |true=>
       have hz':(Fv (e.1,e.2.1,e.2.2.1,wkW e.2.2.2.1 o.2.1,e.2.2.2.2) k o.2.2.2.1).2.1=0:=by simpa using hz
       simp only[hz']
       rfl
    ·cases hf:e.2.1.findIdx? (fun t=>t.1==o.2.1)with
     |none=>simp only[ha,Bool.not_false,Option.isNone_none,show(!(false==true))=true from rfl,cond_true]
     |some k=>
      obtain⟨hk,h2,h3⟩:=List.findIdx?_eq_some_iff_getElem.1 hf
      have h2':(e.2.1[k].2.2.1 != 1)=true:=by
       cases hx:(e.2.1[k].2.2.1==1)with
       |false=>simp only[bne,hx,Bool.not_false]
       |true=>
        rw[(K5 H.txU o.2.1).2 ⟨_,List.getElem_mem hk,by simpa using h2,by simpa using hx⟩]at ha
        cases ha
      simp only[ha,Bool.not_false,Option.isNone_some,show(!(false==false))=false from rfl,cond_false,fx,Ak hk,Option.bind_some,h2',cond_true]
   ·simp only[h1,cond_true]at o3
    have hst:inB e.2.2.2.2 0 999=true:=Bk.2 ⟨H.stamp0,H.stamp⟩
    have hT:okT o.2.1 o.2.2.1 1 e.2.2.2.2 0 1000 0 [] []=true:=WL o2 o3 hst
    have hn:Fi (o.2.1,o.2.2.1,e.2.2.2.2,())=some (o.2.1,o.2.2.1,1,e.2.2.2.2,0,1000,0,true,()):=by
     unfold Fi
     simp only[Qk (rd:=[]) (wr:=[]) (Nat.zero_le _) (Nat.zero_le _),hT,Option.bind_some,Bool.not_true,cond_false]
    have h6:((e.2.1.length:Int)==6)=(e.2.1.length==6):=by rw[Bool.eq_iff_iff,beq_iff_eq,beq_iff_eq];omega
    have hany:(e.2.1.findIdx? fun t=>t.1==o.2.1).isNone=!(e.2.1.any fun t=>t.1==o.2.1):=by
     rw[<-List.findIdx?_isSome];cases e.2.1.findIdx? _<;>rfl
    unfold KV
    simp only[cond_true,hany,h6,hn,Option.bind_some]
    cases hh:(e.2.1.any fun t=>t.1==o.2.1)
    ·simp only[Bool.not_false,show(!(true==true))=false from rfl,cond_false,Bool.false_or]
     cases h7:(e.2.1.length==6)
     ·simp only[cond_false]
      refine(N1 (l:=e.2.1) (p:=fun x=>decide (x.1<o.2.1)) hs.fl (fun i h=>?_) ?_ _).trans ?_
      ·have c:(0:Int)<=(i:Int)/\(i:Int)<(e.2.1.length:Int):=by omega
       unfold Du
       simp only[decide_eq_true c.2,cond_true,c.1,c.2,and_self,if_true,Nat.zero_add,Int.toNat_natCast,List.getElem?_eq_getElem h,Option.bind_some,Am h (by have:=hs.fl;omega)]
       cases decide (e.2.1[i].1<o.2.1)<;>rfl
      ·unfold Du
       simp only[Int.lt_irrefl,decide_false,cond_false]
      ·have hle:=UB (l:=e.2.1) (p:=fun x=>decide (x.1<o.2.1))
       have hfl:=hs.fl
       rw[Xh H]at hh
       generalize hc:(e.2.1.takeWhile fun x=>decide (x.1<o.2.1)).length=c at hle
       rw[OU (m:=Mu o.2.1 o.2.2.1 e.2.2.2.2) hc]
       have q1:(e.2.1.take c).length<=338311270084:=by simp;omega
       have q2:(e.2.1.take c++[Mu o.2.1 o.2.2.1 e.2.2.2.2]).length<=338311270084:=by simp;omega
       have q3:(e.2.1.take c++[Mu o.2.1 o.2.2.1 e.2.2.2.2]++e.2.1.drop c).length<=338311270084:=by simp;omega
       have c1:(0:Int)<=0/\(0:Int)<=(c:Int)/\(c:Int)<=(e.2.1.length:Int):=by omega
       have c2:(0:Int)<=(c:Int)/\(c:Int)<=(e.2.1.length:Int)/\(e.2.1.length:Int)<=(e.2.1.length:Int):=by omega
       have hh':EM (fun x:TX=>x.1) e.2.1 (Mu o.2.1 o.2.2.1 e.2.2.2.2).1=false:=hh
       simp only[A6a,A69]
       rw[if_pos c1,if_pos q1]
       erw [if_pos q2]
       rw[if_pos c2]
       erw [if_pos q3]
       simp only[hh',cond_false]
       rfl
     ·simp only[cond_true]
    ·simp only[Bool.not_true,show(!(true==false))=true from rfl,cond_true,Bool.true_or]
end Go.Ab
end
section
namespace Go.Ab
theorem vi (a:List Int)(ha:a.length<=1048576):JR (a,a,())=some (true,()):=by
 unfold JR
 simp only[bne_self_eq_false,cond_false]
 refine Fe a.length (fun j=>((j:Int),())) rfl (fun j hj=>?_) ⟨.inr (),?_,rfl⟩
 ·unfold GF
  simp only[Ak hj,Option.bind_some]
  rw[decide_eq_true (by omega),wr1 (by omega) (by omega)]
  simp only[cond_true,bne_self_eq_false,cond_false]
  rfl
 ·unfold GF
  simp only
  rw[decide_eq_false (by omega)]
  rfl
def mk1 (k:Int):Int:=k
theorem YM (n:Nat)(k:Int)(h0:0<=k)(hk:k+n<9223372036854775000):IC (mkL mk1 1 k n,k,())=some (k+n,()):=by
 unfold IC
 simp only
 refine Fe n (fun j=>(k+(j:Int),(j:Int),())) (by simp) (fun j hj=>?_) ⟨.inr (k+n,()),?_,rfl⟩
 ·unfold EW
  have hg:lAt (mkL mk1 1 k n) (j:Int)=some (k+(j:Int)):=by
   rw[Ak (by rw[AL];exact hj)]
   have:=NG mk1 1 k n j hj
   rw[List.getElem?_eq_getElem (by rw[AL];exact hj)]at this
   rw[this];congr 1;unfold mk1;omega
  simp only[AL,hg,Option.bind_some]
  rw[decide_eq_true (by omega)]
  rw[wr1 (k:=k+(j:Int)) (by omega) (by omega),wr1 (k:=(j:Int)) (by omega) (by omega)]
  simp only[cond_true,bne_self_eq_false,cond_false]
  congr 3
  push_cast;omega
 ·unfold EW
  simp only[AL]
  rw[decide_eq_false (by omega)]
  rfl
theorem Po (k:Nat):∀(n:Nat) (key:Int) (out:List Int) (e:EG),(E4 k n key out e).2.1.length<=out.length+n
 |0,key,out,e=>by simp[E4]
 |n+1,key,out,e=>by
  simp only[E4]
  cases(Fv e k key).2.1==0
  ·simp only[cond_false,List.length_nil];omega
  ·simp only[cond_true]
   have:=Po k n (key+1) (out++[(Fv e k key).1]) (Fv e k key).2.2
   simp only[List.length_append,List.length_cons,List.length_nil]at this
   omega
theorem jW (ce:Bool)(e:EG){o:OPt}(ho:MM o=true):(O1 ce e o).2.1.length<=6:=by
 obtain⟨o1,o2,o3,o4,o5,o6⟩:=(QX o).1 ho
 unfold O1
 cases h1:o.1==1
 ·simp only[cond_false]
  cases e.2.1.findIdx? fun t=>t.1==o.2.1 with
  |none=>simp
  |some k=>
   simp only
   cases DY e.2.1 o.2.1
   ·simp
   ·simp only[cond_true]
    cases h2:o.1==2
    ·simp only[cond_false]
     cases h4:o.1==4
     ·simp only[cond_false]
      cases o.1==3
      ·simp only[cond_false]
       cases o.1==5
       ·simp only[cond_false]
        cases e.2.1[k]?<;>simp
       ·simp
      ·simp
     ·simp only[cond_true]
      simp only[h4,Bool.or_true,cond_true]at o4 o5
      rw[Bk]at o4 o5
      have:=Po k (o.2.2.2.2.1-o.2.2.2.1+1).toNat o.2.2.2.1 [] (e.1,e.2.1,e.2.2.1,wkW e.2.2.2.1 o.2.1,e.2.2.2.2)
      simp only[List.length_nil]at this
      omega
    ·simp only[cond_true]
     have:=Po k 1 o.2.2.2.1 [] (e.1,e.2.1,e.2.2.1,wkW e.2.2.2.1 o.2.1,e.2.2.2.2)
     simp only[List.length_nil]at this
     omega
 ·simp
noncomputable def seP (ce:Bool)(e:EG)(o:OPt):Int×List Int×EG:=bif okE e.1 e.2.1 e.2.2.1 e.2.2.2.1 e.2.2.2.2&&MM o then O1 ce e o else(6,[],e)
theorem jY {e:EG}(hs:SmallE e.1 e.2.1 e.2.2.1 e.2.2.2.1)(ce:Bool)(o:OPt):SmallE (seP ce e o).2.2.1 (seP ce e o).2.2.2.1 (seP ce e o).2.2.2.2.1 (seP ce e o).2.2.2.2.2.1/\(seP ce e o).2.1.length<=6:=by
 unfold seP
 cases h:okE e.1 e.2.1 e.2.2.1 e.2.2.2.1 e.2.2.2.2&&MM o
 ·exact⟨hs,by simp⟩
 ·obtain⟨h1,h2⟩:=Bool.and_eq_true_iff.1 h
  exact⟨(((U7 e).1 h1).step ce h2).small,jW ce e h2⟩
theorem ky {e:EG}(hs:SmallE e.1 e.2.1 e.2.2.1 e.2.2.2.1)(ce:Bool)(o:OPt):
 Ek ((ce,(e.1,()),e.2.1,e.2.2.1,e.2.2.2.1,e.2.2.2.2,()),o,())=some (ce,(seP ce e o).2.2.2.2.2.2,(seP ce e o).1,(seP ce e o).2.2.1,(seP ce e o).2.2.2.1,(seP ce e o).2.2.2.2.1,(seP ce e o).2.2.2.2.2.1,(seP ce e o).2.1,()):=by
 rw[uY hs]
 unfold seP
 cases okE e.1 e.2.1 e.2.2.1 e.2.2.2.1 e.2.2.2.2&&MM o<;>rfl
theorem kq {e:EG}(hs:SmallE e.1 e.2.1 e.2.2.1 e.2.2.2.1)(ce:Bool)(o:OPt):
 FQ ((ce,(e.1,()),e.2.1,e.2.2.1,e.2.2.2.1,e.2.2.2.2,()),o,())=some (ce,(seP ce e o).2.2.2.2.2.2,(seP ce e o).1,(seP ce e o).2.2.1,(seP ce e o).2.2.2.1,(seP ce e o).2.2.2.2.1,(seP ce e o).2.2.2.2.2.1,(seP ce e o).2.1,()):=by
 rw[uM hs]
 unfold seP
 cases okE e.1 e.2.1 e.2.2.1 e.2.2.2.1 e.2.2.2.2&&MM o<;>rfl
end Go.Ab
end
section
namespace Go.Ab
theorem YC (row:List Int)(k:Int)(h0:0<=k)(hk:k+row.length<9223372036854775000):
 HN (k,row,())=some (k+row.length,mkL mk1 1 k row.length,()):=by
 unfold HN
 simp only
 rw[I3 (r:=(k+row.length,mkL mk1 1 k row.length,())) row.length (fun j=>(k+(j:Int),(j:Int),mkd mk1 1 k row j,()))]
 ·rfl
 ·simp only[LJ];simp
 ·intro j hj
  unfold DV
  have hl:=JD mk1 1 k row j (by omega)
  have hg:=NE mk1 1 k row j hj
  have hs:=ND mk1 1 k row j hj
  simp only[hl]
  rw[decide_eq_true (by omega),if_pos (by omega)]
  simp only[cond_true,Option.bind_some,Nat.zero_add,Int.toNat_natCast,hg]
  rw[wr1 (k:=k+(j:Int)) (by omega) (by omega),wr1 (k:=(j:Int)) (by omega) (by omega)]
  have e1:k+(j:Int)+1=k+((j+1:Nat):Int):=by push_cast;omega
  have e2:mk1 (k+1*(j:Int))=k+(j:Int):=by unfold mk1;omega
  rw[e2]at hs
  rw[e1,hs]
  simp
 ·unfold DV
  simp only[NF,AL]
  rw[decide_eq_false (by omega)]
  rfl
def law_tsSE:List Ty:=[C1,YOp]
theorem law_StepEngine (x:den (K8 law_tsSE).ty)(hx:wf (K8 law_tsSE).ty x):Gg x=some (true,()):=by
 obtain⟨⟨ce,⟨s,_⟩,t,lk,wt,stamp,_⟩,⟨o1,o2,o3,o4,o5,o6,_⟩,_⟩:=x
 have hs:=hx.1.2.1.1
 have ht:=hx.1.2.2.1
 have hk:=hx.1.2.2.2.1.1
 have hw:=hx.1.2.2.2.2.1.1
 unfold Gg
 refine A5f (Yw hs.1 (fun e he=>(hs.2 e he).1) ht.1 (fun e he=>⟨(ht.2 e he).2.2.2.2.2.2.2.1.1,(ht.2 e he).2.2.2.2.2.2.2.2.1.1⟩) hk hw (by omega) (by omega)) fun n h0 h1 hA=>?_
 have hA:SmallE s t lk wt:=hA
 obtain⟨hC,hv⟩:=jY (e:=(s,t,lk,wt,stamp)) hA ce (o1,o2,o3,o4,o5,o6,())
 have e1:=kq (e:=(s,t,lk,wt,stamp)) hA ce (o1,o2,o3,o4,o5,o6,())
 have e2:=ky (e:=(s,t,lk,wt,stamp)) hA ce (o1,o2,o3,o4,o5,o6,())
 obtain⟨b1,b2,b3,b4,b5⟩:=NK hA
 have ho:∀y:OPt,JZ (y,())=some y:=fun y=>rfl
 simp only[QG hA,Option.bind_some]
 erw [ho]
 simp only[Option.bind_some,QG hA]at e1 e2 ⊢
 erw [e1]
 simp only[Option.bind_some]
 erw [e2]
 generalize seP ce (s,t,lk,wt,stamp) (o1,o2,o3,o4,o5,o6,())=r at hC hv e2 ⊢
 obtain⟨c1,c2,c3,c4,c5⟩:=NK hC
 have d1:decide (enE s t lk wt<0)=false:=decide_eq_false (by omega)
 have d2:decide (enE r.2.2.1 r.2.2.2.1 r.2.2.2.2.1 r.2.2.2.2.2.1<0)=false:=decide_eq_false (by omega)
 have d3:decide (enE r.2.2.1 r.2.2.2.1 r.2.2.2.2.1 r.2.2.2.2.2.1+(r.2.1.length:Int)<0)=false:=decide_eq_false (by omega)
 have hq:Hw ((r.1,r.2.1,()),(r.1,r.2.1,()),())=some (true,()):=by
  unfold Hw
  simp only[bne_self_eq_false,cond_false,vi _ (by omega:r.2.1.length<=1048576),Option.bind_some,Bool.not_true]
 have hm:HM (r.1,enE r.2.2.1 r.2.2.2.1 r.2.2.2.2.1 r.2.2.2.2.2.1,r.2.1,())=some (enE r.2.2.1 r.2.2.2.1 r.2.2.2.2.1 r.2.2.2.2.2.1+r.2.1.length,mkL mk1 1 (enE r.2.2.1 r.2.2.2.1 r.2.2.2.2.1 r.2.2.2.2.2.1) r.2.1.length,()):=by
  unfold HM
  simp only[YC r.2.1 (enE r.2.2.1 r.2.2.2.1 r.2.2.2.2.1 r.2.2.2.2.2.1) (by omega) (by omega),Option.bind_some]
 have hh:Ht ((r.1,mkL mk1 1 (enE r.2.2.1 r.2.2.2.1 r.2.2.2.2.1 r.2.2.2.2.2.1) r.2.1.length,()),enE r.2.2.1 r.2.2.2.1 r.2.2.2.2.1 r.2.2.2.2.2.1,())=some (enE r.2.2.1 r.2.2.2.1 r.2.2.2.2.1 r.2.2.2.2.2.1+r.2.1.length,()):=by
  unfold Ht
  simp only[YM r.2.1.length (enE r.2.2.1 r.2.2.2.1 r.2.2.2.2.1 r.2.2.2.2.2.1) (by omega) (by omega),Option.bind_some,d3,cond_false]
 simp only[Option.bind_some,QS hA,QS hC,hq,Bool.not_true,cond_false,OX hA,OX hC,d1,d2,hm,U3 hC,hh,d3,bne_self_eq_false]
end Go.Ab
end
