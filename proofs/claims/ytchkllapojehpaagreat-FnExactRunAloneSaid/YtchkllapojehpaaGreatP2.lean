import Derived.Test.YtchkllapojehpaaGreatP1
set_option linter.all false
section
namespace Go.Ab
theorem fV {lk:List VM}(hu:GH (·.1) lk){x:VM}(hx:x∈lk):Cq lk x.1=x.2.1:=by
 unfold Cq
 cases hf:lk.find? (fun m=>m.1==x.1)with
 |none=>exact absurd (List.find?_eq_none.1 hf x hx) (by simp)
 |some y=>
  have h1:=List.find?_some hf
  have h2:=List.mem_of_find?_eq_some hf
  simp only[beq_iff_eq]at h1
  obtain⟨i,hi,rfl⟩:=List.getElem_of_mem h2
  obtain⟨j,hj,rfl⟩:=List.getElem_of_mem hx
  by_cases hij:i=j
  ·subst hij;rfl
  ·rcases Nat.lt_or_gt_of_ne hij with h|h
   ·have:=List.pairwise_iff_getElem.1 hu i j hi hj h;simp only at this;omega
   ·have:=List.pairwise_iff_getElem.1 hu j i hj hi h;simp only at this;omega
theorem pq {lk:List VM}(hu:GH (·.1) lk){key id:Int}(ho:Cq lk key=id)(h0:id≠0):Ce (·.1) lk (key,id,())=lk:=by
 have hx:∃x∈lk,x.1=key:=by
  unfold Cq at ho
  cases hf:lk.find? (fun m=>m.1==key)with
  |none=>rw[hf]at ho;exact absurd ho.symm h0
  |some y=>exact⟨y,List.mem_of_find?_eq_some hf,by simpa using List.find?_some hf⟩
 obtain⟨x,e1,e2,e3⟩:=KO (f:=fun x:VM=>x.1) (l:=lk) (m:=(key,id,())) ((NU hu key).2 hx)
 obtain⟨hlt,e4⟩:=List.getElem?_eq_some_iff.1 e1
 have hx':x∈lk:=by rw[<-e4];exact List.getElem_mem hlt
 have e2':x.1=key:=e2
 have hxi:x.2.1=id:=by rw[<-fV hu hx',e2',ho]
 have hxe:x=(key,id,()):=Prod.ext e2' (Prod.ext hxi rfl)
 rw[e3]
 apply List.ext_getElem?
 intro i
 rw[List.getElem?_set]
 split
 ·rename_i h
  subst h
  rw[e1,hxe]
 ·rfl
theorem fL {lk:List VM}(hl:lk.length<=1048576)(hv:Qh lk)(hu:GH (·.1) lk){key id:Int}(hk:inB key 0 5=true)(hi:inB id 1 9=true)(ho:Cq lk key=0\/Cq lk key=id)(hpos:∀m∈lk,m.2.1≠0):
 FR (lk,key,id,())=some (true,Ce (·.1) lk (key,id,()),()):=by
 have hi0:id≠0:=by have:=Bc.1 hi;omega
 have hcp:Fx (lk,())=some (lk,()):=by unfold Fx;simp only;rw[if_pos (by omega)]
 unfold FR
 simp only[hcp,QD hl,Jd hl,AH hv,Dq,hk,hi,Option.bind_some,Bool.not_true,cond_false]
 rcases ho with h|h
 ·have h2:((0:Int)==id)=false:=by rw[beq_eq_false_iff_ne];exact fun h=>hi0 h.symm
  simp only[h,bne_self_eq_false,cond_false,h2]
  have hno:DX (fun x:VM=>x.1) lk key=false:=by
   cases hh:DX (fun x:VM=>x.1) lk key with
   |false=>rfl
   |true=>
    obtain⟨x,hx,hxk⟩:=(NU hu key).1 hh
    have:=fV hu hx
    rw[hxk,h]at this
    exact absurd this.symm (hpos x hx)
  refine(Mn (l:=lk) (p:=fun x=>decide (x.1<key)) hl (fun i h=>?_) ?_ _).trans ?_
  ·have c:(0:Int)<=(i:Int)/\(i:Int)<(lk.length:Int):=by omega
   unfold Cl
   simp only[decide_eq_true c.2,cond_true,c.1,c.2,and_self,if_true,Nat.zero_add,Int.toNat_natCast,List.getElem?_eq_getElem h,Option.bind_some,An h (by omega)]
   cases decide (lk[i].1<key)<;>rfl
  ·unfold Cl
   simp only[Int.lt_irrefl,decide_false,cond_false]
  ·have hle:=TV (l:=lk) (p:=fun x=>decide (x.1<key))
   generalize hc:(lk.takeWhile fun x=>decide (x.1<key)).length=c at hle
   rw[Oq (m:=(key,id,())) hc]
   have q1:(lk.take c).length<=2199023255552:=by simp;omega
   have q2:(lk.take c++[(key,id,())]).length<=2199023255552:=by simp;omega
   have q3:(lk.take c++[(key,id,())]++lk.drop c).length<=2199023255552:=by simp;omega
   have c1:(0:Int)<=0/\(0:Int)<=(c:Int)/\(c:Int)<=(lk.length:Int):=by omega
   have c2:(0:Int)<=(c:Int)/\(c:Int)<=(lk.length:Int)/\(lk.length:Int)<=(lk.length:Int):=by omega
   simp only[A72,A71,hno,cond_false]
   rw[if_pos c1,if_pos q1,if_pos q2,if_pos c2,if_pos q3]
 ·have h2:(id != 0)=true:=by simpa using hi0
  simp only[h,h2,cond_true,bne_self_eq_false,cond_false,beq_self_eq_true,pq hu h hi0]
theorem pA {wt:List VM}{out:List Int}(hl:out.length<=1048576)(x:Int){τ:Type}(A:List Int×List Int×Unit->Option τ)(N:Unit->Option τ):
 ((AC (fun v=>Cn (wt,x,out,()) v _ some) (0,())).bind fun p=>Az p (fun p=>A (p.1,p.2.1,())) fun p=>N p)=if x∈out then A ([x],out++[x],())else N ():=by
 have e:=Lt (B:=fun v=>Cn (wt,x,out,()) v _ some) (l:=out) (fun i=>((i:Int),())) (fun m=>m==x) (fd:=fun i=>.inl ([x],out++[x],())) (no:=.inr ()) (fun i h=>by
  have c:(0:Int)<=(i:Int)/\(i:Int)<(out.length:Int):=by omega
  have c2:(out++[x]).length<=4398046511104:=by simp;omega
  unfold Cn
  simp only[decide_eq_true c.2,cond_true,c.1,c.2,and_self,if_true,Nat.zero_add,Int.toNat_natCast,List.getElem?_eq_getElem h,Option.bind_some,An h (by omega),c2]
  cases out[i]==x<;>rfl) (by
  unfold Cn
  simp only[Int.lt_irrefl,decide_false,cond_false]) (t0:=(0,())) rfl
 erw [e]
 cases hf:out.findIdx? (fun m=>m==x)with
 |none=>
  have hn:x∉out:=fun h=>by
   have:=List.findIdx?_eq_none_iff.1 hf x h
   simp at this
  simp only[Option.bind_some,Az,hn,if_false]
 |some i=>
  obtain⟨h1,h2,_⟩:=List.findIdx?_eq_some_iff_getElem.1 hf
  have hn:x∈out:=by
   have:out[i]=x:=by simpa using h2
   rw[<-this];exact List.getElem_mem h1
  simp only[Option.bind_some,Az,hn,if_true]
theorem kh {wt:List VM}(hl:wt.length<=1048576)(hok:Md wt):∀(n:Nat) (out:List Int) (x:Int),x∉out->out.Nodup->(∀y∈out,inB y 1 9=true)->inB x 1 9=true->9<=out.length+n->
 ((AC (fun v=>Co (wt,()) v _ some) (x,out,())).bind fun p=>Az p (fun p=>some ((p.2.1,()):List Int×Unit)) fun p=>Az p (fun p=>some (p.1,())) fun p=>Az p (fun p=>some (p.1,())) fun p=>some (p.1,()))=some (Gd wt n (out++[x]) x,()):=by
 have hw:=fun m hm=>(((I3 _).1 hok).1 m hm).2.1
 intro n
 induction n with
 |zero=>
  intro out x h1 h2 h3 h4 h5
  have:=pC (out:=out++[x]) (by rw[List.nodup_append];exact⟨h2,by simp,fun a ha b hb=>by rw[List.mem_singleton.1 hb];rintro rfl;exact h1 ha⟩) (fun y hy=>by
   rcases List.mem_append.1 hy with h|h
   ·exact h3 y h
   ·rw[List.mem_singleton.1 h];exact h4)
  simp at this;omega
 |succ n ih=>
  intro out x h1 h2 h3 h4 h5
  have hx:=Bc.1 h4
  have hnd:(out++[x]).Nodup:=by rw[List.nodup_append];exact⟨h2,by simp,fun a ha b hb=>by rw[List.mem_singleton.1 hb];rintro rfl;exact h1 ha⟩
  have hin:∀y∈out++[x],inB y 1 9=true:=fun y hy=>by
   rcases List.mem_append.1 hy with h|h
   ·exact h3 y h
   ·rw[List.mem_singleton.1 h];exact h4
  have h9:=pC hnd hin
  simp only[List.length_append,List.length_cons,List.length_nil]at h9
  have step:∀(x:Int) (out:List Int),inB x 1 9=true->out.length<=9->Co (wt,()) (x,out,()) _ some=if x∈out then some (Sum.inr (Sum.inl ([x],out++[x],())))else some (Sum.inl ((Tm wt x).getD 0,out++[x],())):=by
   intro x out hx hlen
   have hx':=Bc.1 hx
   have c2:(out++[x]).length<=4398046511104:=by simp;omega
   unfold Co
   simp only[decide_eq_true (by omega:x>0),cond_true,Jc hl,AH hok,Option.bind_some,decide_eq_true (by omega:x<=9)]
   refine(pA (wt:=wt) (by omega:out.length<=1048576) x (fun p=>some (Sum.inr (Sum.inl p))) _).trans ?_
   simp only[c2,if_true,ZJ hl,Option.bind_some]
  rw[AZ]
  erw [step x out h4 (by omega)]
  simp only[h1,if_false,Option.bind_some]
  unfold Gd
  cases hf:Tm wt x with
  |none=>
   simp only[Option.getD_none]
   rw[AZ]
   unfold Co
   simp only[gt_iff_lt,Int.lt_irrefl,decide_false,cond_false,Option.bind_some,Az]
  |some y=>
   simp only[Option.getD_some]
   have hy:inB y 1 9=true:=by
    unfold Tm at hf
    cases hg:wt.find? (fun m=>m.1==x)with
    |none=>rw[hg]at hf;cases hf
    |some m=>
     rw[hg]at hf
     obtain rfl:m.2.1=y:=by simpa using hf
     exact hw m (List.mem_of_find?_eq_some hg)
   by_cases hm:y∈out++[x]
   ·rw[AZ]
    erw [step y (out++[x]) hy (by simp;omega)]
    simp only[hm,if_true,Option.bind_some,Az]
   ·simp only[hm,if_false]
    exact ih (out++[x]) y hm hnd hin hy (by simp;omega)
theorem gA {wt:List VM}(hu:GH (·.1) wt)(a b:Int):Tm (Ce (·.1) wt (a,b,())) a=some b:=by
 unfold Tm
 have hup:=KN (f:=fun x:VM=>x.1) hu (a,b,())
 have hm:(a,b,())∈Ce (fun x:VM=>x.1) wt (a,b,()):=(GQ hu).2 (.inl rfl)
 cases hf:(Ce (fun x:VM=>x.1) wt (a,b,())).find? (fun m=>m.1==a)with
 |none=>exact absurd (List.find?_eq_none.1 hf _ hm) (by simp)
 |some y=>
  have h1:y.1=a:=by simpa using List.find?_some hf
  have h2:=List.mem_of_find?_eq_some hf
  rcases(GQ hu).1 h2 with rfl|⟨_,h3⟩
  ·rfl
  ·exact absurd h1 h3
theorem PI (wt:List VM):∀(n:Nat) (out:List Int) (x:Int),out.length<=(Gd wt n out x).length
 |0,out,x=>Nat.le_refl _
 |n+1,out,x=>by
  unfold Gd
  split
  ·exact Nat.le_refl _
  ·split
   ·simp
   ·rename_i y _ _
    have:=PI wt n (out++[y]) y
    simp at this;omega
theorem X0 {e:EG}(H:OkG e){a b:Int}(ha:inB a 1 9=true)(hb:inB b 1 9=true)(hab:a≠b):ES (e.2.2.2.1,a,b,())=some (PG e.2.2.2.1 a b,()):=by
 have hl:=H.wtLen
 have hw0:Md e.2.2.2.1:=(I3 _).2 ⟨H.wtA,H.wtU⟩
 have hw1:Md (Ce (·.1) e.2.2.2.1 (a,b,())):=UW H.wtA H.wtU ha hb hab
 have hpl:(Ce (·.1) e.2.2.2.1 (a,b,())).length<=1048576:=by have:=Pb (f:=fun x:VM=>x.1) e.2.2.2.1 (a,b,());omega
 have hs:=UI (wt:=e.2.2.2.1) (by omega) hw0 ha hb hab
 have hc:=kh (wt:=Ce (·.1) e.2.2.2.1 (a,b,())) hpl hw1 10 [] a (by simp) (by simp) (by simp) ha (by simp)
 unfold ES PG
 simp only[hs,Option.bind_some,Bool.not_true,cond_false]
 unfold Ir
 erw [hc]
 simp only[Option.bind_some,List.nil_append]
 have h0:2<=(Gd (Ce (·.1) e.2.2.2.1 (a,b,())) 10 [a] a).length:=by
  unfold Gd
  have hab':b∉[a]:=by simpa using fun h:b=a=>hab h.symm
  simp only[gA H.wtU,hab',if_false]
  have:=PI (Ce (fun x:VM=>x.1) e.2.2.2.1 (a,b,())) 9 ([a]++[b]) b
  simpa using this
 have h2:=NW (Ce (·.1) e.2.2.2.1 (a,b,())) 10 [a] a
 generalize Gd (Ce (·.1) e.2.2.2.1 (a,b,())) 10 [a] a=c at h0 h2 ⊢
 simp only[List.length_cons,List.length_nil]at h2
 have c0:(c.length:Int)>1:=by omega
 have c1:(0:Int)<=(c.length:Int)-1/\(c.length:Int)-1<(c.length:Int):=by omega
 have hj:((c.length:Int)-1).toNat=c.length-1:=by omega
 simp only[decide_eq_true c0,cond_true,GI (by omega:c.length<9223372036854775808),c1,and_self,if_true,Nat.zero_add,hj,List.getLast?_eq_getElem?,List.getElem?_eq_getElem (by omega:c.length-1<c.length),Option.bind_some]
 rfl
end Go.Ab
end
section
namespace Go.Ab
theorem JN {l:List VV}(hl:Hg l)(hok:LJ l){v:VV}(hv:l[l.length-1]?=some v):Bq (l,())=some v:=by
 unfold Hg at hl
 have hpos:0<l.length:=by
  obtain⟨h,_⟩:=List.getElem?_eq_some_iff.1 hv;omega
 unfold Bq
 have h:lAt l ((l.length:Int)-1)=some v:=by
  rw[show((l.length:Int)-1)=((l.length-1:Nat):Int) by omega,Al (by omega)]
  rw[List.getElem?_eq_getElem (by omega)]at hv;exact hv
 simp only[SQ hl,AH hok,Option.bind_some,Bool.not_true,cond_false,GI (by omega:l.length<9223372036854775808),h]
theorem Ot {t:TX}(ht:smT t):AJ (tup t,())=some (M2 t,()):=Q7 ht.1 ht.2
theorem OkG.txOk {e:EG}(H:OkG e){k:Nat}(hk:k<e.2.1.length):M2 e.2.1[k]=true:=(H.txA _ (List.getElem_mem hk)).1
theorem NO {e:EG}(H:OkG e){k:Nat}(hk:k<e.2.1.length)(ha:e.2.1[k].2.2.1=1){key:Int}(hkey:inB key 0 5=true):
 Fw ((e.1,()),tup e.2.1[k],key,())=some (true,()):=by
 unfold Fw
 simp only[Lj H.small.fs,AH H.st,Ot (H.smT hk),H.txOk hk,cond_true,Dq,hkey,Option.bind_some]
 simp only[ha,beq_self_eq_true,cond_true]
theorem fH {t:TX}(h:smT t)(key:Int):GO (tup t,key,())=some (fx (t.2.2.2.2.2.2.2.2.1.findIdx? fun m=>m.1==key),()):=by
 unfold GO
 exact DD (l:=t.2.2.2.2.2.2.2.2.1) (p:=fun m=>m.1==key) h.2 (fun i hi=>by
  unfold Dw
  simp only[Al hi,Option.bind_some,decide_eq_true (by omega:(i:Int)<(t.2.2.2.2.2.2.2.2.1.length:Int)),cond_true,An hi (by have:=h.2;omega)]
  cases t.2.2.2.2.2.2.2.2.1[i].1==key<;>rfl) (by
  unfold Dw
  simp only[Int.lt_irrefl,decide_false,cond_false])
theorem SP {e:EG}(H:OkG e){k:Nat}(hk:k<e.2.1.length)(ha:e.2.1[k].2.2.1=1){key:Int}(hkey:inB key 0 5=true):
 EV ((e.1,()),tup e.2.1[k],key,())=some (match IL e.1 e.2.1[k] key with|none=>(0,0,0,0,0,3,())|some v=>(v.1,v.2.1,v.2.2.1,v.2.2.2.1,v.2.2.2.2.1,0,())):=by
 obtain⟨n,hn,v,e1,e2,e3,e4,e5,e6,e7⟩:=H.ltst hkey
 have hmem:=List.getElem_mem hn
 have hok:=(H.gd.ok _ hmem).1
 have hsm:=H.small.fs.2 _ hmem
 have hkn:key.toNat=n:=by omega
 unfold EV IL
 simp only[NO H hk ha hkey,e6,Option.bind_some,Bool.not_true,cond_false,JN hsm hok e4,hkn,List.getElem?_eq_getElem hn]
 cases h2:e.2.1[k].2.1==2
 ·have hc:¬((e.1[n].length:Int)-1<0):=by omega
  have hj:((e.1[n].length:Int)-1).toNat=e.1[n].length-1:=by omega
  simp only[cond_false,decide_eq_false hc,hj,e4,Option.bind_some]
  cases e.2.1[k].2.1==4
  ·rfl
  ·simp only[cond_true,Bool.true_and]
   cases decide (v.2.2.1>e.2.1[k].2.2.2.1)<;>rfl
 ·have h4:(e.2.1[k].2.1==4)=false:=by rw[beq_iff_eq]at h2;rw[h2];rfl
  simp only[cond_true,h4,Bool.false_and,cond_false]
  unfold Kj
  simp only[Lj H.small.fs,AH H.st,Option.bind_some,Bool.not_true,cond_false,Dq,hkey,e6,fK hsm hok]
  cases hd:decide (vA e.1[n] e.2.1[k].2.2.2.1 e.1[n].length<0)
  ·have h0:0<=vA e.1[n] e.2.1[k].2.2.2.1 e.1[n].length:=by have:=of_decide_eq_false hd;omega
   have h1:=(Ql e.1[n] e.2.1[k].2.2.2.1 e.1[n].length).2
   obtain⟨j,hj⟩:=Int.eq_ofNat_of_zero_le h0
   rw[hj]at h1 ⊢
   have hjl:j<e.1[n].length:=by omega
   simp only[cond_false,Al hjl,Option.bind_some,Int.toNat_natCast,List.getElem?_eq_getElem hjl,Bool.not_true]
  ·simp only[cond_true,Option.bind_some,Bool.not_false]
theorem fv {e:EG}(H:OkG e){k:Nat}(hk:k<e.2.1.length)(ha:e.2.1[k].2.2.1=1){key:Int}(hkey:inB key 0 5=true):
 GK ((e.1,()),e.2.2.1,tup e.2.1[k],key,())=some (Fd e.1 e.2.2.1 e.2.1[k] key,()):=by
 obtain⟨n,hn,v,e1,e2,e3,e4,e5,e6,e7⟩:=H.ltst hkey
 have hmem:=List.getElem_mem hn
 have hok:=(H.gd.ok _ hmem).1
 have hsm:=H.small.fs.2 _ hmem
 have hle:=Xb (((J7 _).1 hok).1 v e7)
 have himp:decide (v.2.2.1>e.2.1[k].2.2.2.1)=true->decide (v.2.2.2.1>e.2.1[k].2.2.2.1)=true:=fun h=>by
  have:=of_decide_eq_true h
  exact decide_eq_true (by omega)
 unfold GK Fd
 simp only[NO H hk ha hkey,e6,Option.bind_some,Bool.not_true,cond_false,JN hsm hok e4,Jd H.small.fk,AH ((Mr _).2 ⟨H.lkA,H.lkU⟩),QD H.small.fk,e5,crV,KL,bne]
 generalize (Cq e.2.2.1 key==0)=b1
 generalize (Cq e.2.2.1 key==e.2.1[k].1)=b2
 generalize (e.2.1[k].2.1==1)=b3
 generalize (e.2.1[k].2.1==2)=b4
 generalize (e.2.1[k].2.1==4)=b5
 generalize decide (v.2.2.1>e.2.1[k].2.2.2.1)=b6 at himp
 generalize decide (v.2.2.2.1>e.2.1[k].2.2.2.1)=b7 at himp
 cases b1<;>cases b2<;>cases b3<;>cases b4<;>cases b5<;>cases b6<;>cases b7<;>first|rfl|exact absurd (himp rfl) (by decide)
theorem fF {l:List VM}(hl:l.length<=1048576)(m:VM):Gh (l,(m.1,m.2.1,()),())=some (Ce (·.1) l m,()):=by
 unfold Gh
 refine(Mn (l:=l) (p:=fun x=>decide (x.1<m.1)) hl (fun i h=>?_) ?_ _).trans ?_
 ·unfold De
  simp only[Al h,Option.bind_some,decide_eq_true (by omega:(i:Int)<(l.length:Int)),cond_true,An h (by omega)]
  cases decide (l[i].1<m.1)<;>rfl
 ·unfold De
  simp only[Int.lt_irrefl,decide_false,cond_false]
 ·have hle:=TV (l:=l) (p:=fun x=>decide (x.1<m.1))
  generalize hc:(l.takeWhile fun x=>decide (x.1<m.1)).length=c at hle
  rw[Oq (m:=m) hc]
  have q1:(l.take c).length<=2199023255552:=by simp;omega
  have q2:(l.take c++[m]).length<=2199023255552:=by simp;omega
  have q3:(l.take c++[m]++l.drop c).length<=2199023255552:=by simp;omega
  have q4:(l.take c++[m]++l.drop (c+1)).length<=2199023255552:=by simp;omega
  simp only[slA hle,Option.bind_some]
  rw[if_pos q1]
  erw [if_pos q2]
  by_cases hlt:c<l.length
  ·have hh:=YO (f:=fun x:VM=>x.1) (l:=l) (t:=m.1) (by rw[hc];exact hlt)
   simp only[hc]at hh
   simp only[decide_eq_true (by omega:(c:Int)<(l.length:Int)),cond_true,Al hlt,Option.bind_some,An hlt (by omega),slB hle,slB (by omega:c+1<=l.length),hh]
   cases l[c].1==m.1
   ·erw [if_pos q3]<;>rfl
   ·erw [if_pos q4]<;>rfl
  ·have hh:=Vd (f:=fun x:VM=>x.1) (l:=l) (t:=m.1) (by rw[hc];exact hlt)
   simp only[decide_eq_false (by omega:¬(c:Int)<(l.length:Int)),cond_false,slB hle,Option.bind_some,hh]
   erw [if_pos q3]<;>rfl
def ptl (m:VM):List VM->List VM|[]=>[]|x::r=>if x=m then r else x::r
theorem fp (l:List VM)(m:VM):JM l m=l.takeWhile (fun x=>Gs x m)++m::ptl m (l.dropWhile fun x=>Gs x m):=by
 unfold JM
 cases l.dropWhile fun x=>Gs x m<;>rfl
theorem fG {l:List VM}(hl:l.length<=1048576)(m:VM):GJ (l,(m.1,m.2.1,()),())=some (JM l m,()):=by
 have hb:∀a b:VM,decide (C1 a b)=Gs a b:=fun a b=>by
  rw[Bool.eq_iff_iff,decide_eq_true_eq,L2]
 unfold GJ
 refine(Mn (l:=l) (p:=fun x=>Gs x m) hl (fun i h=>?_) ?_ _).trans ?_
 ·unfold Ds
  have:=UU l[i] m
  simp only[Al h,Option.bind_some,decide_eq_true (by omega:(i:Int)<(l.length:Int)),cond_true,An h (by omega),this,hb]
  cases Gs l[i] m<;>rfl
 ·unfold Ds
  simp only[Int.lt_irrefl,decide_false,cond_false]
 ·have hle:=TV (l:=l) (p:=fun x=>Gs x m)
  obtain⟨t1,t2⟩:=Q4 (l:=l) (p:=fun x=>Gs x m)
  have hp:JM l m=l.take (l.takeWhile fun x=>Gs x m).length++m::ptl m (l.drop (l.takeWhile fun x=>Gs x m).length):=by
   rw[fp,t1,t2]
  rw[hp]
  clear hp t1 t2
  generalize (l.takeWhile fun x=>Gs x m).length=c at hle
  have q0:l.length<=2199023255552:=by omega
  have q1:(l.take c).length<=2199023255552:=by simp;omega
  have q2:(l.take c++[m]).length<=2199023255552:=by simp;omega
  have q3:(l.take c++[m]++l.drop c).length<=2199023255552:=by simp;omega
  simp only[slA hle,Option.bind_some,slB hle,q0,q1,if_true]
  by_cases hlt:c<l.length
  ·simp only[decide_eq_true (by omega:(c:Int)<(l.length:Int)),cond_true,Al hlt,Option.bind_some,Bool.and_true]
   rw[List.drop_eq_getElem_cons hlt]at q3 ⊢
   by_cases hx:l[c]=m
   ·have h1:(l[c].1==m.1&&l[c].2.1==m.2.1)=true:=by rw[hx];simp
    simp only[h1,cond_true,ptl]
    rw[if_pos hx,<-hx,<-List.drop_eq_getElem_cons hlt,List.take_append_drop]
   ·have h1:(l[c].1==m.1&&l[c].2.1==m.2.1)=false:=by
     cases h:(l[c].1==m.1&&l[c].2.1==m.2.1)with
     |false=>rfl
     |true=>
      rw[Bool.and_eq_true,beq_iff_eq,beq_iff_eq]at h
      exact absurd (Prod.ext h.1 (Prod.ext h.2 rfl)) hx
    simp only[h1,cond_false,ptl,hx,if_false]
    erw [if_pos q2,if_pos q3]
    simp
  ·have h0:l.drop c=[]:=List.drop_of_length_le (by omega)
   simp only[decide_eq_false (by omega:¬(c:Int)<(l.length:Int)),cond_false,h0,ptl]at q3 ⊢
   erw [if_pos q2,if_pos q3]
   simp
end Go.Ab
end
section
namespace Go.Ab
def ZO (t:TX)(b:Bool):Int×Int×Int×Int×Int×Int×Int×Bool×List VM×List VM×Unit:=
 (t.1,t.2.1,t.2.2.1,t.2.2.2.1,t.2.2.2.2.1,t.2.2.2.2.2.1,t.2.2.2.2.2.2.1,b,t.2.2.2.2.2.2.2.1,t.2.2.2.2.2.2.2.2.1,())
theorem fA {t:TX}(ht:smT t)(hok:M2 t=true)(ha:t.2.2.1=1){key:Int}(hkey:inB key 0 5=true){v:VV}(hv:okV v=true):
 GM (tup t,key,(v.1,v.2.1,v.2.2.1,v.2.2.2.1,v.2.2.2.2.1,()),())=some (match Mh t key v with|none=>ZO t false|some t'=>ZO t' true):=by
 have h60:(((t.2.2.2.2.2.2.2.1.length:Nat):Int)==60)=(t.2.2.2.2.2.2.2.1.length==60):=by
  rw[Bool.eq_iff_iff,beq_iff_eq,beq_iff_eq];omega
 have ha':(t.2.2.1 != 1)=false:=by rw[ha];rfl
 have hpr:=fG ht.1 (key,v.2.2.1,())
 simp only at hpr
 unfold GM Mh
 simp only[MR t ht,Ot ht,hok,Option.bind_some,Bool.not_true,cond_false,ha',Dq,hkey,Yw v,hv,h60,hpr]
 cases t.2.2.2.2.2.2.2.1.length==60<;>rfl
theorem fy {e:EG}(H:OkG e){k:Nat}(hk:k<e.2.1.length)(ha:e.2.1[k].2.2.1=1){key val:Int}(hkey:inB key 0 5=true)(hval:inB val (-1) 99=true):
 ET ((e.1,()),tup e.2.1[k],key,val,())=some (ZO (Nu e.2.1[k] (mx e.2.1[k].2.2.2.2.1 (KL (DM e.1 key))) (Ce (·.1) e.2.1[k].2.2.2.2.2.2.2.2.1 (key,val,()))) true):=by
 obtain⟨n,hn,v,e1,e2,e3,e4,e5,e6,e7⟩:=H.ltst hkey
 have hmem:=List.getElem_mem hn
 have ht:=H.smT hk
 have ha':(e.2.1[k].2.2.1 != 1)=false:=by rw[ha];rfl
 have hpw:=fF ht.2 (key,val,())
 simp only at hpw
 unfold ET
 simp only[MR _ ht,Lj H.small.fs,AH H.st,Ot ht,H.txOk hk,Option.bind_some,Bool.not_true,cond_false,ha',Dq,hkey,hval,hpw,e6,JN (H.small.fs.2 _ hmem) (H.gd.ok _ hmem).1 e4,e5,KL,ZO,Nu]
theorem QB {e:EG}(H:OkG e){k:Nat}(hk:k<e.2.1.length)(ha:e.2.1[k].2.2.1=1){key:Int}(hkey:inB key 0 5=true)(ce:Bool):
 Fv ((k:Int),key,Hj ce e)=some ((Fc e k key).1,(Fc e k key).2.1,Hj ce (Fc e k key).2.2):=by
 have hs:=H.small
 have ht:=H.smT hk
 have c:(0:Int)<=(k:Int)/\(k:Int)<(e.2.1.length:Int):=by omega
 have hfw:=fH ht key
 have hch:=SP H hk ha hkey
 simp only[tup]at hfw hch
 unfold Fv Fc Hj
 simp only[c,and_self,if_true,Nat.zero_add,Int.toNat_natCast,List.getElem?_eq_getElem hk,Option.bind_some,hfw,Ve,RP]
 cases hf:e.2.1[k].2.2.2.2.2.2.2.2.1.findIdx? (fun m=>m.1==key)with
 |some i=>
  obtain⟨h1,_⟩:=List.findIdx?_eq_some_iff_getElem.1 hf
  have c:(0:Int)<=(i:Int)/\(i:Int)<(e.2.1[k].2.2.2.2.2.2.2.2.1.length:Int):=by omega
  simp only[Option.isSome_some,cond_true,fx,c,and_self,if_true,Nat.zero_add,Int.toNat_natCast,List.getElem?_eq_getElem h1,Option.bind_some,Option.map_some]
 |none=>
  simp only[Option.isSome_none,cond_false,hch,Option.bind_some]
  cases hcp:IL e.1 e.2.1[k] key with
  |none=>
   simp only[bne,show((3:Int)==0)=false from rfl,Bool.not_false,cond_true,HA hk hs.fk hs.fw ce ha,Option.bind_some,Ik,EX]
  |some v=>
   have hv:okV v=true:=by
    obtain⟨l,h1,h2⟩:=PH hcp
    exact((J7 _).1 (H.gd.ok l (List.mem_of_getElem? h1)).1).1 v h2
   have htr:=fA ht (H.txOk hk) ha hkey hv
   simp only[tup]at htr
   simp only[bne,show((0:Int)==0)=true from rfl,Bool.not_true,cond_false,htr,Option.bind_some]
   cases Mh e.2.1[k] key v with
   |none=>rfl
   |some t'=>rfl
theorem UH {k:Nat}{hi:Int}{ce:Bool}(hh:hi<=5):∀(n:Nat) (key:Int) (out:List Int) (e:EG),OkG e->k<e.2.1.length->(∀t,e.2.1[k]?=some t->t.2.2.1=1)->0<=key->key+n=hi+1->out.length<=key.toNat->
 ((AC (fun v=>CQ ((k:Int),hi,0,()) v _ some) (key,ce,e.2.2.2.2,e.1,e.2.1,e.2.2.1,e.2.2.2.1,out,())).bind fun p=>Az p (fun p=>some
   ((p.2.2.2.2.1,p.1,p.2.1,p.2.2.1,p.2.2.2.1,p.2.2.2.2.2.2.1,p.2.2.2.2.2.2.2.1,[],()):Int×Bool×Int×List (List VV)×List TX×List VM×List VM×List Int×Unit)) fun p=>some (0,p.1,p.2.1,p.2.2.1,p.2.2.2.1,p.2.2.2.2.1,p.2.2.2.2.2.1,p.2.2.2.2.2.2.1,()))=
 some ((DJ k n key out e).1,ce,(DJ k n key out e).2.2.2.2.2.2,(DJ k n key out e).2.2.1,(DJ k n key out e).2.2.2.1,(DJ k n key out e).2.2.2.2.1,(DJ k n key out e).2.2.2.2.2.1,(DJ k n key out e).2.1,()):=by
 intro n
 induction n with
 |zero=>
  intro key out e H hk ha h0 hn ho
  rw[AZ]
  have hd:¬key<=hi:=by omega
  simp only[CQ,decide_eq_false hd,cond_false,Option.bind_some,Az,DJ]
 |succ n ih=>
  intro key out e H hk ha h0 hn ho
  have hkey:inB key 0 5=true:=Bc.2 ⟨h0,by omega⟩
  have hr:=QB H hk (ha _ (List.getElem?_eq_getElem hk)) hkey ce
  have hs:=H.read (List.getElem?_eq_getElem hk) (ha _ (List.getElem?_eq_getElem hk)) hkey
  unfold Hj at hr
  rw[AZ]
  have hd:key<=hi:=by omega
  simp only[CQ,decide_eq_true hd,cond_true,hr,Option.bind_some,DJ]
  cases hc:(Fc e k key).2.1==0
  ·simp only[bne,hc,Bool.not_false,cond_true,Option.bind_some,Az,cond_false]
  ·have hc':(Fc e k key).2.1=0:=by simpa using hc
   obtain⟨t',ht1,ht2,ht3⟩:=hs.2.1 hc'
   have hlen:(out++[(Fc e k key).1]).length<=4398046511104:=by
    have:key.toNat<=5:=by omega
    simp;omega
   have hw:IntKind.i64.wrap (key+1)=key+1:=CI (by omega) (by omega)
   simp only[bne,hc,Bool.not_true,cond_false,hlen,if_true,Option.bind_some,hw,cond_true]
   exact ih (key+1) (out++[(Fc e k key).1]) (Fc e k key).2.2 hs.1 (by rw[hs.2.2];exact hk) (fun t ht=>by rw[ht1]at ht;obtain rfl:t'=t:=(by simpa using ht);exact ht2) (by omega) (by omega) (by simp;omega)
theorem WW {e:EG}(H:OkG e){k:Nat}(hk:k<e.2.1.length)(ha:e.2.1[k].2.2.1=1){lo hi:Int}(h0:0<=lo)(h1:lo<=hi+1)(h2:hi<=5)(ce:Bool):
 Iq ((k:Int),lo,hi,Hj ce e)=some (VH ce (DJ k (hi-lo+1).toNat lo [] e)):=
 UH h2 (hi-lo+1).toNat lo [] e H hk (fun t ht=>by rw[List.getElem?_eq_getElem hk]at ht;obtain rfl:e.2.1[k]=t:=(by simpa using ht);exact ha) h0 (by omega) (by simp)
theorem UG {e:EG}(H:OkG e){k:Nat}(hk:k<e.2.1.length)(ha:e.2.1[k].2.2.1=1){key val:Int}(hkey:inB key 0 5=true)(hval:inB val (-1) 99=true)(a b c d:Int)(ce:Bool):
 Gi ((k:Int),a,b,c,key,d,val,Hj ce e)=some ((L8 e k key val).1,Hj ce (L8 e k key val).2):=by
 have hs:=H.small
 have hid:=H.idIn hk
 have c0:(0:Int)<=(k:Int)/\(k:Int)<(e.2.1.length:Int):=by omega
 have hwc:=fv H hk ha hkey
 have htw:=fy H hk ha hkey hval
 simp only[tup]at hwc htw
 unfold Gi L8 Hj
 simp only[c0,and_self,if_true,Nat.zero_add,Int.toNat_natCast,List.getElem?_eq_getElem hk,Option.bind_some,hwc,QD hs.fk]
 cases hc:(Fd e.1 e.2.2.1 e.2.1[k] key==1)
 ·simp only[cond_false]
  cases hc0:(Fd e.1 e.2.2.1 e.2.1[k] key==0)
  ·simp only[bne,hc0,Bool.not_false,cond_true,HA hk hs.fk hs.fw ce ha,Option.bind_some,cond_false,Ik,EX]
  ·have hc0':Fd e.1 e.2.2.1 e.2.1[k] key=0:=by simpa using hc0
   have htl:Gj (e.2.1[k].2.1,())=some (e.2.1[k].2.1==1||e.2.1[k].2.1==2,()):=by
    unfold Gj
    cases e.2.1[k].2.1==1<;>rfl
   simp only[bne,hc0,Bool.not_true,cond_false,cond_true,htw,htl,Option.bind_some]
   cases ht:(e.2.1[k].2.1==1||e.2.1[k].2.1==2)
   ·simp only[cond_false,ZO,Nu]
   ·simp only[cond_true,fL (lk:=e.2.2.1) hs.fk ((Mr _).2 ⟨H.lkA,H.lkU⟩) H.lkU hkey hid (Pq hc0' ht) (fun m hm=>by have:=Bc.1 (H.lkA m hm).2;omega),Option.bind_some,ZO,Nu]
 ·have hc':Fd e.1 e.2.2.1 e.2.1[k] key=1:=by simpa using hc
  obtain⟨n0,n1⟩:=RQ hc'
  have ho:=V5 H n0
  have hab:e.2.1[k].1≠Cq e.2.2.1 key:=fun h=>n1 h.symm
  simp only[cond_true,X0 H hid ho hab,Option.bind_some]
  cases PG e.2.2.2.1 e.2.1[k].1 (Cq e.2.2.1 key)
  ·simp only[cond_false,UI hs.fw ((I3 _).2 ⟨H.wtA,H.wtU⟩) hid ho hab,Option.bind_some,hc']
  ·simp only[cond_true,HA hk hs.fk hs.fw ce ha,Option.bind_some,Ik,EX]
end Go.Ab
end
section
namespace Go.Ab
section
variable {e:EG}(H:OkG e){k:Nat}(hk:k<e.2.1.length)(ha:e.2.1[k].2.2.1=1)
include H hk ha
theorem fI:Gl ((e.1,()),tup e.2.1[k],())=some (Ly e.1 e.2.1[k],()):=by
 have hg:=NO H hk ha (key:=0) rfl
 have hwl:=(H.smT hk).2
 have hwr:=H.wrIn hk
 simp only[tup]at hg
 unfold Gl Ly
 simp only[hg,Option.bind_some,Bool.not_true,cond_false]
 have hD:∀i (h:i<e.2.1[k].2.2.2.2.2.2.2.2.1.length),∀(hc:Bool),decide (crV (DM e.1 e.2.1[k].2.2.2.2.2.2.2.2.1[i].1)>e.2.1[k].2.2.2.1)=hc->
  Bu (e.1,tup e.2.1[k]) ((i:Int),()) _ some=bif !hc then some (.inl (((i+1:Nat):Int),()))else bif e.2.1[k].2.1==2 then some (.inr (.inl ()))else bif e.2.1[k].2.1==4 then some (.inr (.inr (.inl ())))else some (.inl (((i+1:Nat):Int),())):=by
  intro i h hc hh
  obtain⟨n,hn,v,e1,e2,e3,e4,e5,e6,e7⟩:=H.ltst (hwr _ (List.getElem_mem h))
  have hmem:=List.getElem_mem hn
  rw[e5,crV]at hh
  have hnn:decide (v.2.2.1<=e.2.1[k].2.2.2.1)=!hc:=by
   cases hc
   ·have:=of_decide_eq_false hh;exact decide_eq_true (by omega)
   ·have:=of_decide_eq_true hh;exact decide_eq_false (by omega)
  unfold Bu
  simp only[Al h,Option.bind_some,decide_eq_true (by omega:(i:Int)<(e.2.1[k].2.2.2.2.2.2.2.2.1.length:Int)),cond_true,An h (by omega),e6,JN (H.small.fs.2 _ hmem) (H.gd.ok _ hmem).1 e4,hnn]
 have hE:Bu (e.1,tup e.2.1[k]) ((e.2.1[k].2.2.2.2.2.2.2.2.1.length:Int),()) _ some=some (.inr (.inr (.inr ()))):=by
  unfold Bu
  simp only[Int.lt_irrefl,decide_false,cond_false]
 have hsplit:∀(p:VM->Bool) (l:List VM),(dec (∀i,i<l.length->∃h:i<l.length,p l[i]=false))=!l.any p:=by
  intro p l
  cases hb:l.any p with
  |false=>
   rw[List.any_eq_false]at hb
   exact AH fun i h=>⟨h,by simpa using hb _ (List.getElem_mem h)⟩
  |true=>
   obtain⟨x,hx,hp⟩:=List.any_eq_true.1 hb
   obtain⟨i,hi,rfl⟩:=List.getElem_of_mem hx
   exact BM fun h=>by obtain⟨_,h2⟩:=h i hi;rw[hp]at h2;cases h2
 cases h2:(e.2.1[k].2.1==2||e.2.1[k].2.1==4)
 ·have h2':=Bool.or_eq_false_iff.1 h2
  refine(Cj (B:=fun v=>Bu (e.1,tup e.2.1[k]) v _ some) (n:=e.2.1[k].2.2.2.2.2.2.2.2.1.length) (c:=fun _=>True) (X:=some (0,())) (no:=none) (fun i h=>⟨fun _=>?_,fun hn=>absurd trivial hn⟩) ⟨.inr (.inr ()),hE,rfl⟩).trans ?_
  ·refine(hD i h _ rfl).trans ?_
   simp only[h2'.1,h2'.2,cond_false]
   cases decide (crV (DM e.1 e.2.1[k].2.2.2.2.2.2.2.2.1[i].1)>e.2.1[k].2.2.2.1)<;>rfl
  ·rw[AH (fun i h=>trivial)]
   simp only[cond_true,h2'.1,h2'.2,cond_false]
   cases e.2.1[k].2.2.2.2.2.2.2.2.1.any _<;>rfl
 ·refine(Cj (B:=fun v=>Bu (e.1,tup e.2.1[k]) v _ some) (n:=e.2.1[k].2.2.2.2.2.2.2.2.1.length) (c:=fun i=>∃h:i<e.2.1[k].2.2.2.2.2.2.2.2.1.length,(fun m:VM=>decide (crV (DM e.1 m.1)>e.2.1[k].2.2.2.1)) e.2.1[k].2.2.2.2.2.2.2.2.1[i]=false) (X:=some (0,())) (no:=some (bif e.2.1[k].2.1==2 then 2 else 3,())) (fun i h=>⟨fun hc=>?_,fun hn=>?_⟩) ⟨.inr (.inr ()),hE,rfl⟩).trans ?_
  ·obtain⟨_,hc⟩:=hc
   exact(hD i h false hc).trans rfl
  ·have hc:decide (crV (DM e.1 e.2.1[k].2.2.2.2.2.2.2.2.1[i].1)>e.2.1[k].2.2.2.1)=true:=by
    cases hd:decide (crV (DM e.1 e.2.1[k].2.2.2.2.2.2.2.2.1[i].1)>e.2.1[k].2.2.2.1)with
    |true=>rfl
    |false=>exact absurd ⟨h,hd⟩ hn
   cases h3:e.2.1[k].2.1==2
   ·have h4:(e.2.1[k].2.1==4)=true:=by rw[h3]at h2;exact h2
    exact⟨_,(hD i h true hc).trans (by simp only[Bool.not_true,cond_false,h3,h4,cond_true];rfl),rfl⟩
   ·exact⟨_,(hD i h true hc).trans (by simp only[Bool.not_true,cond_false,h3,cond_true];rfl),rfl⟩
  ·have hs:=hsplit (fun m:VM=>decide (crV (DM e.1 m.1)>e.2.1[k].2.2.2.1)) e.2.1[k].2.2.2.2.2.2.2.2.1
   erw [hs]
   cases e.2.1[k].2.2.2.2.2.2.2.2.1.any _
   ·rfl
   ·cases h3:e.2.1[k].2.1==2
    ·have h4:(e.2.1[k].2.1==4)=true:=by rw[h3]at h2;exact h2
     simp only[h4,cond_true,cond_false,Bool.not_true]
    ·simp only[cond_true,cond_false,Bool.not_true]
omit ha in
theorem fC:Gk ((e.1,()),tup e.2.1[k],())=some (rlP e.1 e.2.1[k],()):=by
 have hsm:=H.smT hk
 have hwr:=H.wrIn hk
 have htx:=Ot hsm
 simp only[tup]at htx
 unfold Gk rlP
 simp only[Lj H.small.fs,AH H.st,htx,H.txOk hk,Option.bind_some,Bool.not_true,cond_false]
 refine G9 (l:=e.2.1[k].2.2.2.2.2.2.2.1) (f:=fun n m=>mx n m.2.1) (X:=fun n=>(AC (fun v=>Cy (e.1,tup e.2.1[k]) v _ some) (n,0,())).bind fun p=>some (p.1,())) 0 (fun i h n=>?_) (fun n=>⟨(n,()),?_,rfl⟩) ?_
 ·unfold Df
  simp only[Al h,Option.bind_some]
  rw[decide_eq_true (by omega),An h (by have:=hsm.1;omega)];rfl
 ·unfold Df
  simp only
  rw[decide_eq_false (by omega)];rfl
 ·refine G9 (l:=e.2.1[k].2.2.2.2.2.2.2.2.1) (f:=fun n m=>mx n (KL (DM e.1 m.1))) (X:=fun n=>some (n,())) _ (fun i h n=>?_) (fun n=>⟨(n,()),?_,rfl⟩) rfl
  ·obtain⟨n',hn,v,e1,e2,e3,e4,e5,e6,e7⟩:=H.ltst (hwr _ (List.getElem_mem h))
   have hmem:=List.getElem_mem hn
   unfold Cy
   simp only[tup,Al h,Option.bind_some,e6,JN (H.small.fs.2 _ hmem) (H.gd.ok _ hmem).1 e4,e5,KL]
   rw[decide_eq_true (by omega),An h (by have:=hsm.2;omega)];rfl
  ·unfold Cy
   simp only[tup]
   rw[decide_eq_false (by omega)];rfl
theorem ZK (hst:e.2.2.2.2+1<=999):El ((e.1,()),tup e.2.1[k],e.2.2.2.2+1,())=some (loP e.1 e.2.1[k],hiP e.1 e.2.1[k] (e.2.2.2.2+1),true,()):=by
 have hsm:=H.smT hk
 have hx:=(H.txA _ (List.getElem_mem hk)).2.2.2 ha
 have hrl:=fC H hk
 have hrh:=fD H.small.fs H.st _ hsm (H.txOk hk) hx
 have hex:=QF H.small.fs H.st hsm.1 hsm.2 (H.txOk hk) (H.rdIn hk)
 have ha':(e.2.1[k].2.2.1 != 1)=false:=by rw[ha];rfl
 have h0:=H.stamp0
 have hl:=H.last
 have hl0:0<=e.1.foldl IW 0:=((OC e.1 0).1 (Int.le_refl _)).1
 have hw:IntKind.i64.wrap (e.1.foldl IW 0+1)=e.1.foldl IW 0+1:=CI (by omega) (by omega)
 have hi:inB (e.2.2.2.2+1) (e.1.foldl IW 0+1) 999=true:=Bc.2 ⟨by omega,hst⟩
 simp only[tup]at hrl
 unfold El
 simp only[hex,AH hx,Option.bind_some,Bool.not_true,cond_false,ha',QC H.small.fs H.st,hw,Dq,hi,hrl,hrh,loP,hiP]
omit ha in
theorem UJ:Ff ((e.1,()),tup e.2.1[k],())=some (!Mz e.1 e.2.1[k],()):=by
 have hwl:=(H.smT hk).2
 have hwr:=H.wrIn hk
 unfold Ff
 have hsp:∀m∈e.2.1[k].2.2.2.2.2.2.2.2.1,∃(n:Nat) (hn:n<e.1.length),lAt e.1 m.1=some e.1[n]/\e.1[m.1.toNat]?=some e.1[n]:=fun m hm=>by
  obtain⟨n,hn,e1,e2,e3⟩:=Ti H.gd.six (hwr m hm)
  exact⟨n,hn,e2,e3⟩
 have he:=Lt (B:=fun v=>Ej (e.1,tup e.2.1[k]) v _ some) (l:=e.2.1[k].2.2.2.2.2.2.2.2.1) (fun i=>((i:Int),())) (fun m=>match e.1[m.1.toNat]? with|some l=>decide (l.length>=50)|none=>false) (fd:=fun i=>.inl ()) (no:=.inr ()) (fun i h=>by
  obtain⟨n,hn,q1,q2⟩:=hsp _ (List.getElem_mem h)
  have q3:decide ((e.1[n].length:Int)>=50)=decide (e.1[n].length>=50):=by
   rw[Bool.eq_iff_iff,decide_eq_true_eq,decide_eq_true_eq];omega
  unfold Ej
  simp only[tup,Al h,Option.bind_some,decide_eq_true (by omega:(i:Int)<(e.2.1[k].2.2.2.2.2.2.2.2.1.length:Int)),cond_true,An h (by omega),q1,q2,q3]
  cases decide (e.1[n].length>=50)<;>rfl) (by
  unfold Ej
  simp only[tup,Int.lt_irrefl,decide_false,cond_false]) (t0:=(0,())) rfl
 erw [he]
 unfold Mz
 cases hf:e.2.1[k].2.2.2.2.2.2.2.2.1.findIdx? (fun m=>match e.1[m.1.toNat]? with|some l=>decide (l.length>=50)|none=>false)with
 |none=>
  have:=congrArg Option.isSome hf
  rw[List.findIdx?_isSome]at this
  simp only[Option.bind_some,Az]
  erw [this];rfl
 |some i=>
  have:=congrArg Option.isSome hf
  rw[List.findIdx?_isSome]at this
  simp only[Option.bind_some,Az]
  erw [this];rfl
theorem WY (st lo hi:Int):Dd ((e.1,()),tup e.2.1[k],st,lo,hi,())=some (e.2.1[k].1,e.2.1[k].2.1,2,e.2.1[k].2.2.2.1,lo,hi,st,OH e.1 e.2.1[k] st hi,e.2.1[k].2.2.2.2.2.2.2.1,e.2.1[k].2.2.2.2.2.2.2.2.1,()):=by
 have hsm:=H.smT hk
 have hwr:=H.wrIn hk
 have hrd:=H.rdIn hk
 have hx:=(H.txA _ (List.getElem_mem hk)).2.2.2 ha
 have hwl:=QI ((CF _).1 (H.txOk hk)).2.1
 unfold Dd OH
 simp only[QG H.small.fs,MR _ hsm,Option.bind_some]
 obtain⟨f1,f2⟩:=Lw (l:=e.2.1[k].2.2.2.2.2.2.2.1) (f:=LO st) (Inv:=fun s i=>stOK s 0/\∀m∈e.2.1[k].2.2.2.2.2.2.2.1,Gt s m) (n0:=e.1)
  (B:=fun v=>CP (st,hi,e.2.1[k].1,e.2.1[k].2.1,e.2.1[k].2.2.1,e.2.1[k].2.2.2.1,e.2.1[k].2.2.2.2.1,e.2.1[k].2.2.2.2.2.1,e.2.1[k].2.2.2.2.2.2.1,e.2.1[k].2.2.2.2.2.2.2.1,e.2.1[k].2.2.2.2.2.2.2.2.1,0,0,0,0,0,0,0,e.2.1[k].1,e.2.1[k].2.1,2,e.2.1[k].2.2.2.1,lo,hi,st,e.2.1[k].2.2.2.2.2.2.2.1,e.2.1[k].2.2.2.2.2.2.2.2.1,()) v _ some)
  (fun i h s hI=>by
    obtain⟨_,hm,_⟩:=hrd i h
    obtain⟨a,h0,hlt,l,e1,e2,e3,hl⟩:=Jz hI.1.1 hm
    obtain⟨l',j,x1,x2⟩:=hI.2 _ (List.getElem_mem h)
    rw[e3]at x1;obtain rfl:l=l':=(by simpa using x1)
    have hj:=Q2 x2
    have hls:=(hI.1.small (by omega)).2 _ hl
    have c1:(0:Int)<=(a:Int)/\(a:Int)<(s.length:Int):=by omega
    have c2:(0:Int)<=(j:Int)/\(j:Int)<(l.length:Int):=by omega
    unfold CP LO
    simp only[decide_eq_true (by omega:(i:Int)<(e.2.1[k].2.2.2.2.2.2.2.1.length:Int)),cond_true,Al h,Option.bind_some,h0,c1,and_self,if_true,Nat.zero_add,Int.toNat_natCast,e1,QE hls,x2,fx,c2,List.getElem?_eq_getElem hj,An h (by have:=hsm.1;omega),e3,Rk])
  (fun i h s hI=>⟨RV st hI.1,fun m hm=>Pl st (hI.2 m hm)⟩)
  ⟨H.st.stOK,hx⟩
  (fun s=>by
    unfold CP
    simp only[Int.lt_irrefl,decide_false,cond_false])
 erw [f1]
 simp only[Option.bind_some]
 obtain⟨g1,g2⟩:=Lw (l:=e.2.1[k].2.2.2.2.2.2.2.2.1) (f:=Oi st e.2.1[k].1 hi) (Inv:=fun s i=>stOK s i) (n0:=e.2.1[k].2.2.2.2.2.2.2.1.foldl (LO st) e.1)
  (B:=fun v=>Cw (st,hi,e.2.1[k].1,e.2.1[k].2.1,e.2.1[k].2.2.1,e.2.1[k].2.2.2.1,e.2.1[k].2.2.2.2.1,e.2.1[k].2.2.2.2.2.1,e.2.1[k].2.2.2.2.2.2.1,e.2.1[k].2.2.2.2.2.2.2.1,e.2.1[k].2.2.2.2.2.2.2.2.1,0,0,0,0,0,0,0,e.2.1[k].1,e.2.1[k].2.1,2,e.2.1[k].2.2.2.1,lo,hi,st,e.2.1[k].2.2.2.2.2.2.2.1,e.2.1[k].2.2.2.2.2.2.2.2.1,()) v _ some)
  (fun i h s hI=>by
    obtain⟨a,h0,hlt,l,e1,e2,e3,hl⟩:=Jz hI.1 (hwr _ (List.getElem_mem h))
    have h5:=hI.2 l hl
    have hjl:l.length-1<l.length:=by omega
    have c1:(0:Int)<=(a:Int)/\(a:Int)<(s.length:Int):=by omega
    have c2:(0:Int)<=(l.length:Int)-1/\(l.length:Int)-1<(l.length:Int):=by omega
    have hj:((l.length:Int)-1).toNat=l.length-1:=by omega
    have c4:l.length+1<=879609302220:=by omega
    unfold Cw Oi
    simp only[decide_eq_true (by omega:(i:Int)<(e.2.1[k].2.2.2.2.2.2.2.2.1.length:Int)),cond_true,Al h,Option.bind_some,h0,c1.1,c1.2,true_and,and_self,if_true,Nat.zero_add,Int.toNat_natCast,e1,GI (by omega:l.length<9223372036854775808),c2.1,c2.2,hj,List.getElem?_eq_getElem hjl,List.length_set,Hq hlt,IR,List.length_append,List.length_cons,List.length_nil,c4,An h (by have:=hsm.2;omega),e3,d6,Nat.le_refl,Nat.zero_lt_one])
  (fun i h s hI=>RU st _ hi hI)
  f2.1
  (fun s=>by
    unfold Cw
    simp only[Int.lt_irrefl,decide_false,cond_false])
 erw [g1]
 rfl
end
end Go.Ab
end
section
namespace Go.Ab
theorem SO {e:EG}(H:OkG e){k:Nat}(hk:k<e.2.1.length)(ha:e.2.1[k].2.2.1=1)(ce:Bool):
 FN ((k:Int),Hj ce e)=some ((GU ce e k).1,ce,(GU ce e k).2.2.2.2.2,(GU ce e k).2.2.1,(GU ce e k).2.1,(GU ce e k).2.2.2.1,(GU ce e k).2.2.2.2.1,()):=by
 have hs:=H.small
 have hst0:=H.stamp0
 have hst1:=H.stamp
 have c0:(0:Int)<=(k:Int)/\(k:Int)<(e.2.1.length:Int):=by omega
 have hcc:=fI H hk ha
 have hft:=UJ H hk
 have hin:=WY H hk ha
 simp only[tup]at hcc hft hin
 unfold FN GU Hj
 simp only[c0,and_self,if_true,Nat.zero_add,Int.toNat_natCast,List.getElem?_eq_getElem hk,Option.bind_some,hcc]
 cases hc:(Ly e.1 e.2.1[k]==0)
 ·simp only[cond_false,Bool.not_false,cond_true,HA hk hs.fk hs.fw ce ha,Option.bind_some,Ik,EX]
 ·have hc':Ly e.1 e.2.1[k]=0:=by simpa using hc
  simp only[cond_true,Bool.not_true,cond_false]
  cases h9:(e.2.2.2.2==999)
  ·have h9':e.2.2.2.2≠999:=by simpa using h9
   have hw:IntKind.i64.wrap (e.2.2.2.2+1)=e.2.2.2.2+1:=CI (by omega) (by omega)
   have hfw:=ZK H hk ha (by omega)
   simp only[tup]at hfw
   simp only[cond_false,hc',beq_self_eq_true,cond_true,Fn,Ev,List.getElem?_eq_getElem hk,Option.bind_some,hw,hfw,hft,hin,Bool.not_true,cond_false]
   have hge:decide (hiP e.1 e.2.1[k] (e.2.2.2.2+1)<=loP e.1 e.2.1[k])=decide (loP e.1 e.2.1[k]>=hiP e.1 e.2.1[k] (e.2.2.2.2+1)):=rfl
   have hkset:k<(e.2.1.set k (LF e.2.1[k] (loP e.1 e.2.1[k]) (hiP e.1 e.2.1[k] (e.2.2.2.2+1)) (e.2.2.2.2+1))).length:=by simpa using hk
   have hend:=WZ (e:=(OH e.1 e.2.1[k] (e.2.2.2.2+1) (hiP e.1 e.2.1[k] (e.2.2.2.2+1)),e.2.1.set k (LF e.2.1[k] (loP e.1 e.2.1[k]) (hiP e.1 e.2.1[k] (e.2.2.2.2+1)) (e.2.2.2.2+1)),e.2.2.1,e.2.2.2.1,e.2.2.2.2+1)) hkset hs.fk hs.fw ce (by simp[LF])
   simp only[LF,List.getElem_set_self]at hend
   rw[hge]
   cases ce
   ·simp only[cond_false,Bool.false_and,Bool.false_or]
    cases Mz e.1 e.2.1[k]
    ·simp only[Bool.not_false,Bool.not_true,cond_false,cond_true,Rp,Option.bind_some,c0.1,c0.2,and_self,if_true,Nat.zero_add,Int.toNat_natCast,List.getElem?_eq_getElem hk,hend,Ik,LF]
    ·simp only[Bool.not_true,Bool.not_false,cond_true,cond_false,Rp,HA hk hs.fk hs.fw _ ha,Option.bind_some,Ik,EX]
   ·simp only[cond_true,Bool.true_and]
    cases decide (loP e.1 e.2.1[k]>=hiP e.1 e.2.1[k] (e.2.2.2.2+1))
    ·simp only[cond_false,Bool.false_or]
     cases Mz e.1 e.2.1[k]
     ·simp only[Bool.not_false,Bool.not_true,cond_false,cond_true,Rp,Option.bind_some,c0.1,c0.2,and_self,if_true,Nat.zero_add,Int.toNat_natCast,List.getElem?_eq_getElem hk,hend,Ik,LF]
     ·simp only[Bool.not_true,Bool.not_false,cond_true,cond_false,Rp,HA hk hs.fk hs.fw _ ha,Option.bind_some,Ik,EX]
    ·simp only[cond_true,Bool.true_or,Rp,cond_false,HA hk hs.fk hs.fw _ ha,Option.bind_some,Ik,EX]
  ·simp only[cond_true]
theorem fB {e:EG}(hs:SmallE e.1 e.2.1 e.2.2.1 e.2.2.2.1)(ce:Bool)(o:OPt):
 FP ((ce,(e.1,()),e.2.1,e.2.2.1,e.2.2.2.1,e.2.2.2.2,()),o,())=bif okE e.1 e.2.1 e.2.2.1 e.2.2.2.1 e.2.2.2.2&&Lo o then(let r:=JX ce e o;some (ce,r.2.2.2.2.2.2,r.1,r.2.2.1,r.2.2.2.1,r.2.2.2.2.1,r.2.2.2.2.2.1,r.2.1,()))else some (ce,e.2.2.2.2,6,e.1,e.2.1,e.2.2.1,e.2.2.2.1,[],()):=by
 unfold FP
 have hop:=WX o
 simp only[TC hs,iI hs,TE hs.fl,Option.bind_some]
 cases hE:okE e.1 e.2.1 e.2.2.1 e.2.2.2.1 e.2.2.2.2
 ·simp only[Bool.not_false,cond_true,Bool.false_and,cond_false]
 ·simp only[Bool.not_true,cond_false,Bool.true_and]
  erw [hop]
  simp only[Option.bind_some]
  cases ho:Lo o
  ·simp only[Bool.not_false,cond_true,cond_false]
  ·have H:=(TD e).1 hE
   obtain⟨o1,o2,o3,o4,o5,o6⟩:=(QK o).1 ho
   simp only[Bool.not_true,cond_false,cond_true,gz]
   unfold JX
   cases h1:(o.1==1)
   ·simp only[cond_false]
    rcases gQ H o.2.1 with⟨ha,k,hk,hf,h2,h3⟩|ha
    ·have hw:=H.wake o.2.1
     have hwk:=WV (l:=e.2.2.2.1) hs.fw o.2.1
     have h2':(e.2.1[k].2.2.1 != 1)=false:=by rw[h2];rfl
     have kR:=QB hw (k:=k) hk h2 (key:=o.2.2.2.1) (ce:=ce)
     have kS:=WW hw (k:=k) hk h2 (lo:=o.2.2.2.1) (hi:=o.2.2.2.2.1) (ce:=ce)
     have kW:=fun h h'=>UG hw (k:=k) hk h2 (key:=o.2.2.2.1) (val:=o.2.2.2.2.2.1) h h' o.1 o.2.1 o.2.2.1 o.2.2.2.2.1 ce
     have kC:=SO hw (k:=k) hk h2 ce
     have kE:=HA (e:=(e.1,e.2.1,e.2.2.1,wkW e.2.2.2.1 o.2.1,e.2.2.2.2)) hk hs.fk hw.small.fw ce h2
     simp only[Hj]at kR kS kW kC kE
     simp only[hf,ha,Option.isNone_some,cond_true,show(!(false==false))=false from rfl,cond_false,fx,Al hk,Option.bind_some,h2',hwk]
     cases h4:(o.1==2)
     ·simp only[cond_false]
      cases h5:(o.1==4)
      ·simp only[cond_false]
       cases h6:(o.1==3)
       ·simp only[cond_false]
        cases h7:(o.1==5)
        ·simp only[cond_false,List.getElem?_eq_getElem hk]
         erw [kE]
         rfl
        ·simp only[cond_true]
         erw [kC]
         rfl
       ·simp only[h6,Bool.or_true,Bool.true_or,cond_true]at o4 o6
        simp only[cond_true]
        erw [kW o4 o6]
        rfl
      ·simp only[h5,Bool.or_true,cond_true]at o4 o5
       rw[Bc]at o4 o5
       simp only[cond_true]
       erw [kS o4.1 (by omega) o5.2]
       rfl
     ·simp only[h4,Bool.true_or,cond_true]at o4
      simp only[cond_true]
      erw [kR o4]
      simp only[Option.bind_some,DJ]
      cases hz:(Fc (e.1,e.2.1,e.2.2.1,wkW e.2.2.2.1 o.2.1,e.2.2.2.2) k o.2.2.2.1).2.1==0 with
      |false=>rfl
      |true=>
       have hz':(Fc (e.1,e.2.1,e.2.2.1,wkW e.2.2.2.1 o.2.1,e.2.2.2.2) k o.2.2.2.1).2.1=0:=by simpa using hz
       simp only[hz']
       rfl
    ·cases hf:e.2.1.findIdx? (fun t=>t.1==o.2.1)with
     |none=>simp only[ha,Bool.not_false,Option.isNone_none,show(!(false==true))=true from rfl,cond_true]
     |some k=>
      obtain⟨hk,h2,h3⟩:=List.findIdx?_eq_some_iff_getElem.1 hf
      have h2':(e.2.1[k].2.2.1 != 1)=true:=by
       cases hx:(e.2.1[k].2.2.1==1)with
       |false=>simp only[bne,hx,Bool.not_false]
       |true=>
        rw[(J2 H.txU o.2.1).2 ⟨_,List.getElem_mem hk,by simpa using h2,by simpa using hx⟩]at ha
        cases ha
      simp only[ha,Bool.not_false,Option.isNone_some,show(!(false==false))=false from rfl,cond_false,fx,Al hk,Option.bind_some,h2',cond_true]
   ·simp only[h1,cond_true]at o3
    have hst:inB e.2.2.2.2 0 999=true:=Bc.2 ⟨H.stamp0,H.stamp⟩
    have hT:okT o.2.1 o.2.2.1 1 e.2.2.2.2 0 1000 0 [] []=true:=UZ o2 o3 hst
    have hn:Ew (o.2.1,o.2.2.1,e.2.2.2.2,())=some (o.2.1,o.2.2.1,1,e.2.2.2.2,0,1000,0,true,()):=by
     unfold Ew
     simp only[Q7 (rd:=[]) (wr:=[]) (Nat.zero_le _) (Nat.zero_le _),hT,Option.bind_some,Bool.not_true,cond_false]
    have h6:((e.2.1.length:Int)==6)=(e.2.1.length==6):=by rw[Bool.eq_iff_iff,beq_iff_eq,beq_iff_eq];omega
    have hany:(e.2.1.findIdx? fun t=>t.1==o.2.1).isNone=!(e.2.1.any fun t=>t.1==o.2.1):=by
     rw[<-List.findIdx?_isSome];cases e.2.1.findIdx? _<;>rfl
    unfold JW
    simp only[cond_true,hany,h6,hn,Option.bind_some]
    cases hh:(e.2.1.any fun t=>t.1==o.2.1)
    ·simp only[Bool.not_false,show(!(true==true))=false from rfl,cond_false,Bool.false_or]
     cases h7:(e.2.1.length==6)
     ·simp only[cond_false]
      refine(Mn (l:=e.2.1) (p:=fun x=>decide (x.1<o.2.1)) hs.fl (fun i h=>?_) ?_ _).trans ?_
      ·have c:(0:Int)<=(i:Int)/\(i:Int)<(e.2.1.length:Int):=by omega
       unfold CZ
       simp only[decide_eq_true c.2,cond_true,c.1,c.2,and_self,if_true,Nat.zero_add,Int.toNat_natCast,List.getElem?_eq_getElem h,Option.bind_some,An h (by have:=hs.fl;omega)]
       cases decide (e.2.1[i].1<o.2.1)<;>rfl
      ·unfold CZ
       simp only[Int.lt_irrefl,decide_false,cond_false]
      ·have hle:=TV (l:=e.2.1) (p:=fun x=>decide (x.1<o.2.1))
       have hfl:=hs.fl
       rw[Vu H]at hh
       generalize hc:(e.2.1.takeWhile fun x=>decide (x.1<o.2.1)).length=c at hle
       rw[Oq (m:=LG o.2.1 o.2.2.1 e.2.2.2.2) hc]
       have q1:(e.2.1.take c).length<=338311270084:=by simp;omega
       have q2:(e.2.1.take c++[LG o.2.1 o.2.2.1 e.2.2.2.2]).length<=338311270084:=by simp;omega
       have q3:(e.2.1.take c++[LG o.2.1 o.2.2.1 e.2.2.2.2]++e.2.1.drop c).length<=338311270084:=by simp;omega
       have c1:(0:Int)<=0/\(0:Int)<=(c:Int)/\(c:Int)<=(e.2.1.length:Int):=by omega
       have c2:(0:Int)<=(c:Int)/\(c:Int)<=(e.2.1.length:Int)/\(e.2.1.length:Int)<=(e.2.1.length:Int):=by omega
       have hh':DX (fun x:TX=>x.1) e.2.1 (LG o.2.1 o.2.2.1 e.2.2.2.2).1=false:=hh
       simp only[A72,A71]
       rw[if_pos c1,if_pos q1]
       erw [if_pos q2]
       rw[if_pos c2]
       erw [if_pos q3]
       simp only[hh',cond_false]
       rfl
     ·simp only[cond_true]
    ·simp only[Bool.not_true,show(!(true==false))=true from rfl,cond_true,Bool.true_or]
end Go.Ab
end
section
namespace Go.Ab
theorem yk (a:List Int)(ha:a.length<=1048576):L7 (a,a,())=some (true,()):=by
 unfold L7
 simp only[bne_self_eq_false,cond_false]
 refine D5 a.length (fun j=>((j:Int),())) rfl (fun j hj=>?_) ⟨.inr (),?_,rfl⟩
 ·unfold Iz
  simp only[Al hj,Option.bind_some]
  rw[decide_eq_true (by omega),wr1 (by omega) (by omega)]
  simp only[cond_true,bne_self_eq_false,cond_false]
  rfl
 ·unfold Iz
  simp only
  rw[decide_eq_false (by omega)]
  rfl
def mk1 (k:Int):Int:=k
theorem jV (n:Nat)(k:Int)(h0:0<=k)(hk:k+n<9223372036854775000):K9 (mkL mk1 1 k n,k,())=some (k+n,()):=by
 unfold K9
 simp only
 refine D5 n (fun j=>(k+(j:Int),(j:Int),())) (by simp) (fun j hj=>?_) ⟨.inr (k+n,()),?_,rfl⟩
 ·unfold Hn
  have hg:lAt (mkL mk1 1 k n) (j:Int)=some (k+(j:Int)):=by
   rw[Al (by rw[AK];exact hj)]
   have:=Ow mk1 1 k n j hj
   rw[List.getElem?_eq_getElem (by rw[AK];exact hj)]at this
   rw[this];congr 1;unfold mk1;omega
  simp only[AK,hg,Option.bind_some]
  rw[decide_eq_true (by omega)]
  rw[wr1 (k:=k+(j:Int)) (by omega) (by omega),wr1 (k:=(j:Int)) (by omega) (by omega)]
  simp only[cond_true,bne_self_eq_false,cond_false]
  congr 3
  push_cast;omega
 ·unfold Hn
  simp only[AK]
  rw[decide_eq_false (by omega)]
  rfl
theorem Zs (k:Nat):∀(n:Nat) (key:Int) (out:List Int) (e:EG),(DJ k n key out e).2.1.length<=out.length+n
 |0,key,out,e=>by simp[DJ]
 |n+1,key,out,e=>by
  simp only[DJ]
  cases(Fc e k key).2.1==0
  ·simp only[cond_false,List.length_nil];omega
  ·simp only[cond_true]
   have:=Zs k n (key+1) (out++[(Fc e k key).1]) (Fc e k key).2.2
   simp only[List.length_append,List.length_cons,List.length_nil]at this
   omega
theorem A34 (ce:Bool)(e:EG){o:OPt}(ho:Lo o=true):(JX ce e o).2.1.length<=6:=by
 obtain⟨o1,o2,o3,o4,o5,o6⟩:=(QK o).1 ho
 unfold JX
 cases h1:o.1==1
 ·simp only[cond_false]
  cases e.2.1.findIdx? fun t=>t.1==o.2.1 with
  |none=>simp
  |some k=>
   simp only
   cases EB e.2.1 o.2.1
   ·simp
   ·simp only[cond_true]
    cases h2:o.1==2
    ·simp only[cond_false]
     cases h4:o.1==4
     ·simp only[cond_false]
      cases o.1==3
      ·simp only[cond_false]
       cases o.1==5
       ·simp only[cond_false]
        cases e.2.1[k]?<;>simp
       ·simp
      ·simp
     ·simp only[cond_true]
      simp only[h4,Bool.or_true,cond_true]at o4 o5
      rw[Bc]at o4 o5
      have:=Zs k (o.2.2.2.2.1-o.2.2.2.1+1).toNat o.2.2.2.1 [] (e.1,e.2.1,e.2.2.1,wkW e.2.2.2.1 o.2.1,e.2.2.2.2)
      simp only[List.length_nil]at this
      omega
    ·simp only[cond_true]
     have:=Zs k 1 o.2.2.2.1 [] (e.1,e.2.1,e.2.2.1,wkW e.2.2.2.1 o.2.1,e.2.2.2.2)
     simp only[List.length_nil]at this
     omega
 ·simp
end Go.Ab
end
section
namespace Go.Ab
end Go.Ab
end
section
namespace Go.Ab
def mk6 (k:Int):OPt:=(k,k+1,k+2,k+3,k+4,k+5,())
theorem A6x (v:OPt):M7 (v,v,())=some (true,()):=by
 simp[M7]
theorem qI (a:List OPt)(ha:a.length<9223372036854775000):K2 (a,a,())=some (true,()):=by
 unfold K2
 simp only[bne_self_eq_false,cond_false]
 refine D5 a.length (fun j=>((j:Int),())) rfl (fun j hj=>?_) ⟨.inr (),?_,rfl⟩
 ·unfold Hv
  simp only[Al hj,Option.bind_some,A6x]
  rw[decide_eq_true (by omega),wr1 (by omega) (by omega)]
  rfl
 ·unfold Hv
  simp only
  rw[decide_eq_false (by omega)]
  rfl
theorem A3h (row:List OPt)(k:Int)(h0:0<=k)(hk:k+6*row.length<9223372036854775000):
 MZ (k,row,())=some (k+6*row.length,mkL mk6 6 k row.length,()):=by
 unfold MZ
 simp only
 rw[GE (r:=(k+6*row.length,mkL mk6 6 k row.length,())) row.length (fun j=>(k+6*(j:Int),(j:Int),mkd mk6 6 k row j,()))]
 ·rfl
 ·simp only[KT];simp
 ·intro j hj
  unfold J9
  have hl:=Iy mk6 6 k row j (by omega)
  have hg:=MU mk6 6 k row j hj
  have hs:=MT mk6 6 k row j hj
  simp only[hl]
  rw[decide_eq_true (by omega),if_pos (by omega)]
  simp only[cond_true,Option.bind_some,Nat.zero_add,Int.toNat_natCast,hg,List.set_set,List.length_set,List.getElem?_set_self,hl,hj]
  rw[wr1 (k:=k+6*(j:Int)) (by omega) (by omega),wr1 (k:=k+6*(j:Int)+1) (by omega) (by omega),wr1 (k:=k+6*(j:Int)+1+1) (by omega) (by omega),wr1 (k:=k+6*(j:Int)+1+1+1) (by omega) (by omega),wr1 (k:=k+6*(j:Int)+1+1+1+1) (by omega) (by omega),wr1 (k:=k+6*(j:Int)+1+1+1+1+1) (by omega) (by omega),wr1 (k:=(j:Int)) (by omega) (by omega)]
  have e1:k+6*(j:Int)+1+1+1+1+1+1=k+6*((j+1:Nat):Int):=by push_cast;omega
  have e2:(k+6*(j:Int),k+6*(j:Int)+1,k+6*(j:Int)+1+1,k+6*(j:Int)+1+1+1,k+6*(j:Int)+1+1+1+1,k+6*(j:Int)+1+1+1+1+1,())=mk6 (k+6*(j:Int)):=by simp[mk6];omega
  rw[e1,e2,hs]
  simp[hj]
 ·unfold J9
  simp only[MV,AK]
  rw[decide_eq_false (by omega)]
  rfl
theorem sB (a:List OPt)(ha:a.length<=1048576):Jj (a,())=some (a,()):=by
 unfold Jj
 simp only
 rw[if_pos (by omega),Int.toNat_natCast]
 refine Mb ha (fun i h out ho=>?_) fun out=>?_
 ·unfold Hu
  simp only[Al h,Option.bind_some,LH]
  rw[decide_eq_true (by omega),if_pos (by omega),An h (by omega)]
  simp[ho,h]
 ·unfold Hu
  simp only
  rw[decide_eq_false (by omega)];rfl
theorem sC {a:List OPt}{l:Int}(ha:a.length<=maxLen)(h0:0<=l)(h1:l<=1048576):Na (a.length<=1048576) (LK (a,l,())):=Vy ha h0 h1
abbrev STp:=Int×List Int×Unit
theorem Axn {s:STp}(h:s.2.1.length<=1048576):O7 (s,s,())=some (true,()):=by
 unfold O7
 simp only[bne_self_eq_false,cond_false]
 erw [yk _ h]
 rfl
theorem Aoh (a:List STp)(ha:a.length<9223372036854775000)(h:∀s∈a,s.2.1.length<=1048576):NQ (a,a,())=some (true,()):=by
 unfold NQ
 simp only[bne_self_eq_false,cond_false]
 refine D5 a.length (fun j=>((j:Int),())) rfl (fun j hj=>?_) ⟨.inr (),?_,rfl⟩
 ·unfold Oe
  have h1:=Axn (h _ (List.getElem_mem hj))
  simp only[Al hj,Option.bind_some]
  erw [h1]
  rw[decide_eq_true (by omega),wr1 (by omega) (by omega)]
  rfl
 ·unfold Oe
  simp only
  rw[decide_eq_false (by omega)]
  rfl
theorem A6v (ts:List STp)(i:Nat)(hi:i<ts.length)(k:Int)(h0:0<=k)(hk:k+ts[i].2.1.length<9223372036854775000):
 Qc (i,k,ts,())=some (k+ts[i].2.1.length,ts.set i (ts[i].1,mkL mk1 1 k ts[i].2.1.length,()),()):=by
 unfold Qc
 simp only
 have hset0:ts.set i (ts[i].1,ts[i].2.1,())=ts:=by
  have:(ts[i].1,ts[i].2.1,())=ts[i]:=rfl
  rw[this];simp
 generalize htt:ts[i]=t at*
 have key:∀x:STp,(ts.set i x)[i]?=some x:=fun x=>by simp[hi]
 rw[GE (r:=(k+t.2.1.length,ts.set i (t.1,mkL mk1 1 k t.2.1.length,()),())) t.2.1.length (fun j=>(k+(j:Int),(j:Int),ts.set i (t.1,mkd mk1 1 k t.2.1 j,()),()))]
 ·rfl
 ·simp only[KT,hset0];simp
 ·intro j hj
  have hl:=Iy mk1 1 k t.2.1 j (by omega)
  have hg:=MU mk1 1 k t.2.1 j hj
  have hs:=MT mk1 1 k t.2.1 j hj
  have c1:(0:Int)<=(j:Int)/\(j:Int)<((t.2.1.length:Nat):Int):=by omega
  unfold Ma
  simp only[key,Option.bind_some,hl,if_pos c1,Nat.zero_add,Int.toNat_natCast,hg,List.set_set,List.length_set,List.getElem?_set_self,hj]
  rw[decide_eq_true (by omega),wr1 (k:=k+(j:Int)) (by omega) (by omega),wr1 (k:=(j:Int)) (by omega) (by omega)]
  have e1:k+(j:Int)+1=k+((j+1:Nat):Int):=by push_cast;omega
  have e2:mk1 (k+1*(j:Int))=k+(j:Int):=by unfold mk1;omega
  rw[e2]at hs
  rw[e1,hs]
  simp[hj]
 ·unfold Ma
  simp only[key,Option.bind_some,MV,AK]
  rw[decide_eq_false (by omega)]
  rfl
def A33 (k:Int)(t:STp):STp:=(k,mkL mk1 1 (k+1) t.2.1.length,())
def XH (k:Int)(t:STp):Int:=k+1+t.2.1.length
def g7:Int->List STp->List STp
 |_,[]=>[]
 |k,t::ts=>A33 k t::g7 (XH k t) ts
def Ry:Int->List STp->Int
 |k,[]=>k
 |k,t::ts=>Ry (XH k t) ts
theorem yQ (k:Int)(ts:List STp):k<=Ry k ts:=by
 induction ts generalizing k with
 |nil=>exact Int.le_refl k
 |cons t ts ih=>have:=ih (XH k t);unfold XH at this;simp only[Ry];unfold XH;omega
theorem Axq {a:List STp}:∀(k:Int),(∀t∈a,t.2.1.length<=1048576)->Ry k a<=k+1048577*a.length:=by
 induction a with
 |nil=>intro k _;simp[Ry]
 |cons r rs ih=>
  intro k h
  have h1:=ih (XH k r) (fun e he=>h e (List.mem_cons_of_mem _ he))
  have h2:=h r (List.mem_cons_self ..)
  unfold XH at h1
  simp only[Ry,List.length_cons]
  unfold XH
  push_cast
  omega
theorem Aan (ts:List STp)(k:Int)(h0:0<=k)(hk:Ry k ts<9223372036854775000)(hl:ts.length<9223372036854775000):PR (k,ts,())=some (Ry k ts,g7 k ts,()):=by
 unfold PR
 simp only
 have key:∀(rs pre:List STp) (k:Int),0<=k->Ry k rs<9223372036854775000->pre.length+rs.length<9223372036854775000->
  AC (fun v=>Jl () v _ some) (k,(pre.length:Int),pre++rs,())=some (Ry k rs,pre++g7 k rs,()):=by
  intro rs
  induction rs with
  |nil=>
   intro pre k h0 hk hl
   rw[AZ]
   unfold Jl
   simp only[List.append_nil]
   rw[decide_eq_false (by omega)]
   simp[Ry,g7]
  |cons t rs ih=>
   intro pre k h0 hk hl
   have hge:=yQ (XH k t) rs
   simp only[Ry]at hk
   have hge2:XH k t<9223372036854775000:=by omega
   unfold XH at hge2
   simp only[List.length_cons]at hl
   have hi:pre.length<(pre++t::rs).length:=by simp
   have hget:(pre++t::rs)[pre.length]?=some t:=by simp
   have keyS:∀x:STp,((pre++t::rs).set pre.length x)[pre.length]?=some x:=fun x=>by simp
   have c1:(0:Int)<=(pre.length:Int)/\(pre.length:Int)<(((pre++t::rs).length:Nat):Int):=by simp;omega
   have hR:=A6v ((pre++t::rs).set pre.length (k,t.2.1,())) pre.length (by simp) (k+1) (by omega) (by simp;omega)
   simp only[List.getElem_set_self,List.set_set]at hR
   have hset:(pre++t::rs).set pre.length (A33 k t)=(pre++[A33 k t])++rs:=by simp
   have hB:Jl () (k,(pre.length:Int),pre++t::rs,()) _ some=some (.inl (XH k t,(pre.length:Int)+1,(pre++[A33 k t])++rs,())):=by
    unfold Jl
    simp only[List.length_set,if_pos c1,Nat.zero_add,Int.toNat_natCast,hget,Option.bind_some,keyS,List.set_set]
    rw[decide_eq_true c1.2,wr1 (k:=k) (by omega) (by omega),wr1 (k:=(pre.length:Int)) (by omega) (by omega)]
    simp only[hR,Option.bind_some,cond_true]
    rw[<-hset]
    rfl
   rw[AZ,hB]
   have:=ih (pre++[A33 k t]) (XH k t) (by unfold XH;omega) hk (by simp;omega)
   simp only[List.length_append,List.length_cons,List.length_nil,Nat.zero_add,Int.natCast_add]at this
   rw[show((1:Nat):Int)=1 from rfl]at this
   simp only[Option.bind_some]
   rw[this]
   simp[Ry,g7]
 have:=key ts [] k h0 hk (by simpa using hl)
 simp only[List.length_nil,List.nil_append,Int.natCast_zero]at this
 rw[this];rfl
theorem Aap (ts:List STp)(k:Int)(h0:0<=k)(hk:Ry k ts<9223372036854775000)(hl:ts.length<9223372036854775000):Pf (g7 k ts,k,())=some (Ry k ts,()):=by
 unfold Pf
 simp only
 have key:∀(rs pre:List STp) (k:Int),0<=k->Ry k rs<9223372036854775000->pre.length+rs.length<9223372036854775000->
  AC (fun v=>Ke (pre++g7 k rs,()) v _ some) (k,(pre.length:Int),())=some (.inr (.inr (Ry k rs,()))):=by
  intro rs
  induction rs with
  |nil=>
   intro pre k h0 hk hl
   rw[AZ]
   unfold Ke
   simp only[g7,List.append_nil]
   rw[decide_eq_false (by omega)]
   simp[Ry]
  |cons t rs ih=>
   intro pre k h0 hk hl
   have hge:=yQ (XH k t) rs
   simp only[Ry]at hk
   have hge2:XH k t<9223372036854775000:=by omega
   unfold XH at hge2
   simp only[List.length_cons]at hl
   rw[AZ]
   simp only[g7]
   have:=ih (pre++[A33 k t]) (XH k t) (by unfold XH;omega) hk (by simp;omega)
   simp only[List.length_append,List.length_cons,List.length_nil,Nat.zero_add,Int.natCast_add,List.append_assoc,List.singleton_append]at this
   rw[show((1:Nat):Int)=1 from rfl]at this
   simp only[Ry]
   rw[<-this]
   have hB:Ke (pre++A33 k t::g7 (XH k t) rs,()) (k,(pre.length:Int),()) _ some=some (.inl (XH k t,(pre.length:Int)+1,())):=by
    unfold Ke
    have hg:lAt (pre++A33 k t::g7 (XH k t) rs) (pre.length:Int)=some (A33 k t):=by
     rw[Al (by simp)];simp
    simp only[hg,Option.bind_some]
    rw[decide_eq_true (by simp;omega),wr1 (k:=k) (by omega) (by omega),wr1 (k:=(pre.length:Int)) (by omega) (by omega)]
    simp only[A33,bne_self_eq_false,cond_true,cond_false,jV t.2.1.length (k+1) (by omega) (by omega),Option.bind_some]
    rw[decide_eq_false (by omega)]
    rfl
   rw[hB];rfl
 have:=key ts [] k h0 hk (by simpa using hl)
 simp only[List.length_nil,List.nil_append,Int.natCast_zero]at this
 rw[this];rfl
end Go.Ab
end
section
namespace Go.Ab
noncomputable section
def cPb (l:List OPt)(i:Nat):Bool:=match l[i]?,l[0]? with
 |some a,some b=>Lo a&&!(a.2.1 != b.2.1)&&((a.1==1)==((i:Int)==0))&&((a.1==5||a.1==6)==((i:Int)==(l.length:Int)-1))
 |_,_=>false
def O8 (l:List OPt):Bool:=inB (l.length:Int) 2 12&&dec (∀i,i<l.length->cPb l i=true)
theorem jW {l:List OPt}{i:Nat}(h:i<l.length):cPb l i=(Lo l[i]&&!(l[i].2.1 != (l[0]'(by omega)).2.1)&&((l[i].1==1)==((i:Int)==0))&&((l[i].1==5||l[i].1==6)==((i:Int)==(l.length:Int)-1))):=by
 unfold cPb
 rw[List.getElem?_eq_getElem h,List.getElem?_eq_getElem (show 0<l.length by omega)]
theorem Axp {α:Type}{l:List α}(h:0<l.length):lAt l 0=some l[0]:=Al (i:=0) h
theorem jT {l:List OPt}(hl:l.length<=1048576):J5 (l,())=some (O8 l,()):=by
 unfold J5 O8
 simp only[Ix,Option.bind_some]
 cases inB (l.length:Int) 2 12
 ·rfl
 ·simp only[Bool.not_true,cond_false,Bool.true_and]
  refine(Cj (n:=l.length) (c:=fun i=>cPb l i=true) (X:=some (true,())) (no:=some (false,())) (fun i hi=>?_) ⟨.inr (.inr (.inr (.inr (.inr (.inr (.inr (.inr ()))))))),?_,rfl⟩).trans ?_
  ·have hop:Fb ((l[i].1,l[i].2.1,l[i].2.2.1,l[i].2.2.2.1,l[i].2.2.2.2.1,l[i].2.2.2.2.2.1,()),())=some (Lo l[i],()):=fP l[i]
   unfold GS
   simp only[Al hi,Axp (show 0<l.length by omega),Option.bind_some,hop,CI (n:=(l.length:Int)-1) (by omega) (by omega),jW hi]
   rw[decide_eq_true (by omega),An hi (by omega)]
   simp only[cond_true]
   generalize Lo l[i]=b1
   generalize (l[i].2.1 != (l[0]'(by omega)).2.1)=b2
   generalize ((l[i].1==1)==((i:Int)==0))=b3
   generalize (l[i].1==5)=k5
   generalize (l[i].1==6)=k6
   generalize ((i:Int)==(l.length:Int)-1)=z
   cases b1<;>cases b2<;>cases b3<;>cases k5<;>cases k6<;>cases z<;>first
    |exact⟨fun _=>rfl,fun h=>absurd rfl h⟩
    |exact⟨fun h=>absurd h (by decide),fun _=>by refine⟨_,rfl,?_⟩;rfl⟩
  ·unfold GS
   simp only
   rw[decide_eq_false (by omega)];rfl
  ·cases dec (∀i,i<l.length->cPb l i=true)<;>rfl
theorem jR {l:List OPt}(hl:l.length<=1048576):JZ (l,())=some (O8 l,()):=by
 unfold JZ O8
 simp only[Dq]
 refine(Cj (n:=l.length) (c:=fun i=>cPb l i=true) (X:=some (inB (l.length:Int) 2 12,())) (no:=some (false,())) (fun i hi=>?_) ⟨.inr (.inr (.inr (.inr (.inr (.inr (.inr (.inr ()))))))),?_,rfl⟩).trans ?_
 ·have hop:Ea ((l[i].1,l[i].2.1,l[i].2.2.1,l[i].2.2.2.1,l[i].2.2.2.2.1,l[i].2.2.2.2.2.1,()),())=some (Lo l[i],()):=WX l[i]
  unfold GN
  simp only[Al hi,Axp (show 0<l.length by omega),Option.bind_some,hop,CI (n:=(l.length:Int)-1) (by omega) (by omega),jW hi]
  rw[decide_eq_true (by omega),An hi (by omega)]
  simp only[cond_true]
  generalize Lo l[i]=b1
  generalize (l[i].2.1 != (l[0]'(by omega)).2.1)=b2
  generalize ((l[i].1==1)==((i:Int)==0))=b3
  generalize (l[i].1==5)=k5
  generalize (l[i].1==6)=k6
  generalize ((i:Int)==(l.length:Int)-1)=z
  cases b1<;>cases b2<;>cases b3<;>cases k5<;>cases k6<;>cases z<;>first
   |exact⟨fun _=>rfl,fun h=>absurd rfl h⟩
   |exact⟨fun h=>absurd h (by decide),fun _=>by refine⟨_,rfl,?_⟩;rfl⟩
 ·unfold GN
  simp only
  rw[decide_eq_false (by omega)];rfl
 ·cases dec (∀i,i<l.length->cPb l i=true)<;>cases inB (l.length:Int) 2 12<;>rfl
theorem Ra {l:List OPt}(h:O8 l=true):l.length<=12/\∀o∈l,Lo o=true:=by
 unfold O8 at h
 rw[Bool.and_eq_true]at h
 have h1:=Bc.1 h.1
 have h2:=KD h.2
 refine⟨by omega,fun o ho=>?_⟩
 obtain⟨i,hi,rfl⟩:=List.getElem_of_mem ho
 have h3:=h2 i hi
 rw[jW hi]at h3
 simp only[Bool.and_eq_true]at h3
 exact h3.1.1.1
def rq (t:List TX)(c:Int):List Int:=(t.filter fun x=>x.2.2.1==c).map (·.1)
theorem Aax (t:List TX)(c:Int)(n:Nat):(rq (t.take n) c).length<=t.length:=by
 unfold rq
 rw[List.length_map]
 refine Nat.le_trans (List.length_filter_le ..) ?_
 simp;omega
theorem Ab5 {t:List TX}{c:Int}{i:Nat}(h:i<t.length):rq (t.take (i+1)) c=bif t[i].2.2.1==c then rq (t.take i) c++[t[i].1]else rq (t.take i) c:=by
 unfold rq
 rw[<-List.take_append_getElem h,List.filter_append,List.map_append]
 cases hc:t[i].2.2.1==c<;>simp[List.filter,hc]
theorem Ad3 {t:List TX}(ht:t.length<=1048576)(ce:Bool)(s:List (List VV))(lk wt:List VM)(stamp c:Int):O3 ((ce,(s,()),t,lk,wt,stamp,()),c,())=some (rq t c,()):=by
 unfold O3
 simp only
 refine D5 t.length (fun i=>((i:Int),rq (t.take i) c,())) rfl (fun i h=>?_) ⟨(rq t c,()),?_,rfl⟩
 ·unfold K3
  simp only[Al h,Option.bind_some,Ab5 h]
  rw[decide_eq_true (by omega),An h (by omega)]
  have h1:=Aax t c i
  cases t[i].2.2.1==c
  ·rfl
  ·simp only[cond_true]
   rw[if_pos (by simp;omega)]
 ·unfold K3
  simp only[List.take_length]
  rw[decide_eq_false (by omega)];rfl
theorem ABx {t:List TX}(ht:t.length<=1048576)(ce:Bool)(s:List (List VV))(lk wt:List VM)(stamp c:Int):Xy ((ce,(s,()),t,lk,wt,stamp,()),c,())=some (rq t c,()):=by
 unfold Xy
 simp only
 refine D5 t.length (fun i=>((i:Int),rq (t.take i) c,())) rfl (fun i h=>?_) ⟨(rq t c,()),?_,rfl⟩
 ·unfold R6
  simp only[Al h,Option.bind_some,Ab5 h]
  rw[decide_eq_true (by omega),An h (by omega)]
  have h1:=Aax t c i
  cases t[i].2.2.1==c
  ·rfl
  ·simp only[cond_true]
   rw[if_pos (by simp;omega)]
 ·unfold R6
  simp only[List.take_length]
  rw[decide_eq_false (by omega)];rfl
def Axs (e:EG):Bool:=okE e.1 e.2.1 e.2.2.1 e.2.2.2.1 e.2.2.2.2&&(((rq e.2.1 1).length:Int)==0)
theorem AGk {e:EG}(hs:SmallE e.1 e.2.1 e.2.2.1 e.2.2.2.1)(ce:Bool):bX ((ce,(e.1,()),e.2.1,e.2.2.1,e.2.2.2.1,e.2.2.2.2,()),())=some (Axs e,()):=by
 unfold bX Axs
 simp only[AA5 hs,Option.bind_some,Ad3 hs.fl]
 cases okE e.1 e.2.1 e.2.2.1 e.2.2.2.1 e.2.2.2.2<;>rfl
theorem AGi {e:EG}(hs:SmallE e.1 e.2.1 e.2.2.1 e.2.2.2.1)(ce:Bool):aA ((ce,(e.1,()),e.2.1,e.2.2.1,e.2.2.2.1,e.2.2.2.2,()),())=some (Axs e,()):=by
 unfold aA Axs
 simp only[iI hs,Option.bind_some,ABx hs.fl]
 cases okE e.1 e.2.1 e.2.2.1 e.2.2.2.1 e.2.2.2.2<;>rfl
def AGn (ce:Bool)(r:EG×List STp)(o:OPt):EG×List STp:=((JX ce r.1 o).2.2,r.2++[((JX ce r.1 o).1,(JX ce r.1 o).2.1,())])
def cS (ce:Bool)(e:EG)(l:List OPt):EG×List STp:=l.foldl (AGn ce) (e,[])
theorem Ao5 (ce:Bool)(e:EG){l:List OPt}{i:Nat}(h:i<l.length):cS ce e (l.take (i+1))=AGn ce (cS ce e (l.take i)) l[i]:=by
 unfold cS
 rw[<-List.take_append_getElem h,List.foldl_append];rfl
theorem Aoi (ce:Bool){e:EG}(H:OkG e){l:List OPt}(hl:∀o∈l,Lo o=true):∀i,i<=l.length->OkG (cS ce e (l.take i)).1/\(cS ce e (l.take i)).2.length=i/\∀s∈(cS ce e (l.take i)).2,s.2.1.length<=6:=by
 intro i
 induction i with
 |zero=>intro _;exact⟨H,rfl,fun s hs=>by simp[cS]at hs⟩
 |succ i ih=>
  intro h
  obtain⟨h1,h2,h3⟩:=ih (by omega)
  rw[Ao5 ce e h]
  have ho:=hl _ (List.getElem_mem h)
  refine⟨h1.step ce ho,?_,?_⟩
  ·simp[AGn,h2]
  ·intro s hs
   simp only[AGn,List.mem_append,List.mem_singleton]at hs
   rcases hs with hs|rfl
   ·exact h3 s hs
   ·exact A34 ce _ ho
def Axv (l:List STp):Bool:=l.all fun s=>s.1==0
def Axr (l:List STp)(c:Int):Nat:=(l.filter fun s=>s.1==c).length
theorem AJk (l:List STp):((Axr l 0:Int)==(l.length:Int))=Axv l:=by
 rw[Bool.eq_iff_iff,beq_iff_eq]
 unfold Axr Axv
 rw[List.all_eq_true,Int.ofNat_inj]
 rw[List.length_filter_eq_length_iff]
theorem AJt {l:List STp}(hl:l.length<=1048576)(c:Int):im (l,c,())=some ((Axr l c:Int),()):=by
 unfold im
 simp only
 refine D5 l.length (fun i=>((Axr (l.take i) c:Int),(i:Int),())) rfl (fun i h=>?_) ⟨((Axr l c:Int),()),?_,rfl⟩
 ·unfold VC
  simp only[Al h,Option.bind_some]
  rw[decide_eq_true (by omega),An h (by omega)]
  have h1:Axr (l.take i) c<=i:=by
   unfold Axr;refine Nat.le_trans (List.length_filter_le ..) ?_;simp;omega
  have h2:Axr (l.take (i+1)) c=bif l[i].1==c then Axr (l.take i) c+1 else Axr (l.take i) c:=by
   unfold Axr
   rw[<-List.take_append_getElem h,List.filter_append,List.length_append]
   cases hc:l[i].1==c<;>simp[List.filter,hc]
  rw[h2]
  cases l[i].1==c
  ·rfl
  ·simp only[cond_true]
   rw[wr1 (by omega) (by omega)];rfl
 ·unfold VC
  simp only[List.take_length]
  rw[decide_eq_false (by omega)];rfl
def raP (ce:Bool)(e:EG)(l:List OPt):EG×List STp×Bool:=
 bif Axs e&&O8 l then(let r:=cS ce e l;(r.1,r.2,Axv r.2))else(e,[],false)
theorem AJn {e:EG}(hs:SmallE e.1 e.2.1 e.2.2.1 e.2.2.2.1)(ce:Bool)(l:List OPt):SmallE (raP ce e l).1.1 (raP ce e l).1.2.1 (raP ce e l).1.2.2.1 (raP ce e l).1.2.2.2.1/\(raP ce e l).2.1.length<=12/\∀s∈(raP ce e l).2.1,s.2.1.length<=6:=by
 unfold raP
 cases h:Axs e&&O8 l
 ·exact⟨hs,Nat.zero_le _,fun s hs=>by cases hs⟩
 ·obtain⟨h1,h2⟩:=Bool.and_eq_true_iff.1 h
  obtain⟨h3,h4⟩:=Ra h2
  unfold Axs at h1
  obtain⟨h5,h6⟩:=Bool.and_eq_true_iff.1 h1
  have:=Aoi ce ((TD e).1 h5) h4 l.length (Nat.le_refl _)
  rw[List.take_length]at this
  exact⟨this.1.small,by simp only[cond_true];omega,this.2.2⟩
theorem AIv {e:EG}(hs:SmallE e.1 e.2.1 e.2.2.1 e.2.2.2.1)(ce:Bool){l:List OPt}(hl:l.length<=1048576):
 cl ((ce,(e.1,()),e.2.1,e.2.2.1,e.2.2.2.1,e.2.2.2.2,()),l,())=some (ce,(raP ce e l).1.2.2.2.2,(raP ce e l).2.2,(raP ce e l).1.1,(raP ce e l).1.2.1,(raP ce e l).1.2.2.1,(raP ce e l).1.2.2.2.1,(raP ce e l).2.1,()):=by
 unfold cl raP
 simp only[Aao hs,AGk hs,jT hl,Option.bind_some]
 cases hc:Axs e
 ·rfl
 cases hp:O8 l
 ·rfl
 simp only[Bool.not_true,cond_false,Bool.and_self,cond_true]
 obtain⟨h3,h4⟩:=Ra hp
 unfold Axs at hc
 have H:=(TD e).1 (Bool.and_eq_true_iff.1 hc).1
 refine D5 l.length (fun i=>((i:Int),ce,(cS ce e (l.take i)).1.2.2.2.2,(cS ce e (l.take i)).1.1,(cS ce e (l.take i)).1.2.1,(cS ce e (l.take i)).1.2.2.1,(cS ce e (l.take i)).1.2.2.2.1,(cS ce e (l.take i)).2,())) rfl (fun i h=>?_) ⟨(ce,(cS ce e l).1.2.2.2.2,(cS ce e l).1.1,(cS ce e l).1.2.1,(cS ce e l).1.2.2.1,(cS ce e l).1.2.2.2.1,(cS ce e l).2,()),?_,?_⟩
 ·obtain⟨k1,k2,k3⟩:=Aoi ce H h4 i (by omega)
  have hst:=X3 k1 (h4 _ (List.getElem_mem h)) ce
  simp only[Hj]at hst
  unfold Wo
  simp only[Al h,Option.bind_some]
  rw[decide_eq_true (by omega),An h (by omega),Ao5 ce e h]
  simp only[cond_true]
  erw [hst]
  simp only[Option.bind_some,VH]
  rw[if_pos (by simp[k2];omega)]
  rfl
 ·unfold Wo
  simp only[List.take_length]
  rw[decide_eq_false (by omega)];rfl
 ·have hk:=(Aoi ce H h4 l.length (Nat.le_refl _)).2.1
  rw[List.take_length]at hk
  simp only[AJt (l:=(cS ce e l).2) (by omega),Option.bind_some,AJk]
theorem AIq {e:EG}(hs:SmallE e.1 e.2.1 e.2.2.1 e.2.2.2.1)(ce:Bool){l:List OPt}(hl:l.length<=1048576):
 iE ((ce,(e.1,()),e.2.1,e.2.2.1,e.2.2.2.1,e.2.2.2.2,()),l,())=some (ce,(raP ce e l).1.2.2.2.2,(raP ce e l).2.2,(raP ce e l).1.1,(raP ce e l).1.2.1,(raP ce e l).1.2.2.1,(raP ce e l).1.2.2.2.1,(raP ce e l).2.1,()):=by
 unfold iE raP
 simp only[TC hs,AGi hs,jR hl,Option.bind_some]
 cases hc:Axs e
 ·rfl
 cases hp:O8 l
 ·rfl
 simp only[Bool.not_true,cond_false,Bool.and_self,cond_true]
 obtain⟨h3,h4⟩:=Ra hp
 unfold Axs at hc
 have H:=(TD e).1 (Bool.and_eq_true_iff.1 hc).1
 refine D5 l.length (fun i=>(Axv (cS ce e (l.take i)).2,(i:Int),ce,(cS ce e (l.take i)).1.2.2.2.2,(cS ce e (l.take i)).1.1,(cS ce e (l.take i)).1.2.1,(cS ce e (l.take i)).1.2.2.1,(cS ce e (l.take i)).1.2.2.2.1,(cS ce e (l.take i)).2,())) rfl (fun i h=>?_) ⟨(Axv (cS ce e l).2,ce,(cS ce e l).1.2.2.2.2,(cS ce e l).1.1,(cS ce e l).1.2.1,(cS ce e l).1.2.2.1,(cS ce e l).1.2.2.2.1,(cS ce e l).2,()),?_,rfl⟩
 ·obtain⟨k1,k2,k3⟩:=Aoi ce H h4 i (by omega)
  have hok:=(TD _).2 k1
  have hst:=fB k1.small ce l[i]
  rw[hok,h4 _ (List.getElem_mem h)]at hst
  unfold Wl
  simp only[Al h,Option.bind_some]
  rw[decide_eq_true (by omega),An h (by omega),Ao5 ce e h]
  simp only[cond_true]
  erw [hst]
  simp only[Bool.and_self,cond_true,Option.bind_some]
  rw[if_pos (by simp[k2];omega)]
  simp only[AGn,Axv,List.all_append,List.all_cons,List.all_nil,Bool.and_true]
  cases(cS ce e (l.take i)).2.all fun s=>s.1==0<;>rfl
 ·unfold Wl
  simp only[List.take_length]
  rw[decide_eq_false (by omega)];rfl
end
end Go.Ab
end
section
namespace Go.Ab
def law_tsRA:List Ty:=[D9,.slice YOp]
theorem law_RunAlone (x:den (Ja law_tsRA).ty)(hx:wf (Ja law_tsRA).ty x):bW x=some (true,()):=by
 obtain⟨⟨ce,⟨s,_⟩,t,lk,wt,stamp,_⟩,l,_⟩:=x
 have hs:=hx.1.2.1.1
 have ht:=hx.1.2.2.1
 have hk:=hx.1.2.2.2.1.1
 have hw:=hx.1.2.2.2.2.1.1
 have hl:=hx.2.1.1
 unfold bW
 refine rK (Ad0 hs.1 (fun e he=>(hs.2 e he).1) ht.1 (fun e he=>⟨(ht.2 e he).2.2.2.2.2.2.2.1.1,(ht.2 e he).2.2.2.2.2.2.2.2.1.1⟩) hk hw (by omega) (by omega)) fun n h0 h1 hA=>?_
 refine rK (sC hl h0 h1) fun n2 h2 h3 hL=>?_
 have hA:SmallE s t lk wt:=hA
 have hL:List.length (α:=OPt) l<=1048576:=hL
 obtain⟨hC,hv,hu⟩:=AJn (e:=(s,t,lk,wt,stamp)) hA ce l
 have e1:=AIq (e:=(s,t,lk,wt,stamp)) hA ce hL
 have e2:=AIv (e:=(s,t,lk,wt,stamp)) hA ce hL
 have eO:=sB l hL
 have eQ:=qI l (by omega)
 obtain⟨b1,b2,b3,b4,b5⟩:=PY hA
 have eM:=A3h l (enE s t lk wt) (by omega) (by omega)
 simp only[yg hA,Option.bind_some]at e1 e2 ⊢
 erw [eO]
 simp only[Option.bind_some]
 erw [e1]
 simp only[Option.bind_some]
 erw [e2]
 generalize raP ce (s,t,lk,wt,stamp) l=r at hC hv hu e2 ⊢
 obtain⟨c1,c2,c3,c4,c5⟩:=PY hC
 have hS:=Axq (a:=r.2.1) (enE r.1.1 r.1.2.1 r.1.2.2.1 r.1.2.2.2.1) (fun s hs=>by have:=hu s hs;omega)
 have hS0:=yQ (enE r.1.1 r.1.2.1 r.1.2.2.1 r.1.2.2.2.1) r.2.1
 have d1:decide (enE s t lk wt+6*((List.length (α:=OPt) l:Nat):Int)<0)=false:=decide_eq_false (by omega)
 have d2:decide (enE r.1.1 r.1.2.1 r.1.2.2.1 r.1.2.2.2.1<0)=false:=decide_eq_false (by omega)
 have d3:decide (Ry (enE r.1.1 r.1.2.1 r.1.2.2.1 r.1.2.2.2.1) r.2.1<0)=false:=decide_eq_false (by omega)
 have hq:NQ (r.2.1,r.2.1,())=some (true,()):=Aoh r.2.1 (by omega) (fun s hs=>by have:=hu s hs;omega)
 have hm:=Aan r.2.1 (enE r.1.1 r.1.2.1 r.1.2.2.1 r.1.2.2.2.1) (by omega) (by omega) (by omega)
 have hh:=Aap r.2.1 (enE r.1.1 r.1.2.1 r.1.2.2.1 r.1.2.2.2.1) (by omega) (by omega) (by omega)
 have hb:(!r.2.2==r.2.2)=false:=by cases r.2.2<;>rfl
 simp only[Option.bind_some,X7 hA,X7 hC,hq,hb,Bool.not_true,cond_false,yg hA]
 erw [eQ]
 simp only[Option.bind_some,Bool.not_true,cond_false,ST hA]
 erw [eM]
 simp only[Option.bind_some,d1,cond_false,ST hC,hm,Wf hC,d2,hh,d3,bne_self_eq_false]
end Go.Ab
end
