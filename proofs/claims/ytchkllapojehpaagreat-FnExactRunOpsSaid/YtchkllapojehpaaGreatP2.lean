import Derived.Test.YtchkllapojehpaaGreatP1
set_option linter.all false
section
namespace Go.Ab
section
variable {e:EG}(H:OkG e){k:Nat}(hk:k<e.2.1.length)(ha:e.2.1[k].2.2.1=1)
include H hk ha
theorem fI:Gl ((e.1,()),tup e.2.1[k],())=some (Ly e.1 e.2.1[k],()):=by
 have hg:=NO H hk ha (key:=0) rfl
 have hwl:=(H.smT hk).2
 have hwr:=H.wrIn hk
 simp only[tup]at hg
 unfold Gl Ly
 simp only[hg,Option.bind_some,Bool.not_true,cond_false]
 have hD:∀i (h:i<e.2.1[k].2.2.2.2.2.2.2.2.1.length),∀(hc:Bool),decide (crV (DM e.1 e.2.1[k].2.2.2.2.2.2.2.2.1[i].1)>e.2.1[k].2.2.2.1)=hc->
  Bu (e.1,tup e.2.1[k]) ((i:Int),()) _ some=bif !hc then some (.inl (((i+1:Nat):Int),()))else bif e.2.1[k].2.1==2 then some (.inr (.inl ()))else bif e.2.1[k].2.1==4 then some (.inr (.inr (.inl ())))else some (.inl (((i+1:Nat):Int),())):=by
  intro i h hc hh
  obtain⟨n,hn,v,e1,e2,e3,e4,e5,e6,e7⟩:=H.ltst (hwr _ (List.getElem_mem h))
  have hmem:=List.getElem_mem hn
  rw[e5,crV]at hh
  have hnn:decide (v.2.2.1<=e.2.1[k].2.2.2.1)=!hc:=by
   cases hc
   ·have:=of_decide_eq_false hh;exact decide_eq_true (by omega)
   ·have:=of_decide_eq_true hh;exact decide_eq_false (by omega)
  unfold Bu
  simp only[Al h,Option.bind_some,decide_eq_true (by omega:(i:Int)<(e.2.1[k].2.2.2.2.2.2.2.2.1.length:Int)),cond_true,An h (by omega),e6,JN (H.small.fs.2 _ hmem) (H.gd.ok _ hmem).1 e4,hnn]
 have hE:Bu (e.1,tup e.2.1[k]) ((e.2.1[k].2.2.2.2.2.2.2.2.1.length:Int),()) _ some=some (.inr (.inr (.inr ()))):=by
  unfold Bu
  simp only[Int.lt_irrefl,decide_false,cond_false]
 have hsplit:∀(p:VM->Bool) (l:List VM),(dec (∀i,i<l.length->∃h:i<l.length,p l[i]=false))=!l.any p:=by
  intro p l
  cases hb:l.any p with
  |false=>
   rw[List.any_eq_false]at hb
   exact AH fun i h=>⟨h,by simpa using hb _ (List.getElem_mem h)⟩
  |true=>
   obtain⟨x,hx,hp⟩:=List.any_eq_true.1 hb
   obtain⟨i,hi,rfl⟩:=List.getElem_of_mem hx
   exact BM fun h=>by obtain⟨_,h2⟩:=h i hi;rw[hp]at h2;cases h2
 cases h2:(e.2.1[k].2.1==2||e.2.1[k].2.1==4)
 ·have h2':=Bool.or_eq_false_iff.1 h2
  refine(Cj (B:=fun v=>Bu (e.1,tup e.2.1[k]) v _ some) (n:=e.2.1[k].2.2.2.2.2.2.2.2.1.length) (c:=fun _=>True) (X:=some (0,())) (no:=none) (fun i h=>⟨fun _=>?_,fun hn=>absurd trivial hn⟩) ⟨.inr (.inr ()),hE,rfl⟩).trans ?_
  ·refine(hD i h _ rfl).trans ?_
   simp only[h2'.1,h2'.2,cond_false]
   cases decide (crV (DM e.1 e.2.1[k].2.2.2.2.2.2.2.2.1[i].1)>e.2.1[k].2.2.2.1)<;>rfl
  ·rw[AH (fun i h=>trivial)]
   simp only[cond_true,h2'.1,h2'.2,cond_false]
   cases e.2.1[k].2.2.2.2.2.2.2.2.1.any _<;>rfl
 ·refine(Cj (B:=fun v=>Bu (e.1,tup e.2.1[k]) v _ some) (n:=e.2.1[k].2.2.2.2.2.2.2.2.1.length) (c:=fun i=>∃h:i<e.2.1[k].2.2.2.2.2.2.2.2.1.length,(fun m:VM=>decide (crV (DM e.1 m.1)>e.2.1[k].2.2.2.1)) e.2.1[k].2.2.2.2.2.2.2.2.1[i]=false) (X:=some (0,())) (no:=some (bif e.2.1[k].2.1==2 then 2 else 3,())) (fun i h=>⟨fun hc=>?_,fun hn=>?_⟩) ⟨.inr (.inr ()),hE,rfl⟩).trans ?_
  ·obtain⟨_,hc⟩:=hc
   exact(hD i h false hc).trans rfl
  ·have hc:decide (crV (DM e.1 e.2.1[k].2.2.2.2.2.2.2.2.1[i].1)>e.2.1[k].2.2.2.1)=true:=by
    cases hd:decide (crV (DM e.1 e.2.1[k].2.2.2.2.2.2.2.2.1[i].1)>e.2.1[k].2.2.2.1)with
    |true=>rfl
    |false=>exact absurd ⟨h,hd⟩ hn
   cases h3:e.2.1[k].2.1==2
   ·have h4:(e.2.1[k].2.1==4)=true:=by rw[h3]at h2;exact h2
    exact⟨_,(hD i h true hc).trans (by simp only[Bool.not_true,cond_false,h3,h4,cond_true];rfl),rfl⟩
   ·exact⟨_,(hD i h true hc).trans (by simp only[Bool.not_true,cond_false,h3,cond_true];rfl),rfl⟩
  ·have hs:=hsplit (fun m:VM=>decide (crV (DM e.1 m.1)>e.2.1[k].2.2.2.1)) e.2.1[k].2.2.2.2.2.2.2.2.1
   erw [hs]
   cases e.2.1[k].2.2.2.2.2.2.2.2.1.any _
   ·rfl
   ·cases h3:e.2.1[k].2.1==2
    ·have h4:(e.2.1[k].2.1==4)=true:=by rw[h3]at h2;exact h2
     simp only[h4,cond_true,cond_false,Bool.not_true]
    ·simp only[cond_true,cond_false,Bool.not_true]
omit ha in
theorem fC:Gk ((e.1,()),tup e.2.1[k],())=some (rlP e.1 e.2.1[k],()):=by
 have hsm:=H.smT hk
 have hwr:=H.wrIn hk
 have htx:=Ot hsm
 simp only[tup]at htx
 unfold Gk rlP
 simp only[Lj H.small.fs,AH H.st,htx,H.txOk hk,Option.bind_some,Bool.not_true,cond_false]
 refine G9 (l:=e.2.1[k].2.2.2.2.2.2.2.1) (f:=fun n m=>mx n m.2.1) (X:=fun n=>(AC (fun v=>Cy (e.1,tup e.2.1[k]) v _ some) (n,0,())).bind fun p=>some (p.1,())) 0 (fun i h n=>?_) (fun n=>⟨(n,()),?_,rfl⟩) ?_
 ·unfold Df
  simp only[Al h,Option.bind_some]
  rw[decide_eq_true (by omega),An h (by have:=hsm.1;omega)];rfl
 ·unfold Df
  simp only
  rw[decide_eq_false (by omega)];rfl
 ·refine G9 (l:=e.2.1[k].2.2.2.2.2.2.2.2.1) (f:=fun n m=>mx n (KL (DM e.1 m.1))) (X:=fun n=>some (n,())) _ (fun i h n=>?_) (fun n=>⟨(n,()),?_,rfl⟩) rfl
  ·obtain⟨n',hn,v,e1,e2,e3,e4,e5,e6,e7⟩:=H.ltst (hwr _ (List.getElem_mem h))
   have hmem:=List.getElem_mem hn
   unfold Cy
   simp only[tup,Al h,Option.bind_some,e6,JN (H.small.fs.2 _ hmem) (H.gd.ok _ hmem).1 e4,e5,KL]
   rw[decide_eq_true (by omega),An h (by have:=hsm.2;omega)];rfl
  ·unfold Cy
   simp only[tup]
   rw[decide_eq_false (by omega)];rfl
theorem ZK (hst:e.2.2.2.2+1<=999):El ((e.1,()),tup e.2.1[k],e.2.2.2.2+1,())=some (loP e.1 e.2.1[k],hiP e.1 e.2.1[k] (e.2.2.2.2+1),true,()):=by
 have hsm:=H.smT hk
 have hx:=(H.txA _ (List.getElem_mem hk)).2.2.2 ha
 have hrl:=fC H hk
 have hrh:=fD H.small.fs H.st _ hsm (H.txOk hk) hx
 have hex:=QF H.small.fs H.st hsm.1 hsm.2 (H.txOk hk) (H.rdIn hk)
 have ha':(e.2.1[k].2.2.1 != 1)=false:=by rw[ha];rfl
 have h0:=H.stamp0
 have hl:=H.last
 have hl0:0<=e.1.foldl IW 0:=((OC e.1 0).1 (Int.le_refl _)).1
 have hw:IntKind.i64.wrap (e.1.foldl IW 0+1)=e.1.foldl IW 0+1:=CI (by omega) (by omega)
 have hi:inB (e.2.2.2.2+1) (e.1.foldl IW 0+1) 999=true:=Bc.2 ⟨by omega,hst⟩
 simp only[tup]at hrl
 unfold El
 simp only[hex,AH hx,Option.bind_some,Bool.not_true,cond_false,ha',QC H.small.fs H.st,hw,Dq,hi,hrl,hrh,loP,hiP]
omit ha in
theorem UJ:Ff ((e.1,()),tup e.2.1[k],())=some (!Mz e.1 e.2.1[k],()):=by
 have hwl:=(H.smT hk).2
 have hwr:=H.wrIn hk
 unfold Ff
 have hsp:∀m∈e.2.1[k].2.2.2.2.2.2.2.2.1,∃(n:Nat) (hn:n<e.1.length),lAt e.1 m.1=some e.1[n]/\e.1[m.1.toNat]?=some e.1[n]:=fun m hm=>by
  obtain⟨n,hn,e1,e2,e3⟩:=Ti H.gd.six (hwr m hm)
  exact⟨n,hn,e2,e3⟩
 have he:=Lt (B:=fun v=>Ej (e.1,tup e.2.1[k]) v _ some) (l:=e.2.1[k].2.2.2.2.2.2.2.2.1) (fun i=>((i:Int),())) (fun m=>match e.1[m.1.toNat]? with|some l=>decide (l.length>=50)|none=>false) (fd:=fun i=>.inl ()) (no:=.inr ()) (fun i h=>by
  obtain⟨n,hn,q1,q2⟩:=hsp _ (List.getElem_mem h)
  have q3:decide ((e.1[n].length:Int)>=50)=decide (e.1[n].length>=50):=by
   rw[Bool.eq_iff_iff,decide_eq_true_eq,decide_eq_true_eq];omega
  unfold Ej
  simp only[tup,Al h,Option.bind_some,decide_eq_true (by omega:(i:Int)<(e.2.1[k].2.2.2.2.2.2.2.2.1.length:Int)),cond_true,An h (by omega),q1,q2,q3]
  cases decide (e.1[n].length>=50)<;>rfl) (by
  unfold Ej
  simp only[tup,Int.lt_irrefl,decide_false,cond_false]) (t0:=(0,())) rfl
 erw [he]
 unfold Mz
 cases hf:e.2.1[k].2.2.2.2.2.2.2.2.1.findIdx? (fun m=>match e.1[m.1.toNat]? with|some l=>decide (l.length>=50)|none=>false)with
 |none=>
  have:=congrArg Option.isSome hf
  rw[List.findIdx?_isSome]at this
  simp only[Option.bind_some,Az]
  erw [this];rfl
 |some i=>
  have:=congrArg Option.isSome hf
  rw[List.findIdx?_isSome]at this
  simp only[Option.bind_some,Az]
  erw [this];rfl
theorem WY (st lo hi:Int):Dd ((e.1,()),tup e.2.1[k],st,lo,hi,())=some (e.2.1[k].1,e.2.1[k].2.1,2,e.2.1[k].2.2.2.1,lo,hi,st,OH e.1 e.2.1[k] st hi,e.2.1[k].2.2.2.2.2.2.2.1,e.2.1[k].2.2.2.2.2.2.2.2.1,()):=by
 have hsm:=H.smT hk
 have hwr:=H.wrIn hk
 have hrd:=H.rdIn hk
 have hx:=(H.txA _ (List.getElem_mem hk)).2.2.2 ha
 have hwl:=QI ((CF _).1 (H.txOk hk)).2.1
 unfold Dd OH
 simp only[QG H.small.fs,MR _ hsm,Option.bind_some]
 obtain⟨f1,f2⟩:=Lw (l:=e.2.1[k].2.2.2.2.2.2.2.1) (f:=LO st) (Inv:=fun s i=>stOK s 0/\∀m∈e.2.1[k].2.2.2.2.2.2.2.1,Gt s m) (n0:=e.1)
  (B:=fun v=>CP (st,hi,e.2.1[k].1,e.2.1[k].2.1,e.2.1[k].2.2.1,e.2.1[k].2.2.2.1,e.2.1[k].2.2.2.2.1,e.2.1[k].2.2.2.2.2.1,e.2.1[k].2.2.2.2.2.2.1,e.2.1[k].2.2.2.2.2.2.2.1,e.2.1[k].2.2.2.2.2.2.2.2.1,0,0,0,0,0,0,0,e.2.1[k].1,e.2.1[k].2.1,2,e.2.1[k].2.2.2.1,lo,hi,st,e.2.1[k].2.2.2.2.2.2.2.1,e.2.1[k].2.2.2.2.2.2.2.2.1,()) v _ some)
  (fun i h s hI=>by
    obtain⟨_,hm,_⟩:=hrd i h
    obtain⟨a,h0,hlt,l,e1,e2,e3,hl⟩:=Jz hI.1.1 hm
    obtain⟨l',j,x1,x2⟩:=hI.2 _ (List.getElem_mem h)
    rw[e3]at x1;obtain rfl:l=l':=(by simpa using x1)
    have hj:=Q2 x2
    have hls:=(hI.1.small (by omega)).2 _ hl
    have c1:(0:Int)<=(a:Int)/\(a:Int)<(s.length:Int):=by omega
    have c2:(0:Int)<=(j:Int)/\(j:Int)<(l.length:Int):=by omega
    unfold CP LO
    simp only[decide_eq_true (by omega:(i:Int)<(e.2.1[k].2.2.2.2.2.2.2.1.length:Int)),cond_true,Al h,Option.bind_some,h0,c1,and_self,if_true,Nat.zero_add,Int.toNat_natCast,e1,QE hls,x2,fx,c2,List.getElem?_eq_getElem hj,An h (by have:=hsm.1;omega),e3,Rk])
  (fun i h s hI=>⟨RV st hI.1,fun m hm=>Pl st (hI.2 m hm)⟩)
  ⟨H.st.stOK,hx⟩
  (fun s=>by
    unfold CP
    simp only[Int.lt_irrefl,decide_false,cond_false])
 erw [f1]
 simp only[Option.bind_some]
 obtain⟨g1,g2⟩:=Lw (l:=e.2.1[k].2.2.2.2.2.2.2.2.1) (f:=Oi st e.2.1[k].1 hi) (Inv:=fun s i=>stOK s i) (n0:=e.2.1[k].2.2.2.2.2.2.2.1.foldl (LO st) e.1)
  (B:=fun v=>Cw (st,hi,e.2.1[k].1,e.2.1[k].2.1,e.2.1[k].2.2.1,e.2.1[k].2.2.2.1,e.2.1[k].2.2.2.2.1,e.2.1[k].2.2.2.2.2.1,e.2.1[k].2.2.2.2.2.2.1,e.2.1[k].2.2.2.2.2.2.2.1,e.2.1[k].2.2.2.2.2.2.2.2.1,0,0,0,0,0,0,0,e.2.1[k].1,e.2.1[k].2.1,2,e.2.1[k].2.2.2.1,lo,hi,st,e.2.1[k].2.2.2.2.2.2.2.1,e.2.1[k].2.2.2.2.2.2.2.2.1,()) v _ some)
  (fun i h s hI=>by
    obtain⟨a,h0,hlt,l,e1,e2,e3,hl⟩:=Jz hI.1 (hwr _ (List.getElem_mem h))
    have h5:=hI.2 l hl
    have hjl:l.length-1<l.length:=by omega
    have c1:(0:Int)<=(a:Int)/\(a:Int)<(s.length:Int):=by omega
    have c2:(0:Int)<=(l.length:Int)-1/\(l.length:Int)-1<(l.length:Int):=by omega
    have hj:((l.length:Int)-1).toNat=l.length-1:=by omega
    have c4:l.length+1<=879609302220:=by omega
    unfold Cw Oi
    simp only[decide_eq_true (by omega:(i:Int)<(e.2.1[k].2.2.2.2.2.2.2.2.1.length:Int)),cond_true,Al h,Option.bind_some,h0,c1.1,c1.2,true_and,and_self,if_true,Nat.zero_add,Int.toNat_natCast,e1,GI (by omega:l.length<9223372036854775808),c2.1,c2.2,hj,List.getElem?_eq_getElem hjl,List.length_set,Hq hlt,IR,List.length_append,List.length_cons,List.length_nil,c4,An h (by have:=hsm.2;omega),e3,d6,Nat.le_refl,Nat.zero_lt_one])
  (fun i h s hI=>RU st _ hi hI)
  f2.1
  (fun s=>by
    unfold Cw
    simp only[Int.lt_irrefl,decide_false,cond_false])
 erw [g1]
 rfl
end
end Go.Ab
end
section
namespace Go.Ab
theorem SO {e:EG}(H:OkG e){k:Nat}(hk:k<e.2.1.length)(ha:e.2.1[k].2.2.1=1)(ce:Bool):
 FN ((k:Int),Hj ce e)=some ((GU ce e k).1,ce,(GU ce e k).2.2.2.2.2,(GU ce e k).2.2.1,(GU ce e k).2.1,(GU ce e k).2.2.2.1,(GU ce e k).2.2.2.2.1,()):=by
 have hs:=H.small
 have hst0:=H.stamp0
 have hst1:=H.stamp
 have c0:(0:Int)<=(k:Int)/\(k:Int)<(e.2.1.length:Int):=by omega
 have hcc:=fI H hk ha
 have hft:=UJ H hk
 have hin:=WY H hk ha
 simp only[tup]at hcc hft hin
 unfold FN GU Hj
 simp only[c0,and_self,if_true,Nat.zero_add,Int.toNat_natCast,List.getElem?_eq_getElem hk,Option.bind_some,hcc]
 cases hc:(Ly e.1 e.2.1[k]==0)
 ·simp only[cond_false,Bool.not_false,cond_true,HA hk hs.fk hs.fw ce ha,Option.bind_some,Ik,EX]
 ·have hc':Ly e.1 e.2.1[k]=0:=by simpa using hc
  simp only[cond_true,Bool.not_true,cond_false]
  cases h9:(e.2.2.2.2==999)
  ·have h9':e.2.2.2.2≠999:=by simpa using h9
   have hw:IntKind.i64.wrap (e.2.2.2.2+1)=e.2.2.2.2+1:=CI (by omega) (by omega)
   have hfw:=ZK H hk ha (by omega)
   simp only[tup]at hfw
   simp only[cond_false,hc',beq_self_eq_true,cond_true,Fn,Ev,List.getElem?_eq_getElem hk,Option.bind_some,hw,hfw,hft,hin,Bool.not_true,cond_false]
   have hge:decide (hiP e.1 e.2.1[k] (e.2.2.2.2+1)<=loP e.1 e.2.1[k])=decide (loP e.1 e.2.1[k]>=hiP e.1 e.2.1[k] (e.2.2.2.2+1)):=rfl
   have hkset:k<(e.2.1.set k (LF e.2.1[k] (loP e.1 e.2.1[k]) (hiP e.1 e.2.1[k] (e.2.2.2.2+1)) (e.2.2.2.2+1))).length:=by simpa using hk
   have hend:=WZ (e:=(OH e.1 e.2.1[k] (e.2.2.2.2+1) (hiP e.1 e.2.1[k] (e.2.2.2.2+1)),e.2.1.set k (LF e.2.1[k] (loP e.1 e.2.1[k]) (hiP e.1 e.2.1[k] (e.2.2.2.2+1)) (e.2.2.2.2+1)),e.2.2.1,e.2.2.2.1,e.2.2.2.2+1)) hkset hs.fk hs.fw ce (by simp[LF])
   simp only[LF,List.getElem_set_self]at hend
   rw[hge]
   cases ce
   ·simp only[cond_false,Bool.false_and,Bool.false_or]
    cases Mz e.1 e.2.1[k]
    ·simp only[Bool.not_false,Bool.not_true,cond_false,cond_true,Rp,Option.bind_some,c0.1,c0.2,and_self,if_true,Nat.zero_add,Int.toNat_natCast,List.getElem?_eq_getElem hk,hend,Ik,LF]
    ·simp only[Bool.not_true,Bool.not_false,cond_true,cond_false,Rp,HA hk hs.fk hs.fw _ ha,Option.bind_some,Ik,EX]
   ·simp only[cond_true,Bool.true_and]
    cases decide (loP e.1 e.2.1[k]>=hiP e.1 e.2.1[k] (e.2.2.2.2+1))
    ·simp only[cond_false,Bool.false_or]
     cases Mz e.1 e.2.1[k]
     ·simp only[Bool.not_false,Bool.not_true,cond_false,cond_true,Rp,Option.bind_some,c0.1,c0.2,and_self,if_true,Nat.zero_add,Int.toNat_natCast,List.getElem?_eq_getElem hk,hend,Ik,LF]
     ·simp only[Bool.not_true,Bool.not_false,cond_true,cond_false,Rp,HA hk hs.fk hs.fw _ ha,Option.bind_some,Ik,EX]
    ·simp only[cond_true,Bool.true_or,Rp,cond_false,HA hk hs.fk hs.fw _ ha,Option.bind_some,Ik,EX]
  ·simp only[cond_true]
theorem fB {e:EG}(hs:SmallE e.1 e.2.1 e.2.2.1 e.2.2.2.1)(ce:Bool)(o:OPt):
 FP ((ce,(e.1,()),e.2.1,e.2.2.1,e.2.2.2.1,e.2.2.2.2,()),o,())=bif okE e.1 e.2.1 e.2.2.1 e.2.2.2.1 e.2.2.2.2&&Lo o then(let r:=JX ce e o;some (ce,r.2.2.2.2.2.2,r.1,r.2.2.1,r.2.2.2.1,r.2.2.2.2.1,r.2.2.2.2.2.1,r.2.1,()))else some (ce,e.2.2.2.2,6,e.1,e.2.1,e.2.2.1,e.2.2.2.1,[],()):=by
 unfold FP
 have hop:=WX o
 simp only[TC hs,iI hs,TE hs.fl,Option.bind_some]
 cases hE:okE e.1 e.2.1 e.2.2.1 e.2.2.2.1 e.2.2.2.2
 ·simp only[Bool.not_false,cond_true,Bool.false_and,cond_false]
 ·simp only[Bool.not_true,cond_false,Bool.true_and]
  erw [hop]
  simp only[Option.bind_some]
  cases ho:Lo o
  ·simp only[Bool.not_false,cond_true,cond_false]
  ·have H:=(TD e).1 hE
   obtain⟨o1,o2,o3,o4,o5,o6⟩:=(QK o).1 ho
   simp only[Bool.not_true,cond_false,cond_true,gz]
   unfold JX
   cases h1:(o.1==1)
   ·simp only[cond_false]
    rcases gQ H o.2.1 with⟨ha,k,hk,hf,h2,h3⟩|ha
    ·have hw:=H.wake o.2.1
     have hwk:=WV (l:=e.2.2.2.1) hs.fw o.2.1
     have h2':(e.2.1[k].2.2.1 != 1)=false:=by rw[h2];rfl
     have kR:=QB hw (k:=k) hk h2 (key:=o.2.2.2.1) (ce:=ce)
     have kS:=WW hw (k:=k) hk h2 (lo:=o.2.2.2.1) (hi:=o.2.2.2.2.1) (ce:=ce)
     have kW:=fun h h'=>UG hw (k:=k) hk h2 (key:=o.2.2.2.1) (val:=o.2.2.2.2.2.1) h h' o.1 o.2.1 o.2.2.1 o.2.2.2.2.1 ce
     have kC:=SO hw (k:=k) hk h2 ce
     have kE:=HA (e:=(e.1,e.2.1,e.2.2.1,wkW e.2.2.2.1 o.2.1,e.2.2.2.2)) hk hs.fk hw.small.fw ce h2
     simp only[Hj]at kR kS kW kC kE
     simp only[hf,ha,Option.isNone_some,cond_true,show(!(false==false))=false from rfl,cond_false,fx,Al hk,Option.bind_some,h2',hwk]
     cases h4:(o.1==2)
     ·simp only[cond_false]
      cases h5:(o.1==4)
      ·simp only[cond_false]
       cases h6:(o.1==3)
       ·simp only[cond_false]
        cases h7:(o.1==5)
        ·simp only[cond_false,List.getElem?_eq_getElem hk]
         erw [kE]
         rfl
        ·simp only[cond_true]
         erw [kC]
         rfl
       ·simp only[h6,Bool.or_true,Bool.true_or,cond_true]at o4 o6
        simp only[cond_true]
        erw [kW o4 o6]
        rfl
      ·simp only[h5,Bool.or_true,cond_true]at o4 o5
       rw[Bc]at o4 o5
       simp only[cond_true]
       erw [kS o4.1 (by omega) o5.2]
       rfl
     ·simp only[h4,Bool.true_or,cond_true]at o4
      simp only[cond_true]
      erw [kR o4]
      simp only[Option.bind_some,DJ]
      cases hz:(Fc (e.1,e.2.1,e.2.2.1,wkW e.2.2.2.1 o.2.1,e.2.2.2.2) k o.2.2.2.1).2.1==0 with
      |false=>rfl
      |true=>
       have hz':(Fc (e.1,e.2.1,e.2.2.1,wkW e.2.2.2.1 o.2.1,e.2.2.2.2) k o.2.2.2.1).2.1=0:=by simpa using hz
       simp only[hz']
       rfl
    ·cases hf:e.2.1.findIdx? (fun t=>t.1==o.2.1)with
     |none=>simp only[ha,Bool.not_false,Option.isNone_none,show(!(false==true))=true from rfl,cond_true]
     |some k=>
      obtain⟨hk,h2,h3⟩:=List.findIdx?_eq_some_iff_getElem.1 hf
      have h2':(e.2.1[k].2.2.1 != 1)=true:=by
       cases hx:(e.2.1[k].2.2.1==1)with
       |false=>simp only[bne,hx,Bool.not_false]
       |true=>
        rw[(J2 H.txU o.2.1).2 ⟨_,List.getElem_mem hk,by simpa using h2,by simpa using hx⟩]at ha
        cases ha
      simp only[ha,Bool.not_false,Option.isNone_some,show(!(false==false))=false from rfl,cond_false,fx,Al hk,Option.bind_some,h2',cond_true]
   ·simp only[h1,cond_true]at o3
    have hst:inB e.2.2.2.2 0 999=true:=Bc.2 ⟨H.stamp0,H.stamp⟩
    have hT:okT o.2.1 o.2.2.1 1 e.2.2.2.2 0 1000 0 [] []=true:=UZ o2 o3 hst
    have hn:Ew (o.2.1,o.2.2.1,e.2.2.2.2,())=some (o.2.1,o.2.2.1,1,e.2.2.2.2,0,1000,0,true,()):=by
     unfold Ew
     simp only[Q7 (rd:=[]) (wr:=[]) (Nat.zero_le _) (Nat.zero_le _),hT,Option.bind_some,Bool.not_true,cond_false]
    have h6:((e.2.1.length:Int)==6)=(e.2.1.length==6):=by rw[Bool.eq_iff_iff,beq_iff_eq,beq_iff_eq];omega
    have hany:(e.2.1.findIdx? fun t=>t.1==o.2.1).isNone=!(e.2.1.any fun t=>t.1==o.2.1):=by
     rw[<-List.findIdx?_isSome];cases e.2.1.findIdx? _<;>rfl
    unfold JW
    simp only[cond_true,hany,h6,hn,Option.bind_some]
    cases hh:(e.2.1.any fun t=>t.1==o.2.1)
    ·simp only[Bool.not_false,show(!(true==true))=false from rfl,cond_false,Bool.false_or]
     cases h7:(e.2.1.length==6)
     ·simp only[cond_false]
      refine(Mn (l:=e.2.1) (p:=fun x=>decide (x.1<o.2.1)) hs.fl (fun i h=>?_) ?_ _).trans ?_
      ·have c:(0:Int)<=(i:Int)/\(i:Int)<(e.2.1.length:Int):=by omega
       unfold CZ
       simp only[decide_eq_true c.2,cond_true,c.1,c.2,and_self,if_true,Nat.zero_add,Int.toNat_natCast,List.getElem?_eq_getElem h,Option.bind_some,An h (by have:=hs.fl;omega)]
       cases decide (e.2.1[i].1<o.2.1)<;>rfl
      ·unfold CZ
       simp only[Int.lt_irrefl,decide_false,cond_false]
      ·have hle:=TV (l:=e.2.1) (p:=fun x=>decide (x.1<o.2.1))
       have hfl:=hs.fl
       rw[Vu H]at hh
       generalize hc:(e.2.1.takeWhile fun x=>decide (x.1<o.2.1)).length=c at hle
       rw[Oq (m:=LG o.2.1 o.2.2.1 e.2.2.2.2) hc]
       have q1:(e.2.1.take c).length<=338311270084:=by simp;omega
       have q2:(e.2.1.take c++[LG o.2.1 o.2.2.1 e.2.2.2.2]).length<=338311270084:=by simp;omega
       have q3:(e.2.1.take c++[LG o.2.1 o.2.2.1 e.2.2.2.2]++e.2.1.drop c).length<=338311270084:=by simp;omega
       have c1:(0:Int)<=0/\(0:Int)<=(c:Int)/\(c:Int)<=(e.2.1.length:Int):=by omega
       have c2:(0:Int)<=(c:Int)/\(c:Int)<=(e.2.1.length:Int)/\(e.2.1.length:Int)<=(e.2.1.length:Int):=by omega
       have hh':DX (fun x:TX=>x.1) e.2.1 (LG o.2.1 o.2.2.1 e.2.2.2.2).1=false:=hh
       simp only[A72,A71]
       rw[if_pos c1,if_pos q1]
       erw [if_pos q2]
       rw[if_pos c2]
       erw [if_pos q3]
       simp only[hh',cond_false]
       rfl
     ·simp only[cond_true]
    ·simp only[Bool.not_true,show(!(true==false))=true from rfl,cond_true,Bool.true_or]
end Go.Ab
end
section
namespace Go.Ab
theorem yk (a:List Int)(ha:a.length<=1048576):L7 (a,a,())=some (true,()):=by
 unfold L7
 simp only[bne_self_eq_false,cond_false]
 refine D5 a.length (fun j=>((j:Int),())) rfl (fun j hj=>?_) ⟨.inr (),?_,rfl⟩
 ·unfold Iz
  simp only[Al hj,Option.bind_some]
  rw[decide_eq_true (by omega),wr1 (by omega) (by omega)]
  simp only[cond_true,bne_self_eq_false,cond_false]
  rfl
 ·unfold Iz
  simp only
  rw[decide_eq_false (by omega)]
  rfl
def mk1 (k:Int):Int:=k
theorem jV (n:Nat)(k:Int)(h0:0<=k)(hk:k+n<9223372036854775000):K9 (mkL mk1 1 k n,k,())=some (k+n,()):=by
 unfold K9
 simp only
 refine D5 n (fun j=>(k+(j:Int),(j:Int),())) (by simp) (fun j hj=>?_) ⟨.inr (k+n,()),?_,rfl⟩
 ·unfold Hn
  have hg:lAt (mkL mk1 1 k n) (j:Int)=some (k+(j:Int)):=by
   rw[Al (by rw[AK];exact hj)]
   have:=Ow mk1 1 k n j hj
   rw[List.getElem?_eq_getElem (by rw[AK];exact hj)]at this
   rw[this];congr 1;unfold mk1;omega
  simp only[AK,hg,Option.bind_some]
  rw[decide_eq_true (by omega)]
  rw[wr1 (k:=k+(j:Int)) (by omega) (by omega),wr1 (k:=(j:Int)) (by omega) (by omega)]
  simp only[cond_true,bne_self_eq_false,cond_false]
  congr 3
  push_cast;omega
 ·unfold Hn
  simp only[AK]
  rw[decide_eq_false (by omega)]
  rfl
theorem Zs (k:Nat):∀(n:Nat) (key:Int) (out:List Int) (e:EG),(DJ k n key out e).2.1.length<=out.length+n
 |0,key,out,e=>by simp[DJ]
 |n+1,key,out,e=>by
  simp only[DJ]
  cases(Fc e k key).2.1==0
  ·simp only[cond_false,List.length_nil];omega
  ·simp only[cond_true]
   have:=Zs k n (key+1) (out++[(Fc e k key).1]) (Fc e k key).2.2
   simp only[List.length_append,List.length_cons,List.length_nil]at this
   omega
theorem A34 (ce:Bool)(e:EG){o:OPt}(ho:Lo o=true):(JX ce e o).2.1.length<=6:=by
 obtain⟨o1,o2,o3,o4,o5,o6⟩:=(QK o).1 ho
 unfold JX
 cases h1:o.1==1
 ·simp only[cond_false]
  cases e.2.1.findIdx? fun t=>t.1==o.2.1 with
  |none=>simp
  |some k=>
   simp only
   cases EB e.2.1 o.2.1
   ·simp
   ·simp only[cond_true]
    cases h2:o.1==2
    ·simp only[cond_false]
     cases h4:o.1==4
     ·simp only[cond_false]
      cases o.1==3
      ·simp only[cond_false]
       cases o.1==5
       ·simp only[cond_false]
        cases e.2.1[k]?<;>simp
       ·simp
      ·simp
     ·simp only[cond_true]
      simp only[h4,Bool.or_true,cond_true]at o4 o5
      rw[Bc]at o4 o5
      have:=Zs k (o.2.2.2.2.1-o.2.2.2.1+1).toNat o.2.2.2.1 [] (e.1,e.2.1,e.2.2.1,wkW e.2.2.2.1 o.2.1,e.2.2.2.2)
      simp only[List.length_nil]at this
      omega
    ·simp only[cond_true]
     have:=Zs k 1 o.2.2.2.1 [] (e.1,e.2.1,e.2.2.1,wkW e.2.2.2.1 o.2.1,e.2.2.2.2)
     simp only[List.length_nil]at this
     omega
 ·simp
noncomputable def seP (ce:Bool)(e:EG)(o:OPt):Int×List Int×EG:=bif okE e.1 e.2.1 e.2.2.1 e.2.2.2.1 e.2.2.2.2&&Lo o then JX ce e o else(6,[],e)
theorem Aod {e:EG}(hs:SmallE e.1 e.2.1 e.2.2.1 e.2.2.2.1)(ce:Bool)(o:OPt):
 FP ((ce,(e.1,()),e.2.1,e.2.2.1,e.2.2.2.1,e.2.2.2.2,()),o,())=some (ce,(seP ce e o).2.2.2.2.2.2,(seP ce e o).1,(seP ce e o).2.2.1,(seP ce e o).2.2.2.1,(seP ce e o).2.2.2.2.1,(seP ce e o).2.2.2.2.2.1,(seP ce e o).2.1,()):=by
 rw[fB hs]
 unfold seP
 cases okE e.1 e.2.1 e.2.2.1 e.2.2.2.1 e.2.2.2.2&&Lo o<;>rfl
end Go.Ab
end
section
namespace Go.Ab
end Go.Ab
end
section
namespace Go.Ab
def mk6 (k:Int):OPt:=(k,k+1,k+2,k+3,k+4,k+5,())
theorem A6x (v:OPt):M7 (v,v,())=some (true,()):=by
 simp[M7]
theorem qI (a:List OPt)(ha:a.length<9223372036854775000):K2 (a,a,())=some (true,()):=by
 unfold K2
 simp only[bne_self_eq_false,cond_false]
 refine D5 a.length (fun j=>((j:Int),())) rfl (fun j hj=>?_) ⟨.inr (),?_,rfl⟩
 ·unfold Hv
  simp only[Al hj,Option.bind_some,A6x]
  rw[decide_eq_true (by omega),wr1 (by omega) (by omega)]
  rfl
 ·unfold Hv
  simp only
  rw[decide_eq_false (by omega)]
  rfl
theorem A3h (row:List OPt)(k:Int)(h0:0<=k)(hk:k+6*row.length<9223372036854775000):
 MZ (k,row,())=some (k+6*row.length,mkL mk6 6 k row.length,()):=by
 unfold MZ
 simp only
 rw[GE (r:=(k+6*row.length,mkL mk6 6 k row.length,())) row.length (fun j=>(k+6*(j:Int),(j:Int),mkd mk6 6 k row j,()))]
 ·rfl
 ·simp only[KT];simp
 ·intro j hj
  unfold J9
  have hl:=Iy mk6 6 k row j (by omega)
  have hg:=MU mk6 6 k row j hj
  have hs:=MT mk6 6 k row j hj
  simp only[hl]
  rw[decide_eq_true (by omega),if_pos (by omega)]
  simp only[cond_true,Option.bind_some,Nat.zero_add,Int.toNat_natCast,hg,List.set_set,List.length_set,List.getElem?_set_self,hl,hj]
  rw[wr1 (k:=k+6*(j:Int)) (by omega) (by omega),wr1 (k:=k+6*(j:Int)+1) (by omega) (by omega),wr1 (k:=k+6*(j:Int)+1+1) (by omega) (by omega),wr1 (k:=k+6*(j:Int)+1+1+1) (by omega) (by omega),wr1 (k:=k+6*(j:Int)+1+1+1+1) (by omega) (by omega),wr1 (k:=k+6*(j:Int)+1+1+1+1+1) (by omega) (by omega),wr1 (k:=(j:Int)) (by omega) (by omega)]
  have e1:k+6*(j:Int)+1+1+1+1+1+1=k+6*((j+1:Nat):Int):=by push_cast;omega
  have e2:(k+6*(j:Int),k+6*(j:Int)+1,k+6*(j:Int)+1+1,k+6*(j:Int)+1+1+1,k+6*(j:Int)+1+1+1+1,k+6*(j:Int)+1+1+1+1+1,())=mk6 (k+6*(j:Int)):=by simp[mk6];omega
  rw[e1,e2,hs]
  simp[hj]
 ·unfold J9
  simp only[MV,AK]
  rw[decide_eq_false (by omega)]
  rfl
theorem sB (a:List OPt)(ha:a.length<=1048576):Jj (a,())=some (a,()):=by
 unfold Jj
 simp only
 rw[if_pos (by omega),Int.toNat_natCast]
 refine Mb ha (fun i h out ho=>?_) fun out=>?_
 ·unfold Hu
  simp only[Al h,Option.bind_some,LH]
  rw[decide_eq_true (by omega),if_pos (by omega),An h (by omega)]
  simp[ho,h]
 ·unfold Hu
  simp only
  rw[decide_eq_false (by omega)];rfl
theorem sC {a:List OPt}{l:Int}(ha:a.length<=maxLen)(h0:0<=l)(h1:l<=1048576):Na (a.length<=1048576) (LK (a,l,())):=Vy ha h0 h1
abbrev STp:=Int×List Int×Unit
theorem Axn {s:STp}(h:s.2.1.length<=1048576):O7 (s,s,())=some (true,()):=by
 unfold O7
 simp only[bne_self_eq_false,cond_false]
 erw [yk _ h]
 rfl
theorem Aoh (a:List STp)(ha:a.length<9223372036854775000)(h:∀s∈a,s.2.1.length<=1048576):NQ (a,a,())=some (true,()):=by
 unfold NQ
 simp only[bne_self_eq_false,cond_false]
 refine D5 a.length (fun j=>((j:Int),())) rfl (fun j hj=>?_) ⟨.inr (),?_,rfl⟩
 ·unfold Oe
  have h1:=Axn (h _ (List.getElem_mem hj))
  simp only[Al hj,Option.bind_some]
  erw [h1]
  rw[decide_eq_true (by omega),wr1 (by omega) (by omega)]
  rfl
 ·unfold Oe
  simp only
  rw[decide_eq_false (by omega)]
  rfl
theorem A6v (ts:List STp)(i:Nat)(hi:i<ts.length)(k:Int)(h0:0<=k)(hk:k+ts[i].2.1.length<9223372036854775000):
 Qc (i,k,ts,())=some (k+ts[i].2.1.length,ts.set i (ts[i].1,mkL mk1 1 k ts[i].2.1.length,()),()):=by
 unfold Qc
 simp only
 have hset0:ts.set i (ts[i].1,ts[i].2.1,())=ts:=by
  have:(ts[i].1,ts[i].2.1,())=ts[i]:=rfl
  rw[this];simp
 generalize htt:ts[i]=t at*
 have key:∀x:STp,(ts.set i x)[i]?=some x:=fun x=>by simp[hi]
 rw[GE (r:=(k+t.2.1.length,ts.set i (t.1,mkL mk1 1 k t.2.1.length,()),())) t.2.1.length (fun j=>(k+(j:Int),(j:Int),ts.set i (t.1,mkd mk1 1 k t.2.1 j,()),()))]
 ·rfl
 ·simp only[KT,hset0];simp
 ·intro j hj
  have hl:=Iy mk1 1 k t.2.1 j (by omega)
  have hg:=MU mk1 1 k t.2.1 j hj
  have hs:=MT mk1 1 k t.2.1 j hj
  have c1:(0:Int)<=(j:Int)/\(j:Int)<((t.2.1.length:Nat):Int):=by omega
  unfold Ma
  simp only[key,Option.bind_some,hl,if_pos c1,Nat.zero_add,Int.toNat_natCast,hg,List.set_set,List.length_set,List.getElem?_set_self,hj]
  rw[decide_eq_true (by omega),wr1 (k:=k+(j:Int)) (by omega) (by omega),wr1 (k:=(j:Int)) (by omega) (by omega)]
  have e1:k+(j:Int)+1=k+((j+1:Nat):Int):=by push_cast;omega
  have e2:mk1 (k+1*(j:Int))=k+(j:Int):=by unfold mk1;omega
  rw[e2]at hs
  rw[e1,hs]
  simp[hj]
 ·unfold Ma
  simp only[key,Option.bind_some,MV,AK]
  rw[decide_eq_false (by omega)]
  rfl
def A33 (k:Int)(t:STp):STp:=(k,mkL mk1 1 (k+1) t.2.1.length,())
def XH (k:Int)(t:STp):Int:=k+1+t.2.1.length
def g7:Int->List STp->List STp
 |_,[]=>[]
 |k,t::ts=>A33 k t::g7 (XH k t) ts
def Ry:Int->List STp->Int
 |k,[]=>k
 |k,t::ts=>Ry (XH k t) ts
theorem yQ (k:Int)(ts:List STp):k<=Ry k ts:=by
 induction ts generalizing k with
 |nil=>exact Int.le_refl k
 |cons t ts ih=>have:=ih (XH k t);unfold XH at this;simp only[Ry];unfold XH;omega
theorem Axq {a:List STp}:∀(k:Int),(∀t∈a,t.2.1.length<=1048576)->Ry k a<=k+1048577*a.length:=by
 induction a with
 |nil=>intro k _;simp[Ry]
 |cons r rs ih=>
  intro k h
  have h1:=ih (XH k r) (fun e he=>h e (List.mem_cons_of_mem _ he))
  have h2:=h r (List.mem_cons_self ..)
  unfold XH at h1
  simp only[Ry,List.length_cons]
  unfold XH
  push_cast
  omega
theorem Aan (ts:List STp)(k:Int)(h0:0<=k)(hk:Ry k ts<9223372036854775000)(hl:ts.length<9223372036854775000):PR (k,ts,())=some (Ry k ts,g7 k ts,()):=by
 unfold PR
 simp only
 have key:∀(rs pre:List STp) (k:Int),0<=k->Ry k rs<9223372036854775000->pre.length+rs.length<9223372036854775000->
  AC (fun v=>Jl () v _ some) (k,(pre.length:Int),pre++rs,())=some (Ry k rs,pre++g7 k rs,()):=by
  intro rs
  induction rs with
  |nil=>
   intro pre k h0 hk hl
   rw[AZ]
   unfold Jl
   simp only[List.append_nil]
   rw[decide_eq_false (by omega)]
   simp[Ry,g7]
  |cons t rs ih=>
   intro pre k h0 hk hl
   have hge:=yQ (XH k t) rs
   simp only[Ry]at hk
   have hge2:XH k t<9223372036854775000:=by omega
   unfold XH at hge2
   simp only[List.length_cons]at hl
   have hi:pre.length<(pre++t::rs).length:=by simp
   have hget:(pre++t::rs)[pre.length]?=some t:=by simp
   have keyS:∀x:STp,((pre++t::rs).set pre.length x)[pre.length]?=some x:=fun x=>by simp
   have c1:(0:Int)<=(pre.length:Int)/\(pre.length:Int)<(((pre++t::rs).length:Nat):Int):=by simp;omega
   have hR:=A6v ((pre++t::rs).set pre.length (k,t.2.1,())) pre.length (by simp) (k+1) (by omega) (by simp;omega)
   simp only[List.getElem_set_self,List.set_set]at hR
   have hset:(pre++t::rs).set pre.length (A33 k t)=(pre++[A33 k t])++rs:=by simp
   have hB:Jl () (k,(pre.length:Int),pre++t::rs,()) _ some=some (.inl (XH k t,(pre.length:Int)+1,(pre++[A33 k t])++rs,())):=by
    unfold Jl
    simp only[List.length_set,if_pos c1,Nat.zero_add,Int.toNat_natCast,hget,Option.bind_some,keyS,List.set_set]
    rw[decide_eq_true c1.2,wr1 (k:=k) (by omega) (by omega),wr1 (k:=(pre.length:Int)) (by omega) (by omega)]
    simp only[hR,Option.bind_some,cond_true]
    rw[<-hset]
    rfl
   rw[AZ,hB]
   have:=ih (pre++[A33 k t]) (XH k t) (by unfold XH;omega) hk (by simp;omega)
   simp only[List.length_append,List.length_cons,List.length_nil,Nat.zero_add,Int.natCast_add]at this
   rw[show((1:Nat):Int)=1 from rfl]at this
   simp only[Option.bind_some]
   rw[this]
   simp[Ry,g7]
 have:=key ts [] k h0 hk (by simpa using hl)
 simp only[List.length_nil,List.nil_append,Int.natCast_zero]at this
 rw[this];rfl
theorem Aap (ts:List STp)(k:Int)(h0:0<=k)(hk:Ry k ts<9223372036854775000)(hl:ts.length<9223372036854775000):Pf (g7 k ts,k,())=some (Ry k ts,()):=by
 unfold Pf
 simp only
 have key:∀(rs pre:List STp) (k:Int),0<=k->Ry k rs<9223372036854775000->pre.length+rs.length<9223372036854775000->
  AC (fun v=>Ke (pre++g7 k rs,()) v _ some) (k,(pre.length:Int),())=some (.inr (.inr (Ry k rs,()))):=by
  intro rs
  induction rs with
  |nil=>
   intro pre k h0 hk hl
   rw[AZ]
   unfold Ke
   simp only[g7,List.append_nil]
   rw[decide_eq_false (by omega)]
   simp[Ry]
  |cons t rs ih=>
   intro pre k h0 hk hl
   have hge:=yQ (XH k t) rs
   simp only[Ry]at hk
   have hge2:XH k t<9223372036854775000:=by omega
   unfold XH at hge2
   simp only[List.length_cons]at hl
   rw[AZ]
   simp only[g7]
   have:=ih (pre++[A33 k t]) (XH k t) (by unfold XH;omega) hk (by simp;omega)
   simp only[List.length_append,List.length_cons,List.length_nil,Nat.zero_add,Int.natCast_add,List.append_assoc,List.singleton_append]at this
   rw[show((1:Nat):Int)=1 from rfl]at this
   simp only[Ry]
   rw[<-this]
   have hB:Ke (pre++A33 k t::g7 (XH k t) rs,()) (k,(pre.length:Int),()) _ some=some (.inl (XH k t,(pre.length:Int)+1,())):=by
    unfold Ke
    have hg:lAt (pre++A33 k t::g7 (XH k t) rs) (pre.length:Int)=some (A33 k t):=by
     rw[Al (by simp)];simp
    simp only[hg,Option.bind_some]
    rw[decide_eq_true (by simp;omega),wr1 (k:=k) (by omega) (by omega),wr1 (k:=(pre.length:Int)) (by omega) (by omega)]
    simp only[A33,bne_self_eq_false,cond_true,cond_false,jV t.2.1.length (k+1) (by omega) (by omega),Option.bind_some]
    rw[decide_eq_false (by omega)]
    rfl
   rw[hB];rfl
 have:=key ts [] k h0 hk (by simpa using hl)
 simp only[List.length_nil,List.nil_append,Int.natCast_zero]at this
 rw[this];rfl
end Go.Ab
end
section
namespace Go.Ab
def iC:List (List VV):=List.replicate 6 [(0,-1,0,0,1000,())]
theorem Ad1:Ky ()=some (iC,()):=by
 unfold Ky
 refine D5 6 (fun j=>((j:Int),List.replicate j [(0,-1,0,0,1000,())],())) rfl (fun j hj=>?_) ⟨(iC,()),?_,rfl⟩
 ·unfold It
  simp only[List.length_append,List.length_replicate,List.length_cons,List.length_nil]
  rw[decide_eq_true (by omega),if_pos (by omega),wr1 (by omega) (by omega),<-List.replicate_succ']
  rfl
 ·rfl
theorem Ad2:KA ()=some (iC,()):=by
 unfold KA
 refine D5 6 (fun j=>((j:Int),List.replicate j [(0,-1,0,0,1000,())],())) rfl (fun j hj=>?_) ⟨(iC,()),?_,rfl⟩
 ·unfold IB
  simp only[List.length_append,List.length_replicate,List.length_cons,List.length_nil]
  rw[decide_eq_true (by omega),if_pos (by omega),wr1 (by omega) (by omega),<-List.replicate_succ']
  rfl
 ·rfl
def VI:EG:=(iC,[],[],[],0)
theorem iJ:OkG VI:=by
 have h1:LJ [((0,-1,0,0,1000,()):VV)]:=(J7 _).2 ⟨fun v hv=>by rw[List.mem_singleton]at hv;subst hv;rfl,List.pairwise_singleton _ _,_,rfl,rfl⟩
 refine⟨⟨rfl,fun l hl=>?_⟩,by decide,by decide,?_,List.Pairwise.nil,?_,List.Pairwise.nil,?_,List.Pairwise.nil,by decide,?_,?_⟩
 ·have:l=[((0,-1,0,0,1000,()):VV)]:=List.eq_of_mem_replicate hl
  subst this
  exact⟨h1,by decide⟩
 all_goals intro m hm;cases hm
theorem jS (ce:Bool):JY (ce,())=some (ce,0,iC,()):=by
 unfold JY
 rw[Ad1];rfl
theorem jU (ce:Bool):K4 (ce,())=some (ce,0,iC,()):=by
 unfold K4
 rw[Ad2];rfl
theorem OkG.se {e:EG}(H:OkG e)(ce:Bool)(o:OPt):OkG (seP ce e o).2.2/\(seP ce e o).2.1.length<=6:=by
 unfold seP
 rw[(TD e).2 H]
 cases ho:Lo o
 ·exact⟨H,by simp⟩
 ·exact⟨H.step ce ho,A34 ce e ho⟩
noncomputable def roF (ce:Bool)(r:EG×List STp)(o:OPt):EG×List STp:=((seP ce r.1 o).2.2,r.2++[((seP ce r.1 o).1,(seP ce r.1 o).2.1,())])
noncomputable def roG (ce:Bool)(l:List OPt)(i:Nat):EG×List STp:=(l.take i).foldl (roF ce) (VI,[])
theorem Aoj (ce:Bool){l:List OPt}{i:Nat}(h:i<l.length):roG ce l (i+1)=roF ce (roG ce l i) l[i]:=by
 unfold roG
 rw[<-List.take_append_getElem h,List.foldl_append];rfl
theorem ABi (ce:Bool)(l:List OPt):∀i,i<=l.length->OkG (roG ce l i).1/\(roG ce l i).2.length=i/\∀s∈(roG ce l i).2,s.2.1.length<=6:=by
 intro i
 induction i with
 |zero=>intro _;exact⟨iJ,rfl,fun s hs=>by simp[roG]at hs⟩
 |succ i ih=>
  intro h
  obtain⟨h1,h2,h3⟩:=ih (by omega)
  rw[Aoj ce h]
  have hs:=h1.se ce l[i]
  refine⟨hs.1,?_,?_⟩
  ·simp[roF,h2]
  ·intro s hm
   simp only[roF,List.mem_append,List.mem_singleton]at hm
   rcases hm with hm|rfl
   ·exact h3 s hm
   ·exact hs.2
theorem AIo (ce:Bool){l:List OPt}(hl:l.length<=1048576):
 qG (ce,l,())=some (ce,(roG ce l (min l.length 100)).1.2.2.2.2,(roG ce l (min l.length 100)).1.1,(roG ce l (min l.length 100)).1.2.1,(roG ce l (min l.length 100)).1.2.2.1,(roG ce l (min l.length 100)).1.2.2.2.1,(roG ce l (min l.length 100)).2,()):=by
 unfold qG
 simp only[jS,Option.bind_some]
 generalize hn:min l.length 100=n
 have hend:∃r,Wr (l,false,0,()) ((n:Int),ce,(roG ce l n).1.2.2.2.2,(roG ce l n).1.1,(roG ce l n).2,(roG ce l n).1.2.1,(roG ce l n).1.2.2.1,(roG ce l n).1.2.2.2.1,()) _ some=some (.inr r)/\Az r (fun p=>some (p.1,p.2.1,p.2.2.1,p.2.2.2.2.1,p.2.2.2.2.2.1,p.2.2.2.2.2.2.1,p.2.2.2.1,())) (fun p=>some (p.1,p.2.1,p.2.2.1,p.2.2.2.2.1,p.2.2.2.2.2.1,p.2.2.2.2.2.2.1,p.2.2.2.1,()))=some (ce,(roG ce l n).1.2.2.2.2,(roG ce l n).1.1,(roG ce l n).1.2.1,(roG ce l n).1.2.2.1,(roG ce l n).1.2.2.2.1,(roG ce l n).2,()):=by
  unfold Wr
  simp only
  by_cases h:n<l.length
  ·rw[decide_eq_true (by omega),decide_eq_false (by omega)]
   exact⟨_,rfl,rfl⟩
  ·rw[decide_eq_false (by omega)]
   exact⟨_,rfl,rfl⟩
 refine D5 n (fun i=>((i:Int),ce,(roG ce l i).1.2.2.2.2,(roG ce l i).1.1,(roG ce l i).2,(roG ce l i).1.2.1,(roG ce l i).1.2.2.1,(roG ce l i).1.2.2.2.1,())) rfl (fun i hi=>?_) hend
 have h:i<l.length:=by omega
 obtain⟨k1,k2,k3⟩:=ABi ce l i (by omega)
 have hst:=Aod k1.small ce l[i]
 unfold Wr
 simp only[Al h,Option.bind_some]
 rw[decide_eq_true (by omega),decide_eq_true (by omega),An h (by omega),Aoj ce h]
 simp only[cond_true]
 erw [hst]
 simp only[Option.bind_some]
 rw[if_pos (by simp[k2];omega)]
 rfl
theorem AGf {α:Type}{l:List α}{n:Nat}(h:n<=l.length):Hz l 0 (n:Int)=some (l.take n):=by
 unfold Hz
 rw[if_pos (by omega)];simp
theorem AIt (ce:Bool){l:List OPt}(hl:l.length<=1048576):
 iD (ce,l,())=some (ce,(roG ce l (min l.length 100)).1.2.2.2.2,(roG ce l (min l.length 100)).1.1,(roG ce l (min l.length 100)).1.2.1,(roG ce l (min l.length 100)).1.2.2.1,(roG ce l (min l.length 100)).1.2.2.2.1,(roG ce l (min l.length 100)).2,()):=by
 unfold iD
 have hmn:mn (l.length:Int) 100=((min l.length 100:Nat):Int):=by unfold mn;split<;>omega
 have hsl:=AGf (l:=l) (n:=min l.length 100) (by omega)
 simp only[jU,Option.bind_some,hmn]
 erw [hsl]
 simp only[Option.bind_some]
 have hn1:min l.length 100<=l.length:=by omega
 have hn2:min l.length 100<=100:=by omega
 generalize min l.length 100=n at hn1 hn2
 have hlen:(l.take n).length=n:=by simp;omega
 refine D5 n (fun i=>((i:Int),ce,(roG ce l i).1.2.2.2.2,(roG ce l i).1.1,(roG ce l i).2,(roG ce l i).1.2.1,(roG ce l i).1.2.2.1,(roG ce l i).1.2.2.2.1,())) rfl (fun i hi=>?_) ⟨(ce,(roG ce l n).1.2.2.2.2,(roG ce l n).1.1,(roG ce l n).2,(roG ce l n).1.2.1,(roG ce l n).1.2.2.1,(roG ce l n).1.2.2.2.1,()),?_,rfl⟩
 ·have h:i<l.length:=by omega
  obtain⟨k1,k2,k3⟩:=ABi ce l i (by omega)
  have hop:=fP l[i]
  have hg:lAt (l.take n) (i:Int)=some l[i]:=by
   rw[Al (by omega)];simp
  unfold ae
  rw[Aoj ce h]
  simp only[hlen]
  erw [hg]
  simp only[Option.bind_some]
  rw[decide_eq_true (by omega),An h (by omega)]
  simp only[cond_true]
  erw [hop]
  simp only[Option.bind_some]
  cases ho:Lo l[i]
  ·simp only[cond_false]
   rw[if_pos (by simp[k2];omega)]
   simp only[roF,seP,ho,Bool.and_false,cond_false]
  ·have hst:=X3 k1 ho ce
   simp only[Hj]at hst
   simp only[cond_true]
   erw [hst]
   simp only[Option.bind_some,VH]
   rw[if_pos (by simp[k2];omega)]
   simp only[roF,seP,ho,(TD _).2 k1,Bool.and_self,cond_true]
 ·unfold ae
  simp only[hlen]
  rw[decide_eq_false (by omega)];rfl
def law_tsRO:List Ty:=[.bool,.slice YOp]
theorem law_RunOps (x:den (Ja law_tsRO).ty)(hx:wf (Ja law_tsRO).ty x):gj x=some (true,()):=by
 obtain⟨ce,l,_⟩:=x
 have hl:=hx.2.1.1
 unfold gj
 refine rK (sC hl (by omega) (by omega)) fun n2 h2 h3 hL=>?_
 have hL:List.length (α:=OPt) l<=1048576:=hL
 have e1:=AIo ce hL
 have e2:=AIt ce hL
 have eO:=sB l hL
 have eQ:=qI l (by omega)
 have eM:=A3h l 1 (by omega) (by omega)
 obtain⟨hC,hv,hu⟩:=ABi ce l (min (List.length (α:=OPt) l) 100) (by omega)
 have hC:=hC.small
 have hv:(roG ce l (min (List.length (α:=OPt) l) 100)).2.length<=100:=by omega
 erw [eO]
 simp only[Option.bind_some]
 erw [e1]
 simp only[Option.bind_some]
 erw [e2]
 generalize roG ce l (min (List.length (α:=OPt) l) 100)=r at hC hv hu e2 ⊢
 obtain⟨c1,c2,c3,c4,c5⟩:=PY hC
 have hS:=Axq (a:=r.2) (enE r.1.1 r.1.2.1 r.1.2.2.1 r.1.2.2.2.1) (fun s hs=>by have:=hu s hs;omega)
 have hS0:=yQ (enE r.1.1 r.1.2.1 r.1.2.2.1 r.1.2.2.2.1) r.2
 have d1:decide (1+6*((List.length (α:=OPt) l:Nat):Int)<0)=false:=decide_eq_false (by omega)
 have d2:decide (enE r.1.1 r.1.2.1 r.1.2.2.1 r.1.2.2.2.1<0)=false:=decide_eq_false (by omega)
 have d3:decide (Ry (enE r.1.1 r.1.2.1 r.1.2.2.1 r.1.2.2.2.1) r.2<0)=false:=decide_eq_false (by omega)
 have hq:NQ (r.2,r.2,())=some (true,()):=Aoh r.2 (by omega) (fun s hs=>by have:=hu s hs;omega)
 have hm:=Aan r.2 (enE r.1.1 r.1.2.1 r.1.2.2.1 r.1.2.2.2.1) (by omega) (by omega) (by omega)
 have hh:=Aap r.2 (enE r.1.1 r.1.2.1 r.1.2.2.1 r.1.2.2.2.1) (by omega) (by omega) (by omega)
 simp only[Option.bind_some,X7 hC,hq,Bool.not_true,cond_false]
 erw [eQ]
 simp only[Option.bind_some,Bool.not_true,cond_false]
 erw [eM]
 simp only[Option.bind_some,d1,cond_false,ST hC,hm,Wf hC,d2,hh,d3,bne_self_eq_false]
end Go.Ab
end
