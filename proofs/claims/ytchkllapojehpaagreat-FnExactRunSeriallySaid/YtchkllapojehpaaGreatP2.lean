import Derived.Test.YtchkllapojehpaaGreatP1
set_option linter.all false
section
namespace Go.Ab
section
variable {e:EG}(H:OkG e){k:Nat}(hk:k<e.2.1.length)(ha:e.2.1[k].2.2.1=1)
include H hk ha
theorem fI:Gl ((e.1,()),tup e.2.1[k],())=some (Ly e.1 e.2.1[k],()):=by
 have hg:=NO H hk ha (key:=0) rfl
 have hwl:=(H.smT hk).2
 have hwr:=H.wrIn hk
 simp only[tup]at hg
 unfold Gl Ly
 simp only[hg,Option.bind_some,Bool.not_true,cond_false]
 have hD:∀i (h:i<e.2.1[k].2.2.2.2.2.2.2.2.1.length),∀(hc:Bool),decide (crV (DM e.1 e.2.1[k].2.2.2.2.2.2.2.2.1[i].1)>e.2.1[k].2.2.2.1)=hc->
  Bu (e.1,tup e.2.1[k]) ((i:Int),()) _ some=bif !hc then some (.inl (((i+1:Nat):Int),()))else bif e.2.1[k].2.1==2 then some (.inr (.inl ()))else bif e.2.1[k].2.1==4 then some (.inr (.inr (.inl ())))else some (.inl (((i+1:Nat):Int),())):=by
  intro i h hc hh
  obtain⟨n,hn,v,e1,e2,e3,e4,e5,e6,e7⟩:=H.ltst (hwr _ (List.getElem_mem h))
  have hmem:=List.getElem_mem hn
  rw[e5,crV]at hh
  have hnn:decide (v.2.2.1<=e.2.1[k].2.2.2.1)=!hc:=by
   cases hc
   ·have:=of_decide_eq_false hh;exact decide_eq_true (by omega)
   ·have:=of_decide_eq_true hh;exact decide_eq_false (by omega)
  unfold Bu
  simp only[Al h,Option.bind_some,decide_eq_true (by omega:(i:Int)<(e.2.1[k].2.2.2.2.2.2.2.2.1.length:Int)),cond_true,An h (by omega),e6,JN (H.small.fs.2 _ hmem) (H.gd.ok _ hmem).1 e4,hnn]
 have hE:Bu (e.1,tup e.2.1[k]) ((e.2.1[k].2.2.2.2.2.2.2.2.1.length:Int),()) _ some=some (.inr (.inr (.inr ()))):=by
  unfold Bu
  simp only[Int.lt_irrefl,decide_false,cond_false]
 have hsplit:∀(p:VM->Bool) (l:List VM),(dec (∀i,i<l.length->∃h:i<l.length,p l[i]=false))=!l.any p:=by
  intro p l
  cases hb:l.any p with
  |false=>
   rw[List.any_eq_false]at hb
   exact AH fun i h=>⟨h,by simpa using hb _ (List.getElem_mem h)⟩
  |true=>
   obtain⟨x,hx,hp⟩:=List.any_eq_true.1 hb
   obtain⟨i,hi,rfl⟩:=List.getElem_of_mem hx
   exact BM fun h=>by obtain⟨_,h2⟩:=h i hi;rw[hp]at h2;cases h2
 cases h2:(e.2.1[k].2.1==2||e.2.1[k].2.1==4)
 ·have h2':=Bool.or_eq_false_iff.1 h2
  refine(Cj (B:=fun v=>Bu (e.1,tup e.2.1[k]) v _ some) (n:=e.2.1[k].2.2.2.2.2.2.2.2.1.length) (c:=fun _=>True) (X:=some (0,())) (no:=none) (fun i h=>⟨fun _=>?_,fun hn=>absurd trivial hn⟩) ⟨.inr (.inr ()),hE,rfl⟩).trans ?_
  ·refine(hD i h _ rfl).trans ?_
   simp only[h2'.1,h2'.2,cond_false]
   cases decide (crV (DM e.1 e.2.1[k].2.2.2.2.2.2.2.2.1[i].1)>e.2.1[k].2.2.2.1)<;>rfl
  ·rw[AH (fun i h=>trivial)]
   simp only[cond_true,h2'.1,h2'.2,cond_false]
   cases e.2.1[k].2.2.2.2.2.2.2.2.1.any _<;>rfl
 ·refine(Cj (B:=fun v=>Bu (e.1,tup e.2.1[k]) v _ some) (n:=e.2.1[k].2.2.2.2.2.2.2.2.1.length) (c:=fun i=>∃h:i<e.2.1[k].2.2.2.2.2.2.2.2.1.length,(fun m:VM=>decide (crV (DM e.1 m.1)>e.2.1[k].2.2.2.1)) e.2.1[k].2.2.2.2.2.2.2.2.1[i]=false) (X:=some (0,())) (no:=some (bif e.2.1[k].2.1==2 then 2 else 3,())) (fun i h=>⟨fun hc=>?_,fun hn=>?_⟩) ⟨.inr (.inr ()),hE,rfl⟩).trans ?_
  ·obtain⟨_,hc⟩:=hc
   exact(hD i h false hc).trans rfl
  ·have hc:decide (crV (DM e.1 e.2.1[k].2.2.2.2.2.2.2.2.1[i].1)>e.2.1[k].2.2.2.1)=true:=by
    cases hd:decide (crV (DM e.1 e.2.1[k].2.2.2.2.2.2.2.2.1[i].1)>e.2.1[k].2.2.2.1)with
    |true=>rfl
    |false=>exact absurd ⟨h,hd⟩ hn
   cases h3:e.2.1[k].2.1==2
   ·have h4:(e.2.1[k].2.1==4)=true:=by rw[h3]at h2;exact h2
    exact⟨_,(hD i h true hc).trans (by simp only[Bool.not_true,cond_false,h3,h4,cond_true];rfl),rfl⟩
   ·exact⟨_,(hD i h true hc).trans (by simp only[Bool.not_true,cond_false,h3,cond_true];rfl),rfl⟩
  ·have hs:=hsplit (fun m:VM=>decide (crV (DM e.1 m.1)>e.2.1[k].2.2.2.1)) e.2.1[k].2.2.2.2.2.2.2.2.1
   erw [hs]
   cases e.2.1[k].2.2.2.2.2.2.2.2.1.any _
   ·rfl
   ·cases h3:e.2.1[k].2.1==2
    ·have h4:(e.2.1[k].2.1==4)=true:=by rw[h3]at h2;exact h2
     simp only[h4,cond_true,cond_false,Bool.not_true]
    ·simp only[cond_true,cond_false,Bool.not_true]
omit ha in
theorem fC:Gk ((e.1,()),tup e.2.1[k],())=some (rlP e.1 e.2.1[k],()):=by
 have hsm:=H.smT hk
 have hwr:=H.wrIn hk
 have htx:=Ot hsm
 simp only[tup]at htx
 unfold Gk rlP
 simp only[Lj H.small.fs,AH H.st,htx,H.txOk hk,Option.bind_some,Bool.not_true,cond_false]
 refine G9 (l:=e.2.1[k].2.2.2.2.2.2.2.1) (f:=fun n m=>mx n m.2.1) (X:=fun n=>(AC (fun v=>Cy (e.1,tup e.2.1[k]) v _ some) (n,0,())).bind fun p=>some (p.1,())) 0 (fun i h n=>?_) (fun n=>⟨(n,()),?_,rfl⟩) ?_
 ·unfold Df
  simp only[Al h,Option.bind_some]
  rw[decide_eq_true (by omega),An h (by have:=hsm.1;omega)];rfl
 ·unfold Df
  simp only
  rw[decide_eq_false (by omega)];rfl
 ·refine G9 (l:=e.2.1[k].2.2.2.2.2.2.2.2.1) (f:=fun n m=>mx n (KL (DM e.1 m.1))) (X:=fun n=>some (n,())) _ (fun i h n=>?_) (fun n=>⟨(n,()),?_,rfl⟩) rfl
  ·obtain⟨n',hn,v,e1,e2,e3,e4,e5,e6,e7⟩:=H.ltst (hwr _ (List.getElem_mem h))
   have hmem:=List.getElem_mem hn
   unfold Cy
   simp only[tup,Al h,Option.bind_some,e6,JN (H.small.fs.2 _ hmem) (H.gd.ok _ hmem).1 e4,e5,KL]
   rw[decide_eq_true (by omega),An h (by have:=hsm.2;omega)];rfl
  ·unfold Cy
   simp only[tup]
   rw[decide_eq_false (by omega)];rfl
theorem ZK (hst:e.2.2.2.2+1<=999):El ((e.1,()),tup e.2.1[k],e.2.2.2.2+1,())=some (loP e.1 e.2.1[k],hiP e.1 e.2.1[k] (e.2.2.2.2+1),true,()):=by
 have hsm:=H.smT hk
 have hx:=(H.txA _ (List.getElem_mem hk)).2.2.2 ha
 have hrl:=fC H hk
 have hrh:=fD H.small.fs H.st _ hsm (H.txOk hk) hx
 have hex:=QF H.small.fs H.st hsm.1 hsm.2 (H.txOk hk) (H.rdIn hk)
 have ha':(e.2.1[k].2.2.1 != 1)=false:=by rw[ha];rfl
 have h0:=H.stamp0
 have hl:=H.last
 have hl0:0<=e.1.foldl IW 0:=((OC e.1 0).1 (Int.le_refl _)).1
 have hw:IntKind.i64.wrap (e.1.foldl IW 0+1)=e.1.foldl IW 0+1:=CI (by omega) (by omega)
 have hi:inB (e.2.2.2.2+1) (e.1.foldl IW 0+1) 999=true:=Bc.2 ⟨by omega,hst⟩
 simp only[tup]at hrl
 unfold El
 simp only[hex,AH hx,Option.bind_some,Bool.not_true,cond_false,ha',QC H.small.fs H.st,hw,Dq,hi,hrl,hrh,loP,hiP]
omit ha in
theorem UJ:Ff ((e.1,()),tup e.2.1[k],())=some (!Mz e.1 e.2.1[k],()):=by
 have hwl:=(H.smT hk).2
 have hwr:=H.wrIn hk
 unfold Ff
 have hsp:∀m∈e.2.1[k].2.2.2.2.2.2.2.2.1,∃(n:Nat) (hn:n<e.1.length),lAt e.1 m.1=some e.1[n]/\e.1[m.1.toNat]?=some e.1[n]:=fun m hm=>by
  obtain⟨n,hn,e1,e2,e3⟩:=Ti H.gd.six (hwr m hm)
  exact⟨n,hn,e2,e3⟩
 have he:=Lt (B:=fun v=>Ej (e.1,tup e.2.1[k]) v _ some) (l:=e.2.1[k].2.2.2.2.2.2.2.2.1) (fun i=>((i:Int),())) (fun m=>match e.1[m.1.toNat]? with|some l=>decide (l.length>=50)|none=>false) (fd:=fun i=>.inl ()) (no:=.inr ()) (fun i h=>by
  obtain⟨n,hn,q1,q2⟩:=hsp _ (List.getElem_mem h)
  have q3:decide ((e.1[n].length:Int)>=50)=decide (e.1[n].length>=50):=by
   rw[Bool.eq_iff_iff,decide_eq_true_eq,decide_eq_true_eq];omega
  unfold Ej
  simp only[tup,Al h,Option.bind_some,decide_eq_true (by omega:(i:Int)<(e.2.1[k].2.2.2.2.2.2.2.2.1.length:Int)),cond_true,An h (by omega),q1,q2,q3]
  cases decide (e.1[n].length>=50)<;>rfl) (by
  unfold Ej
  simp only[tup,Int.lt_irrefl,decide_false,cond_false]) (t0:=(0,())) rfl
 erw [he]
 unfold Mz
 cases hf:e.2.1[k].2.2.2.2.2.2.2.2.1.findIdx? (fun m=>match e.1[m.1.toNat]? with|some l=>decide (l.length>=50)|none=>false)with
 |none=>
  have:=congrArg Option.isSome hf
  rw[List.findIdx?_isSome]at this
  simp only[Option.bind_some,Az]
  erw [this];rfl
 |some i=>
  have:=congrArg Option.isSome hf
  rw[List.findIdx?_isSome]at this
  simp only[Option.bind_some,Az]
  erw [this];rfl
theorem WY (st lo hi:Int):Dd ((e.1,()),tup e.2.1[k],st,lo,hi,())=some (e.2.1[k].1,e.2.1[k].2.1,2,e.2.1[k].2.2.2.1,lo,hi,st,OH e.1 e.2.1[k] st hi,e.2.1[k].2.2.2.2.2.2.2.1,e.2.1[k].2.2.2.2.2.2.2.2.1,()):=by
 have hsm:=H.smT hk
 have hwr:=H.wrIn hk
 have hrd:=H.rdIn hk
 have hx:=(H.txA _ (List.getElem_mem hk)).2.2.2 ha
 have hwl:=QI ((CF _).1 (H.txOk hk)).2.1
 unfold Dd OH
 simp only[QG H.small.fs,MR _ hsm,Option.bind_some]
 obtain⟨f1,f2⟩:=Lw (l:=e.2.1[k].2.2.2.2.2.2.2.1) (f:=LO st) (Inv:=fun s i=>stOK s 0/\∀m∈e.2.1[k].2.2.2.2.2.2.2.1,Gt s m) (n0:=e.1)
  (B:=fun v=>CP (st,hi,e.2.1[k].1,e.2.1[k].2.1,e.2.1[k].2.2.1,e.2.1[k].2.2.2.1,e.2.1[k].2.2.2.2.1,e.2.1[k].2.2.2.2.2.1,e.2.1[k].2.2.2.2.2.2.1,e.2.1[k].2.2.2.2.2.2.2.1,e.2.1[k].2.2.2.2.2.2.2.2.1,0,0,0,0,0,0,0,e.2.1[k].1,e.2.1[k].2.1,2,e.2.1[k].2.2.2.1,lo,hi,st,e.2.1[k].2.2.2.2.2.2.2.1,e.2.1[k].2.2.2.2.2.2.2.2.1,()) v _ some)
  (fun i h s hI=>by
    obtain⟨_,hm,_⟩:=hrd i h
    obtain⟨a,h0,hlt,l,e1,e2,e3,hl⟩:=Jz hI.1.1 hm
    obtain⟨l',j,x1,x2⟩:=hI.2 _ (List.getElem_mem h)
    rw[e3]at x1;obtain rfl:l=l':=(by simpa using x1)
    have hj:=Q2 x2
    have hls:=(hI.1.small (by omega)).2 _ hl
    have c1:(0:Int)<=(a:Int)/\(a:Int)<(s.length:Int):=by omega
    have c2:(0:Int)<=(j:Int)/\(j:Int)<(l.length:Int):=by omega
    unfold CP LO
    simp only[decide_eq_true (by omega:(i:Int)<(e.2.1[k].2.2.2.2.2.2.2.1.length:Int)),cond_true,Al h,Option.bind_some,h0,c1,and_self,if_true,Nat.zero_add,Int.toNat_natCast,e1,QE hls,x2,fx,c2,List.getElem?_eq_getElem hj,An h (by have:=hsm.1;omega),e3,Rk])
  (fun i h s hI=>⟨RV st hI.1,fun m hm=>Pl st (hI.2 m hm)⟩)
  ⟨H.st.stOK,hx⟩
  (fun s=>by
    unfold CP
    simp only[Int.lt_irrefl,decide_false,cond_false])
 erw [f1]
 simp only[Option.bind_some]
 obtain⟨g1,g2⟩:=Lw (l:=e.2.1[k].2.2.2.2.2.2.2.2.1) (f:=Oi st e.2.1[k].1 hi) (Inv:=fun s i=>stOK s i) (n0:=e.2.1[k].2.2.2.2.2.2.2.1.foldl (LO st) e.1)
  (B:=fun v=>Cw (st,hi,e.2.1[k].1,e.2.1[k].2.1,e.2.1[k].2.2.1,e.2.1[k].2.2.2.1,e.2.1[k].2.2.2.2.1,e.2.1[k].2.2.2.2.2.1,e.2.1[k].2.2.2.2.2.2.1,e.2.1[k].2.2.2.2.2.2.2.1,e.2.1[k].2.2.2.2.2.2.2.2.1,0,0,0,0,0,0,0,e.2.1[k].1,e.2.1[k].2.1,2,e.2.1[k].2.2.2.1,lo,hi,st,e.2.1[k].2.2.2.2.2.2.2.1,e.2.1[k].2.2.2.2.2.2.2.2.1,()) v _ some)
  (fun i h s hI=>by
    obtain⟨a,h0,hlt,l,e1,e2,e3,hl⟩:=Jz hI.1 (hwr _ (List.getElem_mem h))
    have h5:=hI.2 l hl
    have hjl:l.length-1<l.length:=by omega
    have c1:(0:Int)<=(a:Int)/\(a:Int)<(s.length:Int):=by omega
    have c2:(0:Int)<=(l.length:Int)-1/\(l.length:Int)-1<(l.length:Int):=by omega
    have hj:((l.length:Int)-1).toNat=l.length-1:=by omega
    have c4:l.length+1<=879609302220:=by omega
    unfold Cw Oi
    simp only[decide_eq_true (by omega:(i:Int)<(e.2.1[k].2.2.2.2.2.2.2.2.1.length:Int)),cond_true,Al h,Option.bind_some,h0,c1.1,c1.2,true_and,and_self,if_true,Nat.zero_add,Int.toNat_natCast,e1,GI (by omega:l.length<9223372036854775808),c2.1,c2.2,hj,List.getElem?_eq_getElem hjl,List.length_set,Hq hlt,IR,List.length_append,List.length_cons,List.length_nil,c4,An h (by have:=hsm.2;omega),e3,d6,Nat.le_refl,Nat.zero_lt_one])
  (fun i h s hI=>RU st _ hi hI)
  f2.1
  (fun s=>by
    unfold Cw
    simp only[Int.lt_irrefl,decide_false,cond_false])
 erw [g1]
 rfl
end
end Go.Ab
end
section
namespace Go.Ab
theorem SO {e:EG}(H:OkG e){k:Nat}(hk:k<e.2.1.length)(ha:e.2.1[k].2.2.1=1)(ce:Bool):
 FN ((k:Int),Hj ce e)=some ((GU ce e k).1,ce,(GU ce e k).2.2.2.2.2,(GU ce e k).2.2.1,(GU ce e k).2.1,(GU ce e k).2.2.2.1,(GU ce e k).2.2.2.2.1,()):=by
 have hs:=H.small
 have hst0:=H.stamp0
 have hst1:=H.stamp
 have c0:(0:Int)<=(k:Int)/\(k:Int)<(e.2.1.length:Int):=by omega
 have hcc:=fI H hk ha
 have hft:=UJ H hk
 have hin:=WY H hk ha
 simp only[tup]at hcc hft hin
 unfold FN GU Hj
 simp only[c0,and_self,if_true,Nat.zero_add,Int.toNat_natCast,List.getElem?_eq_getElem hk,Option.bind_some,hcc]
 cases hc:(Ly e.1 e.2.1[k]==0)
 ·simp only[cond_false,Bool.not_false,cond_true,HA hk hs.fk hs.fw ce ha,Option.bind_some,Ik,EX]
 ·have hc':Ly e.1 e.2.1[k]=0:=by simpa using hc
  simp only[cond_true,Bool.not_true,cond_false]
  cases h9:(e.2.2.2.2==999)
  ·have h9':e.2.2.2.2≠999:=by simpa using h9
   have hw:IntKind.i64.wrap (e.2.2.2.2+1)=e.2.2.2.2+1:=CI (by omega) (by omega)
   have hfw:=ZK H hk ha (by omega)
   simp only[tup]at hfw
   simp only[cond_false,hc',beq_self_eq_true,cond_true,Fn,Ev,List.getElem?_eq_getElem hk,Option.bind_some,hw,hfw,hft,hin,Bool.not_true,cond_false]
   have hge:decide (hiP e.1 e.2.1[k] (e.2.2.2.2+1)<=loP e.1 e.2.1[k])=decide (loP e.1 e.2.1[k]>=hiP e.1 e.2.1[k] (e.2.2.2.2+1)):=rfl
   have hkset:k<(e.2.1.set k (LF e.2.1[k] (loP e.1 e.2.1[k]) (hiP e.1 e.2.1[k] (e.2.2.2.2+1)) (e.2.2.2.2+1))).length:=by simpa using hk
   have hend:=WZ (e:=(OH e.1 e.2.1[k] (e.2.2.2.2+1) (hiP e.1 e.2.1[k] (e.2.2.2.2+1)),e.2.1.set k (LF e.2.1[k] (loP e.1 e.2.1[k]) (hiP e.1 e.2.1[k] (e.2.2.2.2+1)) (e.2.2.2.2+1)),e.2.2.1,e.2.2.2.1,e.2.2.2.2+1)) hkset hs.fk hs.fw ce (by simp[LF])
   simp only[LF,List.getElem_set_self]at hend
   rw[hge]
   cases ce
   ·simp only[cond_false,Bool.false_and,Bool.false_or]
    cases Mz e.1 e.2.1[k]
    ·simp only[Bool.not_false,Bool.not_true,cond_false,cond_true,Rp,Option.bind_some,c0.1,c0.2,and_self,if_true,Nat.zero_add,Int.toNat_natCast,List.getElem?_eq_getElem hk,hend,Ik,LF]
    ·simp only[Bool.not_true,Bool.not_false,cond_true,cond_false,Rp,HA hk hs.fk hs.fw _ ha,Option.bind_some,Ik,EX]
   ·simp only[cond_true,Bool.true_and]
    cases decide (loP e.1 e.2.1[k]>=hiP e.1 e.2.1[k] (e.2.2.2.2+1))
    ·simp only[cond_false,Bool.false_or]
     cases Mz e.1 e.2.1[k]
     ·simp only[Bool.not_false,Bool.not_true,cond_false,cond_true,Rp,Option.bind_some,c0.1,c0.2,and_self,if_true,Nat.zero_add,Int.toNat_natCast,List.getElem?_eq_getElem hk,hend,Ik,LF]
     ·simp only[Bool.not_true,Bool.not_false,cond_true,cond_false,Rp,HA hk hs.fk hs.fw _ ha,Option.bind_some,Ik,EX]
    ·simp only[cond_true,Bool.true_or,Rp,cond_false,HA hk hs.fk hs.fw _ ha,Option.bind_some,Ik,EX]
  ·simp only[cond_true]
theorem fB {e:EG}(hs:SmallE e.1 e.2.1 e.2.2.1 e.2.2.2.1)(ce:Bool)(o:OPt):
 FP ((ce,(e.1,()),e.2.1,e.2.2.1,e.2.2.2.1,e.2.2.2.2,()),o,())=bif okE e.1 e.2.1 e.2.2.1 e.2.2.2.1 e.2.2.2.2&&Lo o then(let r:=JX ce e o;some (ce,r.2.2.2.2.2.2,r.1,r.2.2.1,r.2.2.2.1,r.2.2.2.2.1,r.2.2.2.2.2.1,r.2.1,()))else some (ce,e.2.2.2.2,6,e.1,e.2.1,e.2.2.1,e.2.2.2.1,[],()):=by
 unfold FP
 have hop:=WX o
 simp only[TC hs,iI hs,TE hs.fl,Option.bind_some]
 cases hE:okE e.1 e.2.1 e.2.2.1 e.2.2.2.1 e.2.2.2.2
 ·simp only[Bool.not_false,cond_true,Bool.false_and,cond_false]
 ·simp only[Bool.not_true,cond_false,Bool.true_and]
  erw [hop]
  simp only[Option.bind_some]
  cases ho:Lo o
  ·simp only[Bool.not_false,cond_true,cond_false]
  ·have H:=(TD e).1 hE
   obtain⟨o1,o2,o3,o4,o5,o6⟩:=(QK o).1 ho
   simp only[Bool.not_true,cond_false,cond_true,gz]
   unfold JX
   cases h1:(o.1==1)
   ·simp only[cond_false]
    rcases gQ H o.2.1 with⟨ha,k,hk,hf,h2,h3⟩|ha
    ·have hw:=H.wake o.2.1
     have hwk:=WV (l:=e.2.2.2.1) hs.fw o.2.1
     have h2':(e.2.1[k].2.2.1 != 1)=false:=by rw[h2];rfl
     have kR:=QB hw (k:=k) hk h2 (key:=o.2.2.2.1) (ce:=ce)
     have kS:=WW hw (k:=k) hk h2 (lo:=o.2.2.2.1) (hi:=o.2.2.2.2.1) (ce:=ce)
     have kW:=fun h h'=>UG hw (k:=k) hk h2 (key:=o.2.2.2.1) (val:=o.2.2.2.2.2.1) h h' o.1 o.2.1 o.2.2.1 o.2.2.2.2.1 ce
     have kC:=SO hw (k:=k) hk h2 ce
     have kE:=HA (e:=(e.1,e.2.1,e.2.2.1,wkW e.2.2.2.1 o.2.1,e.2.2.2.2)) hk hs.fk hw.small.fw ce h2
     simp only[Hj]at kR kS kW kC kE
     simp only[hf,ha,Option.isNone_some,cond_true,show(!(false==false))=false from rfl,cond_false,fx,Al hk,Option.bind_some,h2',hwk]
     cases h4:(o.1==2)
     ·simp only[cond_false]
      cases h5:(o.1==4)
      ·simp only[cond_false]
       cases h6:(o.1==3)
       ·simp only[cond_false]
        cases h7:(o.1==5)
        ·simp only[cond_false,List.getElem?_eq_getElem hk]
         erw [kE]
         rfl
        ·simp only[cond_true]
         erw [kC]
         rfl
       ·simp only[h6,Bool.or_true,Bool.true_or,cond_true]at o4 o6
        simp only[cond_true]
        erw [kW o4 o6]
        rfl
      ·simp only[h5,Bool.or_true,cond_true]at o4 o5
       rw[Bc]at o4 o5
       simp only[cond_true]
       erw [kS o4.1 (by omega) o5.2]
       rfl
     ·simp only[h4,Bool.true_or,cond_true]at o4
      simp only[cond_true]
      erw [kR o4]
      simp only[Option.bind_some,DJ]
      cases hz:(Fc (e.1,e.2.1,e.2.2.1,wkW e.2.2.2.1 o.2.1,e.2.2.2.2) k o.2.2.2.1).2.1==0 with
      |false=>rfl
      |true=>
       have hz':(Fc (e.1,e.2.1,e.2.2.1,wkW e.2.2.2.1 o.2.1,e.2.2.2.2) k o.2.2.2.1).2.1=0:=by simpa using hz
       simp only[hz']
       rfl
    ·cases hf:e.2.1.findIdx? (fun t=>t.1==o.2.1)with
     |none=>simp only[ha,Bool.not_false,Option.isNone_none,show(!(false==true))=true from rfl,cond_true]
     |some k=>
      obtain⟨hk,h2,h3⟩:=List.findIdx?_eq_some_iff_getElem.1 hf
      have h2':(e.2.1[k].2.2.1 != 1)=true:=by
       cases hx:(e.2.1[k].2.2.1==1)with
       |false=>simp only[bne,hx,Bool.not_false]
       |true=>
        rw[(J2 H.txU o.2.1).2 ⟨_,List.getElem_mem hk,by simpa using h2,by simpa using hx⟩]at ha
        cases ha
      simp only[ha,Bool.not_false,Option.isNone_some,show(!(false==false))=false from rfl,cond_false,fx,Al hk,Option.bind_some,h2',cond_true]
   ·simp only[h1,cond_true]at o3
    have hst:inB e.2.2.2.2 0 999=true:=Bc.2 ⟨H.stamp0,H.stamp⟩
    have hT:okT o.2.1 o.2.2.1 1 e.2.2.2.2 0 1000 0 [] []=true:=UZ o2 o3 hst
    have hn:Ew (o.2.1,o.2.2.1,e.2.2.2.2,())=some (o.2.1,o.2.2.1,1,e.2.2.2.2,0,1000,0,true,()):=by
     unfold Ew
     simp only[Q7 (rd:=[]) (wr:=[]) (Nat.zero_le _) (Nat.zero_le _),hT,Option.bind_some,Bool.not_true,cond_false]
    have h6:((e.2.1.length:Int)==6)=(e.2.1.length==6):=by rw[Bool.eq_iff_iff,beq_iff_eq,beq_iff_eq];omega
    have hany:(e.2.1.findIdx? fun t=>t.1==o.2.1).isNone=!(e.2.1.any fun t=>t.1==o.2.1):=by
     rw[<-List.findIdx?_isSome];cases e.2.1.findIdx? _<;>rfl
    unfold JW
    simp only[cond_true,hany,h6,hn,Option.bind_some]
    cases hh:(e.2.1.any fun t=>t.1==o.2.1)
    ·simp only[Bool.not_false,show(!(true==true))=false from rfl,cond_false,Bool.false_or]
     cases h7:(e.2.1.length==6)
     ·simp only[cond_false]
      refine(Mn (l:=e.2.1) (p:=fun x=>decide (x.1<o.2.1)) hs.fl (fun i h=>?_) ?_ _).trans ?_
      ·have c:(0:Int)<=(i:Int)/\(i:Int)<(e.2.1.length:Int):=by omega
       unfold CZ
       simp only[decide_eq_true c.2,cond_true,c.1,c.2,and_self,if_true,Nat.zero_add,Int.toNat_natCast,List.getElem?_eq_getElem h,Option.bind_some,An h (by have:=hs.fl;omega)]
       cases decide (e.2.1[i].1<o.2.1)<;>rfl
      ·unfold CZ
       simp only[Int.lt_irrefl,decide_false,cond_false]
      ·have hle:=TV (l:=e.2.1) (p:=fun x=>decide (x.1<o.2.1))
       have hfl:=hs.fl
       rw[Vu H]at hh
       generalize hc:(e.2.1.takeWhile fun x=>decide (x.1<o.2.1)).length=c at hle
       rw[Oq (m:=LG o.2.1 o.2.2.1 e.2.2.2.2) hc]
       have q1:(e.2.1.take c).length<=338311270084:=by simp;omega
       have q2:(e.2.1.take c++[LG o.2.1 o.2.2.1 e.2.2.2.2]).length<=338311270084:=by simp;omega
       have q3:(e.2.1.take c++[LG o.2.1 o.2.2.1 e.2.2.2.2]++e.2.1.drop c).length<=338311270084:=by simp;omega
       have c1:(0:Int)<=0/\(0:Int)<=(c:Int)/\(c:Int)<=(e.2.1.length:Int):=by omega
       have c2:(0:Int)<=(c:Int)/\(c:Int)<=(e.2.1.length:Int)/\(e.2.1.length:Int)<=(e.2.1.length:Int):=by omega
       have hh':DX (fun x:TX=>x.1) e.2.1 (LG o.2.1 o.2.2.1 e.2.2.2.2).1=false:=hh
       simp only[A72,A71]
       rw[if_pos c1,if_pos q1]
       erw [if_pos q2]
       rw[if_pos c2]
       erw [if_pos q3]
       simp only[hh',cond_false]
       rfl
     ·simp only[cond_true]
    ·simp only[Bool.not_true,show(!(true==false))=true from rfl,cond_true,Bool.true_or]
end Go.Ab
end
section
namespace Go.Ab
end Go.Ab
end
section
namespace Go.Ab
end Go.Ab
end
section
namespace Go.Ab
def mk6 (k:Int):OPt:=(k,k+1,k+2,k+3,k+4,k+5,())
theorem A6x (v:OPt):M7 (v,v,())=some (true,()):=by
 simp[M7]
theorem qI (a:List OPt)(ha:a.length<9223372036854775000):K2 (a,a,())=some (true,()):=by
 unfold K2
 simp only[bne_self_eq_false,cond_false]
 refine D5 a.length (fun j=>((j:Int),())) rfl (fun j hj=>?_) ⟨.inr (),?_,rfl⟩
 ·unfold Hv
  simp only[Al hj,Option.bind_some,A6x]
  rw[decide_eq_true (by omega),wr1 (by omega) (by omega)]
  rfl
 ·unfold Hv
  simp only
  rw[decide_eq_false (by omega)]
  rfl
theorem sB (a:List OPt)(ha:a.length<=1048576):Jj (a,())=some (a,()):=by
 unfold Jj
 simp only
 rw[if_pos (by omega),Int.toNat_natCast]
 refine Mb ha (fun i h out ho=>?_) fun out=>?_
 ·unfold Hu
  simp only[Al h,Option.bind_some,LH]
  rw[decide_eq_true (by omega),if_pos (by omega),An h (by omega)]
  simp[ho,h]
 ·unfold Hu
  simp only
  rw[decide_eq_false (by omega)];rfl
theorem sC {a:List OPt}{l:Int}(ha:a.length<=maxLen)(h0:0<=l)(h1:l<=1048576):Na (a.length<=1048576) (LK (a,l,())):=Vy ha h0 h1
end Go.Ab
end
section
namespace Go.Ab
def cPb (l:List OPt)(i:Nat):Bool:=match l[i]?,l[0]? with
 |some a,some b=>Lo a&&!(a.2.1 != b.2.1)&&((a.1==1)==((i:Int)==0))&&((a.1==5||a.1==6)==((i:Int)==(l.length:Int)-1))
 |_,_=>false
noncomputable def O8 (l:List OPt):Bool:=inB (l.length:Int) 2 12&&dec (∀i,i<l.length->cPb l i=true)
theorem jW {l:List OPt}{i:Nat}(h:i<l.length):cPb l i=(Lo l[i]&&!(l[i].2.1 != (l[0]'(by omega)).2.1)&&((l[i].1==1)==((i:Int)==0))&&((l[i].1==5||l[i].1==6)==((i:Int)==(l.length:Int)-1))):=by
 unfold cPb
 rw[List.getElem?_eq_getElem h,List.getElem?_eq_getElem (show 0<l.length by omega)]
theorem Axp {α:Type}{l:List α}(h:0<l.length):lAt l 0=some l[0]:=Al (i:=0) h
theorem jT {l:List OPt}(hl:l.length<=1048576):J5 (l,())=some (O8 l,()):=by
 unfold J5 O8
 simp only[Ix,Option.bind_some]
 cases inB (l.length:Int) 2 12
 ·rfl
 ·simp only[Bool.not_true,cond_false,Bool.true_and]
  refine(Cj (n:=l.length) (c:=fun i=>cPb l i=true) (X:=some (true,())) (no:=some (false,())) (fun i hi=>?_) ⟨.inr (.inr (.inr (.inr (.inr (.inr (.inr (.inr ()))))))),?_,rfl⟩).trans ?_
  ·have hop:Fb ((l[i].1,l[i].2.1,l[i].2.2.1,l[i].2.2.2.1,l[i].2.2.2.2.1,l[i].2.2.2.2.2.1,()),())=some (Lo l[i],()):=fP l[i]
   unfold GS
   simp only[Al hi,Axp (show 0<l.length by omega),Option.bind_some,hop,CI (n:=(l.length:Int)-1) (by omega) (by omega),jW hi]
   rw[decide_eq_true (by omega),An hi (by omega)]
   simp only[cond_true]
   generalize Lo l[i]=b1
   generalize (l[i].2.1 != (l[0]'(by omega)).2.1)=b2
   generalize ((l[i].1==1)==((i:Int)==0))=b3
   generalize (l[i].1==5)=k5
   generalize (l[i].1==6)=k6
   generalize ((i:Int)==(l.length:Int)-1)=z
   cases b1<;>cases b2<;>cases b3<;>cases k5<;>cases k6<;>cases z<;>first
    |exact⟨fun _=>rfl,fun h=>absurd rfl h⟩
    |exact⟨fun h=>absurd h (by decide),fun _=>by refine⟨_,rfl,?_⟩;rfl⟩
  ·unfold GS
   simp only
   rw[decide_eq_false (by omega)];rfl
  ·cases dec (∀i,i<l.length->cPb l i=true)<;>rfl
theorem jR {l:List OPt}(hl:l.length<=1048576):JZ (l,())=some (O8 l,()):=by
 unfold JZ O8
 simp only[Dq]
 refine(Cj (n:=l.length) (c:=fun i=>cPb l i=true) (X:=some (inB (l.length:Int) 2 12,())) (no:=some (false,())) (fun i hi=>?_) ⟨.inr (.inr (.inr (.inr (.inr (.inr (.inr (.inr ()))))))),?_,rfl⟩).trans ?_
 ·have hop:Ea ((l[i].1,l[i].2.1,l[i].2.2.1,l[i].2.2.2.1,l[i].2.2.2.2.1,l[i].2.2.2.2.2.1,()),())=some (Lo l[i],()):=WX l[i]
  unfold GN
  simp only[Al hi,Axp (show 0<l.length by omega),Option.bind_some,hop,CI (n:=(l.length:Int)-1) (by omega) (by omega),jW hi]
  rw[decide_eq_true (by omega),An hi (by omega)]
  simp only[cond_true]
  generalize Lo l[i]=b1
  generalize (l[i].2.1 != (l[0]'(by omega)).2.1)=b2
  generalize ((l[i].1==1)==((i:Int)==0))=b3
  generalize (l[i].1==5)=k5
  generalize (l[i].1==6)=k6
  generalize ((i:Int)==(l.length:Int)-1)=z
  cases b1<;>cases b2<;>cases b3<;>cases k5<;>cases k6<;>cases z<;>first
   |exact⟨fun _=>rfl,fun h=>absurd rfl h⟩
   |exact⟨fun h=>absurd h (by decide),fun _=>by refine⟨_,rfl,?_⟩;rfl⟩
 ·unfold GN
  simp only
  rw[decide_eq_false (by omega)];rfl
 ·cases dec (∀i,i<l.length->cPb l i=true)<;>cases inB (l.length:Int) 2 12<;>rfl
theorem Ra {l:List OPt}(h:O8 l=true):l.length<=12/\∀o∈l,Lo o=true:=by
 unfold O8 at h
 rw[Bool.and_eq_true]at h
 have h1:=Bc.1 h.1
 have h2:=KD h.2
 refine⟨by omega,fun o ho=>?_⟩
 obtain⟨i,hi,rfl⟩:=List.getElem_of_mem ho
 have h3:=h2 i hi
 rw[jW hi]at h3
 simp only[Bool.and_eq_true]at h3
 exact h3.1.1.1
end Go.Ab
end
section
namespace Go.Ab
def iC:List (List VV):=List.replicate 6 [(0,-1,0,0,1000,())]
theorem Ad1:Ky ()=some (iC,()):=by
 unfold Ky
 refine D5 6 (fun j=>((j:Int),List.replicate j [(0,-1,0,0,1000,())],())) rfl (fun j hj=>?_) ⟨(iC,()),?_,rfl⟩
 ·unfold It
  simp only[List.length_append,List.length_replicate,List.length_cons,List.length_nil]
  rw[decide_eq_true (by omega),if_pos (by omega),wr1 (by omega) (by omega),<-List.replicate_succ']
  rfl
 ·rfl
theorem Ad2:KA ()=some (iC,()):=by
 unfold KA
 refine D5 6 (fun j=>((j:Int),List.replicate j [(0,-1,0,0,1000,())],())) rfl (fun j hj=>?_) ⟨(iC,()),?_,rfl⟩
 ·unfold IB
  simp only[List.length_append,List.length_replicate,List.length_cons,List.length_nil]
  rw[decide_eq_true (by omega),if_pos (by omega),wr1 (by omega) (by omega),<-List.replicate_succ']
  rfl
 ·rfl
def VI:EG:=(iC,[],[],[],0)
theorem iJ:OkG VI:=by
 have h1:LJ [((0,-1,0,0,1000,()):VV)]:=(J7 _).2 ⟨fun v hv=>by rw[List.mem_singleton]at hv;subst hv;rfl,List.pairwise_singleton _ _,_,rfl,rfl⟩
 refine⟨⟨rfl,fun l hl=>?_⟩,by decide,by decide,?_,List.Pairwise.nil,?_,List.Pairwise.nil,?_,List.Pairwise.nil,by decide,?_,?_⟩
 ·have:l=[((0,-1,0,0,1000,()):VV)]:=List.eq_of_mem_replicate hl
  subst this
  exact⟨h1,by decide⟩
 all_goals intro m hm;cases hm
theorem jS (ce:Bool):JY (ce,())=some (ce,0,iC,()):=by
 unfold JY
 rw[Ad1];rfl
theorem jU (ce:Bool):K4 (ce,())=some (ce,0,iC,()):=by
 unfold K4
 rw[Ad2];rfl
end Go.Ab
end
section
namespace Go.Ab
def qF (a:List OPt):Prop:=a.length<=1048576
def TL (a:List (List OPt)):Prop:=a.length<=1048576/\∀e∈a,qF e
theorem re (xss:List (List OPt))(i:Nat)(hi:i<xss.length)(k:Int)(h0:0<=k)(hk:k+6*xss[i].length<9223372036854775000):
 MY (i,k,xss,())=some (k+6*xss[i].length,xss.set i (mkL mk6 6 k xss[i].length),()):=by
 unfold MY
 simp only
 generalize hrow:xss[i]=row at*
 have key:∀j:Nat,(xss.set i (mkd mk6 6 k row j))[i]?=some (mkd mk6 6 k row j):=fun j=>by simp[hi]
 rw[GE (r:=(k+6*row.length,xss.set i (mkL mk6 6 k row.length),())) row.length (fun j=>(k+6*(j:Int),(j:Int),xss.set i (mkd mk6 6 k row j),()))]
 ·rfl
 ·simp only[KT,<-hrow];simp
 ·intro j hj
  unfold J8
  have hl:=Iy mk6 6 k row j (by omega)
  have hg:=MU mk6 6 k row j hj
  have hs:=MT mk6 6 k row j hj
  simp only[key,Option.bind_some,hl]
  rw[decide_eq_true (by omega),if_pos (by omega)]
  simp only[cond_true,Option.bind_some,Nat.zero_add,Int.toNat_natCast,hg,List.set_set,List.length_set,List.getElem?_set_self,hi,hl,hj]
  rw[wr1 (k:=k+6*(j:Int)) (by omega) (by omega),wr1 (k:=k+6*(j:Int)+1) (by omega) (by omega),wr1 (k:=k+6*(j:Int)+1+1) (by omega) (by omega),wr1 (k:=k+6*(j:Int)+1+1+1) (by omega) (by omega),wr1 (k:=k+6*(j:Int)+1+1+1+1) (by omega) (by omega),wr1 (k:=k+6*(j:Int)+1+1+1+1+1) (by omega) (by omega),wr1 (k:=(j:Int)) (by omega) (by omega)]
  have e1:k+6*(j:Int)+1+1+1+1+1+1=k+6*((j+1:Nat):Int):=by push_cast;omega
  have e2:(k+6*(j:Int),k+6*(j:Int)+1,k+6*(j:Int)+1+1,k+6*(j:Int)+1+1+1,k+6*(j:Int)+1+1+1+1,k+6*(j:Int)+1+1+1+1+1,())=mk6 (k+6*(j:Int)):=by simp[mk6];omega
  rw[e1,e2,hs]
  simp[hj]
 ·unfold J8
  simp only[key,Option.bind_some,MV,AK]
  have key2:(xss.set i (mkL mk6 6 k row.length))[i]?=some (mkL mk6 6 k row.length):=by simp[hi]
  simp only[key2,Option.bind_some,AK]
  rw[decide_eq_false (by omega)]
  rfl
def Aat:Int->List (List OPt)->List (List OPt)
 |_,[]=>[]
 |k,r::rs=>mkL mk6 6 k r.length::Aat (k+6*r.length) rs
def YW:Int->List (List OPt)->Int
 |k,[]=>k
 |k,r::rs=>YW (k+6*r.length) rs
theorem A2x (k:Int)(xss:List (List OPt)):k<=YW k xss:=by
 induction xss generalizing k with
 |nil=>exact Int.le_refl k
 |cons r rs ih=>have:=ih (k+6*r.length);simp only[YW];omega
theorem yh (xss:List (List OPt))(k:Int)(h0:0<=k)(hk:YW k xss<9223372036854775000)(hl:xss.length<9223372036854775000):M6 (k,xss,())=some (YW k xss,Aat k xss,()):=by
 unfold M6
 simp only
 have key:∀(rs pre:List (List OPt)) (k:Int),0<=k->YW k rs<9223372036854775000->pre.length+rs.length<9223372036854775000->
  AC (fun v=>GA () v _ some) (k,(pre.length:Int),pre++rs,())=some (YW k rs,pre++Aat k rs,()):=by
  intro rs
  induction rs with
  |nil=>
   intro pre k h0 hk hl
   rw[AZ]
   unfold GA
   simp only[List.append_nil]
   rw[decide_eq_false (by omega)]
   simp[YW,Aat]
  |cons r rs ih=>
   intro pre k h0 hk hl
   have hge:=A2x (k+6*r.length) rs
   simp only[YW]at hk
   simp only[List.length_cons]at hl
   have hi:pre.length<(pre++r::rs).length:=by simp
   have hget:(pre++r::rs)[pre.length]=r:=by simp
   have hm:=re (pre++r::rs) pre.length hi k h0 (by rw[hget];omega)
   rw[hget]at hm
   have hset:(pre++r::rs).set pre.length (mkL mk6 6 k r.length)=(pre++[mkL mk6 6 k r.length])++rs:=by simp
   have hB:GA () (k,(pre.length:Int),pre++r::rs,()) _ some=some (.inl (k+6*r.length,(pre.length:Int)+1,(pre++[mkL mk6 6 k r.length])++rs,())):=by
    unfold GA
    simp only[List.length_append,List.length_cons]
    rw[decide_eq_true (by omega),if_pos (by omega)]
    have hge2:(pre++r::rs)[pre.length]?=some r:=by simp
    simp only[cond_true,Nat.zero_add,Int.toNat_natCast,hge2,Option.bind_some,hm]
    rw[wr1 (by omega) (by omega),hset]
   rw[AZ,hB]
   have:=ih (pre++[mkL mk6 6 k r.length]) (k+6*r.length) (by omega) hk (by simp;omega)
   simp only[List.length_append,List.length_cons,List.length_nil,Nat.zero_add,Int.natCast_add]at this
   rw[show((1:Nat):Int)=1 from rfl]at this
   simp only[Option.bind_some]
   rw[this]
   simp[YW,Aat]
 have:=key xss [] k h0 hk (by simpa using hl)
 simp only[List.length_nil,List.nil_append,Int.natCast_zero]at this
 rw[this];rfl
theorem Aak (a:List (List OPt))(ha:TL a):Kt (a,())=some (a,()):=by
 have hn:=ha.1
 unfold Kt
 simp only
 rw[if_pos (by omega),Int.toNat_natCast]
 refine Mb hn (fun i h out ho=>?_) fun out=>?_
 ·unfold KU
  simp only[Al h,Option.bind_some,sB _ (ha.2 _ (List.getElem_mem h))]
  rw[decide_eq_true (by omega),if_pos (by omega),An h (by omega)]
  simp[ho,h]
 ·unfold KU
  simp only
  rw[decide_eq_false (by omega)];rfl
theorem Aal {a:List (List OPt)}{l:Int}(ha:a.length<=maxLen)(hb:∀e∈a,e.length<=maxLen)(h0:0<=l)(h1:l<=1048576):Na (TL a) (Rs (a,l,())):=
 d4 (Small:=qF) (F:=fun e l=>LK (e,l,())) ha (fun e he l h0 h1=>sC (hb e he) h0 h1) (fun l i=>rfl) h0 h1
theorem Ao4 {a:List (List OPt)}:∀(k:Int),(∀e∈a,e.length<=1048576)->YW k a<=k+6291456*a.length:=by
 induction a with
 |nil=>intro k _;simp[YW]
 |cons r rs ih=>
  intro k h
  have h1:=ih (k+6*r.length) (fun e he=>h e (List.mem_cons_of_mem _ he))
  have h2:=h r (List.mem_cons_self ..)
  simp only[YW,List.length_cons]
  push_cast
  omega
theorem Aaq (a:List (List OPt))(ha:a.length<9223372036854775000)(hb:∀r∈a,r.length<9223372036854775000):Pp (a,a,())=some (true,()):=by
 unfold Pp
 simp only[bne_self_eq_false,cond_false]
 refine D5 a.length (fun j=>((j:Int),())) rfl (fun j hj=>?_) ⟨.inr (),?_,rfl⟩
 ·unfold KV
  simp only[Al hj,Option.bind_some,qI _ (hb _ (List.getElem_mem hj))]
  rw[decide_eq_true (by omega),wr1 (by omega) (by omega)]
  rfl
 ·unfold KV
  simp only
  rw[decide_eq_false (by omega)]
  rfl
end Go.Ab
end
section
namespace Go.Ab
def idP (l:List OPt):Int:=match l with|o::_=>o.2.1|[]=>0
noncomputable def ri:List Int->List (List OPt)->Bool
 |_,[]=>true
 |kn,l::r=>O8 l&&!(kn.contains (idP l))&&ri (idP l::kn) r
noncomputable def Zh (p:List (List OPt)):Bool:=ri [] p&&decide ((p.length:Int)<=6)
theorem Wn {l:List OPt}(h:O8 l=true):2<=l.length:=by
 unfold O8 at h
 rw[Bool.and_eq_true]at h
 have h1:=Bc.1 h.1
 omega
theorem Axo (p:List (List OPt))(h:∀l∈p,l.length<=1048576):∀kn,gO J5 kn p=some (ri kn p):=by
 induction p with
 |nil=>intro kn;rfl
 |cons l r ih=>
  intro kn
  have hl:=h l (List.mem_cons_self ..)
  unfold gO
  have hp:=jT hl
  erw [hp]
  simp only[Option.bind_some,ri]
  cases ho:O8 l
  ·rfl
  ·have h2:=Wn ho
   match l,ho,h2 with
   |o::t,ho,h2=>
    have hb:=(Bc.1 ((QK o).1 ((Ra ho).2 o (List.mem_cons_self ..))).2.1)
    simp only[Bool.not_true,cond_false,Bool.true_and]
    rw[if_pos (by omega)]
    simp only[idP]
    cases kn.contains o.2.1
    ·simp only[cond_false,Bool.not_false,Bool.true_and]
     exact ih (fun e he=>h e (List.mem_cons_of_mem _ he)) _
    ·rfl
theorem yj {p:List (List OPt)}(h:TL p):Lu (p,())=some (Zh p,()):=by
 have e:=Axo p h.2 []
 have hn:=h.1
 unfold Lu A3k Zh
 rw[if_pos (by simp only;omega)]
 erw [e]
 rfl
theorem A2w {l:List OPt}(h:2<=l.length):∃o,lAt l 0=some o/\o.2.1=idP l/\l[0]?=some o:=by
 match l,h with
 |o::t,_=>exact⟨o,rfl,rfl,rfl⟩
theorem fE {p:List (List OPt)}(h:TL p):KB (p,())=some (Zh p,()):=by
 have hn:=h.1
 unfold KB Zh
 simp only
 have key:∀(rs pre:List (List OPt)),pre++rs=p->(∀l∈pre,O8 l=true)->
  ((AC (fun v=>Fm (p,()) v _ some) ((pre.length:Int),())).bind fun q=>Az q (fun _=>some (false,())) fun q=>Az q (fun _=>some (false,())) fun _=>some (decide ((p.length:Int)<=6),()))=some (ri (pre.map idP).reverse rs&&decide ((p.length:Int)<=6),()):=by
  intro rs
  induction rs with
  |nil=>
   intro pre hp ho
   rw[List.append_nil]at hp
   rw[AZ]
   have hB:Fm (p,()) ((pre.length:Int),()) _ some=some (.inr (.inr (.inr ()))):=by
    unfold Fm
    simp only
    rw[decide_eq_false (by rw[hp];omega)]
    rfl
   rw[hB]
   rfl
  |cons l rs ih=>
   intro pre hp ho
   have hi:pre.length<p.length:=by rw[<-hp];simp
   have hgl:p[pre.length]?=some l:=by rw[<-hp];simp
   have hg:lAt p (pre.length:Int)=some l:=by
    rw[Al hi];rw[List.getElem?_eq_getElem hi]at hgl;exact hgl
   have hl:l.length<=1048576:=h.2 l (by rw[<-hp];simp)
   rw[AZ]
   have hB:Fm (p,()) ((pre.length:Int),()) _ some=bif O8 l then(bif (pre.map idP).reverse.contains (idP l)then some (.inr (.inr (.inl ())))else some (.inl ((pre.length:Int)+1,())))else some (.inr (.inl ())):=by
    unfold Fm
    simp only[hg,Option.bind_some,jR hl]
    rw[decide_eq_true (by omega),wr1 (by omega) (by omega)]
    cases hol:O8 l
    ·rfl
    ·simp only[Bool.not_true,cond_false,cond_true]
     obtain⟨o,w1,w2,w3⟩:=A2w (Wn hol)
     refine(Cj (n:=pre.length) (c:=fun k=>¬idP (p.getD k [])=idP l) (X:=some (.inl ((pre.length:Int)+1,()))) (no:=some (.inr (.inr (.inl ())))) (fun k hk=>?_) ⟨.inr (),?_,rfl⟩).trans ?_
     ·have hkp:k<p.length:=by omega
      have hpk:p[k]∈pre:=by
       have:p[k]=pre[k]:=by simp only[<-hp];rw[List.getElem_append_left hk]
       rw[this];exact List.getElem_mem hk
      obtain⟨o2,y1,y2,y3⟩:=A2w (Wn (ho _ hpk))
      have e3:p.getD k []=p[k]:=by simp[List.getD,hkp]
      unfold Ia
      simp only[Al hkp,Option.bind_some,y1,hg,w1,e3,y2,w2]
      rw[decide_eq_true (by omega),An hk (by omega)]
      simp only[cond_true]
      constructor
      ·intro hc
       rw[show(idP p[k]==idP l)=false from beq_false_of_ne hc];rfl
      ·intro hc
       rw[show(idP p[k]==idP l)=true from beq_iff_eq.2 (Decidable.not_not.1 hc)]
       refine⟨.inl (),rfl,rfl⟩
     ·unfold Ia
      simp only
      rw[decide_eq_false (by omega)];rfl
     ·have e4:dec (∀k,k<pre.length->¬idP (p.getD k [])=idP l)=!((pre.map idP).reverse.contains (idP l)):=by
       cases hc:(pre.map idP).reverse.contains (idP l)
       ·rw[AH];· rfl
        intro k hk e
        have:(pre.map idP).reverse.contains (idP l)=true:=by
         rw[List.contains_iff_mem]
         rw[List.mem_reverse,List.mem_map]
         refine⟨pre[k],List.getElem_mem hk,?_⟩
         rw[<-e];congr 1
         simp only[<-hp,List.getD_eq_getElem?_getD]
         rw[List.getElem?_append_left hk,List.getElem?_eq_getElem hk];rfl
        rw[hc]at this;cases this
       ·rw[BM];· rfl
        intro hall
        rw[List.contains_iff_mem,List.mem_reverse,List.mem_map]at hc
        obtain⟨a,ha,e⟩:=hc
        obtain⟨k,hk,rfl⟩:=List.getElem_of_mem ha
        refine hall k hk ?_
        rw[<-e];congr 1
        simp only[<-hp,List.getD_eq_getElem?_getD]
        rw[List.getElem?_append_left hk,List.getElem?_eq_getElem hk];rfl
      rw[e4]
      cases(pre.map idP).reverse.contains (idP l)<;>rfl
   rw[hB]
   simp only[ri]
   cases hol:O8 l
   ·rfl
   ·cases hc:(pre.map idP).reverse.contains (idP l)
    ·simp only[cond_true,cond_false,Option.bind_some,Bool.not_false,Bool.true_and]
     have:=ih (pre++[l]) (by rw[<-hp];simp) (fun e he=>by
      rcases List.mem_append.1 he with he|he
      ·exact ho e he
      ·rw[List.mem_singleton]at he;rw[he];exact hol)
     simp only[List.length_append,List.length_cons,List.length_nil,Nat.zero_add,Int.natCast_add,List.map_append,List.map_cons,List.map_nil,List.reverse_append,List.reverse_cons,List.reverse_nil,List.nil_append,List.singleton_append]at this
     exact this
    ·rfl
 exact key p [] rfl (fun l hl=>by cases hl)
theorem rf:∀(p:List (List OPt)) (kn:List Int),ri kn p=true->∀l∈p,O8 l=true
 |[],_,_,l,hl=>by cases hl
 |a::r,kn,h,l,hl=>by
  simp only[ri,Bool.and_eq_true]at h
  rcases List.mem_cons.1 hl with rfl|hl
  ·exact h.1.1
  ·exact rf r _ h.2 l hl
theorem Re {p:List (List OPt)}(h:Zh p=true):p.length<=6/\∀l∈p,O8 l=true:=by
 unfold Zh at h
 rw[Bool.and_eq_true,decide_eq_true_eq]at h
 exact⟨by omega,rf p [] h.1⟩
end Go.Ab
end
section
namespace Go.Ab
abbrev RS:=EG×List OPt×List Int
noncomputable def rfS (ce:Bool)(p:List (List OPt))(s:RS)(k:Nat):RS:=match p[k]?,s.2.2[k]? with
 |some l,some a=>bif a==(l.length:Int)then s else(match l[a.toNat]? with
  |some o=>((JX ce s.1 o).2.2,s.2.1++[o],bif (JX ce s.1 o).1==0 then s.2.2.set k (a+1)else bif (JX ce s.1 o).1==1 then s.2.2 else s.2.2.set k (l.length:Int))
  |none=>s)
 |_,_=>s
noncomputable def rfK (ce:Bool)(p:List (List OPt))(s:RS)(k:Nat):RS:=(List.range k).foldl (rfS ce p) s
theorem ki (ce:Bool)(p:List (List OPt))(s:RS)(k:Nat):rfK ce p s (k+1)=rfS ce p (rfK ce p s k) k:=by
 unfold rfK
 rw[List.range_succ,List.foldl_append];rfl
noncomputable def rfN (ce:Bool)(p:List (List OPt))(s:RS):Nat->RS
 |0=>s
 |n+1=>rfK ce p (rfN ce p s n) p.length
structure RF (p:List (List OPt))(s:RS)(n:Nat):Prop where
 ok:OkG s.1
 len:s.2.2.length=p.length
 pos:∀(k:Nat) (a:Int) (l:List OPt),s.2.2[k]?=some a->p[k]?=some l->0<=a/\a<=(l.length:Int)
 out:s.2.1.length<=n
section
variable {ce:Bool}{p:List (List OPt)}(hp:Zh p=true)
include hp
theorem RF.turn {s:RS}{n k:Nat}(H:RF p s n)(hk:k<p.length):∃l a,p[k]?=some l/\l∈p/\s.2.2[k]?=some a/\0<=a/\((a==(l.length:Int))=true/\rfS ce p s k=s\/
 (a==(l.length:Int))=false/\∃o,l[a.toNat]?=some o/\a.toNat<l.length/\Lo o=true/\rfS ce p s k=((JX ce s.1 o).2.2,s.2.1++[o],bif (JX ce s.1 o).1==0 then s.2.2.set k (a+1)else bif (JX ce s.1 o).1==1 then s.2.2 else s.2.2.set k (l.length:Int))):=by
 have h1:p[k]?=some p[k]:=List.getElem?_eq_getElem hk
 have hk2:k<s.2.2.length:=by rw[H.len];exact hk
 have h2:s.2.2[k]?=some s.2.2[k]:=List.getElem?_eq_getElem hk2
 obtain⟨h3,h4⟩:=H.pos k _ _ h2 h1
 refine⟨p[k],s.2.2[k],h1,List.getElem_mem hk,h2,h3,?_⟩
 unfold rfS
 rw[h1,h2]
 simp only
 cases hc:s.2.2[k]==((p[k].length:Nat):Int)
 ·right
  have hne:=beq_eq_false_iff_ne.1 hc
  have h5:(s.2.2[k]).toNat<p[k].length:=by omega
  refine⟨rfl,p[k][(s.2.2[k]).toNat],List.getElem?_eq_getElem h5,h5,?_,?_⟩
  ·exact(Ra ((Re hp).2 _ (List.getElem_mem hk))).2 _ (List.getElem_mem h5)
  ·rw[List.getElem?_eq_getElem h5];rfl
 ·left;exact⟨rfl,rfl⟩
theorem RF.step {s:RS}{n k:Nat}(H:RF p s n)(hk:k<p.length):RF p (rfS ce p s k) (n+1)/\(rfS ce p s k=s\/(rfS ce p s k).2.1.length=s.2.1.length+1):=by
 obtain⟨l,a,h1,hm,h2,h3,h|⟨hne,o,h4,h5,h6,h7⟩⟩:=H.turn (ce:=ce) hp hk
 ·rw[h.2]
  exact⟨⟨H.ok,H.len,H.pos,by have:=H.out;omega⟩,.inl rfl⟩
 ·rw[h7]
  have hkl:k<s.2.2.length:=by rw[H.len];exact hk
  refine⟨⟨H.ok.step ce h6,?_,?_,?_⟩,.inr (by simp)⟩
  ·simp only
   cases(JX ce s.1 o).1==0
   ·cases(JX ce s.1 o).1==1
    ·simp[H.len]
    ·simp[H.len]
   ·simp[H.len]
  ·intro j b l' hj hl'
   simp only at hj
   have key:∀v:Int,0<=v->v<=(l.length:Int)->(s.2.2.set k v)[j]?=some b->0<=b/\b<=(l'.length:Int):=by
    intro v hv1 hv2 hs
    by_cases e:k=j
    ·subst e
     rw[List.getElem?_set_self hkl]at hs
     rw[h1]at hl'
     cases hs;cases hl'
     exact⟨hv1,hv2⟩
    ·rw[List.getElem?_set_ne e]at hs
     exact H.pos j b l' hs hl'
   cases h8:(JX ce s.1 o).1==0<;>rw[h8]at hj
   ·cases h9:(JX ce s.1 o).1==1<;>rw[h9]at hj
    ·exact key _ (by omega) (by omega) hj
    ·exact H.pos j b l' hj hl'
   ·exact key _ (by omega) (by omega) hj
  ·have:=H.out
   simp only[List.length_append,List.length_cons,List.length_nil];omega
theorem RF.rounds {s:RS}{n:Nat}(H:RF p s n):∀k,k<=p.length->RF p (rfK ce p s k) (n+k)/\s.2.1.length<=(rfK ce p s k).2.1.length/\((rfK ce p s k).2.1.length=s.2.1.length->rfK ce p s k=s):=by
 intro k
 induction k with
 |zero=>intro _;exact⟨H,Nat.le_refl _,fun _=>rfl⟩
 |succ k ih=>
  intro hk
  obtain⟨h1,h2,h3⟩:=ih (by omega)
  rw[ki]
  obtain⟨h4,h5⟩:=h1.step (ce:=ce) hp (k:=k) (by omega)
  refine⟨h4,?_,?_⟩
  ·rcases h5 with h5|h5
   ·rw[h5];exact h2
   ·omega
  ·intro e
   rcases h5 with h5|h5
   ·rw[h5]at e ⊢;exact h3 e
   ·omega
theorem RF.all {s:RS}(H:RF p s 0):∀n,RF p (rfN ce p s n) (n*p.length):=by
 intro n
 induction n with
 |zero=>rw[Nat.zero_mul];exact H
 |succ n ih=>
  have:=(ih.rounds (ce:=ce) hp p.length (Nat.le_refl _)).1
  rw[Nat.succ_mul];exact this
end
end Go.Ab
end
section
namespace Go.Ab
noncomputable def rsP (e:EG)(l:List OPt):EG:=l.foldl (fun e o=>(JX true e o).2.2) e
theorem AAa (e:EG){l:List OPt}{i:Nat}(h:i<l.length):rsP e (l.take (i+1))=(JX true (rsP e (l.take i)) l[i]).2.2:=by
 unfold rsP
 rw[<-List.take_append_getElem h,List.foldl_append];rfl
theorem ABh {l:List OPt}:(∀o∈l,Lo o=true)->∀{e:EG},OkG e->OkG (rsP e l):=by
 induction l with
 |nil=>intro _ e H;exact H
 |cons a r ih=>intro h e H;exact ih (fun o ho=>h o (List.mem_cons_of_mem _ ho)) (H.step true (h a (List.mem_cons_self ..)))
theorem AA9 {l:List OPt}(h:∀o∈l,Lo o=true){e:EG}(H:OkG e)(i:Nat):OkG (rsP e (l.take i)):=ABh (fun o ho=>h o (List.mem_of_mem_take ho)) H
noncomputable def rsG (p:List (List OPt)):EG:=bif Zh p then rsP VI p.flatten else VI
theorem AA8 {p:List (List OPt)}(h:Zh p=true):∀o∈p.flatten,Lo o=true:=fun o ho=>by
 obtain⟨l,hl,ho⟩:=List.mem_flatten.1 ho
 exact(Ra ((Re h).2 l hl)).2 o ho
theorem sE {p:List (List OPt)}{k:Nat}(h:k<p.length):(p.take (k+1)).flatten=(p.take k).flatten++p[k]:=by
 rw[<-List.take_append_getElem h,List.flatten_append];simp
theorem flatP_len {p:List (List OPt)}(h:Zh p=true):∀k,k<=p.length->(p.take k).flatten.length<=12*k:=by
 intro k
 induction k with
 |zero=>intro _;simp
 |succ k ih=>
  intro hk
  rw[sE (by omega),List.length_append]
  have:=ih (by omega)
  have:=(Ra ((Re h).2 _ (List.getElem_mem (show k<p.length by omega)))).1
  omega
theorem AJm (p:List (List OPt)):OkG (rsG p):=by
 unfold rsG
 cases hp:Zh p
 ·exact iJ
 ·exact ABh (AA8 hp) iJ
theorem AIn {p:List (List OPt)}(hS:TL p):az (p,())=some (true,(rsG p).2.2.2.2,(rsG p).1,(rsG p).2.1,(rsG p).2.2.1,(rsG p).2.2.2.1,()):=by
 have hn:=hS.1
 unfold az rsG
 simp only[jS,Option.bind_some]
 cases hp:Zh p
 ·simp only[cond_false]
  rw[AZ]
  have hB:∃r,PZ (p,false,0,()) (0,true,0,iC,[],[],[],()) _ some=some (.inr r)/\Az r (fun p=>some (p.1,p.2.1,p.2.2.1,p.2.2.2.1,p.2.2.2.2.1,p.2.2.2.2.2.1,())) (fun p=>some (p.1,p.2.1,p.2.2.1,p.2.2.2.1,p.2.2.2.2.1,p.2.2.2.2.2.1,()))=some (true,VI.2.2.2.2,VI.1,VI.2.1,VI.2.2.1,VI.2.2.2.1,()):=by
   unfold PZ
   simp only[fE hS,hp,Option.bind_some]
   cases decide ((0:Int)<(p.length:Int))
   ·exact⟨_,rfl,rfl⟩
   ·exact⟨_,rfl,rfl⟩
  obtain⟨r,h1,h2⟩:=hB
  erw [h1]
  exact h2
 ·simp only[cond_true]
  refine D5 p.length (fun k=>((k:Int),true,(rsP VI (p.take k).flatten).2.2.2.2,(rsP VI (p.take k).flatten).1,(rsP VI (p.take k).flatten).2.1,(rsP VI (p.take k).flatten).2.2.1,(rsP VI (p.take k).flatten).2.2.2.1,())) (by simp[rsP];exact⟨rfl,rfl,rfl,rfl,rfl⟩) (fun k hk=>?_) ⟨.inr (true,(rsP VI p.flatten).2.2.2.2,(rsP VI p.flatten).1,(rsP VI p.flatten).2.1,(rsP VI p.flatten).2.2.1,(rsP VI p.flatten).2.2.2.1,()),?_,rfl⟩
  ·have hl:=Ra ((Re hp).2 _ (List.getElem_mem hk))
   have HK:OkG (rsP VI (p.take k).flatten):=ABh (fun o ho=>AA8 hp o (by
    obtain⟨l,hl,ho⟩:=List.mem_flatten.1 ho
    exact List.mem_flatten.2 ⟨l,List.mem_of_mem_take hl,ho⟩)) iJ
   have ef:rsP VI (p.take (k+1)).flatten=rsP (rsP VI (p.take k).flatten) p[k]:=by
    rw[sE hk];unfold rsP;rw[List.foldl_append]
   rw[ef]
   generalize rsP VI (p.take k).flatten=e at HK
   have hI:AC (fun b=>Rf (p,(k:Int),false,0,()) b _ some) (0,true,e.2.2.2.2,e.1,e.2.1,e.2.2.1,e.2.2.2.1,())=some (true,(rsP e p[k]).2.2.2.2,(rsP e p[k]).1,(rsP e p[k]).2.1,(rsP e p[k]).2.2.1,(rsP e p[k]).2.2.2.1,()):=by
    refine GE p[k].length (fun j=>((j:Int),true,(rsP e (p[k].take j)).2.2.2.2,(rsP e (p[k].take j)).1,(rsP e (p[k].take j)).2.1,(rsP e (p[k].take j)).2.2.1,(rsP e (p[k].take j)).2.2.2.1,())) rfl (fun j hj=>?_) ?_
    ·have HJ:=AA9 hl.2 HK j
     have hst:=fB HJ.small true p[k][j]
     rw[(TD _).2 HJ,hl.2 _ (List.getElem_mem hj)]at hst
     unfold Rf
     simp only[Al hk,Al hj,Option.bind_some]
     rw[decide_eq_true (by omega),An hj (by omega),AAa e hj]
     simp only[cond_true]
     erw [hst]
     rfl
    ·unfold Rf
     simp only[Al hk,Option.bind_some,List.take_length]
     rw[decide_eq_false (by omega)];rfl
   unfold PZ
   simp only[fE hS,hp,Option.bind_some]
   rw[decide_eq_true (by omega),An hk (by omega)]
   simp only[cond_true]
   erw [hI]
   rfl
  ·unfold PZ
   simp only[List.take_length]
   rw[decide_eq_false (by omega)];rfl
theorem AGm {p:List (List OPt)}(hp:Zh p=true):Vz (p,())=some (p.flatten,()):=by
 have h6:=(Re hp).1
 have hfl:=flatP_len hp p.length (Nat.le_refl _)
 rw[List.take_length]at hfl
 unfold Vz
 simp only
 refine D5 p.length (fun k=>(((p.take k).flatten.length:Int),(k:Int),())) (by simp) (fun k hk=>?_) ⟨((p.flatten.length:Int),()),?_,?_⟩
 ·have h1:=flatP_len hp k (by omega)
  have h2:=flatP_len hp (k+1) (by omega)
  rw[sE hk,List.length_append]at h2
  unfold PW
  simp only[Al hk,Option.bind_some,sE hk,List.length_append]
  rw[decide_eq_true (by omega),An hk (by omega),CI (by omega) (by omega),decide_eq_false (by omega)]
  simp only[cond_true,cond_false]
  congr 3
 ·unfold PW
  simp only[List.take_length]
  rw[decide_eq_false (by omega)];rfl
 ·have hg:Xz ((p.flatten.length:Int),())=some ([],()):=by
   unfold Xz cm
   simp only
   rw[if_pos (by omega)]
  simp only
  erw [hg]
  simp only[Option.bind_some]
  refine D5 p.length (fun k=>((k:Int),(p.take k).flatten,())) (by simp) (fun k hk=>?_) ⟨(p.flatten,()),?_,rfl⟩
  ·have h2:=flatP_len hp (k+1) (by omega)
   rw[sE hk]at h2
   unfold PK
   simp only[Al hk,Option.bind_some,sE hk]
   rw[decide_eq_true (by omega),An hk (by omega),if_pos (by omega)]
   rfl
  ·unfold PK
   simp only[List.take_length]
   rw[decide_eq_false (by omega)];rfl
theorem AIs {p:List (List OPt)}(hS:TL p):Xp (p,())=some (true,(rsG p).2.2.2.2,(rsG p).1,(rsG p).2.1,(rsG p).2.2.1,(rsG p).2.2.2.1,()):=by
 have hn:=hS.1
 unfold Xp rsG
 simp only[jU,yj hS,Option.bind_some]
 cases hp:Zh p
 ·rfl
 simp only[Bool.not_true,cond_false,cond_true,AGm hp,Option.bind_some]
 have h6:=(Re hp).1
 have hfl:=flatP_len hp p.length (Nat.le_refl _)
 rw[List.take_length]at hfl
 have hok:=AA8 hp
 generalize p.flatten=l at hfl hok
 refine D5 l.length (fun i=>((i:Int),true,(rsP VI (l.take i)).2.2.2.2,(rsP VI (l.take i)).1,(rsP VI (l.take i)).2.1,(rsP VI (l.take i)).2.2.1,(rsP VI (l.take i)).2.2.2.1,())) rfl (fun i hi=>?_) ⟨(true,(rsP VI l).2.2.2.2,(rsP VI l).1,(rsP VI l).2.1,(rsP VI l).2.2.1,(rsP VI l).2.2.2.1,()),?_,rfl⟩
 ·have HI:=AA9 hok iJ i
  have hst:=X3 HI (hok _ (List.getElem_mem hi)) true
  simp only[Hj]at hst
  have c1:(0:Int)<=(i:Int)/\(i:Int)<(l.length:Int):=by omega
  unfold TB
  simp only[if_pos c1,Nat.zero_add,Int.toNat_natCast,List.getElem?_eq_getElem hi,Option.bind_some]
  rw[decide_eq_true (by omega),An hi (by omega),AAa VI hi]
  simp only[cond_true]
  erw [hst]
  rfl
 ·unfold TB
  simp only[List.take_length]
  rw[decide_eq_false (by omega)];rfl
def law_tsRS:List Ty:=[.slice (.slice YOp)]
theorem law_RunSerially (x:den (Ja law_tsRS).ty)(hx:wf (Ja law_tsRS).ty x):XF x=some (true,()):=by
 obtain⟨p,_⟩:=x
 have hp:=hx.1
 unfold XF
 refine rK (Aal hp.1 (fun e he=>(hp.2 e he).1) (by omega) (by omega)) fun n h0 h1 hS=>?_
 have hS:TL p:=hS
 have hS1:List.length (α:=List OPt) p<=1048576:=hS.1
 have e1:=AIn hS
 have e2:=AIs hS
 have hC:=(AJm p).small
 have eO:=Aak p hS
 have eQ:=Aaq p (by omega) (fun r hr=>by have:=hS.2 r hr;unfold qF at this;omega)
 have b1:=Ao4 1 hS.2
 have b2:=A2x 1 p
 have eM:=yh p 1 (by omega) (by omega) (by omega)
 erw [eO]
 simp only[Option.bind_some]
 erw [e1]
 simp only[Option.bind_some]
 erw [e2]
 generalize rsG p=r at hC e2 ⊢
 obtain⟨c1,c2,c3,c4,c5⟩:=PY hC
 have d1:decide (YW 1 p<0)=false:=decide_eq_false (by omega)
 have d2:decide (enE r.1 r.2.1 r.2.2.1 r.2.2.2.1<0)=false:=decide_eq_false (by omega)
 simp only[Option.bind_some,X7 hC,Bool.not_true,cond_false]
 erw [eQ]
 simp only[Option.bind_some,Bool.not_true,cond_false]
 erw [eM]
 simp only[Option.bind_some,d1,cond_false,ST hC,Wf hC,d2,bne_self_eq_false]
end Go.Ab
end
