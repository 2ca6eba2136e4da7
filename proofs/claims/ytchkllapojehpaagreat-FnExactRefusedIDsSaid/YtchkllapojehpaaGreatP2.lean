import Derived.Test.YtchkllapojehpaaGreatP1
set_option linter.all false
section
namespace Go.Ab
def qF (a:List OPt):Prop:=a.length<=1048576
def TL (a:List (List OPt)):Prop:=a.length<=1048576/\∀e∈a,qF e
theorem re (xss:List (List OPt))(i:Nat)(hi:i<xss.length)(k:Int)(h0:0<=k)(hk:k+6*xss[i].length<9223372036854775000):
 MY (i,k,xss,())=some (k+6*xss[i].length,xss.set i (mkL mk6 6 k xss[i].length),()):=by
 unfold MY
 simp only
 generalize hrow:xss[i]=row at*
 have key:∀j:Nat,(xss.set i (mkd mk6 6 k row j))[i]?=some (mkd mk6 6 k row j):=fun j=>by simp[hi]
 rw[GE (r:=(k+6*row.length,xss.set i (mkL mk6 6 k row.length),())) row.length (fun j=>(k+6*(j:Int),(j:Int),xss.set i (mkd mk6 6 k row j),()))]
 ·rfl
 ·simp only[KT,<-hrow];simp
 ·intro j hj
  unfold J8
  have hl:=Iy mk6 6 k row j (by omega)
  have hg:=MU mk6 6 k row j hj
  have hs:=MT mk6 6 k row j hj
  simp only[key,Option.bind_some,hl]
  rw[decide_eq_true (by omega),if_pos (by omega)]
  simp only[cond_true,Option.bind_some,Nat.zero_add,Int.toNat_natCast,hg,List.set_set,List.length_set,List.getElem?_set_self,hi,hl,hj]
  rw[wr1 (k:=k+6*(j:Int)) (by omega) (by omega),wr1 (k:=k+6*(j:Int)+1) (by omega) (by omega),wr1 (k:=k+6*(j:Int)+1+1) (by omega) (by omega),wr1 (k:=k+6*(j:Int)+1+1+1) (by omega) (by omega),wr1 (k:=k+6*(j:Int)+1+1+1+1) (by omega) (by omega),wr1 (k:=k+6*(j:Int)+1+1+1+1+1) (by omega) (by omega),wr1 (k:=(j:Int)) (by omega) (by omega)]
  have e1:k+6*(j:Int)+1+1+1+1+1+1=k+6*((j+1:Nat):Int):=by push_cast;omega
  have e2:(k+6*(j:Int),k+6*(j:Int)+1,k+6*(j:Int)+1+1,k+6*(j:Int)+1+1+1,k+6*(j:Int)+1+1+1+1,k+6*(j:Int)+1+1+1+1+1,())=mk6 (k+6*(j:Int)):=by simp[mk6];omega
  rw[e1,e2,hs]
  simp[hj]
 ·unfold J8
  simp only[key,Option.bind_some,MV,AK]
  have key2:(xss.set i (mkL mk6 6 k row.length))[i]?=some (mkL mk6 6 k row.length):=by simp[hi]
  simp only[key2,Option.bind_some,AK]
  rw[decide_eq_false (by omega)]
  rfl
def Aat:Int->List (List OPt)->List (List OPt)
 |_,[]=>[]
 |k,r::rs=>mkL mk6 6 k r.length::Aat (k+6*r.length) rs
def YW:Int->List (List OPt)->Int
 |k,[]=>k
 |k,r::rs=>YW (k+6*r.length) rs
theorem A2x (k:Int)(xss:List (List OPt)):k<=YW k xss:=by
 induction xss generalizing k with
 |nil=>exact Int.le_refl k
 |cons r rs ih=>have:=ih (k+6*r.length);simp only[YW];omega
theorem yh (xss:List (List OPt))(k:Int)(h0:0<=k)(hk:YW k xss<9223372036854775000)(hl:xss.length<9223372036854775000):M6 (k,xss,())=some (YW k xss,Aat k xss,()):=by
 unfold M6
 simp only
 have key:∀(rs pre:List (List OPt)) (k:Int),0<=k->YW k rs<9223372036854775000->pre.length+rs.length<9223372036854775000->
  AC (fun v=>GA () v _ some) (k,(pre.length:Int),pre++rs,())=some (YW k rs,pre++Aat k rs,()):=by
  intro rs
  induction rs with
  |nil=>
   intro pre k h0 hk hl
   rw[AZ]
   unfold GA
   simp only[List.append_nil]
   rw[decide_eq_false (by omega)]
   simp[YW,Aat]
  |cons r rs ih=>
   intro pre k h0 hk hl
   have hge:=A2x (k+6*r.length) rs
   simp only[YW]at hk
   simp only[List.length_cons]at hl
   have hi:pre.length<(pre++r::rs).length:=by simp
   have hget:(pre++r::rs)[pre.length]=r:=by simp
   have hm:=re (pre++r::rs) pre.length hi k h0 (by rw[hget];omega)
   rw[hget]at hm
   have hset:(pre++r::rs).set pre.length (mkL mk6 6 k r.length)=(pre++[mkL mk6 6 k r.length])++rs:=by simp
   have hB:GA () (k,(pre.length:Int),pre++r::rs,()) _ some=some (.inl (k+6*r.length,(pre.length:Int)+1,(pre++[mkL mk6 6 k r.length])++rs,())):=by
    unfold GA
    simp only[List.length_append,List.length_cons]
    rw[decide_eq_true (by omega),if_pos (by omega)]
    have hge2:(pre++r::rs)[pre.length]?=some r:=by simp
    simp only[cond_true,Nat.zero_add,Int.toNat_natCast,hge2,Option.bind_some,hm]
    rw[wr1 (by omega) (by omega),hset]
   rw[AZ,hB]
   have:=ih (pre++[mkL mk6 6 k r.length]) (k+6*r.length) (by omega) hk (by simp;omega)
   simp only[List.length_append,List.length_cons,List.length_nil,Nat.zero_add,Int.natCast_add]at this
   rw[show((1:Nat):Int)=1 from rfl]at this
   simp only[Option.bind_some]
   rw[this]
   simp[YW,Aat]
 have:=key xss [] k h0 hk (by simpa using hl)
 simp only[List.length_nil,List.nil_append,Int.natCast_zero]at this
 rw[this];rfl
theorem Aak (a:List (List OPt))(ha:TL a):Kt (a,())=some (a,()):=by
 have hn:=ha.1
 unfold Kt
 simp only
 rw[if_pos (by omega),Int.toNat_natCast]
 refine Mb hn (fun i h out ho=>?_) fun out=>?_
 ·unfold KU
  simp only[Al h,Option.bind_some,sB _ (ha.2 _ (List.getElem_mem h))]
  rw[decide_eq_true (by omega),if_pos (by omega),An h (by omega)]
  simp[ho,h]
 ·unfold KU
  simp only
  rw[decide_eq_false (by omega)];rfl
theorem Aal {a:List (List OPt)}{l:Int}(ha:a.length<=maxLen)(hb:∀e∈a,e.length<=maxLen)(h0:0<=l)(h1:l<=1048576):Na (TL a) (Rs (a,l,())):=
 d4 (Small:=qF) (F:=fun e l=>LK (e,l,())) ha (fun e he l h0 h1=>sC (hb e he) h0 h1) (fun l i=>rfl) h0 h1
theorem Ao4 {a:List (List OPt)}:∀(k:Int),(∀e∈a,e.length<=1048576)->YW k a<=k+6291456*a.length:=by
 induction a with
 |nil=>intro k _;simp[YW]
 |cons r rs ih=>
  intro k h
  have h1:=ih (k+6*r.length) (fun e he=>h e (List.mem_cons_of_mem _ he))
  have h2:=h r (List.mem_cons_self ..)
  simp only[YW,List.length_cons]
  push_cast
  omega
theorem Aaq (a:List (List OPt))(ha:a.length<9223372036854775000)(hb:∀r∈a,r.length<9223372036854775000):Pp (a,a,())=some (true,()):=by
 unfold Pp
 simp only[bne_self_eq_false,cond_false]
 refine D5 a.length (fun j=>((j:Int),())) rfl (fun j hj=>?_) ⟨.inr (),?_,rfl⟩
 ·unfold KV
  simp only[Al hj,Option.bind_some,qI _ (hb _ (List.getElem_mem hj))]
  rw[decide_eq_true (by omega),wr1 (by omega) (by omega)]
  rfl
 ·unfold KV
  simp only
  rw[decide_eq_false (by omega)]
  rfl
end Go.Ab
end
section
namespace Go.Ab
def idP (l:List OPt):Int:=match l with|o::_=>o.2.1|[]=>0
noncomputable def ri:List Int->List (List OPt)->Bool
 |_,[]=>true
 |kn,l::r=>O8 l&&!(kn.contains (idP l))&&ri (idP l::kn) r
noncomputable def Zh (p:List (List OPt)):Bool:=ri [] p&&decide ((p.length:Int)<=6)
theorem Wn {l:List OPt}(h:O8 l=true):2<=l.length:=by
 unfold O8 at h
 rw[Bool.and_eq_true]at h
 have h1:=Bc.1 h.1
 omega
theorem Axo (p:List (List OPt))(h:∀l∈p,l.length<=1048576):∀kn,gO J5 kn p=some (ri kn p):=by
 induction p with
 |nil=>intro kn;rfl
 |cons l r ih=>
  intro kn
  have hl:=h l (List.mem_cons_self ..)
  unfold gO
  have hp:=jT hl
  erw [hp]
  simp only[Option.bind_some,ri]
  cases ho:O8 l
  ·rfl
  ·have h2:=Wn ho
   match l,ho,h2 with
   |o::t,ho,h2=>
    have hb:=(Bc.1 ((QK o).1 ((Ra ho).2 o (List.mem_cons_self ..))).2.1)
    simp only[Bool.not_true,cond_false,Bool.true_and]
    rw[if_pos (by omega)]
    simp only[idP]
    cases kn.contains o.2.1
    ·simp only[cond_false,Bool.not_false,Bool.true_and]
     exact ih (fun e he=>h e (List.mem_cons_of_mem _ he)) _
    ·rfl
theorem yj {p:List (List OPt)}(h:TL p):Lu (p,())=some (Zh p,()):=by
 have e:=Axo p h.2 []
 have hn:=h.1
 unfold Lu A3k Zh
 rw[if_pos (by simp only;omega)]
 erw [e]
 rfl
theorem A2w {l:List OPt}(h:2<=l.length):∃o,lAt l 0=some o/\o.2.1=idP l/\l[0]?=some o:=by
 match l,h with
 |o::t,_=>exact⟨o,rfl,rfl,rfl⟩
theorem fE {p:List (List OPt)}(h:TL p):KB (p,())=some (Zh p,()):=by
 have hn:=h.1
 unfold KB Zh
 simp only
 have key:∀(rs pre:List (List OPt)),pre++rs=p->(∀l∈pre,O8 l=true)->
  ((AC (fun v=>Fm (p,()) v _ some) ((pre.length:Int),())).bind fun q=>Az q (fun _=>some (false,())) fun q=>Az q (fun _=>some (false,())) fun _=>some (decide ((p.length:Int)<=6),()))=some (ri (pre.map idP).reverse rs&&decide ((p.length:Int)<=6),()):=by
  intro rs
  induction rs with
  |nil=>
   intro pre hp ho
   rw[List.append_nil]at hp
   rw[AZ]
   have hB:Fm (p,()) ((pre.length:Int),()) _ some=some (.inr (.inr (.inr ()))):=by
    unfold Fm
    simp only
    rw[decide_eq_false (by rw[hp];omega)]
    rfl
   rw[hB]
   rfl
  |cons l rs ih=>
   intro pre hp ho
   have hi:pre.length<p.length:=by rw[<-hp];simp
   have hgl:p[pre.length]?=some l:=by rw[<-hp];simp
   have hg:lAt p (pre.length:Int)=some l:=by
    rw[Al hi];rw[List.getElem?_eq_getElem hi]at hgl;exact hgl
   have hl:l.length<=1048576:=h.2 l (by rw[<-hp];simp)
   rw[AZ]
   have hB:Fm (p,()) ((pre.length:Int),()) _ some=bif O8 l then(bif (pre.map idP).reverse.contains (idP l)then some (.inr (.inr (.inl ())))else some (.inl ((pre.length:Int)+1,())))else some (.inr (.inl ())):=by
    unfold Fm
    simp only[hg,Option.bind_some,jR hl]
    rw[decide_eq_true (by omega),wr1 (by omega) (by omega)]
    cases hol:O8 l
    ·rfl
    ·simp only[Bool.not_true,cond_false,cond_true]
     obtain⟨o,w1,w2,w3⟩:=A2w (Wn hol)
     refine(Cj (n:=pre.length) (c:=fun k=>¬idP (p.getD k [])=idP l) (X:=some (.inl ((pre.length:Int)+1,()))) (no:=some (.inr (.inr (.inl ())))) (fun k hk=>?_) ⟨.inr (),?_,rfl⟩).trans ?_
     ·have hkp:k<p.length:=by omega
      have hpk:p[k]∈pre:=by
       have:p[k]=pre[k]:=by simp only[<-hp];rw[List.getElem_append_left hk]
       rw[this];exact List.getElem_mem hk
      obtain⟨o2,y1,y2,y3⟩:=A2w (Wn (ho _ hpk))
      have e3:p.getD k []=p[k]:=by simp[List.getD,hkp]
      unfold Ia
      simp only[Al hkp,Option.bind_some,y1,hg,w1,e3,y2,w2]
      rw[decide_eq_true (by omega),An hk (by omega)]
      simp only[cond_true]
      constructor
      ·intro hc
       rw[show(idP p[k]==idP l)=false from beq_false_of_ne hc];rfl
      ·intro hc
       rw[show(idP p[k]==idP l)=true from beq_iff_eq.2 (Decidable.not_not.1 hc)]
       refine⟨.inl (),rfl,rfl⟩
     ·unfold Ia
      simp only
      rw[decide_eq_false (by omega)];rfl
     ·have e4:dec (∀k,k<pre.length->¬idP (p.getD k [])=idP l)=!((pre.map idP).reverse.contains (idP l)):=by
       cases hc:(pre.map idP).reverse.contains (idP l)
       ·rw[AH];· rfl
        intro k hk e
        have:(pre.map idP).reverse.contains (idP l)=true:=by
         rw[List.contains_iff_mem]
         rw[List.mem_reverse,List.mem_map]
         refine⟨pre[k],List.getElem_mem hk,?_⟩
         rw[<-e];congr 1
         simp only[<-hp,List.getD_eq_getElem?_getD]
         rw[List.getElem?_append_left hk,List.getElem?_eq_getElem hk];rfl
        rw[hc]at this;cases this
       ·rw[BM];· rfl
        intro hall
        rw[List.contains_iff_mem,List.mem_reverse,List.mem_map]at hc
        obtain⟨a,ha,e⟩:=hc
        obtain⟨k,hk,rfl⟩:=List.getElem_of_mem ha
        refine hall k hk ?_
        rw[<-e];congr 1
        simp only[<-hp,List.getD_eq_getElem?_getD]
        rw[List.getElem?_append_left hk,List.getElem?_eq_getElem hk];rfl
      rw[e4]
      cases(pre.map idP).reverse.contains (idP l)<;>rfl
   rw[hB]
   simp only[ri]
   cases hol:O8 l
   ·rfl
   ·cases hc:(pre.map idP).reverse.contains (idP l)
    ·simp only[cond_true,cond_false,Option.bind_some,Bool.not_false,Bool.true_and]
     have:=ih (pre++[l]) (by rw[<-hp];simp) (fun e he=>by
      rcases List.mem_append.1 he with he|he
      ·exact ho e he
      ·rw[List.mem_singleton]at he;rw[he];exact hol)
     simp only[List.length_append,List.length_cons,List.length_nil,Nat.zero_add,Int.natCast_add,List.map_append,List.map_cons,List.map_nil,List.reverse_append,List.reverse_cons,List.reverse_nil,List.nil_append,List.singleton_append]at this
     exact this
    ·rfl
 exact key p [] rfl (fun l hl=>by cases hl)
theorem rf:∀(p:List (List OPt)) (kn:List Int),ri kn p=true->∀l∈p,O8 l=true
 |[],_,_,l,hl=>by cases hl
 |a::r,kn,h,l,hl=>by
  simp only[ri,Bool.and_eq_true]at h
  rcases List.mem_cons.1 hl with rfl|hl
  ·exact h.1.1
  ·exact rf r _ h.2 l hl
theorem Re {p:List (List OPt)}(h:Zh p=true):p.length<=6/\∀l∈p,O8 l=true:=by
 unfold Zh at h
 rw[Bool.and_eq_true,decide_eq_true_eq]at h
 exact⟨by omega,rf p [] h.1⟩
end Go.Ab
end
section
namespace Go.Ab
noncomputable section
abbrev RS:=EG×List OPt×List Int
def rfS (ce:Bool)(p:List (List OPt))(s:RS)(k:Nat):RS:=match p[k]?,s.2.2[k]? with
 |some l,some a=>bif a==(l.length:Int)then s else(match l[a.toNat]? with
  |some o=>((JX ce s.1 o).2.2,s.2.1++[o],bif (JX ce s.1 o).1==0 then s.2.2.set k (a+1)else bif (JX ce s.1 o).1==1 then s.2.2 else s.2.2.set k (l.length:Int))
  |none=>s)
 |_,_=>s
def rfK (ce:Bool)(p:List (List OPt))(s:RS)(k:Nat):RS:=(List.range k).foldl (rfS ce p) s
theorem ki (ce:Bool)(p:List (List OPt))(s:RS)(k:Nat):rfK ce p s (k+1)=rfS ce p (rfK ce p s k) k:=by
 unfold rfK
 rw[List.range_succ,List.foldl_append];rfl
def rfN (ce:Bool)(p:List (List OPt))(s:RS):Nat->RS
 |0=>s
 |n+1=>rfK ce p (rfN ce p s n) p.length
structure RF (p:List (List OPt))(s:RS)(n:Nat):Prop where
 ok:OkG s.1
 len:s.2.2.length=p.length
 pos:∀(k:Nat) (a:Int) (l:List OPt),s.2.2[k]?=some a->p[k]?=some l->0<=a/\a<=(l.length:Int)
 out:s.2.1.length<=n
section
variable {ce:Bool}{p:List (List OPt)}(hp:Zh p=true)
include hp
theorem RF.turn {s:RS}{n k:Nat}(H:RF p s n)(hk:k<p.length):∃l a,p[k]?=some l/\l∈p/\s.2.2[k]?=some a/\0<=a/\((a==(l.length:Int))=true/\rfS ce p s k=s\/
 (a==(l.length:Int))=false/\∃o,l[a.toNat]?=some o/\a.toNat<l.length/\Lo o=true/\rfS ce p s k=((JX ce s.1 o).2.2,s.2.1++[o],bif (JX ce s.1 o).1==0 then s.2.2.set k (a+1)else bif (JX ce s.1 o).1==1 then s.2.2 else s.2.2.set k (l.length:Int))):=by
 have h1:p[k]?=some p[k]:=List.getElem?_eq_getElem hk
 have hk2:k<s.2.2.length:=by rw[H.len];exact hk
 have h2:s.2.2[k]?=some s.2.2[k]:=List.getElem?_eq_getElem hk2
 obtain⟨h3,h4⟩:=H.pos k _ _ h2 h1
 refine⟨p[k],s.2.2[k],h1,List.getElem_mem hk,h2,h3,?_⟩
 unfold rfS
 rw[h1,h2]
 simp only
 cases hc:s.2.2[k]==((p[k].length:Nat):Int)
 ·right
  have hne:=beq_eq_false_iff_ne.1 hc
  have h5:(s.2.2[k]).toNat<p[k].length:=by omega
  refine⟨rfl,p[k][(s.2.2[k]).toNat],List.getElem?_eq_getElem h5,h5,?_,?_⟩
  ·exact(Ra ((Re hp).2 _ (List.getElem_mem hk))).2 _ (List.getElem_mem h5)
  ·rw[List.getElem?_eq_getElem h5];rfl
 ·left;exact⟨rfl,rfl⟩
theorem RF.step {s:RS}{n k:Nat}(H:RF p s n)(hk:k<p.length):RF p (rfS ce p s k) (n+1)/\(rfS ce p s k=s\/(rfS ce p s k).2.1.length=s.2.1.length+1):=by
 obtain⟨l,a,h1,hm,h2,h3,h|⟨hne,o,h4,h5,h6,h7⟩⟩:=H.turn (ce:=ce) hp hk
 ·rw[h.2]
  exact⟨⟨H.ok,H.len,H.pos,by have:=H.out;omega⟩,.inl rfl⟩
 ·rw[h7]
  have hkl:k<s.2.2.length:=by rw[H.len];exact hk
  refine⟨⟨H.ok.step ce h6,?_,?_,?_⟩,.inr (by simp)⟩
  ·simp only
   cases(JX ce s.1 o).1==0
   ·cases(JX ce s.1 o).1==1
    ·simp[H.len]
    ·simp[H.len]
   ·simp[H.len]
  ·intro j b l' hj hl'
   simp only at hj
   have key:∀v:Int,0<=v->v<=(l.length:Int)->(s.2.2.set k v)[j]?=some b->0<=b/\b<=(l'.length:Int):=by
    intro v hv1 hv2 hs
    by_cases e:k=j
    ·subst e
     rw[List.getElem?_set_self hkl]at hs
     rw[h1]at hl'
     cases hs;cases hl'
     exact⟨hv1,hv2⟩
    ·rw[List.getElem?_set_ne e]at hs
     exact H.pos j b l' hs hl'
   cases h8:(JX ce s.1 o).1==0<;>rw[h8]at hj
   ·cases h9:(JX ce s.1 o).1==1<;>rw[h9]at hj
    ·exact key _ (by omega) (by omega) hj
    ·exact H.pos j b l' hj hl'
   ·exact key _ (by omega) (by omega) hj
  ·have:=H.out
   simp only[List.length_append,List.length_cons,List.length_nil];omega
theorem RF.rounds {s:RS}{n:Nat}(H:RF p s n):∀k,k<=p.length->RF p (rfK ce p s k) (n+k)/\s.2.1.length<=(rfK ce p s k).2.1.length/\((rfK ce p s k).2.1.length=s.2.1.length->rfK ce p s k=s):=by
 intro k
 induction k with
 |zero=>intro _;exact⟨H,Nat.le_refl _,fun _=>rfl⟩
 |succ k ih=>
  intro hk
  obtain⟨h1,h2,h3⟩:=ih (by omega)
  rw[ki]
  obtain⟨h4,h5⟩:=h1.step (ce:=ce) hp (k:=k) (by omega)
  refine⟨h4,?_,?_⟩
  ·rcases h5 with h5|h5
   ·rw[h5];exact h2
   ·omega
  ·intro e
   rcases h5 with h5|h5
   ·rw[h5]at e ⊢;exact h3 e
   ·omega
theorem RF.all {s:RS}(H:RF p s 0):∀n,RF p (rfN ce p s n) (n*p.length):=by
 intro n
 induction n with
 |zero=>rw[Nat.zero_mul];exact H
 |succ n ih=>
  have:=(ih.rounds (ce:=ce) hp p.length (Nat.le_refl _)).1
  rw[Nat.succ_mul];exact this
omit hp in
theorem Axw {s:RS}{i:Nat}(h:rfK ce p (rfN ce p s i) p.length=rfN ce p s i):∀j,rfN ce p s (i+j)=rfN ce p s i:=by
 intro j
 induction j with
 |zero=>rfl
 |succ j ih=>
  show rfK ce p (rfN ce p s (i+j)) p.length=_
  rw[ih,h]
end
def rfG (ce:Bool)(p:List (List OPt)):RS:=bif Zh p then rfN ce p (VI,[],List.replicate p.length 0) 200 else(VI,[],[])
theorem RF.new {p:List (List OPt)}:RF p (VI,[],List.replicate p.length 0) 0:=by
 refine⟨iJ,by simp,fun k a l h1 h2=>?_,Nat.le_refl _⟩
 simp only[List.getElem?_replicate]at h1
 split at h1
 ·cases h1;omega
 ·cases h1
theorem Axx (ce:Bool)(p:List (List OPt)):OkG (rfG ce p).1/\(rfG ce p).2.1.length<=1200:=by
 unfold rfG
 cases hp:Zh p
 ·exact⟨iJ,by simp⟩
 ·have h:=RF.all (ce:=ce) hp (RF.new (p:=p)) 200
  have h1:=h.out
  have h2:=(Re hp).1
  exact⟨h.ok,by simp only[cond_true];omega⟩
theorem Axk (ce:Bool){p:List (List OPt)}(hS:TL p):
 Rv (ce,p,())=some (ce,(rfG ce p).1.2.2.2.2,(rfG ce p).1.1,(rfG ce p).1.2.1,(rfG ce p).1.2.2.1,(rfG ce p).1.2.2.2.1,(rfG ce p).2.1,()):=by
 have hn:=hS.1
 unfold Rv rfG
 simp only[jU,yj hS,Option.bind_some]
 cases hp:Zh p
 ·rfl
 simp only[Bool.not_true,cond_false,cond_true]
 rw[if_pos (by omega),Int.toNat_natCast]
 have hp6:=(Re hp).1
 generalize hs0:((VI,[],List.replicate p.length 0):RS)=s0
 have H0:RF p s0 0:=by rw[<-hs0];exact RF.new
 refine D5 200 (fun n=>((n:Int),ce,(rfN ce p s0 n).1.2.2.2.2,(rfN ce p s0 n).1.1,(rfN ce p s0 n).2.1,(rfN ce p s0 n).2.2,(rfN ce p s0 n).1.2.1,(rfN ce p s0 n).1.2.2.1,(rfN ce p s0 n).1.2.2.2.1,())) (by rw[<-hs0];rfl) (fun n hn2=>?_) ⟨(ce,(rfN ce p s0 200).1.2.2.2.2,(rfN ce p s0 200).1.1,(rfN ce p s0 200).2.1,(rfN ce p s0 200).2.2,(rfN ce p s0 200).1.2.1,(rfN ce p s0 200).1.2.2.1,(rfN ce p s0 200).1.2.2.2.1,()),?_,rfl⟩
 ·have HN:=RF.all (ce:=ce) hp H0 n
  have hNp:n*p.length<=1200:=by
   have:=Nat.mul_le_mul (show n<=200 by omega) hp6;omega
  show _=some (Sum.inl (((n+1:Nat):Int),ce,(rfK ce p (rfN ce p s0 n) p.length).1.2.2.2.2,(rfK ce p (rfN ce p s0 n) p.length).1.1,(rfK ce p (rfN ce p s0 n) p.length).2.1,(rfK ce p (rfN ce p s0 n) p.length).2.2,(rfK ce p (rfN ce p s0 n) p.length).1.2.1,(rfK ce p (rfN ce p s0 n) p.length).1.2.2.1,(rfK ce p (rfN ce p s0 n) p.length).1.2.2.2.1,()))
  generalize rfN ce p s0 n=s at HN
  unfold Og
  simp only
  rw[decide_eq_true (by omega),wr1 (by omega) (by omega)]
  simp only[cond_true]
  refine D5 p.length (fun k=>((k:Int),ce,(rfK ce p s k).1.2.2.2.2,(rfK ce p s k).1.1,(rfK ce p s k).2.1,(rfK ce p s k).2.2,(rfK ce p s k).1.2.1,(rfK ce p s k).1.2.2.1,(rfK ce p s k).1.2.2.2.1,())) rfl (fun k hk=>?_) ⟨(ce,(rfK ce p s p.length).1.2.2.2.2,(rfK ce p s p.length).1.1,(rfK ce p s p.length).2.1,(rfK ce p s p.length).2.2,(rfK ce p s p.length).1.2.1,(rfK ce p s p.length).1.2.2.1,(rfK ce p s p.length).1.2.2.2.1,()),?_,?_⟩
  ·obtain⟨HK,-,-⟩:=HN.rounds (ce:=ce) hp k (by omega)
   obtain⟨l,a,h1,hm,h2,h3,h⟩:=HK.turn (ce:=ce) hp hk
   have hlen:=HK.len
   have hout:=HK.out
   rw[ki]
   generalize rfK ce p s k=z at HK h2 h hlen hout
   have c1:(0:Int)<=(k:Int)/\(k:Int)<((z.2.2.length:Nat):Int):=by omega
   have hg:lAt p (k:Int)=some l:=by
    rw[Al hk];rw[List.getElem?_eq_getElem hk]at h1;exact h1
   have hl12:=(Ra ((Re hp).2 l hm)).1
   unfold Of
   simp only[hg,Option.bind_some,if_pos c1,Nat.zero_add,Int.toNat_natCast,h2]
   rw[decide_eq_true (by omega),wr1 (k:=(k:Int)) (by omega) (by omega)]
   simp only[cond_true]
   rcases h with⟨h4,h5⟩|⟨h4,o,h5,h6,h7,h8⟩
   ·rw[h4,h5];rfl
   ·rw[h4,h8]
    have hga:lAt l a=some o:=by
     rw[show a=((a.toNat:Nat):Int) by omega,Al h6]
     rw[List.getElem?_eq_getElem h6]at h5;exact h5
    have hst:=X3 HK.ok h7 ce
    simp only[Hj]at hst
    have hw:IntKind.i64.wrap (a+1)=a+1:=wr1 h3 (by omega)
    simp only[cond_false,hga,Option.bind_some,hw]
    rw[if_pos (by simp;omega)]
    erw [hst]
    simp only[Option.bind_some,VH]
    cases h9:(JX ce z.1 o).1==0
    ·cases h10:(JX ce z.1 o).1==1<;>rfl
    ·rfl
  ·unfold Of
   simp only
   rw[decide_eq_false (by omega)];rfl
  ·rfl
 ·unfold Og
  rfl
theorem Axi (ce:Bool){p:List (List OPt)}(hS:TL p):
 SB (ce,p,())=some (ce,(rfG ce p).1.2.2.2.2,(rfG ce p).1.1,(rfG ce p).2.1,(rfG ce p).1.2.1,(rfG ce p).1.2.2.1,(rfG ce p).1.2.2.2.1,()):=by
 have hn:=hS.1
 unfold SB rfG
 simp only[jS,fE hS,Option.bind_some]
 cases hp:Zh p
 ·rfl
 simp only[Bool.not_true,cond_false,cond_true]
 rw[if_pos (by omega),Int.toNat_natCast]
 have hp6:=(Re hp).1
 generalize hs0:((VI,[],List.replicate p.length 0):RS)=s0
 have H0:RF p s0 0:=by rw[<-hs0];exact RF.new
 have hin:∀(n:Nat) (s:RS),RF p s (n*p.length)->n*p.length<=1200->AC (fun a=>M8 (p,(n:Int),false,0,()) a _ some) (false,0,ce,s.1.2.2.2.2,s.1.1,s.2.1,s.2.2,s.1.2.1,s.1.2.2.1,s.1.2.2.2.1,())=
  some (!((rfK ce p s p.length).2.1.length==s.2.1.length),ce,(rfK ce p s p.length).1.2.2.2.2,(rfK ce p s p.length).1.1,(rfK ce p s p.length).2.1,(rfK ce p s p.length).2.2,(rfK ce p s p.length).1.2.1,(rfK ce p s p.length).1.2.2.1,(rfK ce p s p.length).1.2.2.2.1,()):=by
  intro n s HN hNp
  refine GE p.length (fun k=>(!((rfK ce p s k).2.1.length==s.2.1.length),(k:Int),ce,(rfK ce p s k).1.2.2.2.2,(rfK ce p s k).1.1,(rfK ce p s k).2.1,(rfK ce p s k).2.2,(rfK ce p s k).1.2.1,(rfK ce p s k).1.2.2.1,(rfK ce p s k).1.2.2.2.1,())) (by simp[rfK]) (fun k hk=>?_) ?_
  ·obtain⟨HK,hge,-⟩:=HN.rounds (ce:=ce) hp k (by omega)
   obtain⟨l,a,h1,hm,h2,h3,h⟩:=HK.turn (ce:=ce) hp hk
   have hlen:=HK.len
   have hout:=HK.out
   rw[ki]
   generalize rfK ce p s k=z at HK h2 h hlen hout hge
   have c1:(0:Int)<=(k:Int)/\(k:Int)<((z.2.2.length:Nat):Int):=by omega
   have hg:lAt p (k:Int)=some l:=by
    rw[Al hk];rw[List.getElem?_eq_getElem hk]at h1;exact h1
   have hl12:=(Ra ((Re hp).2 l hm)).1
   unfold M8
   simp only[hg,Option.bind_some,if_pos c1,Nat.zero_add,Int.toNat_natCast,h2]
   rw[decide_eq_true (by omega),wr1 (k:=(k:Int)) (by omega) (by omega)]
   simp only[cond_true]
   rcases h with⟨h4,h5⟩|⟨h4,o,h5,h6,h7,h8⟩
   ·rw[h4,h5];rfl
   ·rw[h4,h8]
    have hga:lAt l a=some o:=by
     rw[show a=((a.toNat:Nat):Int) by omega,Al h6]
     rw[List.getElem?_eq_getElem h6]at h5;exact h5
    have hst:=fB HK.ok.small ce o
    rw[(TD _).2 HK.ok,h7]at hst
    have hw:IntKind.i64.wrap (a+1)=a+1:=wr1 h3 (by omega)
    have hmv:((z.2.1++[o]).length==s.2.1.length)=false:=by
     rw[beq_eq_false_iff_ne];simp;omega
    simp only[cond_false,hga,Option.bind_some,hw]
    erw [hst]
    simp only[Bool.and_self,cond_true,Option.bind_some]
    rw[if_pos (by simp;omega),hmv]
    cases h9:(JX ce z.1 o).1==0
    ·cases h10:(JX ce z.1 o).1==1<;>rfl
    ·rfl
  ·unfold M8
   simp only
   rw[decide_eq_false (by omega)];rfl
 have key:∀m i:Nat,i+m=200->((AC (fun v=>LE (p,false,0,()) v _ some) ((i:Int),ce,(rfN ce p s0 i).1.2.2.2.2,(rfN ce p s0 i).1.1,(rfN ce p s0 i).2.1,(rfN ce p s0 i).2.2,(rfN ce p s0 i).1.2.1,(rfN ce p s0 i).1.2.2.1,(rfN ce p s0 i).1.2.2.2.1,())).bind fun p=>Az p (fun p=>some (p.1,p.2.1,p.2.2.1,p.2.2.2.1,p.2.2.2.2.2.1,p.2.2.2.2.2.2.1,p.2.2.2.2.2.2.2.1,())) fun p=>some (p.1,p.2.1,p.2.2.1,p.2.2.2.1,p.2.2.2.2.2.1,p.2.2.2.2.2.2.1,p.2.2.2.2.2.2.2.1,()))=
  some (ce,(rfN ce p s0 200).1.2.2.2.2,(rfN ce p s0 200).1.1,(rfN ce p s0 200).2.1,(rfN ce p s0 200).1.2.1,(rfN ce p s0 200).1.2.2.1,(rfN ce p s0 200).1.2.2.2.1,()):=by
  intro m
  induction m with
  |zero=>
   intro i hi
   obtain rfl:i=200:=by omega
   rw[AZ]
   unfold LE
   rfl
  |succ m ih=>
   intro i hi
   have HN:=RF.all (ce:=ce) hp H0 i
   have hNp:i*p.length<=1200:=by
    have:=Nat.mul_le_mul (show i<=200 by omega) hp6;omega
   obtain⟨HR,hge,hfix⟩:=HN.rounds (ce:=ce) hp p.length (Nat.le_refl _)
   have hI:=hin i _ HN hNp
   have hB:LE (p,false,0,()) ((i:Int),ce,(rfN ce p s0 i).1.2.2.2.2,(rfN ce p s0 i).1.1,(rfN ce p s0 i).2.1,(rfN ce p s0 i).2.2,(rfN ce p s0 i).1.2.1,(rfN ce p s0 i).1.2.2.1,(rfN ce p s0 i).1.2.2.2.1,()) _ some=
    bif ((rfN ce p s0 (i+1)).2.1.length==(rfN ce p s0 i).2.1.length)then some (.inr (.inl (ce,(rfN ce p s0 (i+1)).1.2.2.2.2,(rfN ce p s0 (i+1)).1.1,(rfN ce p s0 (i+1)).2.1,(rfN ce p s0 (i+1)).2.2,(rfN ce p s0 (i+1)).1.2.1,(rfN ce p s0 (i+1)).1.2.2.1,(rfN ce p s0 (i+1)).1.2.2.2.1,())))
    else some (.inl (((i+1:Nat):Int),ce,(rfN ce p s0 (i+1)).1.2.2.2.2,(rfN ce p s0 (i+1)).1.1,(rfN ce p s0 (i+1)).2.1,(rfN ce p s0 (i+1)).2.2,(rfN ce p s0 (i+1)).1.2.1,(rfN ce p s0 (i+1)).1.2.2.1,(rfN ce p s0 (i+1)).1.2.2.2.1,())):=by
    unfold LE
    simp only
    rw[decide_eq_true (by omega),wr1 (by omega) (by omega)]
    simp only[cond_true]
    erw [hI]
    simp only[Option.bind_some,Bool.not_not]
    rfl
   rw[AZ]
   erw [hB]
   cases hc:(rfN ce p s0 (i+1)).2.1.length==(rfN ce p s0 i).2.1.length
   ·simp only[cond_false,Option.bind_some]
    exact ih (i+1) (by omega)
   ·have e1:rfN ce p s0 (i+1)=rfN ce p s0 i:=hfix (beq_iff_eq.1 hc)
    have e2:=Axw (ce:=ce) (p:=p) (s:=s0) (i:=i) e1 (m+1)
    rw[show i+(m+1)=200 by omega]at e2
    simp only[cond_true,Option.bind_some]
    rw[e2,e1]
    rfl
 have h200:=key 200 0 rfl
 rw[<-hs0]at h200 ⊢
 exact h200
end
end Go.Ab
end
section
namespace Go.Ab
def abB (t:List TX)(id:Int):Bool:=match t.findIdx? fun x=>x.1==id with
 |some i=>(match t[i]? with|some x=>x.2.2.1==3|none=>false)
 |none=>false
def Aba (l:List OPt):Bool:=match l[l.length-1]? with|some o=>o.1==5|none=>false
def Ab7 (t:List TX)(p:List (List OPt)):List Int:=(p.filter fun l=>Aba l&&abB t (idP l)).map idP
noncomputable def ABj (p:List (List OPt)):List Int:=bif Zh p then Ab7 (rfG true p).1.2.1 p else[]
theorem Axu {t:List TX}{p:List (List OPt)}{i:Nat}(h:i<p.length):Ab7 t (p.take (i+1))=bif Aba p[i]&&abB t (idP p[i])then Ab7 t (p.take i)++[idP p[i]]else Ab7 t (p.take i):=by
 unfold Ab7
 rw[<-List.take_append_getElem h,List.filter_append,List.map_append]
 cases hc:Aba p[i]&&abB t (idP p[i])<;>simp[List.filter,hc]
theorem Aok (t:List TX)(p:List (List OPt))(i:Nat):(Ab7 t (p.take i)).length<=p.length:=by
 unfold Ab7
 rw[List.length_map]
 refine Nat.le_trans (List.length_filter_le ..) ?_
 simp;omega
theorem AJs {t:List TX}(hu:GH (·.1) t)(id:Int):decide (id∈rq t 3)=abB t id:=by
 unfold abB rq
 cases hf:t.findIdx? fun x=>x.1==id with
 |none=>
  rw[List.findIdx?_eq_none_iff]at hf
  simp only[decide_eq_false_iff_not,List.mem_map,List.mem_filter,not_exists,not_and]
  rintro x ⟨h1,_⟩ h2
  have:=hf x h1
  simp[h2]at this
 |some i=>
  obtain⟨h1,h2,h3⟩:=List.findIdx?_eq_some_iff_getElem.1 hf
  simp only
  rw[List.getElem?_eq_getElem h1]
  simp only
  have h2:t[i].1=id:=by simpa using h2
  rw[Bool.eq_iff_iff,decide_eq_true_eq,beq_iff_eq,List.mem_map]
  constructor
  ·rintro⟨x,hx,e⟩
   rw[List.mem_filter]at hx
   obtain⟨j,hj,rfl⟩:=List.getElem_of_mem hx.1
   have:j=i:=by
    unfold GH at hu
    rcases Nat.lt_trichotomy j i with c|c|c
    ·have:=List.pairwise_iff_getElem.1 hu j i hj h1 c;simp only at this;omega
    ·exact c
    ·have:=List.pairwise_iff_getElem.1 hu i j h1 hj c;simp only at this;omega
   subst this
   simpa using hx.2
  ·intro e
   exact⟨t[i],List.mem_filter.2 ⟨List.getElem_mem h1,by simp[e]⟩,h2⟩
theorem ABg {l:List OPt}(h:0<l.length)(hl:l.length<=1048576):∃o,lAt l (IntKind.i64.wrap ((l.length:Int)-1))=some o/\(o.1==5)=Aba l:=by
 refine⟨l[l.length-1],?_,?_⟩
 ·rw[CI (by omega) (by omega),show(l.length:Int)-1=((l.length-1:Nat):Int) by omega,Al (by omega)]
 ·unfold Aba
  rw[List.getElem?_eq_getElem (by omega)]
theorem AIw {l:List OPt}(h:0<l.length):∃o,lAt l 0=some o/\o.2.1=idP l:=by
 match l,h with
 |o::t,_=>exact⟨o,rfl,rfl⟩
theorem Axj {e:EG}(H:OkG e)(ce:Bool){p:List (List OPt)}(hS:TL p)(hne:(∀l∈p,0<l.length)\/e.2.1=[]):pB ((ce,(e.1,()),e.2.1,e.2.2.1,e.2.2.2.1,e.2.2.2.2,()),p,())=some (bif e.2.1.isEmpty then[]else Ab7 e.2.1 p,()):=by
 have hn:=hS.1
 have hfl:=H.small.fl
 unfold pB
 simp only[Ad3 hfl,Option.bind_some]
 have hab:=fun id=>AJs H.txU id
 have hil:(rq e.2.1 3).length<=1048576:=by
  have:=Aax e.2.1 3 e.2.1.length
  rw[List.take_length]at this;omega
 have hR:∀i,Ab7 e.2.1 (p.take i)=bif e.2.1.isEmpty then[]else Ab7 e.2.1 (p.take i):=by
  intro i
  cases ht:e.2.1 with
  |nil=>
   unfold Ab7
   have:∀l:List OPt,(Aba l&&abB [] (idP l))=false:=fun l=>by unfold abB;simp
   simp only[this]
   simp
  |cons a r=>rfl
 have hfin:=hR p.length
 rw[List.take_length]at hfin
 rw[<-hfin]
 refine D5 p.length (fun i=>((i:Int),Ab7 e.2.1 (p.take i),())) rfl (fun i hi=>?_) ⟨(Ab7 e.2.1 p,()),?_,rfl⟩
 ·have hl:=hS.2 _ (List.getElem_mem hi)
  unfold qF at hl
  have hlen:=Aok e.2.1 p i
  unfold XJ
  simp only[Al hi,Option.bind_some,Axu hi]
  rw[decide_eq_true (by omega),An hi (by omega)]
  simp only[cond_true]
  by_cases h0:0<p[i].length
  ·obtain⟨o,w1,w2⟩:=ABg h0 hl
   obtain⟨o2,y1,y2⟩:=AIw h0
   have hc:=VG hil (idP p[i])
   rw[decide_eq_true (by omega)]
   simp only[cond_true,w1,Option.bind_some,w2,y1,y2,hc,hab]
   cases Aba p[i]
   ·rfl
   ·cases abB e.2.1 (idP p[i])
    ·rfl
    ·simp only[cond_true,Bool.and_self]
     rw[if_pos (by simp;omega)]
  ·rcases hne with hne|hne
   ·exact absurd (hne _ (List.getElem_mem hi)) h0
   ·rw[decide_eq_false (by omega)]
    have:(Aba p[i]&&abB e.2.1 (idP p[i]))=false:=by rw[hne];unfold abB;simp
    rw[this];rfl
 ·unfold XJ
  simp only[List.take_length]
  rw[decide_eq_false (by omega)];rfl
theorem AIu {p:List (List OPt)}(hS:TL p):YN (p,())=some (ABj p,()):=by
 unfold YN ABj
 simp only[Axk true hS,Option.bind_some]
 have H:=(Axx true p).1
 cases hp:Zh p
 ·have he:(rfG true p).1=VI:=by unfold rfG;rw[hp];rfl
  have:=Axj H true hS (.inr (by rw[he];rfl))
  erw [this]
  rw[he];rfl
 ·have:=Axj H true hS (.inl fun l hl=>by have:=Wn ((Re hp).2 l hl);omega)
  erw [this]
  simp only[Option.bind_some,cond_true]
  cases ht:(rfG true p).1.2.1 with
  |nil=>
   unfold Ab7
   have:∀l:List OPt,(Aba l&&abB [] (idP l))=false:=fun l=>by unfold abB;simp
   simp only[this]
   simp
  |cons a r=>rfl
theorem AIp {p:List (List OPt)}(hS:TL p):cq (p,())=some (ABj p,()):=by
 have hn:=hS.1
 unfold cq ABj
 simp only[Axi true hS,Option.bind_some]
 have H:=(Axx true p).1
 have hfl:=H.small.fl
 cases hp:Zh p
 ·have hB:∃r,Qo (p,true,(rfG true p).1.2.2.2.2,(rfG true p).1.1,(rfG true p).1.2.1,(rfG true p).1.2.2.1,(rfG true p).1.2.2.2.1,()) (0,[],()) _ some=some (.inr r)/\Az r (fun p=>some (p.1,())) (fun p=>some (p.1,()))=some ([],()):=by
   unfold Qo
   simp only[fE hS,hp,Option.bind_some]
   cases decide ((0:Int)<(p.length:Int))
   ·exact⟨_,rfl,rfl⟩
   ·exact⟨_,rfl,rfl⟩
  obtain⟨r,h1,h2⟩:=hB
  rw[AZ]
  erw [h1]
  exact h2
 ·simp only[cond_true]
  generalize rfG true p=g at H hfl
  refine D5 p.length (fun i=>((i:Int),Ab7 g.1.2.1 (p.take i),())) rfl (fun i hi=>?_) ⟨.inr (Ab7 g.1.2.1 p,()),?_,rfl⟩
  ·have hl:=hS.2 _ (List.getElem_mem hi)
   unfold qF at hl
   have hlen:=Aok g.1.2.1 p i
   have h0:=Wn ((Re hp).2 _ (List.getElem_mem hi))
   obtain⟨o,w1,w2⟩:=ABg (by omega) hl
   obtain⟨o2,y1,y2⟩:=AIw (l:=p[i]) (by omega)
   have hft:=TE (s:=g.1.1) hfl true g.1.2.2.1 g.1.2.2.2.1 g.1.2.2.2.2 (idP p[i])
   unfold Qo
   simp only[Al hi,Option.bind_some,Axu hi,fE hS,hp]
   rw[decide_eq_true (by omega),An hi (by omega)]
   simp only[cond_true,y1,y2,Option.bind_some,w1,w2,hft]
   cases Aba p[i]
   ·rfl
   ·simp only[cond_true,Bool.true_and]
    unfold abB
    cases hf:g.1.2.1.findIdx? fun x=>x.1==idP p[i]with
    |none=>rfl
    |some k=>
     obtain⟨h1,h2,h3⟩:=List.findIdx?_eq_some_iff_getElem.1 hf
     have c1:(0:Int)<=(k:Int)/\(k:Int)<(g.1.2.1.length:Int):=by omega
     have c0:((k:Int)>=0):=by omega
     have c2:=c1.2
     simp only[fx,c0,c2,decide_true,and_self,if_true]
     simp only[cond_true,Nat.zero_add,Int.toNat_natCast,List.getElem?_eq_getElem h1,Option.bind_some]
     cases g.1.2.1[k].2.2.1==3
     ·rfl
     ·simp only[cond_true]
      rw[if_pos (by simp;omega)]
  ·unfold Qo
   simp only[List.take_length]
   rw[decide_eq_false (by omega)];rfl
theorem AGo {p:List (List OPt)}(hS:TL p):(ABj p).length<=1048576:=by
 have hn:=hS.1
 unfold ABj
 cases Zh p
 ·simp
 ·have:=Aok (rfG true p).1.2.1 p p.length
  rw[List.take_length]at this
  simp only[cond_true];omega
def law_tsRI:List Ty:=[.slice (.slice YOp)]
theorem law_RefusedIDs (x:den (Ja law_tsRI).ty)(hx:wf (Ja law_tsRI).ty x):Ze x=some (true,()):=by
 obtain⟨p,_⟩:=x
 have hp:=hx.1
 unfold Ze
 refine rK (Aal hp.1 (fun e he=>(hp.2 e he).1) (by omega) (by omega)) fun n h0 h1 hS=>?_
 have hS:TL p:=hS
 have hS1:List.length (α:=List OPt) p<=1048576:=hS.1
 have e1:=AIp hS
 have e2:=AIu hS
 have hl:=AGo hS
 have eO:=Aak p hS
 have eQ:=Aaq p (by omega) (fun r hr=>by have:=hS.2 r hr;unfold qF at this;omega)
 have b1:=Ao4 1 hS.2
 have b2:=A2x 1 p
 have eM:=yh p 1 (by omega) (by omega) (by omega)
 erw [eO]
 simp only[Option.bind_some]
 erw [e1]
 simp only[Option.bind_some]
 erw [e2]
 generalize ABj p=r at hl e2 ⊢
 have d1:decide (YW 1 p<0)=false:=decide_eq_false (by omega)
 have d2:decide (1+(r.length:Int)<0)=false:=decide_eq_false (by omega)
 have hq:=yk r hl
 have hm:=A6w r 1 (by omega) (by omega)
 have hh:=jV r.length 1 (by omega) (by omega)
 simp only[Option.bind_some,hq,Bool.not_true,cond_false]
 erw [eQ]
 simp only[Option.bind_some,Bool.not_true,cond_false]
 erw [eM]
 simp only[Option.bind_some,d1,cond_false,hm,hh,d2,bne_self_eq_false]
end Go.Ab
end
