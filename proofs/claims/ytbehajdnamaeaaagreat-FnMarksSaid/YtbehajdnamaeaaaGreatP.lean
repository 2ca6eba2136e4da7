import Derived.Test.YtbehajdnamaeaaaGreatSp1
set_option linter.all false
section
namespace Go.Ab
abbrev VM:=Int×Int×Unit
abbrev VV:=Int×Int×Int×Int×Int×Unit
theorem wr1 {k:Int}(h0:0<=k)(h:k<9223372036854775807):IntKind.wrap IntKind.i64 (k+1)=k+1:=CU (by omega) (by omega)
theorem L1 {σ ρ:Type}{B:σ->Option (σ ⊕ ρ)}{s0:σ}{r:ρ}(n:Nat)(st:Nat->σ)(h0:s0=st 0)(hstep:∀i,i<n->B (st i)=some (.inl (st (i+1))))(hend:B (st n)=some (.inr r)):BL B s0=some r:=by
 subst h0;exact Zo st hstep hend
theorem L0 {σ ρ τ:Type}{B:σ->Option (σ ⊕ ρ)}{s0:σ}{k:ρ->Option τ}{q:Option τ}(n:Nat)(st:Nat->σ)(h0:s0=st 0)(hstep:∀i,i<n->B (st i)=some (.inl (st (i+1))))(hend:∃r,B (st n)=some (.inr r)/\k r=q):(BL B s0).bind k=q:=by
 obtain⟨r,h1,h2⟩:=hend
 rw[L1 n st h0 hstep h1];exact h2
def XE:Int->List (List VV)->Int
 |k,[]=>k
 |k,r::rs=>XE (k+5*r.length) rs
end Go.Ab
end
section
namespace Go.Ab
theorem He {ρ τ:Type}{B:Int×Unit->Option ((Int×Unit) ⊕ ρ)}{k:ρ->Option τ}{n:Nat}{c:Nat->Prop}{X no:Option τ}
 (hB:∀i,i<n->(c i->B ((i:Int),())=some (.inl (((i+1:Nat):Int),())))/\(¬c i->∃r,B ((i:Int),())=some (.inr r)/\k r=no))
 (hend:∃r,B ((n:Int),())=some (.inr r)/\k r=X):
 (BL B (0,())).bind k=bif dec (∀i,i<n->c i)then X else no:=by
 have key:∀m i:Nat,i+m=n->(BL B ((i:Int),())).bind k=bif dec (∀j,i<=j->j<n->c j)then X else no:=by
  intro m
  induction m with
  |zero=>
   intro i hi
   obtain rfl:i=n:=by omega
   obtain⟨r,h1,h2⟩:=hend
   rw[BH,h1,Cd (fun j h1 h2=>by omega)];exact h2
  |succ m ih=>
   intro i hi
   by_cases hc:c i
   ·rw[BH,(hB i (by omega)).1 hc]
    simp only[Option.bind_some]
    rw[ih (i+1) (by omega)]
    congr 1
    apply K1
    constructor
    ·intro h j h1 h2
     by_cases e:j=i
     ·rw[e];exact hc
     ·exact h j (by omega) h2
    ·intro h j h1 h2;exact h j (by omega) h2
   ·obtain⟨r,h1,h2⟩:=(hB i (by omega)).2 hc
    rw[BH,h1,EF (fun h=>hc (h i (Nat.le_refl _) (by omega)))];exact h2
 have:=key n 0 (by omega)
 simp only[Int.natCast_zero,Nat.zero_le,true_implies]at this
 exact this
theorem Jg {σ α ρ τ:Type}{l:List α}{f:σ->α->σ}{B:σ×Int×Unit->Option ((σ×Int×Unit) ⊕ ρ)}{k:ρ->Option τ}{X:σ->Option τ}{q:Option τ}(n0:σ)(hB:∀(i:Nat) (h:i<l.length) (n:σ),B (n,(i:Int),())=some (.inl (f n l[i],((i+1:Nat):Int),())))
 (hend:∀n,∃r,B (n,(l.length:Int),())=some (.inr r)/\k r=X n)(hq:X (l.foldl f n0)=q):(BL B (n0,0,())).bind k=q:=by
 have key:∀m i:Nat,i+m=l.length->∀n,(BL B (n,(i:Int),())).bind k=X ((l.drop i).foldl f n):=by
  intro m
  induction m with
  |zero=>
   intro i hi n
   obtain rfl:i=l.length:=by omega
   obtain⟨r,h1,h2⟩:=hend n
   rw[BH,h1];simpa using h2
  |succ m ih=>
   intro i hi n
   have h:i<l.length:=by omega
   rw[BH,hB i h,List.drop_eq_getElem_cons h]
   simp only[Option.bind_some]
   rw[ih (i+1) (by omega)];rfl
 have:=key l.length 0 (by omega) n0
 simpa[hq]using this
def Gx (a:List VV):Prop:=a.length<=1048576
def Hy (a:List (List VV)):Prop:=a.length<=1048576/\∀e∈a,Gx e
theorem FM (x lo hi:Int):Bo (x,lo,hi,())=some (inB x lo hi,()):=by
 unfold Bo inB
 by_cases h:lo<=x<;>simp[h]
theorem Jt (x:Int):CB (x,())=some (inB x 0 5,()):=by simp[CB,FM]
theorem I1 (x:Int):Bh (x,())=some (inB x 1 9,()):=by simp[Bh,FM]
theorem JU (x:Int):DP (x,())=some (inB x (-1) 99,()):=by simp[DP,FM]
def okV (v:VV):Bool:=inB v.2.1 (-1) 99&&inB v.2.2.1 0 999&&inB v.2.2.2.1 v.2.2.1 999&&inB v.2.2.2.2.1 1 1000&&(bif v.2.2.1==0 then(bif v.1==0 then v.2.1==-1 else false)else inB v.1 1 9)
theorem Zf (v:VV):De (v,())=some (okV v,()):=by
 unfold De okV
 simp only[FM,JU,I1,Option.bind_some]
 cases inB v.2.1 (-1) 99<;>cases inB v.2.2.1 0 999<;>cases inB v.2.2.2.1 v.2.2.1 999<;>cases inB v.2.2.2.2.1 1 1000<;>cases(v.2.2.1==0:Bool)<;>cases(v.1==0:Bool)<;>simp
theorem X5 {v:VV}(h:okV v=true):v.2.2.1<=v.2.2.2.1:=by
 unfold okV at h
 simp only[Bool.and_eq_true]at h
 have:=h.1.1.2
 unfold inB at this
 simp only[Bool.and_eq_true,decide_eq_true_eq]at this
 exact this.1
def okP (v w:VV):Prop:=v.2.2.1<w.2.2.1/\v.2.2.2.2.1<=w.2.2.1
def X8 (l:List VV)(i:Nat):Prop:=∃h:i<l.length,okV l[i]=true/\∀h2:i+1<l.length,okP l[i] l[i+1]
def X7 (l:List VV)(i:Nat):Prop:=∃h:i<l.length,okV l[i]=true/\∀h2:0<i,okP (l[i-1]'(by omega)) l[i]
theorem Oa (l:List VV):(∀i,i<l.length->X8 l i)↔∀i,i<l.length->X7 l i:=by
 constructor
 ·intro H i h
  obtain⟨_,h1,_⟩:=H i h
  refine⟨h,h1,fun h2=>?_⟩
  obtain⟨_,_,h4⟩:=H (i-1) (by omega)
  have:=h4 (by omega)
  simpa[show i-1+1=i by omega]using this
 ·intro H i h
  obtain⟨_,h1,_⟩:=H i h
  refine⟨h,h1,fun h2=>?_⟩
  obtain⟨_,_,h4⟩:=H (i+1) h2
  exact h4 (by omega)
def PJ (l:List VV):Option (Bool×Unit):=bif decide (((l.length:Nat):Int)>0)then(lAt l (IntKind.i64.wrap (((l.length:Nat):Int)-1))).bind fun e=>some ((e.2.2.2.2.1==1000),())else some (false,())
theorem WX {l:List VV}(hl:Gx l):CR (l,())=bif dec (∀i,i<l.length->X8 l i)then PJ l else some (false,()):=by
 unfold Gx at hl
 rw[K1 (Oa l)]
 unfold CR
 refine He (n:=l.length) (c:=X7 l) (fun i hi=>?_) ⟨.inr (.inr (.inr ())),?_,rfl⟩
 ·unfold Cb
  simp only[AL hi,Option.bind_some,Zf]
  rw[decide_eq_true (by omega)]
  simp only[cond_true,Option.bind_some]
  cases hv:okV l[i]with
  |false=>
   refine⟨fun⟨_,h,_⟩=>?_,fun _=>⟨_,rfl,rfl⟩⟩
   rw[hv]at h;cases h
  |true=>
   simp only[Bool.not_true,cond_false]
   rw[AB hi (by omega)]
   by_cases h2:0<i
   ·have hlt:i-1<l.length:=by omega
    rw[decide_eq_true (show(i:Int)>0 by omega),show IntKind.i64.wrap ((i:Int)-1)=((i-1:Nat):Int)from by rw[CU (by omega) (by omega)];omega,AL hlt]
    simp only[cond_true,Option.bind_some]
    by_cases p1:l[i-1].2.2.1>=l[i].2.2.1
    ·rw[decide_eq_true p1]
     refine⟨fun⟨_,_,h⟩=>?_,fun _=>⟨_,rfl,rfl⟩⟩
     exact(Int.not_lt.2 p1 (h h2).1).elim
    ·rw[decide_eq_false p1]
     simp only[cond_false]
     by_cases p2:l[i-1].2.2.2.2.1>l[i].2.2.1
     ·rw[decide_eq_true p2]
      refine⟨fun⟨_,_,h⟩=>?_,fun _=>⟨_,rfl,rfl⟩⟩
      exact(Int.not_le.2 p2 (h h2).2).elim
     ·rw[decide_eq_false p2]
      refine⟨fun _=>rfl,fun h=>absurd ⟨hi,hv,fun _=>⟨Int.not_le.1 p1,Int.not_lt.1 p2⟩⟩ h⟩
   ·rw[decide_eq_false (show ¬(i:Int)>0 by omega)]
    refine⟨fun _=>rfl,fun h=>absurd ⟨hi,hv,fun h3=>absurd h3 h2⟩ h⟩
 ·unfold Cb
  simp only
  rw[decide_eq_false (by omega)];rfl
def Ks (l:List VV):Prop:=(∀i,i<l.length->X8 l i)/\∃h:0<l.length,(l[l.length-1]'(by omega)).2.2.2.2.1=1000
theorem Zj {l:List VV}(hl:Gx l):(bif dec (∀i,i<l.length->X8 l i)then PJ l else some (false,()))=some (dec (Ks l),()):=by
 unfold Gx at hl
 by_cases h:∀i,i<l.length->X8 l i
 ·rw[Cd h]
  unfold PJ
  simp only[cond_true]
  by_cases h0:0<l.length
  ·have hlt:l.length-1<l.length:=by omega
   rw[decide_eq_true (by omega),show IntKind.i64.wrap (((l.length:Nat):Int)-1)=((l.length-1:Nat):Int)from by rw[CU (by omega) (by omega)];omega,AL hlt]
   simp only[cond_true,Option.bind_some,PP]
   rw[dA]
   congr 2
   apply K1
   exact⟨fun e=>⟨h,h0,e⟩,fun⟨_,_,e⟩=>e⟩
  ·rw[decide_eq_false (show ¬((l.length:Nat):Int)>0 by omega),EF (fun⟨_,h1,_⟩=>h0 h1)];rfl
 ·rw[EF h,EF (fun h1=>h h1.1)];rfl
theorem Zh {l:List VV}(hl:Gx l):CR (l,())=some (dec (Ks l),()):=(WX hl).trans (Zj hl)
def PF (s:List (List VV)):Prop:=s.length=6/\∀c∈s,Ks c/\c.length<=50
theorem Sy {α ρ:Type}{l:List α}{p:α->Prop}(hn:l.length<=1048576){B:Int×Unit->Option ((Int×Unit) ⊕ ((Int×Unit) ⊕ Unit))}
 (hB:∀i (h:i<l.length),B ((i:Int),())=some (bif dec (p l[i])then .inr (.inl ((i:Int),()))else .inl (((i+1:Nat):Int),())))(hend:B ((l.length:Int),())=some (.inr (.inr ()))):
 ∃n:Int,((BL B (0,())).bind fun q=>CA q (fun q=>some (q.1,())) fun _=>some (-1,()))=some (n,())/\((∃i:Nat,∃h:i<l.length,n=(i:Int)/\p l[i]/\∀j (hj:j<i),¬p (l[j]'(by omega)))\/(n=-1/\∀x∈l,¬p x)):=by
 have key:∀m i:Nat,i+m=l.length->(∀j (hj:j<l.length),j<i->¬p l[j])->∃n:Int,((BL B ((i:Int),())).bind fun q=>CA q (fun q=>some (q.1,())) fun _=>some (-1,()))=some (n,())/\((∃i:Nat,∃h:i<l.length,n=(i:Int)/\p l[i]/\∀j (hj:j<i),¬p (l[j]'(by omega)))\/(n=-1/\∀x∈l,¬p x)):=by
  intro m
  induction m with
  |zero=>
   intro i hi hno
   obtain rfl:i=l.length:=by omega
   rw[BH,hend]
   refine⟨-1,rfl,.inr ⟨rfl,fun x hx=>?_⟩⟩
   obtain⟨j,hj,rfl⟩:=List.getElem_of_mem hx
   exact hno j hj hj
  |succ m ih=>
   intro i hi hno
   have hlt:i<l.length:=by omega
   rw[BH,hB i hlt]
   by_cases hp:p l[i]
   ·rw[Cd hp]
    exact⟨(i:Int),rfl,.inl ⟨i,hlt,rfl,hp,fun j hj=>hno j (by omega) hj⟩⟩
   ·rw[EF hp]
    refine ih (i+1) (by omega) fun j hj h=>?_
    by_cases e:j=i
    ·subst e;exact hp
    ·exact hno j hj (by omega)
 exact key l.length 0 (by omega) (fun j hj h=>by omega)
end Go.Ab
end
section
namespace Go.Ab
def Jx (n:Int)(l:List VV):Int:=l.foldl (fun n v=>mx n v.2.2.2.1) n
noncomputable def vA (l:List VV)(stamp:Int):Nat->Int
 |0=>-1
 |k+1=>bif dec (∃h:k<l.length,l[k].2.2.1<=stamp)then(k:Int)else vA l stamp k
theorem N9 (l:List VV)(stamp:Int):∀k,-1<=vA l stamp k/\vA l stamp k<k
 |0=>by simp[vA]
 |k+1=>by
  have:=N9 l stamp k
  unfold vA
  cases dec (∃h:k<l.length,l[k].2.2.1<=stamp)<;>simp<;>omega
theorem WY {l:List VV}(hl:Gx l)(stamp:Int):EB (l,stamp,())=some (vA l stamp l.length,()):=by
 have hl':l.length<=1048576:=hl
 unfold EB
 have key:∀k:Nat,k<=l.length->((BL (fun v=>BX (l,stamp,()) v _ some) ((k:Int)-1,())).bind fun p=>CA p (fun p=>some (p.1,())) fun p=>some (p.1,()))=some (vA l stamp k,()):=by
  intro k
  induction k with
  |zero=>
   intro _
   rw[BH];unfold BX
   rfl
  |succ k ih=>
   intro hk
   have hlt:k<l.length:=by omega
   rw[BH]
   have hB:BX (l,stamp,()) (((k+1:Nat):Int)-1,()) _ some=some (bif decide (l[k].2.2.1<=stamp)then .inr (.inl ((k:Int),()))else .inl ((k:Int)-1,())):=by
    unfold BX
    simp only[show((k+1:Nat):Int)-1=(k:Int) by omega,AL hlt,Option.bind_some]
    rw[decide_eq_true (show(k:Int)>=0 by omega),CU (by omega) (by omega)]
    by_cases h:l[k].2.2.1<=stamp
    ·rw[decide_eq_false (show ¬l[k].2.2.1>stamp from Int.not_lt.2 h),decide_eq_true h];rfl
    ·rw[decide_eq_true (show l[k].2.2.1>stamp from Int.not_le.1 h),decide_eq_false h];rfl
   rw[hB]
   by_cases h:l[k].2.2.1<=stamp
   ·rw[decide_eq_true h]
    simp only[cond_true,Option.bind_some,vA]
    rw[Cd ⟨hlt,h⟩];rfl
   ·rw[decide_eq_false h]
    simp only[cond_false,Option.bind_some,vA]
    rw[EF fun⟨_,h2⟩=>h h2];exact ih (by omega)
 simp only
 rw[CU (by omega) (by omega)]
 exact key l.length (Nat.le_refl _)
end Go.Ab
end
section
namespace Go.Ab
theorem ZJ {a:List (List VV)}:∀(k:Int),(∀e∈a,e.length<=1048576)->XE k a<=k+5242880*a.length:=by
 induction a with
 |nil=>intro k _;simp[XE]
 |cons r rs ih=>
  intro k h
  have h1:=ih (k+5*r.length) (fun e he=>h e (List.mem_cons_of_mem _ he))
  have h2:=h r (List.mem_cons_self ..)
  simp only[XE,List.length_cons]
  push_cast
  omega
def bb (a:List (List VV)):Prop:=a.length<9223372036854775000/\XE 1 a<9223372036854775000
theorem Hy.small {a:List (List VV)}(h:Hy a):bb a:=by
 have h1:=ZJ 1 h.2
 have h2:=h.1
 exact⟨by omega,by omega⟩
end Go.Ab
end
section
namespace Go.Ab
end Go.Ab
end
section
namespace Go.Ab
def BT (a b:VM):Prop:=a.1<b.1\/(a.1=b.1/\a.2.1<b.2.1)
instance (a b:VM):Decidable (BT a b):=by unfold BT;infer_instance
theorem X0 (a b:Int):Bv (a,b,())=some (if a<b then-1 else if a>b then 1 else 0,()):=by
 unfold Bv ET
 by_cases h1:a<b
 ·simp[h1]
 ·by_cases h2:a>b<;>simp[h1,h2]
theorem er (a b:Int):Gc ([a,b],())=some (if a≠0 then a else b,()):=by
 unfold Gc
 have l0:lAt [a,b] 0=some a:=rfl
 have l1:lAt [a,b] 1=some b:=rfl
 have w0:IntKind.i64.wrap ((0:Int)+1)=1:=wr1 (by omega) (by omega)
 have w1:IntKind.i64.wrap ((1:Int)+1)=2:=wr1 (by omega) (by omega)
 have B0:Cg (0,[a,b],2,()) (0,()) ((Int×Unit) ⊕ ((Int×Unit) ⊕ Unit)) some=some (bif a != 0 then .inr (.inl (a,()))else .inl (1,())):=by
  unfold Cg
  simp only[l0,Option.bind_some,w0]
  cases(a != 0:Bool)<;>rfl
 have B1:Cg (0,[a,b],2,()) (1,()) ((Int×Unit) ⊕ ((Int×Unit) ⊕ Unit)) some=some (bif b != 0 then .inr (.inl (b,()))else .inl (2,())):=by
  unfold Cg
  simp only[l1,Option.bind_some,w1]
  cases(b != 0:Bool)<;>rfl
 have B2:Cg (0,[a,b],2,()) (2,()) ((Int×Unit) ⊕ ((Int×Unit) ⊕ Unit)) some=some (.inr (.inr ())):=by
  unfold Cg
  rfl
 have e:(((List.length [a,b]:Nat):Int))=2:=rfl
 simp only[e]
 rw[BH,B0]
 by_cases ha:a=0
 ·subst ha
  simp only[bne_self_eq_false,cond_false,Option.bind_some]
  rw[BH,B1]
  by_cases hb:b=0
  ·subst hb
   simp only[bne_self_eq_false,cond_false,Option.bind_some]
   rw[BH,B2];rfl
  ·have:(b != 0)=true:=by simpa using hb
   rw[this];simp[CA]
 ·have:(a != 0)=true:=by simpa using ha
  rw[this];simp[CA,ha]
theorem I2 (a b:VM):∃n:Int,Bu ((a.1,a.2.1,()),(b.1,b.2.1,()),())=some (n,())/\(n>=0↔¬BT a b):=by
 unfold Bu
 simp only[X0,er,Option.bind_some]
 refine⟨_,rfl,?_⟩
 unfold BT
 by_cases h1:a.1<b.1
 ·simp[h1]
 ·by_cases h2:a.1>b.1
  ·simp[h1,h2];omega
  ·have h3:a.1=b.1:=by omega
   simp[h3]
   by_cases h4:a.2.1<b.2.1
   ·simp[h4]
   ·by_cases h5:a.2.1>b.2.1<;>simp[h4,h5]<;>omega
def bh (l:List VM)(i:Nat):Prop:=∃h:i<l.length,inB l[i].1 0 5=true/\inB l[i].2.1 0 999=true/\∀h2:0<i,BT (l[i-1]'(by omega)) l[i]
def b9 (l:List VM)(i:Nat):Prop:=∃h:i<l.length,inB l[i].1 0 5=true/\inB l[i].2.1 (-1) 99=true/\∀h2:0<i,(l[i-1]'(by omega)).1<l[i].1
def Ls (l:List VM):Prop:=∀i,i<l.length->bh l i
def MA (l:List VM):Prop:=∀i,i<l.length->b9 l i
theorem NX {l:List VM}(hl:l.length<=1048576):Cq (l,())=some (dec (Ls l)&&decide (l.length<=60),()):=by
 have e:Cq (l,())=bif dec (Ls l)then some (decide (((l.length:Nat):Int)<=60),())else some (false,()):=by
  unfold Cq
  refine He (n:=l.length) (c:=bh l) (fun i hi=>?_) ⟨.inr (.inr (.inr ())),?_,rfl⟩
  ·unfold D1
   simp only[AL hi,Option.bind_some,Jt,FM]
   rw[decide_eq_true (by omega)]
   simp only[cond_true]
   cases h1:inB l[i].1 0 5 with
   |false=>exact⟨fun⟨_,h,_⟩=>(by rw[h1]at h;cases h),fun _=>⟨.inl _,rfl,rfl⟩⟩
   |true=>
    simp only[Bool.not_true,cond_false]
    cases h2:inB l[i].2.1 0 999 with
    |false=>exact⟨fun⟨_,_,h,_⟩=>(by rw[h2]at h;cases h),fun _=>⟨.inr (.inl _),rfl,rfl⟩⟩
    |true=>
     simp only[Bool.not_true,cond_false]
     rw[AB hi (by omega)]
     by_cases h3:0<i
     ·have hlt:i-1<l.length:=by omega
      rw[decide_eq_true (show(i:Int)>0 by omega),show IntKind.i64.wrap ((i:Int)-1)=((i-1:Nat):Int)from by rw[CU (by omega) (by omega)];omega,AL hlt]
      obtain⟨n,e1,e2⟩:=I2 l[i-1] l[i]
      simp only[cond_true,Option.bind_some,e1]
      by_cases hb:BT l[i-1] l[i]
      ·rw[decide_eq_false (fun h=>e2.1 h hb)]
       exact⟨fun _=>rfl,fun h=>absurd ⟨hi,h1,h2,fun _=>hb⟩ h⟩
      ·rw[decide_eq_true (e2.2 hb)]
       exact⟨fun⟨_,_,_,h⟩=>absurd (h h3) hb,fun _=>⟨.inr (.inr (.inl _)),rfl,rfl⟩⟩
     ·rw[decide_eq_false (show ¬(i:Int)>0 by omega)]
      exact⟨fun _=>rfl,fun h=>absurd ⟨hi,h1,h2,fun h=>absurd h h3⟩ h⟩
  ·unfold D1
   simp only
   rw[decide_eq_false (by omega)];rfl
 rw[e]
 have d:decide (((l.length:Nat):Int)<=60)=decide (l.length<=60):=decide_eq_decide.2 (by omega)
 rw[d]
 cases dec (Ls l)<;>simp
theorem Mw {l:List VM}(hl:l.length<=1048576):Ca (l,())=some (dec (MA l),()):=by
 have e:Ca (l,())=bif dec (MA l)then some (true,())else some (false,()):=by
  unfold Ca
  refine He (n:=l.length) (c:=b9 l) (fun i hi=>?_) ⟨.inr (.inr (.inr ())),?_,rfl⟩
  ·unfold CG
   simp only[AL hi,Option.bind_some,Jt,JU]
   rw[decide_eq_true (by omega)]
   simp only[cond_true]
   cases h1:inB l[i].1 0 5 with
   |false=>exact⟨fun⟨_,h,_⟩=>(by rw[h1]at h;cases h),fun _=>⟨.inl _,rfl,rfl⟩⟩
   |true=>
    simp only[Bool.not_true,cond_false]
    cases h2:inB l[i].2.1 (-1) 99 with
    |false=>exact⟨fun⟨_,_,h,_⟩=>(by rw[h2]at h;cases h),fun _=>⟨.inr (.inl _),rfl,rfl⟩⟩
    |true=>
     simp only[Bool.not_true,cond_false]
     rw[AB hi (by omega)]
     by_cases h3:0<i
     ·have hlt:i-1<l.length:=by omega
      rw[decide_eq_true (show(i:Int)>0 by omega),show IntKind.i64.wrap ((i:Int)-1)=((i-1:Nat):Int)from by rw[CU (by omega) (by omega)];omega,AL hlt]
      simp only[cond_true,Option.bind_some]
      by_cases hb:l[i-1].1<l[i].1
      ·rw[decide_eq_false (by omega)]
       exact⟨fun _=>rfl,fun h=>absurd ⟨hi,h1,h2,fun _=>hb⟩ h⟩
      ·rw[decide_eq_true (by omega)]
       exact⟨fun⟨_,_,_,h⟩=>absurd (h h3) hb,fun _=>⟨.inr (.inr (.inl _)),rfl,rfl⟩⟩
     ·rw[decide_eq_false (show ¬(i:Int)>0 by omega)]
      exact⟨fun _=>rfl,fun h=>absurd ⟨hi,h1,h2,fun h=>absurd h h3⟩ h⟩
  ·unfold CG
   simp only
   rw[decide_eq_false (by omega)];rfl
 rw[e]
 cases dec (MA l)<;>rfl
noncomputable def okT (id sc st be lo hi co:Int)(rd wr:List VM):Bool:=
 dec (Ls rd)&&dec (MA wr)&&inB id 1 9&&inB sc 1 4&&inB be 0 999&&inB st 1 3&&inB lo 0 999&&inB hi 1 1000&&((st==2)==decide (co>0))&&inB co 0 999&&decide (rd.length<=60)
end Go.Ab
end
section
namespace Go.Ab
def fvI (l:List VV)(c:Int):Option Nat:=(l.map (fun v=>v.2.2.1)).findIdx? (fun x=>x==c)
def fx:Option Nat->Int|some i=>(i:Int)|none=>-1
theorem XF (b:Bool):dec (b=true)=b:=by
 cases b
 ·exact EF (by simp)
 ·exact Cd rfl
theorem Du {α:Type}{l:List α}{p:α->Bool}(hn:l.length<=1048576){B:Int×Unit->Option ((Int×Unit) ⊕ ((Int×Unit) ⊕ Unit))}
 (hB:∀i (h:i<l.length),B ((i:Int),())=some (bif p l[i]then .inr (.inl ((i:Int),()))else .inl (((i+1:Nat):Int),())))(hend:B ((l.length:Int),())=some (.inr (.inr ()))):
 ((BL B (0,())).bind fun q=>CA q (fun q=>some (q.1,())) fun _=>some (-1,()))=some (fx (l.findIdx? p),()):=by
 obtain⟨n,e,h⟩:=Sy (ρ:=Unit) (l:=l) (p:=fun x=>p x=true) hn (B:=B) (fun i h=>by rw[hB i h,XF]) hend
 rw[e]
 rcases h with⟨i,hi,rfl,hp,hq⟩|⟨rfl,hq⟩
 ·have:l.findIdx? p=some i:=List.findIdx?_eq_some_iff_getElem.2 ⟨hi,hp,fun j hj=>by simpa using hq j hj⟩
  rw[this];rfl
 ·have:l.findIdx? p=none:=List.findIdx?_eq_none_iff.2 fun x hx=>by simpa using hq x hx
  rw[this];rfl
theorem O0 {l:List VV}(hl:l.length<=1048576)(c:Int):Da (l,c,())=some (fx (fvI l c),()):=by
 unfold Da BQ fvI
 rw[List.findIdx?_map]
 have:=Du hl (p:=(fun x=>x==c)∘fun v:VV=>v.2.2.1) (B:=fun v=>AA (l,(some c,()),((l.length:Nat):Int),()) v _ some) (fun i h=>by
  unfold AA Ew
  simp only[AL h,Option.bind_some]
  rw[decide_eq_true (by omega),AB h (by omega)]
  simp only[cond_true,Function.comp]
  cases(l[i].2.2.1==c:Bool)<;>rfl) (by
  unfold AA
  simp only
  rw[decide_eq_false (by omega)];rfl)
 simp only[this,Option.bind_some]
theorem PO {l:List VV}{c:Int}{j:Nat}(h:fvI l c=some j):j<l.length:=by
 unfold fvI at h
 obtain⟨h1,_⟩:=List.findIdx?_eq_some_iff_getElem.1 h
 simpa using h1
theorem dy (o:Option Nat):decide (fx o<0)=o.isNone:=by
 cases o with
 |none=>rfl
 |some i=>exact decide_eq_false (by simp only[fx];omega)
def EZ (s:List (List VV))(m:VM):Option (List VV):=s[m.1.toNat]?
def FT (s:List (List VV))(m:VM):Prop:=∃l j,EZ s m=some l/\fvI l m.2.1=some j
theorem Lb {s:List (List VV)}{m:VM}(h6:s.length=6)(hm:inB m.1 0 5=true):∃k:Nat,m.1=(k:Int)/\k<s.length/\∃l,s[k]?=some l/\lAt s m.1=some l/\EZ s m=some l/\l∈s:=by
 unfold inB at hm
 simp only[Bool.and_eq_true,decide_eq_true_eq]at hm
 obtain⟨k,hk⟩:=Int.eq_ofNat_of_zero_le hm.1
 have hlt:k<s.length:=by omega
 refine⟨k,hk,hlt,s[k],by simp[hlt],by rw[hk];exact AL hlt,?_,List.getElem_mem hlt⟩
 unfold EZ
 rw[hk];simp[hlt]
end Go.Ab
end
section
namespace Go.Ab
theorem L6 {σ α:Type}{l:List α}{f:σ->α->σ}{Inv:σ->Nat->Prop}{n0:σ}{B:Int×σ×Unit->Option ((Int×σ×Unit) ⊕ (σ×Unit))}
 (hB:∀(i:Nat) (h:i<l.length) (n:σ),Inv n i->B ((i:Int),n,())=some (.inl (((i+1:Nat):Int),f n l[i],())))(hI:∀(i:Nat) (h:i<l.length) n,Inv n i->Inv (f n l[i]) (i+1))(h0:Inv n0 0)
 (hend:∀n,B ((l.length:Int),n,())=some (.inr (n,()))):BL B (0,n0,())=some (l.foldl f n0,())/\Inv (l.foldl f n0) l.length:=by
 have key:∀m i:Nat,i+m=l.length->∀n,Inv n i->BL B ((i:Int),n,())=some ((l.drop i).foldl f n,())/\Inv ((l.drop i).foldl f n) l.length:=by
  intro m
  induction m with
  |zero=>
   intro i hi n hn
   obtain rfl:i=l.length:=by omega
   rw[BH,hend];simpa using hn
  |succ m ih=>
   intro i hi n hn
   have h:i<l.length:=by omega
   rw[BH,hB i h n hn,List.drop_eq_getElem_cons h]
   simp only[Option.bind_some]
   exact ih (i+1) (by omega) _ (hI i h n hn)
 simpa using key l.length 0 (by omega) n0 h0
def Ko (st:Int)(v:VV):VV:=(v.1,v.2.1,v.2.2.1,mx v.2.2.2.1 st,v.2.2.2.2.1,())
def Hf (st:Int)(s:List (List VV))(m:VM):List (List VV):=match EZ s m with
 |some l=>match fvI l m.2.1 with
  |some j=>match l[j]? with
   |some v=>s.set m.1.toNat (l.set j (Ko st v))
   |none=>s
  |none=>s
 |none=>s
def S9 (hi:Int)(v:VV):VV:=(v.1,v.2.1,v.2.2.1,v.2.2.2.1,hi,())
def IW (st id hi:Int)(s:List (List VV))(m:VM):List (List VV):=match EZ s m with
 |some l=>match l[l.length-1]? with
  |some v=>s.set m.1.toNat (l.set (l.length-1) (S9 hi v)++[(id,m.2.1,st,st,1000,())])
  |none=>s
 |none=>s
def stOK (s:List (List VV))(n:Nat):Prop:=s.length=6/\∀l∈s,0<l.length/\l.length<=50+n
theorem stOK.set {s:List (List VV)}{n k:Nat}{l:List VV}(h:stOK s n){n':Nat}(hn:n<=n')(h0:0<l.length)(h1:l.length<=50+n'):stOK (s.set k l) n':=by
 refine⟨by simpa using h.1,fun x hx=>?_⟩
 rcases List.mem_or_eq_of_mem_set hx with h2|rfl
 ·have:=h.2 x h2;omega
 ·exact⟨h0,h1⟩
theorem stOK.small {s:List (List VV)}{n:Nat}(h:stOK s n)(hn:n<=1000):Hy s:=
 ⟨by have:=h.1;omega,fun l hl=>by have:=h.2 l hl;unfold Gx;omega⟩
theorem ZF {l:List VV}{j:Nat}{v:VV}(c:Int)(h:l[j]?=some v)(st:Int):fvI (l.set j (Ko st v)) c=fvI l c:=by
 have e:(l.set j (Ko st v)).map (fun v=>v.2.2.1)=l.map (fun v=>v.2.2.1):=by
  rw[List.map_set]
  obtain⟨hlt,h2⟩:=List.getElem?_eq_some_iff.1 h
  apply List.ext_getElem
  ·simp
  ·intro i h3 h4
   rw[List.getElem_set]
   split
   ·rename_i e;subst e;simp[h2,Ko]
   ·rfl
 unfold fvI
 rw[e]
theorem M2 {s:List (List VV)}{m x:VM}(st:Int)(hx:FT s x):FT (Hf st s m) x:=by
 unfold Hf
 split
 ·rename_i l hl
  split
  ·rename_i j hj
   split
   ·rename_i v hv
    obtain⟨l',j',h1,h2⟩:=hx
    unfold FT EZ at*
    by_cases e:m.1.toNat=x.1.toNat
    ·rw[<-e,hl]at h1
     obtain rfl:l=l':=by simpa using h1
     refine⟨l.set j (Ko st v),j',?_,by rw[ZF _ hv];exact h2⟩
     rw[<-e]
     have:=(List.getElem?_eq_some_iff.1 hl).1
     simp[this]
    ·exact⟨l',j',by rw[List.getElem?_set_ne e];exact h1,h2⟩
   ·exact hx
  ·exact hx
 ·exact hx
theorem Sd {s:List (List VV)}{n:Nat}{m:VM}(st:Int)(h:stOK s n):stOK (Hf st s m) n:=by
 unfold Hf
 split
 ·rename_i l hl
  have hm:=h.2 l (List.mem_of_getElem? hl)
  split
  ·split
   ·exact h.set (Nat.le_refl _) (by simpa using hm.1) (by simpa using hm.2)
   ·exact h
  ·exact h
 ·exact h
theorem Sc {s:List (List VV)}{n:Nat}{m:VM}(st id hi:Int)(h:stOK s n):stOK (IW st id hi s m) (n+1):=by
 unfold IW
 split
 ·rename_i l hl
  have hm:=h.2 l (List.mem_of_getElem? hl)
  split
  ·exact h.set (Nat.le_succ _) (by simp) (by simp;omega)
  ·exact⟨h.1,fun x hx=>by have:=h.2 x hx;omega⟩
 ·exact⟨h.1,fun x hx=>by have:=h.2 x hx;omega⟩
theorem PF.stOK {s:List (List VV)}(h:PF s):stOK s 0:=⟨h.1,fun l hl=>⟨(h.2 l hl).1.2.1,by have:=(h.2 l hl).2;omega⟩⟩
end Go.Ab
end
section
namespace Go.Ab
end Go.Ab
end
section
namespace Go.Ab
end Go.Ab
end
section
namespace Go.Ab
def cY (l:List VM)(i:Nat):Prop:=∃h:i<l.length,inB l[i].1 0 5=true/\inB l[i].2.1 1 9=true/\∀h2:0<i,(l[i-1]'(by omega)).1<l[i].1
def Sq (l:List VM):Prop:=∀i,i<l.length->cY l i
def b8 (l:List VM)(i:Nat):Prop:=∃h:i<l.length,inB l[i].1 1 9=true/\inB l[i].2.1 1 9=true/\l[i].1≠l[i].2.1/\∀h2:0<i,(l[i-1]'(by omega)).1<l[i].1
def Mz (l:List VM):Prop:=∀i,i<l.length->b8 l i
theorem Kr {l:List VM}(hl:l.length<=1048576):Dt (l,())=some (dec (Sq l),()):=by
 have e:Dt (l,())=bif dec (Sq l)then some (true,())else some (false,()):=by
  unfold Dt
  refine He (n:=l.length) (c:=cY l) (fun i hi=>?_) ⟨.inr (.inr (.inr ())),?_,rfl⟩
  ·unfold D3
   simp only[AL hi,Option.bind_some,Jt,I1]
   rw[decide_eq_true (by omega)]
   simp only[cond_true]
   cases h1:inB l[i].1 0 5 with
   |false=>exact⟨fun⟨_,h,_⟩=>(by rw[h1]at h;cases h),fun _=>⟨_,rfl,rfl⟩⟩
   |true=>
    simp only[Bool.not_true,cond_false]
    cases h2:inB l[i].2.1 1 9 with
    |false=>exact⟨fun⟨_,_,h,_⟩=>(by rw[h2]at h;cases h),fun _=>⟨_,rfl,rfl⟩⟩
    |true=>
    simp only[Bool.not_true,cond_false]
    rw[AB hi (by omega)]
    by_cases h3:0<i
    ·have hlt:i-1<l.length:=by omega
     rw[decide_eq_true (show(i:Int)>0 by omega),show IntKind.i64.wrap ((i:Int)-1)=((i-1:Nat):Int)from by rw[CU (by omega) (by omega)];omega,AL hlt]
     simp only[cond_true,Option.bind_some]
     by_cases hb:l[i-1].1<l[i].1
     ·rw[decide_eq_false (by omega)]
      exact⟨fun _=>rfl,fun h=>absurd ⟨hi,h1,h2,fun _=>hb⟩ h⟩
     ·rw[decide_eq_true (by omega)]
      exact⟨fun⟨_,_,_,h⟩=>absurd (h h3) hb,fun _=>⟨_,rfl,rfl⟩⟩
    ·rw[decide_eq_false (show ¬(i:Int)>0 by omega)]
     exact⟨fun _=>rfl,fun h=>absurd ⟨hi,h1,h2,fun h=>absurd h h3⟩ h⟩
  ·unfold D3
   simp only
   rw[decide_eq_false (by omega)];rfl
 rw[e]
 cases dec (Sq l)<;>rfl
theorem G0 {l:List VM}(hl:l.length<=1048576):CN (l,())=some (dec (Mz l),()):=by
 have e:CN (l,())=bif dec (Mz l)then some (true,())else some (false,()):=by
  unfold CN
  refine He (n:=l.length) (c:=b8 l) (fun i hi=>?_) ⟨.inr (.inr (.inr (.inr ()))),?_,rfl⟩
  ·unfold D2
   simp only[AL hi,Option.bind_some,I1]
   rw[decide_eq_true (by omega)]
   simp only[cond_true]
   cases h1:inB l[i].1 1 9 with
   |false=>exact⟨fun⟨_,h,_⟩=>(by rw[h1]at h;cases h),fun _=>⟨_,rfl,rfl⟩⟩
   |true=>
    simp only[Bool.not_true,cond_false]
    cases h2:inB l[i].2.1 1 9 with
    |false=>exact⟨fun⟨_,_,h,_⟩=>(by rw[h2]at h;cases h),fun _=>⟨_,rfl,rfl⟩⟩
    |true=>
    simp only[Bool.not_true,cond_false]
    by_cases hq:l[i].1=l[i].2.1
    ·rw[show(l[i].1==l[i].2.1)=true from by simpa using hq]
     exact⟨fun⟨_,_,_,h,_⟩=>absurd hq h,fun _=>⟨_,rfl,rfl⟩⟩
    rw[show(l[i].1==l[i].2.1)=false from by simpa using hq]
    simp only[cond_false]
    rw[AB hi (by omega)]
    by_cases h3:0<i
    ·have hlt:i-1<l.length:=by omega
     rw[decide_eq_true (show(i:Int)>0 by omega),show IntKind.i64.wrap ((i:Int)-1)=((i-1:Nat):Int)from by rw[CU (by omega) (by omega)];omega,AL hlt]
     simp only[cond_true,Option.bind_some]
     by_cases hb:l[i-1].1<l[i].1
     ·rw[decide_eq_false (by omega)]
      exact⟨fun _=>rfl,fun h=>absurd ⟨hi,h1,h2,hq,fun _=>hb⟩ h⟩
     ·rw[decide_eq_true (by omega)]
      exact⟨fun⟨_,_,_,_,h⟩=>absurd (h h3) hb,fun _=>⟨_,rfl,rfl⟩⟩
    ·rw[decide_eq_false (show ¬(i:Int)>0 by omega)]
     exact⟨fun _=>rfl,fun h=>absurd ⟨hi,h1,h2,hq,fun h=>absurd h h3⟩ h⟩
  ·unfold D2
   simp only
   rw[decide_eq_false (by omega)];rfl
 rw[e]
 cases dec (Mz l)<;>rfl
abbrev TX:=Int×Int×Int×Int×Int×Int×Int×List VM×List VM×Unit
noncomputable def Lr (t:TX):Bool:=okT t.1 t.2.1 t.2.2.1 t.2.2.2.1 t.2.2.2.2.1 t.2.2.2.2.2.1 t.2.2.2.2.2.2.1 t.2.2.2.2.2.2.2.1 t.2.2.2.2.2.2.2.2.1
def smT (t:TX):Prop:=t.2.2.2.2.2.2.2.1.length<=1048576/\t.2.2.2.2.2.2.2.2.1.length<=1048576
theorem Zg {id sc st be lo hi co:Int}{rd wr:List VM}(hr:rd.length<=1048576)(hw:wr.length<=1048576):Ct ((id,sc,st,be,lo,hi,co,rd,wr,()),())=some (okT id sc st be lo hi co rd wr,()):=by
 unfold Ct Ds Gr
 simp only[I1,FM,NX hr,Mw hw,Option.bind_some]
 unfold okT
 have e1:∀n:Int,inB n 1 999=(inB n 0 999&&decide (n>0)):=fun n=>by
  unfold inB
  rw[Bool.eq_iff_iff]
  simp only[Bool.and_eq_true,decide_eq_true_eq]
  omega
 have e2:(co==0)=(inB co 0 999&&!decide (co>0)):=by
  unfold inB
  rw[Bool.eq_iff_iff]
  simp only[beq_iff_eq,Bool.and_eq_true,decide_eq_true_eq,Bool.not_eq_true',decide_eq_false_iff_not]
  omega
 simp only[e1,e2,bne]
 cases inB id 1 9<;>cases inB sc 1 4<;>cases inB be 0 999<;>cases inB st 1 3<;>cases inB lo 0 999<;>cases inB hi 1 1000<;>cases(st==2:Bool)<;>cases inB co 0 999<;>cases decide (co>0)<;>cases dec (Ls rd)<;>cases decide (rd.length<=60)<;>cases dec (MA wr)<;>rfl
def dJ (s:List (List VV))(stamp:Int)(l:List TX)(i:Nat):Prop:=∃h:i<l.length,Lr l[i]=true/\(∀h2:0<i,(l[i-1]'(by omega)).1<l[i].1)/\l[i].2.2.2.1<=stamp/\l[i].2.2.2.2.2.2.1<=stamp/\(l[i].2.2.1=1->∀m∈l[i].2.2.2.2.2.2.2.1,FT s m)
def X6 (s:List (List VV))(stamp:Int)(l:List TX):Prop:=∀i,i<l.length->dJ s stamp l i
end Go.Ab
end
section
namespace Go.Ab
def Fs (l:List TX)(id:Int):Bool:=match l.findIdx? (fun t=>t.1==id)with
 |some i=>match l[i]? with
  |some t=>t.2.2.1==1
  |none=>false
 |none=>false
theorem O1 {s:List (List VV)}{l:List TX}(hl:l.length<=1048576)(ce:Bool)(lk wt:List VM)(stamp id:Int):Cl ((ce,(s,()),l,lk,wt,stamp,()),id,())=some (fx (l.findIdx? (fun t=>t.1==id)),()):=by
 unfold Cl BA
 have:=Du hl (p:=fun t:TX=>t.1==id) (B:=fun v=>Ay (l,(some id,()),((l.length:Nat):Int),()) v _ some) (fun i h=>by
  unfold Ay DG
  simp only[AL h,Option.bind_some]
  rw[decide_eq_true (by omega),AB h (by omega)]
  simp only[cond_true]
  cases(l[i].1==id:Bool)<;>rfl) (by
  unfold Ay
  simp only
  rw[decide_eq_false (by omega)];rfl)
 simp only[this,Option.bind_some]
theorem XS (l:List TX)(id:Int):(bif decide (fx (l.findIdx? (fun t=>t.1==id))>=0)then(lAt l (fx (l.findIdx? (fun t=>t.1==id)))).bind fun v=>some (v.2.2.1==1,())else some (false,()))=some (Fs l id,()):=by
 unfold Fs
 cases h:l.findIdx? (fun t=>t.1==id)with
 |none=>rfl
 |some i=>
  obtain⟨hi,_⟩:=List.findIdx?_eq_some_iff_getElem.1 h
  have e1:decide (fx (some i)>=0)=true:=decide_eq_true (by simp only[fx];omega)
  have e2:lAt l (fx (some i))=some l[i]:=AL hi
  rw[e1,e2]
  simp[hi]
theorem LO {s:List (List VV)}{l:List TX}(hl:l.length<=1048576)(ce:Bool)(lk wt:List VM)(stamp id:Int):CY ((ce,(s,()),l,lk,wt,stamp,()),id,())=some (Fs l id,()):=by
 unfold CY
 simp only[O1 hl,Option.bind_some]
 exact XS l id
noncomputable def okE (s:List (List VV))(l:List TX)(lk wt:List VM)(stamp:Int):Bool:=
 dec (PF s)&&dec (Sq lk)&&dec (Mz wt)&&inB stamp (s.foldl Jx 0) 999&&dec (X6 s stamp l)&&decide (l.length<=6)&&dec (∀m∈lk,Fs l m.2.1=true)&&dec (∀m∈wt,Fs l m.1=true/\Fs l m.2.1=true)
structure SmallE (s:List (List VV))(l:List TX)(lk wt:List VM):Prop where
 fs:Hy s
 fl:l.length<=1048576
 ft:∀t∈l,smT t
 fk:lk.length<=1048576
 fw:wt.length<=1048576
end Go.Ab
end
section
namespace Go.Ab
end Go.Ab
end
section
namespace Go.Ab
theorem O5 {l:List VM}(hl:l.length<=1048576):C1 (l,())=some (l,()):=by
 unfold C1
 simp only
 rw[if_pos (by omega)]
 cases l with
 |nil=>exact IC _
 |cons a l=>rfl
theorem KV {l:List VM}(hl:l.length<=1048576):BI (l,())=some (l,()):=by
 unfold BI
 simp only
 rw[if_pos (by omega)]
 cases l with
 |nil=>exact IC _
 |cons a l=>rfl
theorem O4 {l:List VM}(hl:l.length<=1048576):C5 (l,())=some (l,()):=by
 unfold C5
 simp only
 rw[if_pos (by omega)]
 cases l with
 |nil=>exact IC _
 |cons a l=>rfl
theorem Sn {l:List VM}(hl:l.length<=1048576):Cs (l,())=some (l,()):=by
 unfold Cs
 simp only
 rw[if_pos (by omega)]
 cases l with
 |nil=>exact IC _
 |cons a l=>rfl
def Kb (s:List (List VV))(m:VM):Int:=match EZ s m with
 |some l=>match fvI l m.2.1 with
  |some j=>match l[j]? with
   |some v=>v.2.2.2.2.1
   |none=>0
  |none=>0
 |none=>0
def rfH (s:List (List VV))(rd:List VM):Int:=rd.foldl (fun n m=>mn n (Kb s m)) 1000
theorem NZ {s:List (List VV)}(hs:Hy s)(h6:s.length=6){m:VM}(hm:inB m.1 0 5=true)(hx:FT s m):∃v:VV,El ((s,()),(m.1,m.2.1,()),())=some (some v,())/\v.2.2.2.2.1=Kb s m:=by
 obtain⟨k,hk,hlt,l,e1,e2,e3,hl⟩:=Lb h6 hm
 obtain⟨l',j,x1,x2⟩:=hx
 rw[e3]at x1;obtain rfl:l=l':=by simpa using x1
 have hj:=PO x2
 refine⟨l[j],?_,?_⟩
 ·unfold El
  simp only[e2,Option.bind_some,O0 (hs.2 _ hl),dy,x2,Option.isNone_some,cond_false,fx]
  rw[AL hj];rfl
 ·unfold Kb
  simp[e3,x2,hj]
theorem WT {s:List (List VV)}(hs:Hy s)(h6:s.length=6)(t:TX)(ht:smT t)(hrd:Ls t.2.2.2.2.2.2.2.1)(hx:∀m∈t.2.2.2.2.2.2.2.1,FT s m):CC ((s,()),(t.1,t.2.1,t.2.2.1,t.2.2.2.1,t.2.2.2.2.1,t.2.2.2.2.2.1,t.2.2.2.2.2.2.1,t.2.2.2.2.2.2.2.1,t.2.2.2.2.2.2.2.2.1,()),())=some (rfH s t.2.2.2.2.2.2.2.1,()):=by
 have hl:=ht.1
 unfold CC
 simp only
 generalize t.2.2.2.2.2.2.2.1=rd at*
 refine Jg (l:=rd) (f:=fun n m=>mn n (Kb s m)) (X:=fun n=>some (n,())) 1000 (fun i h n=>?_) (fun n=>⟨(n,()),?_,rfl⟩) rfl
 ·obtain⟨_,h1,_⟩:=hrd i h
  obtain⟨v,e1,e2⟩:=NZ hs h6 h1 (hx _ (List.getElem_mem h))
  unfold Bx
  simp only[AL h,Option.bind_some,e1,e2]
  rw[decide_eq_true (by omega),AB h (by omega)];rfl
 ·unfold Bx
  simp only
  rw[decide_eq_false (by omega)];rfl
end Go.Ab
end
section
namespace Go.Ab
def eqM (m x:VM):Bool:=x.1==m.1&&(x.2.1==m.2.1&&true)
def d4 (rd:List VM)(m:VM):Bool:=rd.any (eqM m)
theorem RZ (a b:Int):(a==b:Bool)=(b==a):=by rw[PP,PP];exact decide_eq_decide.2 eq_comm
theorem dz {α:Type}(l:List α)(p:α->Bool):decide (fx (l.findIdx? p)>=0)=l.any p:=by
 cases h:l.findIdx? p with
 |none=>
  have:l.any p=false:=by
   rw[List.any_eq_false]
   intro x hx
   have:=List.findIdx?_eq_none_iff.1 h x hx
   simpa using this
  rw[this];rfl
 |some i=>
  obtain⟨hi,hp,_⟩:=List.findIdx?_eq_some_iff_getElem.1 h
  have:l.any p=true:=List.any_eq_true.2 ⟨l[i],List.getElem_mem hi,hp⟩
  rw[this]
  exact decide_eq_true (by simp only[fx];omega)
theorem Sm (t:TX)(ht:smT t)(m:VM):Fm ((t.1,t.2.1,t.2.2.1,t.2.2.2.1,t.2.2.2.2.1,t.2.2.2.2.2.1,t.2.2.2.2.2.2.1,t.2.2.2.2.2.2.2.1,t.2.2.2.2.2.2.2.2.1,()),(m.1,m.2.1,()),())=some (d4 t.2.2.2.2.2.2.2.1 m,()):=by
 have hl:=ht.1
 unfold Fm Cr CL
 simp only
 generalize t.2.2.2.2.2.2.2.1=rd at*
 have:=Du hl (p:=eqM m) (B:=fun v=>B7 (rd,((rd.length:Nat):Int),m.1,m.2.1,()) v _ some) (fun i h=>by
  unfold B7
  simp only[AL h,Option.bind_some]
  rw[decide_eq_true (by omega),AB h (by omega),RZ m.1,RZ m.2.1]
  simp only[cond_true]
  show(bif eqM m rd[i]then _ else _)=_
  cases eqM m rd[i]<;>rfl) (by
  unfold B7
  simp only
  rw[decide_eq_false (by omega)];rfl)
 simp only[this,Option.bind_some,dz]
 rfl
end Go.Ab
end
section
namespace Go.Ab
end Go.Ab
end
section
namespace Go.Ab
end Go.Ab
end
section
namespace Go.Ab
end Go.Ab
end
section
namespace Go.Ab
end Go.Ab
end
section
namespace Go.Ab
end Go.Ab
end
section
namespace Go.Ab
theorem IB {α:Type}{R:α->α->Prop}(ht:∀a b c,R a b->R b c->R a c){P:α->Prop}(l:List α):
 (∀i,i<l.length->∃h:i<l.length,P l[i]/\∀h2:0<i,R (l[i-1]'(by omega)) l[i])↔(∀x∈l,P x)/\l.Pairwise R:=by
 constructor
 ·intro h
  refine⟨fun x hx=>?_,?_⟩
  ·obtain⟨i,hi,rfl⟩:=List.getElem_of_mem hx
   exact(h i hi).2.1
  ·rw[List.pairwise_iff_getElem]
   intro i j hi hj hij
   induction j with
   |zero=>omega
   |succ j ih=>
    have h1:=(h (j+1) hj).2.2 (by omega)
    simp only[Nat.add_sub_cancel]at h1
    by_cases e:i=j
    ·subst e;exact h1
    ·exact ht _ _ _ (ih (by omega) (by omega)) h1
 ·rintro⟨h1,h2⟩ i hi
  refine⟨hi,h1 _ (List.getElem_mem hi),fun h0=>?_⟩
  exact List.pairwise_iff_getElem.1 h2 (i-1) i (by omega) hi (by omega)
abbrev EL {α:Type}(f:α->Int)(l:List α):Prop:=l.Pairwise fun a b=>f a<f b
def D8 {α:Type}(f:α->Int)(l:List α)(m:α):List α:=
 (l.takeWhile fun x=>decide (f x<f m))++m::(match l.dropWhile fun x=>decide (f x<f m)with|[]=>[]|x::r=>if f x=f m then r else x::r)
theorem Il {α:Type}{f:α->Int}:∀{l:List α} (h:EL f l) (n:Int),∀x∈l.dropWhile (fun x=>decide (f x<n)),n<=f x
 |[],_,_,x,hx=>by simp at hx
 |a::l,h,n,x,hx=>by
  have h1:=List.pairwise_cons.1 h
  simp only[List.dropWhile_cons]at hx
  split at hx
  ·exact Il h1.2 n x hx
  ·rename_i hn
   simp only[decide_eq_true_eq]at hn
   rcases List.mem_cons.1 hx with rfl|hx
   ·omega
   ·have:=h1.1 x hx;omega
theorem F6 {α:Type}{f:α->Int}{l:List α}(h:EL f l){m x:α}:x∈D8 f l m↔x=m\/(x∈l/\f x≠f m):=by
 have hd:=Il h (f m)
 have hu:EL f (l.dropWhile fun x=>decide (f x<f m)):=h.sublist (List.dropWhile_sublist _)
 have hl:x∈l↔x∈(l.takeWhile fun x=>decide (f x<f m))\/x∈(l.dropWhile fun x=>decide (f x<f m)):=by
  rw[<-List.mem_append,List.takeWhile_append_dropWhile]
 have htk:∀y∈(l.takeWhile fun x=>decide (f x<f m)),f y<f m:=fun y hy=>by
  have:=List.all_takeWhile (l:=l) (p:=fun x=>decide (f x<f m))
  have:=List.all_eq_true.1 this y hy
  simpa using this
 unfold D8
 cases hb:(l.dropWhile fun x=>decide (f x<f m))with
 |nil=>
  rw[hb]at hl
  simp only[List.mem_append,List.mem_cons,List.not_mem_nil,or_false]at hl ⊢
  rw[hl]
  constructor
  ·rintro(h1|h1)
   ·exact .inr ⟨h1,by have:=htk x h1;omega⟩
   ·exact .inl h1
  ·rintro(h1|⟨h1,_⟩)
   ·exact .inr h1
   ·exact .inl h1
 |cons y r=>
  rw[hb]at hl hd hu
  have hyr:=List.pairwise_cons.1 hu
  have hy:=hd y (List.mem_cons_self)
  simp only
  by_cases e:f y=f m
  ·rw[if_pos e]
   simp only[List.mem_append,List.mem_cons]at hl ⊢
   rw[hl]
   constructor
   ·rintro(h1|h1|h1)
    ·exact .inr ⟨.inl h1,by have:=htk x h1;omega⟩
    ·exact .inl h1
    ·exact .inr ⟨.inr (.inr h1),by have:=hyr.1 x h1;omega⟩
   ·rintro(h1|⟨h1|h1|h1,h2⟩)
    ·exact .inr (.inl h1)
    ·exact .inl h1
    ·subst h1;exact absurd e h2
    ·exact .inr (.inr h1)
  ·rw[if_neg e]
   simp only[List.mem_append,List.mem_cons]at hl ⊢
   rw[hl]
   constructor
   ·rintro(h1|h1|h1|h1)
    ·exact .inr ⟨.inl h1,by have:=htk x h1;omega⟩
    ·exact .inl h1
    ·subst h1;exact .inr ⟨.inr (.inl rfl),e⟩
    ·exact .inr ⟨.inr (.inr h1),by have:=hyr.1 x h1;omega⟩
   ·rintro(h1|⟨h1|h1|h1,h2⟩)
    ·exact .inr (.inl h1)
    ·exact .inl h1
    ·exact .inr (.inr (.inl h1))
    ·exact .inr (.inr (.inr h1))
theorem HY {α:Type}{f:α->Int}{l:List α}(h:EL f l)(m:α):EL f (D8 f l m):=by
 have hd:=Il h (f m)
 have hu:EL f (l.dropWhile fun x=>decide (f x<f m)):=h.sublist (List.dropWhile_sublist _)
 have ht:EL f (l.takeWhile fun x=>decide (f x<f m)):=h.sublist (List.takeWhile_sublist _)
 have htk:∀y∈(l.takeWhile fun x=>decide (f x<f m)),f y<f m:=fun y hy=>by
  have:=List.all_takeWhile (l:=l) (p:=fun x=>decide (f x<f m))
  have:=List.all_eq_true.1 this y hy
  simpa using this
 unfold D8
 have key:∀r:List α,EL f r->(∀x∈r,f m<f x)->EL f ((l.takeWhile fun x=>decide (f x<f m))++m::r):=by
  intro r hr h1
  refine List.pairwise_append.2 ⟨ht,List.pairwise_cons.2 ⟨h1,hr⟩,fun a ha b hb=>?_⟩
  have h2:=htk a ha
  rcases List.mem_cons.1 hb with rfl|hb
  ·exact h2
  ·have:=h1 b hb;omega
 cases hb:(l.dropWhile fun x=>decide (f x<f m))with
 |nil=>exact key [] .nil (by simp)
 |cons y r=>
  rw[hb]at hd hu
  have hyr:=List.pairwise_cons.1 hu
  have hy:=hd y (List.mem_cons_self)
  simp only
  by_cases e:f y=f m
  ·rw[if_pos e];exact key r hyr.2 fun x hx=>by have:=hyr.1 x hx;omega
  ·rw[if_neg e]
   refine key _ hu fun x hx=>?_
   have h0:f m<f y:=by omega
   rcases List.mem_cons.1 hx with rfl|hx
   ·exact h0
   ·have:=hyr.1 x hx;omega
theorem LK {α:Type}{f:α->Int}(l:List α)(m:α):(D8 f l m).length<=l.length+1:=by
 have e:=congrArg List.length (List.takeWhile_append_dropWhile (p:=fun x=>decide (f x<f m)) (l:=l))
 rw[List.length_append]at e
 unfold D8
 split
 ·rename_i h1;simp only[List.length_append,List.length_cons,List.length_nil];omega
 ·rename_i y r h1
  rw[h1]at e
  simp only[List.length_cons]at e
  split<;>simp only[List.length_append,List.length_cons]<;>omega
theorem KW (l:List VM):Sq l↔(∀x∈l,inB x.1 0 5=true/\inB x.2.1 1 9=true)/\EL (·.1) l:=by
 unfold Sq cY
 refine Iff.trans ?_ (IB (R:=fun a b:VM=>a.1<b.1) (P:=fun x=>inB x.1 0 5=true/\inB x.2.1 1 9=true) (fun a b c h1 h2=>Int.lt_trans h1 h2) l)
 simp only[and_assoc]
theorem GY (l:List VM):Mz l↔(∀x∈l,inB x.1 1 9=true/\inB x.2.1 1 9=true/\x.1≠x.2.1)/\EL (·.1) l:=by
 unfold Mz b8
 refine Iff.trans ?_ (IB (R:=fun a b:VM=>a.1<b.1) (P:=fun x=>inB x.1 1 9=true/\inB x.2.1 1 9=true/\x.1≠x.2.1) (fun a b c h1 h2=>Int.lt_trans h1 h2) l)
 simp only[and_assoc]
theorem FN (l:List VM):MA l↔(∀x∈l,inB x.1 0 5=true/\inB x.2.1 (-1) 99=true)/\EL (·.1) l:=by
 unfold MA b9
 refine Iff.trans ?_ (IB (R:=fun a b:VM=>a.1<b.1) (P:=fun x=>inB x.1 0 5=true/\inB x.2.1 (-1) 99=true) (fun a b c h1 h2=>Int.lt_trans h1 h2) l)
 simp only[and_assoc]
theorem Fq (a b c:VM)(h1:BT a b)(h2:BT b c):BT a c:=by unfold BT at*;omega
theorem Gk (l:List VM):Ls l↔(∀x∈l,inB x.1 0 5=true/\inB x.2.1 0 999=true)/\l.Pairwise BT:=by
 unfold Ls bh
 rw[<-IB Fq]
 simp only[and_assoc]
theorem LR (s:List (List VV))(stamp:Int)(l:List TX):X6 s stamp l↔(∀t∈l,Lr t=true/\t.2.2.2.1<=stamp/\t.2.2.2.2.2.2.1<=stamp/\(t.2.2.1=1->∀m∈t.2.2.2.2.2.2.2.1,FT s m))/\EL (·.1) l:=by
 unfold X6 dJ
 refine Iff.trans ?_ (IB (R:=fun a b:TX=>a.1<b.1) (P:=fun t=>Lr t=true/\t.2.2.2.1<=stamp/\t.2.2.2.2.2.2.1<=stamp/\(t.2.2.1=1->∀m∈t.2.2.2.2.2.2.2.1,FT s m)) (fun a b c h1 h2=>Int.lt_trans h1 h2) l)
 constructor
 ·intro h i hi
  obtain⟨h0,h1,h2,h3,h4,h5⟩:=h i hi
  exact⟨h0,⟨h1,h3,h4,h5⟩,h2⟩
 ·intro h i hi
  obtain⟨h0,⟨h1,h3,h4,h5⟩,h2⟩:=h i hi
  exact⟨h0,h1,h2,h3,h4,h5⟩
theorem RS {l:List TX}(h:EL (·.1) l){k:Nat}(hk:k<l.length):l.findIdx? (fun t=>t.1==l[k].1)=some k:=by
 rw[List.findIdx?_eq_some_iff_getElem]
 refine⟨hk,by simp,fun j hj=>?_⟩
 have:l[j].1<l[k].1:=List.pairwise_iff_getElem.1 h j k (by omega) hk hj
 simp;omega
theorem Gw {l:List TX}(h:EL (·.1) l)(id:Int):Fs l id=true↔∃t∈l,t.1=id/\t.2.2.1=1:=by
 unfold Fs
 constructor
 ·intro h1
  split at h1
  ·rename_i i hi
   split at h1
   ·rename_i t ht
    obtain⟨h2,h3,_⟩:=List.findIdx?_eq_some_iff_getElem.1 hi
    rw[List.getElem?_eq_getElem h2]at ht
    obtain rfl:l[i]=t:=by simpa using ht
    exact⟨_,List.getElem_mem h2,by simpa using h3,by simpa using h1⟩
   ·cases h1
  ·cases h1
 ·rintro⟨t,ht,rfl,h2⟩
  obtain⟨k,hk,rfl⟩:=List.getElem_of_mem ht
  rw[RS h hk]
  simp[List.getElem?_eq_getElem hk,h2]
end Go.Ab
end
section
namespace Go.Ab
noncomputable section
def F5 (t:TX)(n:Int):TX:=(t.1,t.2.1,n,t.2.2.2.1,t.2.2.2.2.1,t.2.2.2.2.2.1,t.2.2.2.2.2.2.1,t.2.2.2.2.2.2.2.1,t.2.2.2.2.2.2.2.2.1,())
def Nf (t:TX)(lo hi:Int)(rd:List VM):TX:=(t.1,t.2.1,t.2.2.1,t.2.2.2.1,lo,hi,t.2.2.2.2.2.2.1,rd,t.2.2.2.2.2.2.2.2.1,())
def KH (t:TX)(lo:Int)(wr:List VM):TX:=(t.1,t.2.1,t.2.2.1,t.2.2.2.1,lo,t.2.2.2.2.2.1,t.2.2.2.2.2.2.1,t.2.2.2.2.2.2.2.1,wr,())
def GT (t:TX)(lo hi co:Int):TX:=(t.1,t.2.1,2,t.2.2.2.1,lo,hi,co,t.2.2.2.2.2.2.2.1,t.2.2.2.2.2.2.2.2.1,())
def Kf (id sc be:Int):TX:=(id,sc,1,be,0,1000,0,[],[],())
abbrev EG:=List (List VV)×List TX×List VM×List VM×Int
def T9 (lk:List VM)(id:Int):List VM:=lk.filter fun m=>!(m.2.1==id)
def XK (wt:List VM)(id:Int):List VM:=wt.filter fun m=>!(m.1==id)&&!(m.2.1==id)
def wkW (wt:List VM)(id:Int):List VM:=wt.filter fun m=>!(m.1==id)
def Hb (e:EG)(k:Nat)(t:TX):EG:=(e.1,e.2.1.set k t,T9 e.2.2.1 t.1,XK e.2.2.2.1 t.1,e.2.2.2.2)
def CO (lk:List VM)(key:Int):Int:=match lk.find? fun m=>m.1==key with|some m=>m.2.1|none=>0
def N6 (t:TX)(key:Int):Option Int:=(t.2.2.2.2.2.2.2.2.1.find? fun m=>m.1==key).map (·.2.1)
def Eg (s:List (List VV))(key:Int):Option VV:=(s[key.toNat]?).bind fun l=>l[l.length-1]?
def crV (o:Option VV):Int:=match o with|some v=>v.2.2.1|none=>0
def J5 (o:Option VV):Int:=match o with|some v=>v.2.2.2.1|none=>0
def GF (s:List (List VV))(t:TX)(key:Int):Option VV:=
 (s[key.toNat]?).bind fun l=>
   let i:Int:=bif t.2.1==2 then vA l t.2.2.2.1 l.length else(l.length:Int)-1
   bif decide (i<0)then none else(l[i.toNat]?).bind fun v=>bif t.2.1==4&&decide (v.2.2.1>t.2.2.2.1)then none else some v
def G4 (a b:VM):Bool:=dec (BT a b)
def HX (rd:List VM)(m:VM):List VM:=
 (rd.takeWhile fun x=>G4 x m)++m::(match rd.dropWhile fun x=>G4 x m with|[]=>[]|x::r=>if x=m then r else x::r)
def JM (t:TX)(key:Int)(v:VV):Option TX:=
 bif t.2.2.2.2.2.2.2.1.length==60 then none else some (Nf t (mx t.2.2.2.2.1 v.2.2.1) (mn t.2.2.2.2.2.1 v.2.2.2.2.1) (HX t.2.2.2.2.2.2.2.1 (key,v.2.2.1,())))
def EI (e:EG)(k:Nat)(key:Int):Int×Int×EG:=match e.2.1[k]? with
 |none=>(0,6,e)
 |some t=>match N6 t key with
  |some x=>(x,0,e)
  |none=>match GF e.1 t key with
   |none=>(0,3,Hb e k (F5 t 3))
   |some v=>match JM t key v with
    |none=>(0,6,e)
    |some t'=>(v.2.1,0,(e.1,e.2.1.set k t',e.2.2))
def DX (k:Nat):Nat->Int->List Int->EG->Int×List Int×EG
 |0,_,out,e=>(0,out,e)
 |n+1,key,out,e=>let r:=EI e k key
  bif r.2.1==0 then DX k n (key+1) (out++[r.1]) r.2.2 else(r.2.1,[],r.2.2)
def Eo (s:List (List VV))(lk:List VM)(t:TX)(key:Int):Int:=
 let o:=CO lk key
 let f:=!(o==0)&&!(o==t.1)
 bif t.2.1==1&&f then 1
 else bif t.2.1==2&&(f||decide (crV (Eg s key)>t.2.2.2.1))then 2
 else bif t.2.1==4&&decide (J5 (Eg s key)>t.2.2.2.1)then 3 else 0
def eF (wt:List VM)(id:Int):Option Int:=(wt.find? fun m=>m.1==id).map (·.2.1)
def Gt (wt:List VM):Nat->List Int->Int->List Int
 |0,out,_=>out
 |n+1,out,x=>match eF wt x with
  |none=>out
  |some y=>if y∈out then out++[y]else Gt wt n (out++[y]) y
def M3 (wt:List VM)(id o:Int):Bool:=(Gt (D8 (·.1) wt (id,o,())) 10 [id] id).getLast?==some id
def HM (e:EG)(k:Nat)(key val:Int):Int×EG:=match e.2.1[k]? with
 |none=>(6,e)
 |some t=>
  let c:=Eo e.1 e.2.2.1 t key
  bif c==1 then(bif M3 e.2.2.2.1 t.1 (CO e.2.2.1 key)then(4,Hb e k (F5 t 3))else(1,e.1,e.2.1,e.2.2.1,D8 (·.1) e.2.2.2.1 (t.1,CO e.2.2.1 key,()),e.2.2.2.2))
  else bif c==0 then(0,e.1,e.2.1.set k (KH t (mx t.2.2.2.2.1 (J5 (Eg e.1 key))) (D8 (·.1) t.2.2.2.2.2.2.2.2.1 (key,val,()))),(bif t.2.1==1||t.2.1==2 then D8 (·.1) e.2.2.1 (key,t.1,())else e.2.2.1),e.2.2.2.1,e.2.2.2.2)
  else(c,Hb e k (F5 t 3))
def K4 (s:List (List VV))(t:TX):Int:=
 bif t.2.2.2.2.2.2.2.2.1.any fun m=>decide (crV (Eg s m.1)>t.2.2.2.1)then(bif t.2.1==2 then 2 else bif t.2.1==4 then 3 else 0)else 0
def rlP (s:List (List VV))(t:TX):Int:=t.2.2.2.2.2.2.2.2.1.foldl (fun n m=>mx n (J5 (Eg s m.1))) (t.2.2.2.2.2.2.2.1.foldl (fun n m=>mx n m.2.1) 0)
def loP (s:List (List VV))(t:TX):Int:=mx t.2.2.2.2.1 (rlP s t)
def hiP (s:List (List VV))(t:TX)(stamp:Int):Int:=mn (mn t.2.2.2.2.2.1 (rfH s t.2.2.2.2.2.2.2.1)) stamp
def Ki (s:List (List VV))(t:TX):Bool:=t.2.2.2.2.2.2.2.2.1.any fun m=>match s[m.1.toNat]? with|some l=>decide (l.length>=50)|none=>false
def IQ (s:List (List VV))(t:TX)(stamp hi:Int):List (List VV):=t.2.2.2.2.2.2.2.2.1.foldl (IW stamp t.1 hi) (t.2.2.2.2.2.2.2.1.foldl (Hf stamp) s)
def GE (ce:Bool)(e:EG)(k:Nat):Int×EG:=match e.2.1[k]? with
 |none=>(6,e)
 |some t=>
  let c:=K4 e.1 t
  bif !(c==0)then(c,Hb e k (F5 t 3))
  else bif e.2.2.2.2==999 then(6,e)
  else
   let st:=e.2.2.2.2+1
   bif (ce&&decide (loP e.1 t>=hiP e.1 t st))||Ki e.1 t then(5,Hb e k (F5 t 3))
   else(0,Hb (IQ e.1 t st (hiP e.1 t st),e.2.1,e.2.2.1,e.2.2.2.1,st) k (GT t (loP e.1 t) (hiP e.1 t st) st))
def Gv (e:EG)(id sc:Int):Int×EG:=
 bif (e.2.1.any fun t=>t.1==id)||e.2.1.length==6 then(6,e)else(0,e.1,D8 (·.1) e.2.1 (Kf id sc e.2.2.2.2),e.2.2)
abbrev OPt:=Int×Int×Int×Int×Int×Int×Unit
def Jl (ce:Bool)(e:EG)(o:OPt):Int×List Int×EG:=
 bif o.1==1 then(let r:=Gv e o.2.1 o.2.2.1;(r.1,[],r.2))
 else match e.2.1.findIdx? fun t=>t.1==o.2.1 with
  |none=>(6,[],e)
  |some k=>bif Fs e.2.1 o.2.1 then
    (let e':EG:=(e.1,e.2.1,e.2.2.1,wkW e.2.2.2.1 o.2.1,e.2.2.2.2)
    bif o.1==2 then DX k 1 o.2.2.2.1 [] e'
    else bif o.1==4 then DX k (o.2.2.2.2.1-o.2.2.2.1+1).toNat o.2.2.2.1 [] e'
    else bif o.1==3 then(let r:=HM e' k o.2.2.2.1 o.2.2.2.2.2.1;(r.1,[],r.2))
    else bif o.1==5 then(let r:=GE ce e' k;(r.1,[],r.2))
    else match e.2.1[k]? with
     |some t=>(0,[],Hb e' k (F5 t 3))
     |none=>(6,[],e'))
   else(6,[],e)
def Ju (o:OPt):Bool:=
 inB o.1 1 6&&inB o.2.1 1 9&&(bif o.1==1 then inB o.2.2.1 1 4 else o.2.2.1==0)&&(bif o.1==2||o.1==3||o.1==4 then inB o.2.2.2.1 0 5 else o.2.2.2.1==0)&&(bif o.1==4 then inB o.2.2.2.2.1 o.2.2.2.1 5 else o.2.2.2.2.1==0)&&(bif o.1==3 then inB o.2.2.2.2.2.1 (-1) 99 else o.2.2.2.2.2.1==0)
structure OkG (e:EG):Prop where
 st:PF e.1
 last:e.1.foldl Jx 0<=e.2.2.2.2
 stamp:e.2.2.2.2<=999
 lkA:∀m∈e.2.2.1,inB m.1 0 5=true/\inB m.2.1 1 9=true
 lkU:EL (·.1) e.2.2.1
 wtA:∀m∈e.2.2.2.1,inB m.1 1 9=true/\inB m.2.1 1 9=true/\m.1≠m.2.1
 wtU:EL (·.1) e.2.2.2.1
 txA:∀t∈e.2.1,Lr t=true/\t.2.2.2.1<=e.2.2.2.2/\t.2.2.2.2.2.2.1<=e.2.2.2.2/\(t.2.2.1=1->∀m∈t.2.2.2.2.2.2.2.1,FT e.1 m)
 txU:EL (·.1) e.2.1
 len:e.2.1.length<=6
 lkO:∀m∈e.2.2.1,Fs e.2.1 m.2.1=true
 wtO:∀m∈e.2.2.2.1,Fs e.2.1 m.1=true/\Fs e.2.1 m.2.1=true
theorem Hv {p:Prop}(h:dec p=true):p:=by
 by_cases e:p
 ·exact e
 ·rw[EF e]at h;cases h
theorem MC (e:EG):okE e.1 e.2.1 e.2.2.1 e.2.2.2.1 e.2.2.2.2=true↔OkG e:=by
 unfold okE inB
 simp only[Bool.and_eq_true,decide_eq_true_eq]
 constructor
 ·rintro⟨⟨⟨⟨⟨⟨⟨h1,h2⟩,h3⟩,h4⟩,h5⟩,h6⟩,h7⟩,h8⟩
  have a2:=(KW _).1 (Hv h2)
  have a3:=(GY _).1 (Hv h3)
  have a5:=(LR _ _ _).1 (Hv h5)
  exact⟨Hv h1,h4.1,h4.2,a2.1,a2.2,a3.1,a3.2,a5.1,a5.2,h6,Hv h7,Hv h8⟩
 ·rintro⟨h1,h2,h3,h4,h5,h6,h7,h8,h9,h10,h11,h12⟩
  exact⟨⟨⟨⟨⟨⟨⟨Cd h1,Cd ((KW _).2 ⟨h4,h5⟩)⟩,Cd ((GY _).2 ⟨h6,h7⟩)⟩,h2,h3⟩,Cd ((LR _ _ _).2 ⟨h8,h9⟩)⟩,h10⟩,Cd h11⟩,Cd h12⟩
end
end Go.Ab
end
section
namespace Go.Ab
theorem B8 {x a b:Int}:inB x a b=true↔a<=x/\x<=b:=by unfold inB;simp
theorem Xb {a b n:Int}:mx a b<=n↔a<=n/\b<=n:=by unfold mx;split<;>omega
theorem Xm {a b n:Int}:n<=mn a b↔n<=a/\n<=b:=by unfold mn;split<;>omega
theorem Sp (a b c:VV)(h1:okP a b)(h2:okP b c):okP a c:=by unfold okP at*;omega
theorem FD (l:List VV):Ks l↔(∀v∈l,okV v=true)/\l.Pairwise okP/\∃v,l.getLast?=some v/\v.2.2.2.2.1=1000:=by
 unfold Ks
 rw[Oa]
 have h1:=IB (R:=okP) (P:=fun v=>okV v=true) Sp l
 have h2:(∀i,i<l.length->X7 l i)↔(∀x∈l,okV x=true)/\l.Pairwise okP:=h1
 rw[h2,and_assoc]
 have h3:(∃h:0<l.length,(l[l.length-1]'(by omega)).2.2.2.2.1=1000)↔∃v,l.getLast?=some v/\v.2.2.2.2.1=1000:=by
  constructor
  ·rintro⟨h,e⟩
   exact⟨_,by rw[List.getLast?_eq_getElem?,List.getElem?_eq_getElem (by omega)],e⟩
  ·rintro⟨v,e1,e2⟩
   rw[List.getLast?_eq_getElem?]at e1
   obtain⟨h,e3⟩:=List.getElem?_eq_some_iff.1 e1
   exact⟨by omega,by rw[e3];exact e2⟩
 rw[h3]
theorem Hq (v:VV):okV v=true↔inB v.2.1 (-1) 99=true/\inB v.2.2.1 0 999=true/\inB v.2.2.2.1 v.2.2.1 999=true/\inB v.2.2.2.2.1 1 1000=true/\(bif v.2.2.1==0 then(bif v.1==0 then v.2.1==-1 else false)else inB v.1 1 9)=true:=by
 unfold okV
 simp only[Bool.and_eq_true,and_assoc]
theorem mem_set {α:Type}{l:List α}{k:Nat}{t x:α}(h:x∈l.set k t):x=t\/∃j,∃hj:j<l.length,j≠k/\x=l[j]:=by
 obtain⟨j,hj,rfl⟩:=List.getElem_of_mem h
 rw[List.length_set]at hj
 rw[List.getElem_set]
 by_cases e:k=j
 ·rw[if_pos e];exact .inl rfl
 ·rw[if_neg e];exact .inr ⟨j,hj,fun h=>e h.symm,rfl⟩
theorem Pp {α:Type}{R:α->α->Prop}{l:List α}{k:Nat}(hk:k<l.length){t:α}(h:l.Pairwise R)(h1:∀x,R x l[k]->R x t)(h2:∀x,R l[k] x->R t x):(l.set k t).Pairwise R:=by
 rw[List.pairwise_iff_getElem]at h ⊢
 intro i j hi hj hij
 rw[List.length_set]at hi hj
 rw[List.getElem_set,List.getElem_set]
 have h3:=h i j hi hj hij
 by_cases e1:k=i
 ·subst e1;rw[if_pos rfl,if_neg (by omega)];exact h2 _ h3
 ·rw[if_neg e1]
  by_cases e2:k=j
  ·subst e2;rw[if_pos rfl];exact h1 _ h3
  ·rw[if_neg e2];exact h3
theorem cU {l:List VV}{j:Nat}{v:VV}(h:Ks l)(hj:l[j]?=some v){st:Int}(hs:st<=999):Ks (l.set j (Ko st v)):=by
 obtain⟨hjl,rfl⟩:=List.getElem?_eq_some_iff.1 hj
 rw[FD]at h ⊢
 obtain⟨h1,h2,w,h3,h4⟩:=h
 refine⟨fun x hx=>?_,Pp hjl h2 (fun x hx=>hx) (fun x hx=>hx),?_⟩
 ·rcases mem_set hx with rfl|⟨i,hi,_,rfl⟩
  ·have:=h1 _ (List.getElem_mem hjl)
   rw[Hq]at this ⊢
   obtain⟨a1,a2,a3,a4,a5⟩:=this
   refine⟨a1,a2,?_,a4,a5⟩
   rw[B8]at a3 ⊢
   show l[j].2.2.1<=mx l[j].2.2.2.1 st/\mx l[j].2.2.2.1 st<=999
   unfold mx;split<;>omega
  ·exact h1 _ (List.getElem_mem hi)
 ·rw[List.getLast?_eq_getElem?,List.length_set,List.getElem?_set]
  rw[List.getLast?_eq_getElem?]at h3
  by_cases e:j=l.length-1
  ·rw[if_pos e,if_pos (by omega)]
   refine⟨_,rfl,?_⟩
   subst e
   rw[List.getElem?_eq_getElem (by omega)]at h3
   obtain rfl:=Option.some.inj h3
   exact h4
  ·rw[if_neg e];exact⟨w,h3,h4⟩
theorem cT {l:List VV}{v:VV}(h:Ks l)(hl:l[l.length-1]?=some v){st hi id val:Int}(hs:1<=st/\st<=999)(hh:1<=hi/\hi<=st)(hid:inB id 1 9=true)(hval:inB val (-1) 99=true)(hc:∀x∈l,x.2.2.1<st):
 Ks (l.set (l.length-1) (S9 hi v)++[(id,val,st,st,1000,())]):=by
 obtain⟨hjl,rfl⟩:=List.getElem?_eq_some_iff.1 hl
 rw[FD]at h ⊢
 obtain⟨h1,h2,w,h3,h4⟩:=h
 have hpos:0<l.length:=by omega
 refine⟨fun x hx=>?_,?_,_,by rw[List.getLast?_append];rfl,rfl⟩
 ·rcases List.mem_append.1 hx with hx|hx
  ·rcases mem_set hx with rfl|⟨i,hi,_,rfl⟩
   ·have:=h1 _ (List.getElem_mem hjl)
    rw[Hq]at this ⊢
    obtain⟨a1,a2,a3,a4,a5⟩:=this
    exact⟨a1,a2,a3,by rw[B8];show 1<=hi/\hi<=1000;omega,a5⟩
   ·exact h1 _ (List.getElem_mem hi)
  ·obtain rfl:=by simpa using hx
   rw[Hq]
   refine⟨hval,by rw[B8];show 0<=st/\st<=999;omega,by rw[B8];show st<=st/\st<=999;omega,by rw[B8];show(1:Int)<=1000/\(1000:Int)<=1000;omega,?_⟩
   show(bif st==0 then _ else inB id 1 9)=true
   rw[show(st==0)=false by simp;omega]
   exact hid
 ·rw[List.pairwise_append]
  refine⟨?_,List.pairwise_singleton _ _,fun a ha b hb=>?_⟩
  ·
   rw[List.pairwise_iff_getElem]at h2 ⊢
   intro i j hi hj hij
   rw[List.length_set]at hi hj
   rw[List.getElem_set,List.getElem_set,if_neg (by omega)]
   have h5:=h2 i j hi hj hij
   by_cases e:l.length-1=j
   ·subst e;rw[if_pos rfl];exact h5
   ·rw[if_neg e];exact h5
  ·obtain rfl:=by simpa using hb
   rcases mem_set ha with rfl|⟨i,hi',hne,rfl⟩
   ·exact⟨show l[l.length-1].2.2.1<st from hc _ (List.getElem_mem hjl),hh.2⟩
   ·have h6:okP l[i] (l[l.length-1]'(by omega)):=List.pairwise_iff_getElem.1 h2 i (l.length-1) hi' (by omega) (by omega)
    have h7:=hc _ (List.getElem_mem hi')
    have h8:=hc _ (List.getElem_mem hjl)
    exact⟨h7,by have:=h6.2;show l[i].2.2.2.2.1<=st;omega⟩
theorem Oi {n:Int}:∀(l:List VV) (a:Int),Jx a l<=n↔a<=n/\∀v∈l,v.2.2.2.1<=n
 |[],a=>by simp[Jx]
 |v::l,a=>by
  show Jx (mx a v.2.2.2.1) l<=n↔_
  rw[Oi l,Xb]
  simp[and_assoc]
theorem Ky {n:Int}:∀(s:List (List VV)) (a:Int),s.foldl Jx a<=n↔a<=n/\∀l∈s,∀v∈l,v.2.2.2.1<=n
 |[],a=>by simp
 |l::s,a=>by
  rw[List.foldl_cons,Ky s,Oi]
  simp[and_assoc]
structure GdS (s:List (List VV))(n:Int):Prop where
 six:s.length=6
 ok:∀l∈s,Ks l/\l.length<=50
 rd:∀l∈s,∀v∈l,v.2.2.2.1<=n
theorem GdS.of {s:List (List VV)}{n:Int}(h:PF s)(hn:s.foldl Jx 0<=n):GdS s n:=⟨h.1,h.2,((Ky s 0).1 hn).2⟩
theorem GdS.last {s:List (List VV)}{n:Int}(h:GdS s n)(h0:0<=n):PF s/\s.foldl Jx 0<=n:=⟨⟨h.six,h.ok⟩,(Ky s 0).2 ⟨h0,h.rd⟩⟩
theorem GdS.set {s:List (List VV)}{n:Int}(h:GdS s n){k:Nat}{l:List VV}(h1:Ks l)(h2:l.length<=50)(h3:∀v∈l,v.2.2.2.1<=n):GdS (s.set k l) n:=by
 refine⟨by simpa using h.six,fun x hx=>?_,fun x hx=>?_⟩
 ·rcases List.mem_or_eq_of_mem_set hx with h4|rfl
  ·exact h.ok x h4
  ·exact⟨h1,h2⟩
 ·rcases List.mem_or_eq_of_mem_set hx with h4|rfl
  ·exact h.rd x h4
  ·exact h3
theorem Ld {s:List (List VV)}{m x:VM}{l:List VV}:EZ (s.set m.1.toNat l) x=if m.1.toNat=x.1.toNat then(EZ s m).map fun _=>l else EZ s x:=by
 unfold EZ
 rw[List.getElem?_set]
 by_cases e:m.1.toNat=x.1.toNat
 ·rw[if_pos e,if_pos e]
  by_cases e2:m.1.toNat<s.length
  ·rw[if_pos e2,List.getElem?_eq_getElem e2];rfl
  ·rw[if_neg e2,List.getElem?_eq_none (by omega)];rfl
 ·rw[if_neg e,if_neg e]
theorem ZK {l:List VV}{j:Nat}{v:VV}(hj:l[j]?=some v){v':VV}(e:v'.2.2.1=v.2.2.1):(l.set j v').map (fun v=>v.2.2.1)=l.map fun v=>v.2.2.1:=by
 obtain⟨hjl,rfl⟩:=List.getElem?_eq_some_iff.1 hj
 apply List.ext_getElem (by simp)
 intro i h1 h2
 simp only[List.length_map,List.length_set]at h1 h2
 simp only[List.getElem_map,List.getElem_set]
 split
 ·rename_i h;subst h;exact e
 ·rfl
theorem Zv {s:List (List VV)}{n st:Int}(h:GdS s n)(hn:n<=st)(hs:st<=999)(m:VM):GdS (Hf st s m) st/\∀x,(EZ (Hf st s m) x).map (List.map fun v:VV=>v.2.2.1)=(EZ s x).map (List.map fun v:VV=>v.2.2.1):=by
 have h':GdS s st:=⟨h.six,h.ok,fun l hl v hv=>Int.le_trans (h.rd l hl v hv) hn⟩
 unfold Hf
 cases hc:EZ s m with
 |none=>exact⟨h',fun x=>rfl⟩
 |some l=>
  have hl:l∈s:=List.mem_of_getElem? hc
  simp only
  cases hf:fvI l m.2.1 with
  |none=>exact⟨h',fun x=>rfl⟩
  |some j=>
   simp only
   cases hj:l[j]? with
   |none=>exact⟨h',fun x=>rfl⟩
   |some v=>
    simp only
    refine⟨h'.set (cU (h.ok l hl).1 hj hs) (by simpa using(h.ok l hl).2) (fun x hx=>?_),fun x=>?_⟩
    ·rcases List.mem_or_eq_of_mem_set hx with h4|rfl
     ·exact h'.rd l hl x h4
     ·have:=h'.rd l hl v (List.mem_of_getElem? hj)
      show mx _ st<=st
      rw[Xb];exact⟨this,Int.le_refl _⟩
    ·rw[Ld]
     split
     ·rename_i e
      have:EZ s x=some l:=by rw[<-hc];unfold EZ;rw[e]
      rw[this,hc]
      simp only[Option.map_some]
      rw[ZK (v':=Ko st v) hj rfl]
     ·rfl
theorem Xx {n st:Int}(hn:n<=st)(hs:st<=999):∀(rd:List VM) {s:List (List VV)},GdS s n->(GdS (rd.foldl (Hf st) s) st)/\∀x,(EZ (rd.foldl (Hf st) s) x).map (List.map fun v:VV=>v.2.2.1)=(EZ s x).map (List.map fun v:VV=>v.2.2.1)
 |[],s,h=>⟨⟨h.six,h.ok,fun l hl v hv=>Int.le_trans (h.rd l hl v hv) hn⟩,fun x=>rfl⟩
 |m::rd,s,h=>by
  obtain⟨h1,h2⟩:=Zv h hn hs m
  obtain⟨h3,h4⟩:=Xx (Int.le_refl st) hs rd h1
  exact⟨h3,fun x=>(h4 x).trans (h2 x)⟩
theorem Zu {s:List (List VV)}{st id hi:Int}(h:GdS s st)(hs:1<=st/\st<=999)(hh:1<=hi/\hi<=st)(hid:inB id 1 9=true){m:VM}(hv:inB m.2.1 (-1) 99=true)(hf:∀l,EZ s m=some l->l.length<50/\∀v∈l,v.2.2.1<st):
 GdS (IW st id hi s m) st/\(∀x:VM,m.1.toNat≠x.1.toNat->EZ (IW st id hi s m) x=EZ s x):=by
 unfold IW
 cases hc:EZ s m with
 |none=>exact⟨h,fun x _=>rfl⟩
 |some l=>
  have hl:l∈s:=List.mem_of_getElem? hc
  obtain⟨g1,g2⟩:=hf l hc
  simp only
  cases hj:l[l.length-1]? with
  |none=>exact⟨h,fun x _=>rfl⟩
  |some v=>
   simp only
   refine⟨h.set (cT (h.ok l hl).1 hj hs hh hid hv g2) (by simp;omega) (fun x hx=>?_),fun x hx=>?_⟩
   ·rcases List.mem_append.1 hx with hx|hx
    ·rcases List.mem_or_eq_of_mem_set hx with h4|rfl
     ·exact h.rd l hl x h4
     ·exact h.rd l hl v (List.mem_of_getElem? hj)
    ·obtain rfl:=by simpa using hx
     exact Int.le_refl _
   ·rw[Ld,if_neg hx]
theorem Xw {st id hi:Int}(hs:1<=st/\st<=999)(hh:1<=hi/\hi<=st)(hid:inB id 1 9=true):∀(wr:List VM) {s:List (List VV)},GdS s st->(∀m∈wr,0<=m.1/\inB m.2.1 (-1) 99=true)->EL (·.1) wr->(∀m∈wr,∀l,EZ s m=some l->l.length<50/\∀v∈l,v.2.2.1<st)->GdS (wr.foldl (IW st id hi) s) st
 |[],s,h,_,_,_=>h
 |m::wr,s,h,hv,hu,hf=>by
  obtain⟨h1,h2⟩:=Zu h hs hh hid (hv m List.mem_cons_self).2 (hf m List.mem_cons_self)
  have hp:=List.pairwise_cons.1 hu
  refine Xw hs hh hid wr h1 (fun x hx=>hv x (List.mem_cons_of_mem _ hx)) hp.2 (fun x hx l hl=>?_)
  have h3:m.1<x.1:=hp.1 x hx
  have h4:=(hv m List.mem_cons_self).1
  have h5:=(hv x (List.mem_cons_of_mem _ hx)).1
  rw[h2 x (by omega)]at hl
  exact hf x (List.mem_cons_of_mem _ hx) l hl
theorem L5 {l:List VV}{c:Int}:(∃j,fvI l c=some j)↔∃v∈l,v.2.2.1=c:=by
 unfold fvI
 rw[<-Option.isSome_iff_exists,List.findIdx?_isSome]
 simp
theorem L9 {s:List (List VV)}{m:VM}:FT s m↔∃l,EZ s m=some l/\∃v∈l,v.2.2.1=m.2.1:=by
 unfold FT
 constructor
 ·rintro⟨l,j,h1,h2⟩;exact⟨l,h1,L5.1 ⟨j,h2⟩⟩
 ·rintro⟨l,h1,h2⟩;obtain⟨j,h3⟩:=L5.2 h2;exact⟨l,j,h1,h3⟩
theorem SA {s:List (List VV)}{m x:VM}(st id hi:Int)(hx:FT s x):FT (IW st id hi s m) x:=by
 rw[L9]at hx ⊢
 obtain⟨l,h1,v,h2,h3⟩:=hx
 unfold IW
 cases hc:EZ s m with
 |none=>exact⟨l,h1,v,h2,h3⟩
 |some r=>
  simp only
  cases hj:r[r.length-1]? with
  |none=>exact⟨l,h1,v,h2,h3⟩
  |some w=>
   simp only
   rw[Ld]
   split
   ·rename_i e
    have:EZ s x=some r:=by rw[<-hc];unfold EZ;rw[e]
    rw[this]at h1
    obtain rfl:r=l:=by simpa using h1
    rw[hc]
    refine⟨_,rfl,?_⟩
    obtain⟨i,hi',rfl⟩:=List.getElem_of_mem h2
    obtain⟨hl,rfl⟩:=List.getElem?_eq_some_iff.1 hj
    by_cases e2:r.length-1=i
    ·subst e2
     refine⟨S9 hi _,?_,h3⟩
     rw[List.mem_append];left
     exact List.mem_set hl _
    ·refine⟨r[i],?_,h3⟩
     rw[List.mem_append];left
     rw[List.mem_iff_getElem]
     exact⟨i,by simpa using hi',by rw[List.getElem_set,if_neg e2]⟩
   ·exact⟨l,h1,v,h2,h3⟩
theorem SB {s:List (List VV)}{t:TX}{st hi:Int}{x:VM}(hx:FT s x):FT (IQ s t st hi) x:=by
 unfold IQ
 have h1:∀(rd:List VM) (s:List (List VV)),FT s x->FT (rd.foldl (Hf st) s) x:=by
  intro rd
  induction rd with
  |nil=>intro s h;exact h
  |cons m rd ih=>intro s h;exact ih _ (M2 st h)
 have h2:∀(wr:List VM) (s:List (List VV)),FT s x->FT (wr.foldl (IW st t.1 hi) s) x:=by
  intro wr
  induction wr with
  |nil=>intro s h;exact h
  |cons m wr ih=>intro s h;exact ih _ (SA st t.1 hi h)
 exact h2 _ _ (h1 _ _ hx)
end Go.Ab
end
section
namespace Go.Ab
theorem C2 (t:TX):Lr t=true↔Ls t.2.2.2.2.2.2.2.1/\MA t.2.2.2.2.2.2.2.2.1/\inB t.1 1 9=true/\inB t.2.1 1 4=true/\inB t.2.2.2.1 0 999=true/\inB t.2.2.1 1 3=true/\inB t.2.2.2.2.1 0 999=true/\inB t.2.2.2.2.2.1 1 1000=true/\(t.2.2.1=2↔t.2.2.2.2.2.2.1>0)/\inB t.2.2.2.2.2.2.1 0 999=true/\t.2.2.2.2.2.2.2.1.length<=60:=by
 unfold Lr okT
 simp only[Bool.and_eq_true,decide_eq_true_eq,and_assoc]
 have e:∀(a b:Prop) [Decidable b] (x:Bool),(x=true↔a)->(((x==decide b)=true)↔(a↔b)):=by
  intro a b _ x hx
  cases x<;>by_cases hb:b<;>simp[hb]at hx ⊢<;>exact hx
 rw[e (t.2.2.1=2) (t.2.2.2.2.2.2.1>0) (t.2.2.1==2) (by simp)]
 constructor
 ·rintro⟨h1,h2,h3⟩;exact⟨Hv h1,Hv h2,h3⟩
 ·rintro⟨h1,h2,h3⟩;exact⟨Cd h1,Cd h2,h3⟩
section
variable {e:EG}(H:OkG e)
include H
theorem OkG.stamp0:0<=e.2.2.2.2:=Int.le_trans ((Ky e.1 0).1 (Int.le_refl _)).1 H.last
theorem OkG.gd:GdS e.1 e.2.2.2.2:=GdS.of H.st H.last
theorem S2 {k:Nat}(hk:k<e.2.1.length){t':TX}(ht:t'.1=e.2.1[k].1)(id:Int):Fs (e.2.1.set k t') id=true↔(id≠t'.1/\Fs e.2.1 id=true)\/(id=t'.1/\t'.2.2.1=1):=by
 have hu:EL (·.1) (e.2.1.set k t'):=Pp hk H.txU (fun x h=>by show x.1<t'.1;rw[ht];exact h) (fun x h=>by show t'.1<x.1;rw[ht];exact h)
 rw[Gw hu,Gw H.txU]
 constructor
 ·rintro⟨t,h1,rfl,h2⟩
  rcases mem_set h1 with rfl|⟨j,hj,hne,rfl⟩
  ·exact .inr ⟨rfl,h2⟩
  ·refine .inl ⟨fun he=>?_,_,List.getElem_mem hj,rfl,h2⟩
   rw[ht]at he
   rcases Nat.lt_or_gt_of_ne hne with h3|h3
   ·have:e.2.1[j].1<e.2.1[k].1:=List.pairwise_iff_getElem.1 H.txU j k hj hk h3;omega
   ·have:e.2.1[k].1<e.2.1[j].1:=List.pairwise_iff_getElem.1 H.txU k j hk hj h3;omega
 ·rintro(⟨h1,t,h2,rfl,h3⟩|⟨rfl,h2⟩)
  ·obtain⟨j,hj,rfl⟩:=List.getElem_of_mem h2
   have hne:k≠j:=fun he=>by subst he;exact h1 ht.symm
   refine⟨e.2.1[j],?_,rfl,h3⟩
   rw[List.mem_iff_getElem]
   exact⟨j,by simpa using hj,by rw[List.getElem_set,if_neg hne]⟩
  ·exact⟨t',List.mem_set hk _,rfl,h2⟩
theorem PY {k:Nat}(hk:k<e.2.1.length){t':TX}(ht:t'.1=e.2.1[k].1):EL (·.1) (e.2.1.set k t'):=
 Pp hk H.txU (fun x h=>by show x.1<t'.1;rw[ht];exact h) (fun x h=>by show t'.1<x.1;rw[ht];exact h)
theorem OkG.ends {k:Nat}(hk:k<e.2.1.length){t':TX}(ht:t'.1=e.2.1[k].1){s':List (List VV)}{stamp':Int}(hs:PF s')(hl:s'.foldl Jx 0<=stamp')(hst:e.2.2.2.2<=stamp'/\stamp'<=999)(hx:∀m,FT e.1 m->FT s' m)
 (ok:Lr t'=true)(hbe:t'.2.2.2.1<=stamp')(hco:t'.2.2.2.2.2.2.1<=stamp')(hna:t'.2.2.1≠1):OkG (Hb (s',e.2.1,e.2.2.1,e.2.2.2.1,stamp') k t'):=by
 have hact:=S2 H hk ht
 refine⟨hs,hl,hst.2,fun m hm=>H.lkA m ((List.mem_filter.1 hm).1),H.lkU.filter _,fun m hm=>H.wtA m ((List.mem_filter.1 hm).1),H.wtU.filter _,fun t h=>?_,PY H hk ht,by show(e.2.1.set k t').length<=6;simpa using H.len,fun m hm=>?_,fun m hm=>?_⟩
 ·rcases mem_set h with rfl|⟨j,hj,_,rfl⟩
  ·exact⟨ok,hbe,hco,fun h=>absurd h hna⟩
  ·obtain⟨h1,h2,h3,h4⟩:=H.txA _ (List.getElem_mem hj)
   exact⟨h1,Int.le_trans h2 hst.1,Int.le_trans h3 hst.1,fun h m hm=>hx m (h4 h m hm)⟩
 ·obtain⟨h1,h2⟩:=List.mem_filter.1 hm
  have h3:¬m.2.1=t'.1:=by simpa using h2
  exact(hact _).2 (.inl ⟨h3,H.lkO m h1⟩)
 ·obtain⟨h1,h2⟩:=List.mem_filter.1 hm
  have h3:¬m.1=t'.1/\¬m.2.1=t'.1:=by simpa using h2
  exact⟨(hact _).2 (.inl ⟨h3.1,(H.wtO m h1).1⟩),(hact _).2 (.inl ⟨h3.2,(H.wtO m h1).2⟩)⟩
theorem OkG.goes {k:Nat}(hk:k<e.2.1.length){t':TX}(ht:t'.1=e.2.1[k].1)(hact0:e.2.1[k].2.2.1=1)(hact1:t'.2.2.1=1)(ok:Lr t'=true)(hbe:t'.2.2.2.1<=e.2.2.2.2)(hco:t'.2.2.2.2.2.2.1<=e.2.2.2.2)(hx:∀m∈t'.2.2.2.2.2.2.2.1,FT e.1 m)
 {lk:List VM}(hlA:∀m∈lk,inB m.1 0 5=true/\inB m.2.1 1 9=true)(hlU:EL (·.1) lk)(hlO:∀m∈lk,Fs e.2.1 m.2.1=true):OkG (e.1,e.2.1.set k t',lk,e.2.2.2.1,e.2.2.2.2):=by
 have hact:=S2 H hk ht
 have hk1:Fs e.2.1 t'.1=true:=(Gw H.txU _).2 ⟨_,List.getElem_mem hk,ht.symm,hact0⟩
 have hall:∀id,Fs e.2.1 id=true->Fs (e.2.1.set k t') id=true:=fun id h=>(hact id).2 (by
  by_cases e1:id=t'.1
  ·exact .inr ⟨e1,hact1⟩
  ·exact .inl ⟨e1,h⟩)
 refine⟨H.st,H.last,H.stamp,hlA,hlU,H.wtA,H.wtU,fun t h=>?_,PY H hk ht,by show(e.2.1.set k t').length<=6;simpa using H.len,fun m hm=>hall _ (hlO m hm),fun m hm=>⟨hall _ (H.wtO m hm).1,hall _ (H.wtO m hm).2⟩⟩
 rcases mem_set h with rfl|⟨j,hj,_,rfl⟩
 ·exact⟨ok,hbe,hco,fun _=>hx⟩
 ·exact H.txA _ (List.getElem_mem hj)
theorem OkG.aborts {k:Nat}{t:TX}(hk:e.2.1[k]?=some t)(ha:t.2.2.1=1):OkG (Hb e k (F5 t 3)):=by
 obtain⟨hk2,rfl⟩:∃h:k<e.2.1.length,e.2.1[k]=t:=List.getElem?_eq_some_iff.1 hk
 obtain⟨h1,h2,h3,h4⟩:=H.txA _ (List.getElem_mem hk2)
 refine OkG.ends H hk2 (t':=F5 e.2.1[k] 3) rfl H.st H.last ⟨Int.le_refl _,H.stamp⟩ (fun m h=>h) ?_ h2 h3 (by show(3:Int)≠1;decide)
 rw[C2]at h1 ⊢
 obtain⟨a1,a2,a3,a4,a5,a6,a7,a8,a9,a10,a11⟩:=h1
 refine⟨a1,a2,a3,a4,a5,by show inB 3 1 3=true;decide,a7,a8,?_,a10,a11⟩
 show(3:Int)=2↔_
 rw[ha]at a9
 constructor
 ·intro h;omega
 ·intro h;have:=a9.2 h;omega
end
theorem Ih {a b:VM}:G4 a b=true↔BT a b:=by unfold G4;exact⟨Hv,Cd⟩
theorem Zd {rd:List VM}(h:rd.Pairwise BT)(m:VM):∀x∈rd.dropWhile (fun x=>G4 x m),¬BT x m:=by
 induction rd with
 |nil=>simp
 |cons a rd ih=>
  have hp:=List.pairwise_cons.1 h
  intro x hx
  rw[List.dropWhile_cons]at hx
  split at hx
  ·exact ih hp.2 x hx
  ·rename_i hn
   rw[Ih]at hn
   rcases List.mem_cons.1 hx with rfl|hx
   ·exact hn
   ·intro hb;exact hn (Fq _ _ _ (hp.1 x hx) hb)
theorem PS (a b:VM):BT a b\/a=b\/BT b a:=by
 obtain⟨a1,a2,a3⟩:=a;obtain⟨b1,b2,b3⟩:=b
 unfold BT
 simp only[Prod.mk.injEq,and_true]
 omega
theorem LJ {rd:List VM}{m x:VM}(hx:x∈HX rd m):x=m\/x∈rd:=by
 unfold HX at hx
 have hl:∀y,y∈(rd.takeWhile fun x=>G4 x m)\/y∈(rd.dropWhile fun x=>G4 x m)->y∈rd:=fun y hy=>by
  rw[<-List.mem_append,List.takeWhile_append_dropWhile]at hy;exact hy
 rw[List.mem_append,List.mem_cons]at hx
 rcases hx with hx|hx|hx
 ·exact .inr (hl x (.inl hx))
 ·exact .inl hx
 ·split at hx
  ·cases hx
  ·rename_i y r hd
   right
   apply hl;right;rw[hd]
   split at hx
   ·exact List.mem_cons_of_mem _ hx
   ·exact hx
theorem WN {rd:List VM}(h:rd.Pairwise BT)(m:VM):(HX rd m).Pairwise BT:=by
 have hd:=Zd h m
 have hu:(rd.dropWhile fun x=>G4 x m).Pairwise BT:=h.sublist (List.dropWhile_sublist _)
 have ht:(rd.takeWhile fun x=>G4 x m).Pairwise BT:=h.sublist (List.takeWhile_sublist _)
 have htk:∀y∈(rd.takeWhile fun x=>G4 x m),BT y m:=fun y hy=>by
  have h1:=List.all_takeWhile (l:=rd) (p:=fun x=>G4 x m)
  exact Ih.1 (List.all_eq_true.1 h1 y hy)
 unfold HX
 have key:∀r:List VM,r.Pairwise BT->(∀x∈r,BT m x)->((rd.takeWhile fun x=>G4 x m)++m::r).Pairwise BT:=by
  intro r hr h1
  refine List.pairwise_append.2 ⟨ht,List.pairwise_cons.2 ⟨h1,hr⟩,fun a ha b hb=>?_⟩
  have h2:=htk a ha
  rcases List.mem_cons.1 hb with rfl|hb
  ·exact h2
  ·exact Fq _ _ _ h2 (h1 b hb)
 cases hb:(rd.dropWhile fun x=>G4 x m)with
 |nil=>exact key [] .nil (by simp)
 |cons y r=>
  rw[hb]at hd hu
  have hyr:=List.pairwise_cons.1 hu
  have hy:=hd y (List.mem_cons_self)
  simp only
  by_cases e:y=m
  ·rw[if_pos e];exact key r hyr.2 fun x hx=>by rw[<-e];exact hyr.1 x hx
  ·rw[if_neg e]
   have h0:BT m y:=by
    rcases PS y m with h1|h1|h1
    ·exact absurd h1 hy
    ·exact absurd h1 e
    ·exact h1
   refine key _ hu fun x hx=>?_
   rcases List.mem_cons.1 hx with rfl|hx
   ·exact h0
   ·exact Fq _ _ _ h0 (hyr.1 x hx)
theorem Sk (rd:List VM)(m:VM):(HX rd m).length<=rd.length+1:=by
 have e:=congrArg List.length (List.takeWhile_append_dropWhile (p:=fun x=>G4 x m) (l:=rd))
 rw[List.length_append]at e
 unfold HX
 split
 ·rename_i h1;simp only[List.length_append,List.length_cons,List.length_nil];omega
 ·rename_i y r h1
  rw[h1]at e
  simp only[List.length_cons]at e
  split<;>simp only[List.length_append,List.length_cons]<;>omega
theorem OA {s:List (List VV)}{t:TX}{key:Int}{v:VV}(h:GF s t key=some v):∃l,s[key.toNat]?=some l/\v∈l:=by
 unfold GF at h
 obtain⟨l,h1,h2⟩:=Option.bind_eq_some_iff.1 h
 refine⟨l,h1,?_⟩
 simp only at h2
 cases hd:decide ((bif t.2.1==2 then vA l t.2.2.2.1 l.length else(l.length:Int)-1)<0)with
 |true=>rw[hd]at h2;cases h2
 |false=>
  rw[hd]at h2
  obtain⟨w,h3,h4⟩:=Option.bind_eq_some_iff.1 h2
  cases h5:(t.2.1==4&&decide (w.2.2.1>t.2.2.2.1))with
  |true=>rw[h5]at h4;cases h4
  |false=>
   rw[h5]at h4
   obtain rfl:=Option.some.inj h4
   exact List.mem_of_getElem? h3
section
variable {e:EG}(H:OkG e){k:Nat}{t:TX}(hk:e.2.1[k]?=some t)(ha:t.2.2.1=1)
include H
theorem OkG.wake (id:Int):OkG (e.1,e.2.1,e.2.2.1,wkW e.2.2.2.1 id,e.2.2.2.2):=
 ⟨H.st,H.last,H.stamp,H.lkA,H.lkU,fun m hm=>H.wtA m ((List.mem_filter.1 hm).1),H.wtU.filter _,H.txA,H.txU,H.len,H.lkO,fun m hm=>H.wtO m ((List.mem_filter.1 hm).1)⟩
include hk ha
theorem OkG.read {key:Int}(hkey:inB key 0 5=true):OkG (EI e k key).2.2/\((EI e k key).2.1=0->∃t',(EI e k key).2.2.2.1[k]?=some t'/\t'.2.2.1=1/\t'.1=t.1)/\(EI e k key).2.2.2.1.length=e.2.1.length:=by
 unfold EI
 rw[hk]
 simp only
 cases hw:N6 t key with
 |some x=>exact⟨H,fun _=>⟨t,hk,ha,rfl⟩,rfl⟩
 |none=>
  simp only
  cases hc:GF e.1 t key with
  |none=>exact⟨H.aborts hk ha,fun h=>by exact absurd h (by show ¬((3:Int)=0);decide),by show(e.2.1.set k _).length=_;simp⟩
  |some v=>
   simp only
   unfold JM
   cases hl:(t.2.2.2.2.2.2.2.1.length==60)with
   |true=>exact⟨H,fun h=>by exact absurd h (by show ¬((6:Int)=0);decide),rfl⟩
   |false=>
    simp only[cond_false]
    obtain⟨hk2,rfl⟩:=List.getElem?_eq_some_iff.1 hk
    obtain⟨h1,h2,h3,h4⟩:=H.txA _ (List.getElem_mem hk2)
    obtain⟨l,q1,q2⟩:=OA hc
    have hlm:l∈e.1:=List.mem_of_getElem? q1
    have hv:=((FD l).1 (H.st.2 l hlm).1).1 v q2
    rw[Hq]at hv
    obtain⟨v1,v2,v3,v4,v5⟩:=hv
    rw[B8]at v2 v3 v4
    rw[C2]at h1
    obtain⟨a1,a2,a3,a4,a5,a6,a7,a8,a9,a10,a11⟩:=h1
    rw[B8]at a7 a8
    refine⟨OkG.goes H hk2 (t':=Nf e.2.1[k] (mx e.2.1[k].2.2.2.2.1 v.2.2.1) (mn e.2.1[k].2.2.2.2.2.1 v.2.2.2.2.1) (HX e.2.1[k].2.2.2.2.2.2.2.1 (key,v.2.2.1,()))) rfl ha ha ?_ h2 h3 (fun m hm=>?_) H.lkA H.lkU H.lkO,fun _=>⟨Nf e.2.1[k] (mx e.2.1[k].2.2.2.2.1 v.2.2.1) (mn e.2.1[k].2.2.2.2.2.1 v.2.2.2.2.1) (HX e.2.1[k].2.2.2.2.2.2.2.1 (key,v.2.2.1,())),by rw[List.getElem?_set,if_pos rfl,if_pos hk2],ha,rfl⟩,by simp⟩
    ·rw[C2]
     rw[Gk]at a1
     refine⟨(Gk _).2 ⟨fun x hx=>?_,WN a1.2 _⟩,a2,a3,a4,a5,a6,?_,?_,a9,a10,?_⟩
     ·rcases LJ hx with rfl|hx
      ·exact⟨hkey,by rw[B8];exact v2⟩
      ·exact a1.1 x hx
     ·rw[B8];show 0<=mx _ _/\mx _ _<=999
      unfold mx;split<;>omega
     ·rw[B8];show 1<=mn _ _/\mn _ _<=1000
      unfold mn;split<;>omega
     ·have:=Sk e.2.1[k].2.2.2.2.2.2.2.1 (key,v.2.2.1,())
      have h60:¬e.2.1[k].2.2.2.2.2.2.2.1.length=60:=by simpa using hl
      show(HX _ _).length<=60
      omega
    ·rcases LJ hm with rfl|hm
     ·rw[L9];exact⟨l,q1,v,q2,rfl⟩
     ·exact h4 ha m hm
end
theorem OkG.scan {k:Nat}:∀(n:Nat) {key:Int} {out:List Int} {e:EG} {t:TX},OkG e->e.2.1[k]?=some t->t.2.2.1=1->0<=key->key+n<=6->OkG (DX k n key out e).2.2
 |0,key,out,e,t,H,_,_,_,_=>H
 |n+1,key,out,e,t,H,hk,ha,h0,h1=>by
  obtain⟨g1,g2,g3⟩:=H.read hk ha (key:=key) (by rw[B8];omega)
  unfold DX
  simp only
  cases hc:((EI e k key).2.1==0)with
  |false=>exact g1
  |true=>
   obtain⟨t',q1,q2,_⟩:=g2 (by simpa using hc)
   exact OkG.scan n g1 q1 q2 (by omega) (by omega)
section
variable {e:EG}(H:OkG e){k:Nat}{t:TX}(hk:e.2.1[k]?=some t)(ha:t.2.2.1=1)
include H hk ha
theorem OkG.getV {key:Int}(hkey:inB key 0 5=true):∃l v,e.1[key.toNat]?=some l/\l∈e.1/\Eg e.1 key=some v/\v∈l/\okV v=true:=by
 rw[B8]at hkey
 have h6:=H.st.1
 have hlt:key.toNat<e.1.length:=by omega
 have hl:e.1[key.toNat]∈e.1:=List.getElem_mem hlt
 have hok:=(FD _).1 (H.st.2 _ hl).1
 obtain⟨w,h1,h2⟩:=hok.2.2
 refine⟨e.1[key.toNat],w,List.getElem?_eq_getElem hlt,hl,?_,List.mem_of_getLast? h1,hok.1 w (List.mem_of_getLast? h1)⟩
 unfold Eg
 rw[List.getElem?_eq_getElem hlt]
 simpa[List.getLast?_eq_getElem?]using h1
theorem OkG.write {key val:Int}(hkey:inB key 0 5=true)(hval:inB val (-1) 99=true):OkG (HM e k key val).2:=by
 unfold HM
 rw[hk]
 simp only
 have hk1:Fs e.2.1 t.1=true:=(Gw H.txU _).2 ⟨_,List.mem_of_getElem? hk,rfl,ha⟩
 cases hc:(Eo e.1 e.2.2.1 t key==1)with
 |true=>
  simp only[cond_true]
  cases hd:M3 e.2.2.2.1 t.1 (CO e.2.2.1 key)with
  |true=>exact H.aborts hk ha
  |false=>
   simp only[cond_false]
   have hf:∃m∈e.2.2.1,m.2.1=CO e.2.2.1 key/\m.2.1≠t.1:=by
    have h1:Eo e.1 e.2.2.1 t key=1:=by simpa using hc
    unfold Eo at h1
    simp only at h1
    have h2:(!(CO e.2.2.1 key==0)&&!(CO e.2.2.1 key==t.1))=true:=by
     cases hx:(!(CO e.2.2.1 key==0)&&!(CO e.2.2.1 key==t.1))with
     |true=>rfl
     |false=>
      rw[hx]at h1
      simp only[Bool.and_false,cond_false,Bool.false_or]at h1
      exfalso
      revert h1
      cases(t.2.1==2&&decide (crV (Eg e.1 key)>t.2.2.2.1))<;>cases(t.2.1==4&&decide (J5 (Eg e.1 key)>t.2.2.2.1))<;>simp
    simp only[Bool.and_eq_true,Bool.not_eq_true',beq_eq_false_iff_ne]at h2
    unfold CO at h2 ⊢
    cases hfd:e.2.2.1.find? (fun m=>m.1==key)with
    |none=>rw[hfd]at h2;exact absurd rfl h2.1
    |some m=>rw[hfd]at h2;exact⟨m,List.mem_of_find?_eq_some hfd,rfl,h2.2⟩
   obtain⟨m,hm,hme,hne⟩:=hf
   have hmb:=H.lkA m hm
   have hma:=H.lkO m hm
   have htok:=(C2 _).1 (H.txA t (List.mem_of_getElem? hk)).1
   refine⟨H.st,H.last,H.stamp,H.lkA,H.lkU,fun x hx=>?_,HY H.wtU _,H.txA,H.txU,H.len,H.lkO,fun x hx=>?_⟩
   ·rcases(F6 H.wtU).1 hx with rfl|⟨hx,_⟩
    ·exact⟨htok.2.2.1,by rw[<-hme];exact hmb.2,by show t.1≠CO _ _;rw[<-hme];exact Ne.symm hne⟩
    ·exact H.wtA x hx
   ·rcases(F6 H.wtU).1 hx with rfl|⟨hx,_⟩
    ·exact⟨hk1,by rw[<-hme];exact hma⟩
    ·exact H.wtO x hx
 |false=>
  simp only[cond_false]
  cases hc0:(Eo e.1 e.2.2.1 t key==0)with
  |false=>exact H.aborts hk ha
  |true=>
   simp only[cond_true]
   obtain⟨l,v,q1,q2,q3,q4,q5⟩:=H.getV hk ha hkey
   obtain⟨hk2,rfl⟩:∃h:k<e.2.1.length,e.2.1[k]=t:=List.getElem?_eq_some_iff.1 hk
   obtain⟨h1,h2,h3,h4⟩:=H.txA _ (List.getElem_mem hk2)
   rw[C2]at h1
   obtain⟨a1,a2,a3,a4,a5,a6,a7,a8,a9,a10,a11⟩:=h1
   rw[Hq]at q5
   obtain⟨v1,v2,v3,v4,v5⟩:=q5
   rw[B8]at v2 v3 a7
   have hrd:J5 (Eg e.1 key)=v.2.2.2.1:=by rw[q3];rfl
   have htx:Lr (KH e.2.1[k] (mx e.2.1[k].2.2.2.2.1 (J5 (Eg e.1 key))) (D8 (·.1) e.2.1[k].2.2.2.2.2.2.2.2.1 (key,val,())))=true:=by
    rw[C2]
    rw[FN]at a2
    refine⟨a1,(FN _).2 ⟨fun x hx=>?_,HY a2.2 _⟩,a3,a4,a5,a6,?_,a8,a9,a10,a11⟩
    ·rcases(F6 a2.2).1 hx with rfl|⟨hx,_⟩
     ·exact⟨hkey,hval⟩
     ·exact a2.1 x hx
    ·rw[B8];show 0<=mx _ _/\mx _ _<=999
     rw[hrd];unfold mx;split<;>omega
   refine OkG.goes H hk2 (t':=KH e.2.1[k] (mx e.2.1[k].2.2.2.2.1 (J5 (Eg e.1 key))) (D8 (·.1) e.2.1[k].2.2.2.2.2.2.2.2.1 (key,val,()))) rfl ha ha htx h2 h3 (h4 ha) (fun m hm=>?_) ?_ (fun m hm=>?_)
   ·cases hb:(e.2.1[k].2.1==1||e.2.1[k].2.1==2)with
    |false=>rw[hb]at hm;exact H.lkA m hm
    |true=>
     rw[hb]at hm
     rcases(F6 H.lkU).1 hm with rfl|⟨hm,_⟩
     ·exact⟨hkey,a3⟩
     ·exact H.lkA m hm
   ·cases hb:(e.2.1[k].2.1==1||e.2.1[k].2.1==2)with
    |false=>exact H.lkU
    |true=>exact HY H.lkU _
   ·cases hb:(e.2.1[k].2.1==1||e.2.1[k].2.1==2)with
    |false=>rw[hb]at hm;exact H.lkO m hm
    |true=>
     rw[hb]at hm
     rcases(F6 H.lkU).1 hm with rfl|⟨hm,_⟩
     ·exact hk1
     ·exact H.lkO m hm
theorem Ou {α:Type}(f:α->Int)(n:Int):∀(l:List α) (a:Int),a<=n->(∀x∈l,f x<=n)->l.foldl (fun n x=>mx n (f x)) a<=n:=by
 clear H hk ha
 intro l
 induction l with
 |nil=>intro a h _;exact h
 |cons x l ih=>intro a h h2;exact ih _ (Xb.2 ⟨h,h2 x List.mem_cons_self⟩) fun y hy=>h2 y (List.mem_cons_of_mem _ hy)
theorem M0 {α:Type}(f:α->Int):∀(l:List α) (a:Int),a<=l.foldl (fun n x=>mx n (f x)) a:=by
 clear H hk ha
 intro l
 induction l with
 |nil=>intro a;exact Int.le_refl _
 |cons x l ih=>intro a;refine Int.le_trans ?_ (ih _);show a<=mx a (f x);unfold mx;split<;>omega
theorem OkG.rl:0<=rlP e.1 t/\rlP e.1 t<=999:=by
 have htok:=(C2 _).1 (H.txA t (List.mem_of_getElem? hk)).1
 have hr:=((Gk _).1 htok.1).1
 have hw:=((FN _).1 htok.2.1).1
 unfold rlP
 refine⟨Int.le_trans (M0 H hk ha (fun m:VM=>m.2.1) _ 0) (M0 H hk ha (fun m:VM=>J5 (Eg e.1 m.1)) _ _),Ou H hk ha _ _ _ _ (Ou H hk ha _ _ _ _ (by decide) fun x hx=>(B8.1 (hr x hx).2).2) fun x hx=>?_⟩
 obtain⟨l,v,q1,q2,q3,q4,q5⟩:=H.getV hk ha (hw x hx).1
 rw[q3]
 rw[Hq]at q5
 have:=B8.1 q5.2.2.1
 exact this.2
theorem OkG.sucB {m:VM}(hx:FT e.1 m):1<=Kb e.1 m/\Kb e.1 m<=1000:=by
 obtain⟨l,j,h1,h2⟩:=hx
 unfold Kb
 rw[h1]
 have hl:l∈e.1:=List.mem_of_getElem? h1
 have hok:=((FD l).1 (H.st.2 l hl).1).1
 simp only[h2]
 have hj:=PO h2
 rw[List.getElem?_eq_getElem hj]
 exact B8.1 ((Hq _).1 (hok _ (List.getElem_mem hj))).2.2.2.1
theorem OkG.rh:1<=rfH e.1 t.2.2.2.2.2.2.2.1:=by
 have htok:=(C2 _).1 (H.txA t (List.mem_of_getElem? hk)).1
 have hr:=((Gk _).1 htok.1).1
 unfold rfH
 have hex:=(H.txA t (List.mem_of_getElem? hk)).2.2.2 ha
 have key:∀(l:List VM) (a:Int),(∀x∈l,FT e.1 x)->1<=a->1<=l.foldl (fun n m=>mn n (Kb e.1 m)) a:=by
  intro l
  induction l with
  |nil=>intro a _ h;exact h
  |cons x l ih=>intro a h1 h2;exact ih _ (fun y hy=>h1 y (List.mem_cons_of_mem _ hy)) (Xm.2 ⟨h2,(H.sucB hk ha (h1 x List.mem_cons_self)).1⟩)
 exact key _ _ hex (by decide)
theorem OkG.commit (ce:Bool):OkG (GE ce e k).2:=by
 unfold GE
 rw[hk]
 simp only
 cases hc:(K4 e.1 t==0)with
 |false=>exact H.aborts hk ha
 |true=>
  simp only[Bool.not_true,cond_false]
  cases hs:(e.2.2.2.2==999)with
  |true=>exact H
  |false=>
   simp only[cond_false]
   cases hf:((ce&&decide (loP e.1 t>=hiP e.1 t (e.2.2.2.2+1)))||Ki e.1 t)with
   |true=>exact H.aborts hk ha
   |false=>
    simp only[cond_false]
    have hst0:=H.stamp0
    have hst1:=H.stamp
    have hst2:¬e.2.2.2.2=999:=by simpa using hs
    have hrl:=H.rl hk ha
    have hrh:=H.rh hk ha
    have hfull:Ki e.1 t=false:=(Bool.or_eq_false_iff.1 hf).2
    obtain⟨hk2,rfl⟩:∃h:k<e.2.1.length,e.2.1[k]=t:=List.getElem?_eq_some_iff.1 hk
    obtain⟨h1,h2,h3,h4⟩:=H.txA _ (List.getElem_mem hk2)
    rw[C2]at h1
    obtain⟨a1,a2,a3,a4,a5,a6,a7,a8,a9,a10,a11⟩:=h1
    rw[B8]at a7 a8
    have hlo:0<=loP e.1 e.2.1[k]/\loP e.1 e.2.1[k]<=999:=by unfold loP mx;split<;>omega
    have hhi:1<=hiP e.1 e.2.1[k] (e.2.2.2.2+1)/\hiP e.1 e.2.1[k] (e.2.2.2.2+1)<=e.2.2.2.2+1:=by
     unfold hiP
     exact⟨Xm.2 ⟨Xm.2 ⟨a8.1,hrh⟩,by omega⟩,by unfold mn;split<;>omega⟩
    have hwr:=(FN _).1 a2
    obtain⟨g1,g2⟩:=Xx (n:=e.2.2.2.2) (st:=e.2.2.2.2+1) (by omega) (by omega) e.2.1[k].2.2.2.2.2.2.2.1 H.gd
    have g3:GdS (IQ e.1 e.2.1[k] (e.2.2.2.2+1) (hiP e.1 e.2.1[k] (e.2.2.2.2+1))) (e.2.2.2.2+1):=by
     refine Xw (by omega) hhi a3 _ g1 (fun m hm=>⟨(B8.1 (hwr.1 m hm).1).1,(hwr.1 m hm).2⟩) hwr.2 (fun m hm l hl=>?_)
     have h5:=g2 m
     rw[hl]at h5
     cases hr:EZ e.1 m with
     |none=>rw[hr]at h5;cases h5
     |some r=>
      rw[hr]at h5
      simp only[Option.map_some,Option.some.injEq]at h5
      have hrm:r∈e.1:=List.mem_of_getElem? hr
      have hlen:l.length=r.length:=by simpa using congrArg List.length h5
      refine⟨?_,fun v hv=>?_⟩
      ·have h6:=List.any_eq_false.1 hfull m hm
       have hr':e.1[m.1.toNat]?=some r:=hr
       rw[hr']at h6
       have:¬r.length>=50:=by simpa using h6
       omega
      ·have:v.2.2.1∈r.map fun v=>v.2.2.1:=by rw[<-h5];exact List.mem_map_of_mem hv
       obtain⟨w,hw1,hw2⟩:=List.mem_map.1 this
       have h7:=X5 (((FD r).1 (H.st.2 r hrm).1).1 w hw1)
       have h8:=H.gd.rd r hrm w hw1
       omega
    obtain⟨g4,g5⟩:=g3.last (by omega)
    refine OkG.ends H hk2 (t':=GT e.2.1[k] _ _ _) rfl g4 g5 ⟨by omega,by omega⟩ (fun m hm=>SB hm) ?_ (by show e.2.1[k].2.2.2.1<=_;omega) (by show e.2.2.2.2+1<=_;omega) (by show(2:Int)≠1;decide)
    rw[C2]
    refine⟨a1,a2,a3,a4,a5,by show inB 2 1 3=true;decide,by rw[B8];exact hlo,by rw[B8];exact⟨hhi.1,Int.le_trans hhi.2 (by omega)⟩,?_,by rw[B8];show 0<=e.2.2.2.2+1/\e.2.2.2.2+1<=999;omega,a11⟩
    show(2:Int)=2↔e.2.2.2.2+1>0
    exact⟨fun _=>by omega,fun _=>rfl⟩
end
theorem OkG.begin {e:EG}(H:OkG e){id sc:Int}(hid:inB id 1 9=true)(hsc:inB sc 1 4=true):OkG (Gv e id sc).2:=by
 unfold Gv
 cases hc:((e.2.1.any fun t=>t.1==id)||e.2.1.length==6)with
 |true=>exact H
 |false=>
  simp only[cond_false]
  obtain⟨h1,h2⟩:=Bool.or_eq_false_iff.1 hc
  have hno:∀t∈e.2.1,t.1≠id:=fun t ht=>by simpa using List.any_eq_false.1 h1 t ht
  have hlen:¬e.2.1.length=6:=by simpa using h2
  have hst0:=H.stamp0
  have hst1:=H.stamp
  have hu:=HY H.txU (Kf id sc e.2.2.2.2)
  have hmem:∀t,t∈D8 (·.1) e.2.1 (Kf id sc e.2.2.2.2)↔t=Kf id sc e.2.2.2.2\/t∈e.2.1:=fun t=>by
   rw[F6 H.txU]
   exact⟨fun h=>h.imp (fun h=>h) (·.1),fun h=>h.imp (fun h=>h) fun h=>⟨h,hno t h⟩⟩
  have hact:∀id',Fs e.2.1 id'=true->Fs (D8 (·.1) e.2.1 (Kf id sc e.2.2.2.2)) id'=true:=fun id' h=>by
   rw[Gw H.txU]at h
   obtain⟨t,q1,q2,q3⟩:=h
   exact(Gw hu _).2 ⟨t,(hmem t).2 (.inr q1),q2,q3⟩
  refine⟨H.st,H.last,H.stamp,H.lkA,H.lkU,H.wtA,H.wtU,fun t ht=>?_,hu,?_,fun m hm=>hact _ (H.lkO m hm),fun m hm=>⟨hact _ (H.wtO m hm).1,hact _ (H.wtO m hm).2⟩⟩
  ·rcases(hmem t).1 ht with rfl|ht
   ·refine⟨?_,Int.le_refl _,hst0,fun _ m hm=>by cases hm⟩
    rw[C2]
    refine⟨fun i hi=>absurd hi (Nat.not_lt_zero _),fun i hi=>absurd hi (Nat.not_lt_zero _),hid,hsc,by rw[B8];exact⟨hst0,hst1⟩,by show inB 1 1 3=true;decide,by show inB 0 0 999=true;decide,by show inB 1000 1 1000=true;decide,?_,by show inB 0 0 999=true;decide,Nat.zero_le _⟩
    show(1:Int)=2↔(0:Int)>0
    omega
   ·exact H.txA t ht
  ·have:=LK (f:=(·.1)) e.2.1 (Kf id sc e.2.2.2.2)
   have:=H.len
   show(D8 _ _ _).length<=6
   omega
theorem OkG.step {e:EG}(H:OkG e)(ce:Bool){o:OPt}(ho:Ju o=true):OkG (Jl ce e o).2.2:=by
 unfold Ju at ho
 simp only[Bool.and_eq_true]at ho
 obtain⟨⟨⟨⟨⟨o1,o2⟩,o3⟩,o4⟩,o5⟩,o6⟩:=ho
 unfold Jl
 cases hb:(o.1==1)with
 |true=>
  rw[hb]at o3
  exact H.begin o2 o3
 |false=>
  simp only[cond_false]
  cases hk:e.2.1.findIdx? (fun t=>t.1==o.2.1)with
  |none=>exact H
  |some k=>
   simp only
   cases hact:Fs e.2.1 o.2.1 with
   |false=>exact H
   |true=>
    simp only[cond_true]
    obtain⟨hk2,hk3,_⟩:=List.findIdx?_eq_some_iff_getElem.1 hk
    have ht:e.2.1[k]?=some e.2.1[k]:=List.getElem?_eq_getElem hk2
    have ha:e.2.1[k].2.2.1=1:=by
     unfold Fs at hact
     rw[hk]at hact
     simp only[ht]at hact
     simpa using hact
    have HW:=H.wake o.2.1
    cases h2:(o.1==2)with
    |true=>
     rw[h2]at o4
     simp only[Bool.true_or,cond_true]at o4 ⊢
     rw[B8]at o4
     exact OkG.scan 1 HW ht ha (by omega) (by omega)
    |false=>
     simp only[cond_false]
     cases h4:(o.1==4)with
     |true=>
      rw[h4]at o4 o5
      simp only[Bool.or_true,cond_true]at o4 o5 ⊢
      rw[B8]at o4 o5
      exact OkG.scan _ HW ht ha (by omega) (by omega)
     |false=>
      simp only[cond_false]
      cases h3:(o.1==3)with
      |true=>
       rw[h3]at o4 o6
       simp only[Bool.or_true,Bool.true_or,cond_true]at o4 o6 ⊢
       exact HW.write ht ha o4 o6
      |false=>
       simp only[cond_false]
       cases h5:(o.1==5)with
       |true=>exact HW.commit ht ha ce
       |false=>
        simp only[cond_false,ht]
        exact HW.aborts ht ha
end Go.Ab
end
section
namespace Go.Ab
theorem GZ {i j:Nat}(h:i+j<4611686018427387904):IntKind.wrap IntKind.i64 (Int.fdiv (IntKind.wrap IntKind.u64 (IntKind.wrap IntKind.i64 ((i:Int)+(j:Int)))) (2 ^ min (Int.toNat 1) (IntKind.bits IntKind.u64)))=(((i+j) / 2:Nat):Int):=by
 have h1:IntKind.wrap IntKind.i64 ((i:Int)+(j:Int))=(i:Int)+(j:Int):=by rw[IntKind.wrap_i64];omega
 have h2:IntKind.wrap IntKind.u64 ((i:Int)+(j:Int))=(i:Int)+(j:Int):=by
  have e:((i:Int)+(j:Int)) % 18446744073709551616=(i:Int)+(j:Int):=by omega
  show IntKind.wrap IntKind.u64 _=_
  unfold IntKind.wrap
  simp[IntKind.bits,IntKind.signed,e]
 rw[h1,h2]
 have h3:(2:Int) ^ min (Int.toNat 1) (IntKind.bits IntKind.u64)=2:=by decide
 rw[h3]
 have h4:Int.fdiv ((i:Int)+(j:Int)) 2=(((i+j) / 2:Nat):Int):=by
  rw[Int.fdiv_eq_ediv_of_nonneg _ (by omega)]
  omega
 rw[h4,IntKind.wrap_i64];omega
theorem JJ {n:Nat}{B:Int×Int×Unit->Option ((Int×Int×Unit) ⊕ (Int×Unit))}{p:Nat->Bool}(mono:∀i j,i<=j->j<n->p j=true->p i=true)
 (hB:∀i j:Nat,i<j->j<=n->B ((i:Int),(j:Int),())=some (.inl (if p ((i+j) / 2)=true then((((i+j) / 2+1:Nat):Int),(j:Int),())else((i:Int),(((i+j) / 2:Nat):Int),()))))
 (hE:∀i:Nat,i<=n->B ((i:Int),(i:Int),())=some (.inr ((i:Int),()))):
 ∃c:Nat,c<=n/\BL B (0,(n:Int),())=some ((c:Int),())/\(∀k,k<c->p k=true)/\(∀k,c<=k->k<n->p k=false):=by
 have key:∀m i j:Nat,j-i=m->i<=j->j<=n->(∀k,k<i->p k=true)->(∀k,j<=k->k<n->p k=false)->∃c:Nat,c<=n/\BL B ((i:Int),(j:Int),())=some ((c:Int),())/\(∀k,k<c->p k=true)/\(∀k,c<=k->k<n->p k=false):=by
  intro m
  induction m using Nat.strongRecOn with
  |_ m ih=>
   intro i j hm hij hj h1 h2
   by_cases e:i=j
   ·subst e
    refine⟨i,hj,?_,h1,h2⟩
    rw[BH,hE i hj];rfl
   ·have hlt:i<j:=by omega
    have hs:=hB i j hlt hj
    cases hp:p ((i+j) / 2)with
    |true=>
     rw[hp,if_pos rfl]at hs
     obtain⟨c,g1,g2,g3⟩:=ih (j-((i+j) / 2+1)) (by omega) ((i+j) / 2+1) j rfl (by omega) hj (fun k hk=>mono k ((i+j) / 2) (by omega) (by omega) hp) h2
     refine⟨c,g1,?_,g3⟩
     rw[BH,hs];exact g2
    |false=>
     rw[hp,if_neg (by decide)]at hs
     obtain⟨c,g1,g2,g3⟩:=ih ((i+j) / 2-i) (by omega) i ((i+j) / 2) rfl (by omega) (by omega) h1 (fun k hk hkn=>by
      cases hq:p k with
      |false=>rfl
      |true=>rw[mono ((i+j) / 2) k hk hkn hq]at hp;cases hp)
     refine⟨c,g1,?_,g3⟩
     rw[BH,hs];exact g2
 exact key n 0 n rfl (Nat.zero_le _) (Nat.le_refl _) (fun k hk=>absurd hk (Nat.not_lt_zero _)) (fun k hk hkn=>by omega)
theorem KF {α:Type}{l:List α}{p:α->Bool}{c:Nat}(hc:c<=l.length)(h1:∀k (hk:k<l.length),k<c->p l[k]=true)(h2:∀k (hk:k<l.length),c<=k->p l[k]=false):l.take c=l.takeWhile p/\l.drop c=l.dropWhile p:=by
 induction l generalizing c with
 |nil=>simp
 |cons a l ih=>
  cases c with
  |zero=>
   have:=h2 0 (by simp) (Nat.le_refl _)
   simp only[List.getElem_cons_zero]at this
   simp[List.takeWhile_cons,List.dropWhile_cons,this]
  |succ c=>
   have h0:=h1 0 (by simp) (Nat.succ_pos _)
   simp only[List.getElem_cons_zero]at h0
   obtain⟨g1,g2⟩:=ih (c:=c) (by simpa using hc) (fun k hk hkc=>by have:=h1 (k+1) (by simpa using hk) (by omega);rwa [List.getElem_cons_succ]at this) (fun k hk hkc=>by have:=h2 (k+1) (by simpa using hk) (by omega);rwa [List.getElem_cons_succ]at this)
   simp[List.takeWhile_cons,List.dropWhile_cons,h0,g1,g2]
end Go.Ab
end
section
namespace Go.Ab
theorem La {α:Type}{l:List α}{q:α->Bool}{B:Int×Int×List α×Unit->Option ((Int×Int×List α×Unit) ⊕ (Int×List α×Unit))}
 (hB:∀(i j:Nat) (xs:List α) (hi:i<j) (hj:j<l.length) (h:xs.length=l.length),B ((i:Int),(j:Int),xs,())=some (.inl (if q (xs[j]'(by omega))=true then((i:Int),((j+1:Nat):Int),xs,())else(((i+1:Nat):Int),((j+1:Nat):Int),xs.set i (xs[j]'(by omega)),()))))
 (hE:∀(i:Nat) (xs:List α),xs.length=l.length->i<=l.length->B ((i:Int),((l.length:Nat):Int),xs,())=some (.inr ((i:Int),xs,())))
 {i0:Nat}(h0:i0<l.length)(hq:q l[i0]=true)(hlt:∀k (hk:k<i0),q (l[k]'(by omega))=false):
 ∃(i:Nat) (xs:List α),BL B ((i0:Int),((i0+1:Nat):Int),l,())=some ((i:Int),xs,())/\i<=xs.length/\xs.length=l.length/\xs.take i=l.filter fun x=>!q x:=by
 have key:∀m (i j:Nat) (xs:List α),l.length-j=m->i<j->j<=l.length->xs.length=l.length->xs.take i=(l.take j).filter (fun x=>!q x)->xs.drop j=l.drop j->
  ∃(i':Nat) (xs':List α),BL B ((i:Int),(j:Int),xs,())=some ((i':Int),xs',())/\i'<=xs'.length/\xs'.length=l.length/\xs'.take i'=l.filter fun x=>!q x:=by
  intro m
  induction m with
  |zero=>
   intro i j xs hm hij hj hl h1 h2
   obtain rfl:j=l.length:=by omega
   refine⟨i,xs,?_,by omega,hl,by rw[h1,List.take_length]⟩
   rw[BH,hE i xs hl (by omega)];rfl
  |succ m ih=>
   intro i j xs hm hij hj hl h1 h2
   have hjl:j<l.length:=by omega
   have e:xs[j]'(by omega)=l[j]:=by
    have h3:(xs.drop j)[0]?=(l.drop j)[0]?:=by rw[h2]
    rw[List.getElem?_drop,List.getElem?_drop,Nat.add_zero,List.getElem?_eq_getElem (by omega),List.getElem?_eq_getElem hjl]at h3
    exact Option.some.inj h3
   have hs:=hB i j xs hij hjl hl
   have hf:(l.take (j+1)).filter (fun x=>!q x)=(l.take j).filter (fun x=>!q x)++(if q l[j]=true then[]else[l[j]]):=by
    rw[List.take_succ_eq_append_getElem hjl,List.filter_append]
    congr 1
    cases hqq:q l[j]<;>simp[hqq]
   have hd:xs.drop (j+1)=l.drop (j+1):=by have h3:=congrArg (List.drop 1) h2;simpa[List.drop_drop,Nat.add_comm]using h3
   cases hqj:q l[j]with
   |true=>
    rw[e,hqj,if_pos rfl]at hs
    obtain⟨i',xs',g1,g2⟩:=ih i (j+1) xs (by omega) (by omega) (by omega) hl (by rw[hf,hqj,if_pos rfl,List.append_nil];exact h1) hd
    refine⟨i',xs',?_,g2⟩
    rw[BH,hs];exact g1
   |false=>
    rw[e,hqj,if_neg (by decide)]at hs
    obtain⟨i',xs',g1,g2⟩:=ih (i+1) (j+1) (xs.set i l[j]) (by omega) (by omega) (by omega) (by simpa using hl) (by
     rw[hf,hqj,if_neg (by decide),<-h1]
     rw[List.take_succ_eq_append_getElem (by simp;omega),List.getElem_set_self,List.take_set_of_le (by omega)]) (by rw[List.drop_set_of_lt (by omega)];exact hd)
    refine⟨i',xs',?_,g2⟩
    rw[BH,hs];exact g1
 refine key _ i0 (i0+1) l rfl (by omega) (by omega) rfl ?_ rfl
 rw[List.take_succ_eq_append_getElem h0,List.filter_append]
 have h5:[l[i0]].filter (fun x=>!q x)=[]:=by simp[hq]
 rw[h5,List.append_nil]
 symm
 rw[List.filter_eq_self]
 intro x hx
 obtain⟨k,hk,rfl⟩:=List.getElem_of_mem hx
 rw[List.length_take]at hk
 rw[List.getElem_take]
 simp[hlt k (by omega)]
theorem MV {α:Type}{z:α}{i:Nat}{xs:List α}(hi:i<=xs.length){τ:Type}(f:List α->Option τ):
 (if(0:Int)<=((i:Nat):Int)/\((i:Nat):Int)<=((xs.length:Nat):Int)/\((xs.length:Nat):Int)<=((xs.length:Nat):Int)then
   (if(0:Int)<=0/\(0:Int)<=((i:Nat):Int)/\((i:Nat):Int)<=(((List.take (0+Int.toNat ((i:Nat):Int)) xs++List.replicate (Int.toNat ((xs.length:Nat):Int)-Int.toNat ((i:Nat):Int)) z++List.drop (0+Int.toNat ((i:Nat):Int)+(Int.toNat ((xs.length:Nat):Int)-Int.toNat ((i:Nat):Int))) xs).length:Nat):Int)then
     f (List.take (Int.toNat ((i:Nat):Int)-Int.toNat 0) (List.take (0+Int.toNat ((i:Nat):Int)) xs++List.replicate (Int.toNat ((xs.length:Nat):Int)-Int.toNat ((i:Nat):Int)) z++List.drop (0+Int.toNat ((i:Nat):Int)+(Int.toNat ((xs.length:Nat):Int)-Int.toNat ((i:Nat):Int))) xs))else none)else none)=f (xs.take i):=by
 have e:(List.take i xs++List.replicate (xs.length-i) z++List.drop (i+(xs.length-i)) xs).take i=xs.take i:=by
  rw[List.append_assoc,List.take_append_of_le_length (by simp;omega),List.take_take,Nat.min_self]
 rw[if_pos (by omega),if_pos (by simp;omega)]
 simp only[Int.toNat_natCast,Nat.zero_add,Int.toNat_zero,Nat.sub_zero,e]
theorem Fg {α:Type}{l:List α}{k:Nat}(hk:k<l.length)(a:α):(l.set k a)[k]?=some a:=by rw[List.getElem?_set,if_pos rfl,if_pos hk]
theorem Gi {α:Type}(l:List α)(k:Nat)(a b:α):(l.set k a).set k b=l.set k b:=by simp
end Go.Ab
end
section
namespace Go.Ab
def Ey {α:Type}(q:α->Bool):List α->Bool|[]=>false|x::_=>q x
theorem RQ (o:Option Nat):decide (fx o>=0)=o.isSome:=by
 cases o with
 |none=>rfl
 |some i=>simp[fx]
theorem aV (o:Option Nat):decide (fx o<0)=o.isNone:=by
 cases o with
 |none=>rfl
 |some i=>exact decide_eq_false (by simp[fx])
end Go.Ab
end
section
namespace Go.Ab
theorem GJ {l:List TX}(hl:l.length<=1048576)(t:Int){p q:TX->Bool}(mono:∀i j (hij:i<=j) (hj:j<l.length),p l[j]=true->p (l[i]'(by omega))=true)
 (hc:∀x∈l,∃n:Int,Cv (x,t,())=some (n,())/\decide (n<0)=p x/\(n==0)=q x):
 AH (l,t,(),())=some (((l.takeWhile p).length:Int),Ey q (l.dropWhile p),()):=by
 unfold AH
 obtain⟨c,hc1,hc2,hc3,hc4⟩:=JJ (n:=l.length) (p:=fun k=>match l[k]? with|some x=>p x|none=>false)
  (B:=fun v=>Av (l,t,(),(l.length:Int),()) v _ some)
  (by
    intro i j hij hj h
    have hi:i<l.length:=by omega
    simp only[List.getElem?_eq_getElem hj,List.getElem?_eq_getElem hi]at h ⊢
    exact mono i j hij hj h)
  (by
    intro i j hij hj
    have hm:(i+j) / 2<l.length:=by omega
    obtain⟨n,e1,e2,e3⟩:=hc _ (List.getElem_mem hm)
    unfold Av
    simp only[GZ (i:=i) (j:=j) (by omega),AL hm,Option.bind_some,List.getElem?_eq_getElem hm,decide_eq_true (by omega:(i:Int)<(j:Int)),cond_true]
    erw [e1]
    simp only[Option.bind_some,e2,AB hm (by omega)]
    cases p l[(i+j) / 2]<;>rfl)
  (by
    intro i hi
    unfold Av
    simp only[Int.lt_irrefl,decide_false,cond_false])
 erw [hc2]
 obtain⟨t1,t2⟩:=KF (l:=l) (p:=p) (c:=c) hc1 (fun k hk h=>by have:=hc3 k h;simpa only[List.getElem?_eq_getElem hk]using this) (fun k hk h=>by have:=hc4 k h hk;simpa only[List.getElem?_eq_getElem hk]using this)
 have tl:(l.takeWhile p).length=c:=by rw[<-t1];simp;omega
 rw[<-t2,tl]
 simp only[Option.bind_some]
 by_cases hcl:c<l.length
 ·obtain⟨n,e1,e2,e3⟩:=hc _ (List.getElem_mem hcl)
  simp only[AL hcl,decide_eq_true (by omega:(c:Int)<(l.length:Int)),cond_true,Option.bind_some]
  erw [e1]
  rw[List.drop_eq_getElem_cons hcl]
  simp only[Option.bind_some,e3,Ey]
 ·rw[List.drop_of_length_le (by omega)]
  simp only[decide_eq_false (by omega:¬(c:Int)<(l.length:Int)),cond_false,Ey]
theorem IJ {l:List VM}(hl:l.length<=1048576)(t:Int){p q:VM->Bool}(mono:∀i j (hij:i<=j) (hj:j<l.length),p l[j]=true->p (l[i]'(by omega))=true)
 (hc:∀x∈l,∃n:Int,DR (x,t,())=some (n,())/\decide (n<0)=p x/\(n==0)=q x):
 AZ (l,t,(),())=some (((l.takeWhile p).length:Int),Ey q (l.dropWhile p),()):=by
 unfold AZ
 obtain⟨c,hc1,hc2,hc3,hc4⟩:=JJ (n:=l.length) (p:=fun k=>match l[k]? with|some x=>p x|none=>false)
  (B:=fun v=>Az (l,t,(),(l.length:Int),()) v _ some)
  (by
    intro i j hij hj h
    have hi:i<l.length:=by omega
    simp only[List.getElem?_eq_getElem hj,List.getElem?_eq_getElem hi]at h ⊢
    exact mono i j hij hj h)
  (by
    intro i j hij hj
    have hm:(i+j) / 2<l.length:=by omega
    obtain⟨n,e1,e2,e3⟩:=hc _ (List.getElem_mem hm)
    unfold Az
    simp only[GZ (i:=i) (j:=j) (by omega),AL hm,Option.bind_some,List.getElem?_eq_getElem hm,decide_eq_true (by omega:(i:Int)<(j:Int)),cond_true]
    erw [e1]
    simp only[Option.bind_some,e2,AB hm (by omega)]
    cases p l[(i+j) / 2]<;>rfl)
  (by
    intro i hi
    unfold Az
    simp only[Int.lt_irrefl,decide_false,cond_false])
 erw [hc2]
 obtain⟨t1,t2⟩:=KF (l:=l) (p:=p) (c:=c) hc1 (fun k hk h=>by have:=hc3 k h;simpa only[List.getElem?_eq_getElem hk]using this) (fun k hk h=>by have:=hc4 k h hk;simpa only[List.getElem?_eq_getElem hk]using this)
 have tl:(l.takeWhile p).length=c:=by rw[<-t1];simp;omega
 rw[<-t2,tl]
 simp only[Option.bind_some]
 by_cases hcl:c<l.length
 ·obtain⟨n,e1,e2,e3⟩:=hc _ (List.getElem_mem hcl)
  simp only[AL hcl,decide_eq_true (by omega:(c:Int)<(l.length:Int)),cond_true,Option.bind_some]
  erw [e1]
  rw[List.drop_eq_getElem_cons hcl]
  simp only[Option.bind_some,e3,Ey]
 ·rw[List.drop_of_length_le (by omega)]
  simp only[decide_eq_false (by omega:¬(c:Int)<(l.length:Int)),cond_false,Ey]
theorem GX {l:List VM}(hl:l.length<=1048576)(t:Int){p q:VM->Bool}(mono:∀i j (hij:i<=j) (hj:j<l.length),p l[j]=true->p (l[i]'(by omega))=true)
 (hc:∀x∈l,∃n:Int,CD (x,t,())=some (n,())/\decide (n<0)=p x/\(n==0)=q x):
 AJ (l,t,(),())=some (((l.takeWhile p).length:Int),Ey q (l.dropWhile p),()):=by
 unfold AJ
 obtain⟨c,hc1,hc2,hc3,hc4⟩:=JJ (n:=l.length) (p:=fun k=>match l[k]? with|some x=>p x|none=>false)
  (B:=fun v=>Aw (l,t,(),(l.length:Int),()) v _ some)
  (by
    intro i j hij hj h
    have hi:i<l.length:=by omega
    simp only[List.getElem?_eq_getElem hj,List.getElem?_eq_getElem hi]at h ⊢
    exact mono i j hij hj h)
  (by
    intro i j hij hj
    have hm:(i+j) / 2<l.length:=by omega
    obtain⟨n,e1,e2,e3⟩:=hc _ (List.getElem_mem hm)
    unfold Aw
    simp only[GZ (i:=i) (j:=j) (by omega),AL hm,Option.bind_some,List.getElem?_eq_getElem hm,decide_eq_true (by omega:(i:Int)<(j:Int)),cond_true]
    erw [e1]
    simp only[Option.bind_some,e2,AB hm (by omega)]
    cases p l[(i+j) / 2]<;>rfl)
  (by
    intro i hi
    unfold Aw
    simp only[Int.lt_irrefl,decide_false,cond_false])
 erw [hc2]
 obtain⟨t1,t2⟩:=KF (l:=l) (p:=p) (c:=c) hc1 (fun k hk h=>by have:=hc3 k h;simpa only[List.getElem?_eq_getElem hk]using this) (fun k hk h=>by have:=hc4 k h hk;simpa only[List.getElem?_eq_getElem hk]using this)
 have tl:(l.takeWhile p).length=c:=by rw[<-t1];simp;omega
 rw[<-t2,tl]
 simp only[Option.bind_some]
 by_cases hcl:c<l.length
 ·obtain⟨n,e1,e2,e3⟩:=hc _ (List.getElem_mem hcl)
  simp only[AL hcl,decide_eq_true (by omega:(c:Int)<(l.length:Int)),cond_true,Option.bind_some]
  erw [e1]
  rw[List.drop_eq_getElem_cons hcl]
  simp only[Option.bind_some,e3,Ey]
 ·rw[List.drop_of_length_le (by omega)]
  simp only[decide_eq_false (by omega:¬(c:Int)<(l.length:Int)),cond_false,Ey]
theorem Gb {l:List VM}(hl:l.length<=1048576)(t:Int){p q:VM->Bool}(mono:∀i j (hij:i<=j) (hj:j<l.length),p l[j]=true->p (l[i]'(by omega))=true)
 (hc:∀x∈l,∃n:Int,C3 (x,t,())=some (n,())/\decide (n<0)=p x/\(n==0)=q x):
 AD (l,t,(),())=some (((l.takeWhile p).length:Int),Ey q (l.dropWhile p),()):=by
 unfold AD
 obtain⟨c,hc1,hc2,hc3,hc4⟩:=JJ (n:=l.length) (p:=fun k=>match l[k]? with|some x=>p x|none=>false)
  (B:=fun v=>Ap (l,t,(),(l.length:Int),()) v _ some)
  (by
    intro i j hij hj h
    have hi:i<l.length:=by omega
    simp only[List.getElem?_eq_getElem hj,List.getElem?_eq_getElem hi]at h ⊢
    exact mono i j hij hj h)
  (by
    intro i j hij hj
    have hm:(i+j) / 2<l.length:=by omega
    obtain⟨n,e1,e2,e3⟩:=hc _ (List.getElem_mem hm)
    unfold Ap
    simp only[GZ (i:=i) (j:=j) (by omega),AL hm,Option.bind_some,List.getElem?_eq_getElem hm,decide_eq_true (by omega:(i:Int)<(j:Int)),cond_true]
    erw [e1]
    simp only[Option.bind_some,e2,AB hm (by omega)]
    cases p l[(i+j) / 2]<;>rfl)
  (by
    intro i hi
    unfold Ap
    simp only[Int.lt_irrefl,decide_false,cond_false])
 erw [hc2]
 obtain⟨t1,t2⟩:=KF (l:=l) (p:=p) (c:=c) hc1 (fun k hk h=>by have:=hc3 k h;simpa only[List.getElem?_eq_getElem hk]using this) (fun k hk h=>by have:=hc4 k h hk;simpa only[List.getElem?_eq_getElem hk]using this)
 have tl:(l.takeWhile p).length=c:=by rw[<-t1];simp;omega
 rw[<-t2,tl]
 simp only[Option.bind_some]
 by_cases hcl:c<l.length
 ·obtain⟨n,e1,e2,e3⟩:=hc _ (List.getElem_mem hcl)
  simp only[AL hcl,decide_eq_true (by omega:(c:Int)<(l.length:Int)),cond_true,Option.bind_some]
  erw [e1]
  rw[List.drop_eq_getElem_cons hcl]
  simp only[Option.bind_some,e3,Ey]
 ·rw[List.drop_of_length_le (by omega)]
  simp only[decide_eq_false (by omega:¬(c:Int)<(l.length:Int)),cond_false,Ey]
theorem Ho {l:List VM}(hl:l.length<=1048576)(t:VM){p q:VM->Bool}(mono:∀i j (hij:i<=j) (hj:j<l.length),p l[j]=true->p (l[i]'(by omega))=true)
 (hc:∀x∈l,∃n:Int,Bu (x,t,())=some (n,())/\decide (n<0)=p x/\(n==0)=q x):
 AO (l,t,(),())=some (((l.takeWhile p).length:Int),Ey q (l.dropWhile p),()):=by
 unfold AO
 obtain⟨c,hc1,hc2,hc3,hc4⟩:=JJ (n:=l.length) (p:=fun k=>match l[k]? with|some x=>p x|none=>false)
  (B:=fun v=>Ax (l,(),(l.length:Int),t.1,t.2.1,()) v _ some)
  (by
    intro i j hij hj h
    have hi:i<l.length:=by omega
    simp only[List.getElem?_eq_getElem hj,List.getElem?_eq_getElem hi]at h ⊢
    exact mono i j hij hj h)
  (by
    intro i j hij hj
    have hm:(i+j) / 2<l.length:=by omega
    obtain⟨n,e1,e2,e3⟩:=hc _ (List.getElem_mem hm)
    unfold Ax
    simp only[GZ (i:=i) (j:=j) (by omega),AL hm,Option.bind_some,List.getElem?_eq_getElem hm,decide_eq_true (by omega:(i:Int)<(j:Int)),cond_true]
    erw [e1]
    simp only[Option.bind_some,e2,AB hm (by omega)]
    cases p l[(i+j) / 2]<;>rfl)
  (by
    intro i hi
    unfold Ax
    simp only[Int.lt_irrefl,decide_false,cond_false])
 erw [hc2]
 obtain⟨t1,t2⟩:=KF (l:=l) (p:=p) (c:=c) hc1 (fun k hk h=>by have:=hc3 k h;simpa only[List.getElem?_eq_getElem hk]using this) (fun k hk h=>by have:=hc4 k h hk;simpa only[List.getElem?_eq_getElem hk]using this)
 have tl:(l.takeWhile p).length=c:=by rw[<-t1];simp;omega
 rw[<-t2,tl]
 simp only[Option.bind_some]
 by_cases hcl:c<l.length
 ·obtain⟨n,e1,e2,e3⟩:=hc _ (List.getElem_mem hcl)
  simp only[AL hcl,decide_eq_true (by omega:(c:Int)<(l.length:Int)),cond_true,Option.bind_some]
  erw [e1]
  rw[List.drop_eq_getElem_cons hcl]
  simp only[Option.bind_some,e3,Ey]
 ·rw[List.drop_of_length_le (by omega)]
  simp only[decide_eq_false (by omega:¬(c:Int)<(l.length:Int)),cond_false,Ey]
theorem GW {l:List _}(hl:l.length<=1048576)(c:_){p:_->Bool}(hc:∀x∈l,Cc (x,c)=some (p x,())):Bg (l,c,())=some (fx (l.findIdx? p),()):=by
 unfold Bg
 refine Du hl (p:=p) (fun i h=>?_) ?_
 ·unfold AI
  have e:=hc _ (List.getElem_mem h)
  simp only[AL h,Option.bind_some]
  rw[decide_eq_true (by omega),AB h (by omega)]
  simp only[cond_true]
  erw [e]
  simp only[Option.bind_some]
  cases p l[i]<;>rfl
 ·unfold AI
  simp only
  rw[decide_eq_false (by omega)];rfl
theorem HF {l:List _}(hl:l.length<=1048576)(c:_){p:_->Bool}(hc:∀x∈l,Ea (x,c)=some (p x,())):Bt (l,c,())=some (fx (l.findIdx? p),()):=by
 unfold Bt
 refine Du hl (p:=p) (fun i h=>?_) ?_
 ·unfold AU
  have e:=hc _ (List.getElem_mem h)
  simp only[AL h,Option.bind_some]
  rw[decide_eq_true (by omega),AB h (by omega)]
  simp only[cond_true]
  erw [e]
  simp only[Option.bind_some]
  cases p l[i]<;>rfl
 ·unfold AU
  simp only
  rw[decide_eq_false (by omega)];rfl
theorem GH {l:List _}(hl:l.length<=1048576)(c:_){p:_->Bool}(hc:∀x∈l,C0 (x,c)=some (p x,())):Be (l,c,())=some (fx (l.findIdx? p),()):=by
 unfold Be
 refine Du hl (p:=p) (fun i h=>?_) ?_
 ·unfold AF
  have e:=hc _ (List.getElem_mem h)
  simp only[AL h,Option.bind_some]
  rw[decide_eq_true (by omega),AB h (by omega)]
  simp only[cond_true]
  erw [e]
  simp only[Option.bind_some]
  cases p l[i]<;>rfl
 ·unfold AF
  simp only
  rw[decide_eq_false (by omega)];rfl
theorem Hm {l:List _}(hl:l.length<=1048576)(c:_){p:_->Bool}(hc:∀x∈l,Co (x,c)=some (p x,())):Bl (l,c,())=some (fx (l.findIdx? p),()):=by
 unfold Bl
 refine Du hl (p:=p) (fun i h=>?_) ?_
 ·unfold AN
  have e:=hc _ (List.getElem_mem h)
  simp only[AL h,Option.bind_some]
  rw[decide_eq_true (by omega),AB h (by omega)]
  simp only[cond_true]
  erw [e]
  simp only[Option.bind_some]
  cases p l[i]<;>rfl
 ·unfold AN
  simp only
  rw[decide_eq_false (by omega)];rfl
theorem HD {l:List _}(hl:l.length<=1048576)(c:_){p:_->Bool}(hc:∀x∈l,E9 (x,c)=some (p x,())):Bs (l,c,())=some (fx (l.findIdx? p),()):=by
 unfold Bs
 refine Du hl (p:=p) (fun i h=>?_) ?_
 ·unfold AR
  have e:=hc _ (List.getElem_mem h)
  simp only[AL h,Option.bind_some]
  rw[decide_eq_true (by omega),AB h (by omega)]
  simp only[cond_true]
  erw [e]
  simp only[Option.bind_some]
  cases p l[i]<;>rfl
 ·unfold AR
  simp only
  rw[decide_eq_false (by omega)];rfl
theorem HB {l:List _}(hl:l.length<=1048576)(c:_){p:_->Bool}(hc:∀x∈l,E8 (x,c)=some (p x,())):Br (l,c,())=some (fx (l.findIdx? p),()):=by
 unfold Br
 refine Du hl (p:=p) (fun i h=>?_) ?_
 ·unfold AQ
  have e:=hc _ (List.getElem_mem h)
  simp only[AL h,Option.bind_some]
  rw[decide_eq_true (by omega),AB h (by omega)]
  simp only[cond_true]
  erw [e]
  simp only[Option.bind_some]
  cases p l[i]<;>rfl
 ·unfold AQ
  simp only
  rw[decide_eq_false (by omega)];rfl
theorem FZ {l:List _}(hl:l.length<=1048576)(c:_){p:_->Bool}(hc:∀x∈l,Bz (x,c)=some (p x,())):B9 (l,c,())=some (fx (l.findIdx? p),()):=by
 unfold B9
 refine Du hl (p:=p) (fun i h=>?_) ?_
 ·unfold AC
  have e:=hc _ (List.getElem_mem h)
  simp only[AL h,Option.bind_some]
  rw[decide_eq_true (by omega),AB h (by omega)]
  simp only[cond_true]
  erw [e]
  simp only[Option.bind_some]
  cases p l[i]<;>rfl
 ·unfold AC
  simp only
  rw[decide_eq_false (by omega)];rfl
theorem G1 {l:List _}(hl:l.length<=1048576)(c:_){p:_->Bool}(hc:∀x∈l,Bz (x,c)=some (p x,())):B6 (l,c,())=some (l.any p,()):=by
 unfold B6
 have e:=FZ hl c hc
 erw [e]
 simp only[Option.bind_some,RQ,List.findIdx?_isSome]
theorem GG {l:List _}(hl:l.length<=1048576)(c:_){p:_->Bool}(hc:∀x∈l,BZ (x,c)=some (p x,())):Bd (l,c,())=some (fx (l.findIdx? p),()):=by
 unfold Bd
 refine Du hl (p:=p) (fun i h=>?_) ?_
 ·unfold AE
  have e:=hc _ (List.getElem_mem h)
  simp only[AL h,Option.bind_some]
  rw[decide_eq_true (by omega),AB h (by omega)]
  simp only[cond_true]
  erw [e]
  simp only[Option.bind_some]
  cases p l[i]<;>rfl
 ·unfold AE
  simp only
  rw[decide_eq_false (by omega)];rfl
theorem GI {l:List _}(hl:l.length<=1048576)(c:_){p:_->Bool}(hc:∀x∈l,BZ (x,c)=some (p x,())):Ba (l,c,())=some (l.any p,()):=by
 unfold Ba
 have e:=GG hl c hc
 erw [e]
 simp only[Option.bind_some,RQ,List.findIdx?_isSome]
theorem Fv {l:List VM}(hl:l.length<=1048576)(id:Int){q:VM->Bool}(hc:∀x:VM,C0 (x,some id,())=some (q x,())):
 BP (l,id,())=some (id,l.filter (fun x=>!q x),()):=by
 unfold BP
 have e:=GH hl (some id,()) (p:=q) (fun x _=>hc x)
 erw [e]
 simp only[Option.bind_some]
 cases hf:l.findIdx? q with
 |none=>
  have h:=List.findIdx?_eq_none_iff.1 hf
  have:l.filter (fun x=>!q x)=l:=List.filter_eq_self.2 fun x hx=>by simp[h x hx]
  simp only[fx,this]
  rfl
 |some i0=>
  obtain⟨h0,hq,hlt⟩:=List.findIdx?_eq_some_iff_getElem.1 hf
  obtain⟨i,xs,h1,h2,h3,h4⟩:=La (l:=l) (q:=q) (B:=fun v=>AY (id,()) v _ some)
   (by
     intro i j xs hi hj h
     have hj':j<xs.length:=by omega
     have hi':i<xs.length:=by omega
     have c1:(0:Int)<=(j:Int)/\(j:Int)<(xs.length:Int):=by omega
     have c2:(0:Int)<=(i:Int)/\(i:Int)<(xs.length:Int):=by omega
     unfold AY
     simp only[decide_eq_true c1.2,cond_true,c1,c2,and_self,if_true,Nat.zero_add,Int.toNat_natCast,List.getElem?_eq_getElem hj',List.getElem?_eq_getElem hi',Option.bind_some]
     erw [hc]
     simp only[Option.bind_some,AB hj' (by omega:xs.length<9223372036854775808),AB hi' (by omega:xs.length<9223372036854775808)]
     cases q xs[j]<;>rfl)
   (by
     intro i xs h hi
     unfold AY
     simp only[h,Int.lt_irrefl,decide_false,cond_false])
   h0 hq (fun k hk=>by simpa using hlt k hk)
  have e0:((i0:Int)==-1)=false:=by rw[beq_eq_false_iff_ne];omega
  simp only[fx,e0,cond_false,AB h0 (by omega)]
  erw [h1]
  simp only[Option.bind_some]
  rw[<-h4]
  exact MV (z:=(0,0,())) h2 (fun r=>some (id,r,()))
theorem Fe {l:List VM}(hl:l.length<=1048576)(id:Int){q:VM->Bool}(hc:∀x:VM,Co (x,some id,())=some (q x,())):
 BF (l,id,())=some (id,l.filter (fun x=>!q x),()):=by
 unfold BF
 have e:=Hm hl (some id,()) (p:=q) (fun x _=>hc x)
 erw [e]
 simp only[Option.bind_some]
 cases hf:l.findIdx? q with
 |none=>
  have h:=List.findIdx?_eq_none_iff.1 hf
  have:l.filter (fun x=>!q x)=l:=List.filter_eq_self.2 fun x hx=>by simp[h x hx]
  simp only[fx,this]
  rfl
 |some i0=>
  obtain⟨h0,hq,hlt⟩:=List.findIdx?_eq_some_iff_getElem.1 hf
  obtain⟨i,xs,h1,h2,h3,h4⟩:=La (l:=l) (q:=q) (B:=fun v=>AK (id,()) v _ some)
   (by
     intro i j xs hi hj h
     have hj':j<xs.length:=by omega
     have hi':i<xs.length:=by omega
     have c1:(0:Int)<=(j:Int)/\(j:Int)<(xs.length:Int):=by omega
     have c2:(0:Int)<=(i:Int)/\(i:Int)<(xs.length:Int):=by omega
     unfold AK
     simp only[decide_eq_true c1.2,cond_true,c1,c2,and_self,if_true,Nat.zero_add,Int.toNat_natCast,List.getElem?_eq_getElem hj',List.getElem?_eq_getElem hi',Option.bind_some]
     erw [hc]
     simp only[Option.bind_some,AB hj' (by omega:xs.length<9223372036854775808),AB hi' (by omega:xs.length<9223372036854775808)]
     cases q xs[j]<;>rfl)
   (by
     intro i xs h hi
     unfold AK
     simp only[h,Int.lt_irrefl,decide_false,cond_false])
   h0 hq (fun k hk=>by simpa using hlt k hk)
  have e0:((i0:Int)==-1)=false:=by rw[beq_eq_false_iff_ne];omega
  simp only[fx,e0,cond_false,AB h0 (by omega)]
  erw [h1]
  simp only[Option.bind_some]
  rw[<-h4]
  exact MV (z:=(0,0,())) h2 (fun r=>some (id,r,()))
theorem Fu {l:List VM}(hl:l.length<=1048576)(o:OPt){q:VM->Bool}(hc:∀x:VM,Cc (x,some o,())=some (q x,())):
 Bp (l,o.1,o.2.1,o.2.2.1,o.2.2.2.1,o.2.2.2.2.1,o.2.2.2.2.2.1,())=some (o.1,o.2.1,o.2.2.1,o.2.2.2.1,o.2.2.2.2.1,o.2.2.2.2.2.1,l.filter (fun x=>!q x),()):=by
 unfold Bp
 have e:=GW hl (some o,()) (p:=q) (fun x _=>hc x)
 erw [e]
 simp only[Option.bind_some]
 cases hf:l.findIdx? q with
 |none=>
  have h:=List.findIdx?_eq_none_iff.1 hf
  have:l.filter (fun x=>!q x)=l:=List.filter_eq_self.2 fun x hx=>by simp[h x hx]
  simp only[fx,this]
  rfl
 |some i0=>
  obtain⟨h0,hq,hlt⟩:=List.findIdx?_eq_some_iff_getElem.1 hf
  obtain⟨i,xs,h1,h2,h3,h4⟩:=La (l:=l) (q:=q) (B:=fun v=>AX (o.1,o.2.1,o.2.2.1,o.2.2.2.1,o.2.2.2.2.1,o.2.2.2.2.2.1,()) v _ some)
   (by
     intro i j xs hi hj h
     have hj':j<xs.length:=by omega
     have hi':i<xs.length:=by omega
     have c1:(0:Int)<=(j:Int)/\(j:Int)<(xs.length:Int):=by omega
     have c2:(0:Int)<=(i:Int)/\(i:Int)<(xs.length:Int):=by omega
     unfold AX
     simp only[decide_eq_true c1.2,cond_true,c1,c2,and_self,if_true,Nat.zero_add,Int.toNat_natCast,List.getElem?_eq_getElem hj',List.getElem?_eq_getElem hi',Option.bind_some]
     erw [hc]
     simp only[Option.bind_some,AB hj' (by omega:xs.length<9223372036854775808),AB hi' (by omega:xs.length<9223372036854775808)]
     cases q xs[j]<;>rfl)
   (by
     intro i xs h hi
     unfold AX
     simp only[h,Int.lt_irrefl,decide_false,cond_false])
   h0 hq (fun k hk=>by simpa using hlt k hk)
  have e0:((i0:Int)==-1)=false:=by rw[beq_eq_false_iff_ne];omega
  simp only[fx,e0,cond_false,AB h0 (by omega)]
  erw [h1]
  simp only[Option.bind_some]
  rw[<-h4]
  exact MV (z:=(0,0,())) h2 (fun r=>some (o.1,o.2.1,o.2.2.1,o.2.2.2.1,o.2.2.2.2.1,o.2.2.2.2.2.1,r,()))
end Go.Ab
end
section
namespace Go.Ab
theorem KE {α:Type}{f:α->Int}{l:List α}(h:EL f l){a:Int}{n:Nat}(hb:∀x∈l,a<=f x/\f x<a+n):l.length<=n:=by
 induction l generalizing a n with
 |nil=>exact Nat.zero_le _
 |cons x l ih=>
  have h1:=List.pairwise_cons.1 h
  have hx:=hb x (List.mem_cons_self)
  have:=ih h1.2 (a:=f x+1) (n:=(a+n-(f x+1)).toNat) (fun y hy=>by
   have:=h1.1 y hy
   have:=hb y (List.mem_cons_of_mem _ hy)
   omega)
  simp only[List.length_cons]
  omega
theorem O7 {l:List VM}(h:MA l):l.length<=6:=by
 have:=(FN l).1 h
 exact KE this.2 (a:=0) (n:=6) (fun x hx=>by have:=B8.1 (this.1 x hx).1;omega)
theorem OkG.lkLen {e:EG}(H:OkG e):e.2.2.1.length<=6:=KE H.lkU (a:=0) (n:=6) (fun x hx=>by have:=B8.1 (H.lkA x hx).1;omega)
theorem OkG.wtLen {e:EG}(H:OkG e):e.2.2.2.1.length<=9:=KE H.wtU (a:=1) (n:=9) (fun x hx=>by have:=B8.1 (H.wtA x hx).1;omega)
theorem OkG.small {e:EG}(H:OkG e):SmallE e.1 e.2.1 e.2.2.1 e.2.2.2.1:=by
 have hg:=H.gd
 refine⟨⟨by have:=hg.six;omega,fun l hl=>?_⟩,by have:=H.len;omega,fun t ht=>?_,by have:=H.lkLen;omega,by have:=H.wtLen;omega⟩
 ·have:=(hg.ok l hl).2
  unfold Gx;omega
 ·have h:=(C2 t).1 (H.txA t ht).1
  have h1:=O7 h.2.1
  have h2:=h.2.2.2.2.2.2.2.2.2.2
  exact⟨by omega,by omega⟩
theorem Lo {l:List VM}(hl:l.length<=1048576)(id:Int):DK (l,id,())=some (T9 l id,()):=by
 unfold DK T9
 simp only[O5 hl,Option.bind_some,Fv hl id (q:=fun m=>m.2.1==id) (fun x=>by simp[C0])]
theorem O2 {l:List VM}(hl:l.length<=1048576)(id:Int):Em (l,id,())=some (XK l id,()):=by
 unfold Em XK
 simp only[KV hl,Option.bind_some,Fe hl id (q:=fun m=>m.1==id||m.2.1==id) (fun x=>by simp only[Co,Option.bind_some];cases x.1==id<;>rfl)]
 simp only[Bool.not_or]
theorem Pu {l:List VM}(hl:l.length<=1048576)(o:OPt):Bp (l,o)=some (o.1,o.2.1,o.2.2.1,o.2.2.2.1,o.2.2.2.2.1,o.2.2.2.2.2.1,wkW l o.2.1,()):=
 Fu hl o (q:=fun m=>m.1==o.2.1) (fun x=>by simp[Cc])
theorem LN {s:List (List VV)}{l:List TX}{lk wt:List VM}{k:Nat}(hk:k<l.length)(hl:lk.length<=1048576)(hw:wt.length<=1048576)(ce:Bool)(st:Int):
 Cn (k,ce,st,s,l,lk,wt,())=some (ce,st,s,l,lk,wt,T9 lk l[k].1,XK wt l[k].1,()):=by
 simp only[Cn,List.getElem?_eq_getElem hk,Option.bind_some,Lo hl,O2 hw]
theorem F7 {s:List (List VV)}{l:List TX}{lk wt:List VM}{k:Nat}(hk:k<l.length)(hl:lk.length<=1048576)(hw:wt.length<=1048576)(c:Int)(ce:Bool)(st:Int):
 AP (k,c,ce,st,s,l,lk,wt,())=some (c,ce,st,s,l.set k (F5 l[k] 3),lk,wt,T9 lk l[k].1,XK wt l[k].1,()):=by
 unfold AP
 simp only[List.getElem?_eq_getElem hk,Option.bind_some]
 have hk':k<(l.set k (F5 l[k] 3)).length:=by simpa using hk
 have e:=LN (s:=s) (k:=k) (l:=l.set k (F5 l[k] 3)) hk' hl hw ce st
 simp only[F5]at e ⊢
 rw[e]
 simp
theorem L8 {α:Type}(p:α->Bool)(l:List α):l.find? p=(l.findIdx? p).bind (l[·]?):=by
 cases h:l.findIdx? p with
 |none=>exact List.find?_eq_none.2 fun x hx=>by simpa using List.findIdx?_eq_none_iff.1 h x hx
 |some i=>
  obtain⟨h1,h2,h3⟩:=List.findIdx?_eq_some_iff_getElem.1 h
  rw[Option.bind_some,List.getElem?_eq_getElem h1]
  exact List.find?_eq_some_iff_getElem.2 ⟨h2,i,h1,rfl,fun j hj=>by simpa using h3 j hj⟩
theorem WV (t:TX)(h:smT t)(key:Int):EE ((t.1,t.2.1,t.2.2.1,t.2.2.2.1,t.2.2.2.2.1,t.2.2.2.2.2.1,t.2.2.2.2.2.2.1,t.2.2.2.2.2.2.2.1,t.2.2.2.2.2.2.2.2.1,()),key,())=some (fx (t.2.2.2.2.2.2.2.2.1.findIdx? fun m=>m.1==key),()):=by
 unfold EE
 simp only[HF h.2 (some key,()) (p:=fun m=>m.1==key) (fun x _=>by simp[Ea]),Option.bind_some]
theorem PK {s:List (List VV)}(h6:s.length=6){key:Int}(hk:inB key 0 5=true):∃(n:Nat) (h:n<s.length),key=(n:Int)/\lAt s key=some s[n]/\s[key.toNat]?=some s[n]:=by
 have:=B8.1 hk
 obtain⟨n,rfl⟩:=Int.eq_ofNat_of_zero_le this.1
 have hn:n<s.length:=by omega
 exact⟨n,hn,rfl,AL hn,by simp[hn]⟩
theorem Gd {n:Nat}(h:n<9223372036854775808):IntKind.i64.wrap ((n:Int)-1)=(n:Int)-1:=CU (by omega) (by omega)
theorem My {s:List (List VV)}(hs:Hy s)(h6:s.length=6)(t:TX){key:Int}(hk:inB key 0 5=true):
 DJ ((s,()),(t.1,t.2.1,t.2.2.1,t.2.2.2.1,t.2.2.2.2.1,t.2.2.2.2.2.1,t.2.2.2.2.2.2.1,t.2.2.2.2.2.2.2.1,t.2.2.2.2.2.2.2.2.1,()),key,())=some (match GF s t key with|none=>(0,0,0,0,0,3,())|some v=>(v.1,v.2.1,v.2.2.1,v.2.2.2.1,v.2.2.2.2.1,0,())):=by
 obtain⟨n,hn,e1,e2,e3⟩:=PK h6 hk
 have hl:Gx s[n]:=hs.2 _ (List.getElem_mem hn)
 unfold DJ GF
 unfold Gx at hl
 simp only[e2,e3,Option.bind_some,WY (hs.2 _ (List.getElem_mem hn)),Gd (by omega:s[n].length<9223372036854775808)]
 generalize hl':s[n]=l at*
 have key:∀i:Int,i<l.length->(bif decide (i<0)then some ((0:Int),(0:Int),(0:Int),(0:Int),(0:Int),(3:Int),())else bif t.2.1==4 then(lAt l i).bind fun v_2=>bif decide (v_2.2.2.1>t.2.2.2.1)then some (0,0,0,0,0,3,())else(lAt l i).bind fun v=>some (v.1,v.2.1,v.2.2.1,v.2.2.2.1,v.2.2.2.2.1,0,())else(lAt l i).bind fun v=>some (v.1,v.2.1,v.2.2.1,v.2.2.2.1,v.2.2.2.2.1,0,()))=some (match(bif decide (i<0)then none else(l[i.toNat]?).bind fun v=>bif t.2.1==4&&decide (v.2.2.1>t.2.2.2.1)then none else some v)with|none=>(0,0,0,0,0,3,())|some v=>(v.1,v.2.1,v.2.2.1,v.2.2.2.1,v.2.2.2.2.1,0,())):=by
  intro i hi
  by_cases h0:i<0
  ·simp[h0]
  ·obtain⟨j,rfl⟩:=Int.eq_ofNat_of_zero_le (by omega:0<=i)
   have hj:j<l.length:=by omega
   simp only[decide_eq_false h0,cond_false,AL hj,Option.bind_some,Int.toNat_natCast,List.getElem?_eq_getElem hj]
   cases t.2.1==4
   ·simp
   ·simp only[cond_true,Bool.true_and]
    cases decide (l[j].2.2.1>t.2.2.2.1)<;>simp
 cases t.2.1==2
 ·simp only[cond_false];exact key _ (by omega)
 ·simp only[cond_true];exact key _ (N9 _ _ _).2
end Go.Ab
end
section
namespace Go.Ab
theorem cR (a b:VM):∃n:Int,Bu (a,b,())=some (n,())/\decide (n<0)=G4 a b/\(n==0)=decide (a=b):=by
 obtain⟨n,e1,e2⟩:=I2 a b
 refine⟨n,e1,?_,?_⟩
 ·by_cases h:BT a b
  ·rw[Ih.2 h];exact decide_eq_true (by by_cases hn:n<0;exact hn;exact absurd h (e2.1 (by omega)))
  ·have h0:G4 a b=false:=by cases h1:G4 a b with|false=>rfl|true=>exact absurd (Ih.1 h1) h
   rw[h0];exact decide_eq_false (by have:=e2.2 h;omega)
 ·unfold Bu at e1
  simp only[X0,er,Option.bind_some,Option.some.injEq,Prod.mk.injEq,and_true]at e1
  have hab:a=b↔a.1=b.1/\a.2.1=b.2.1:=by
   constructor
   ·rintro rfl;exact⟨rfl,rfl⟩
   ·rintro⟨h1,h2⟩;exact Prod.ext h1 (Prod.ext h2 rfl)
  rw[Bool.eq_iff_iff,beq_iff_eq,decide_eq_true_eq,hab,<-e1]
  by_cases c1:a.1<b.1
  ·simp[c1];omega
  ·by_cases c2:a.1>b.1
   ·simp[c1,c2];omega
   ·have c3:a.1=b.1:=by omega
    by_cases c4:a.2.1<b.2.1
    ·simp[c3,c4];omega
    ·by_cases c5:a.2.1>b.2.1
     ·simp[c3,c4,c5];omega
     ·simp[c3,c4,c5];omega
theorem SJ {l:List VM}(h:l.Pairwise BT)(m:VM):∀i j (hij:i<=j) (hj:j<l.length),G4 l[j] m=true->G4 (l[i]'(by omega)) m=true:=by
 intro i j hij hj h1
 rw[Ih]at*
 by_cases e:i=j
 ·subst e;exact h1
 ·exact Fq _ _ _ (List.pairwise_iff_getElem.1 h i j (by omega) hj (by omega)) h1
theorem et {l:List VM}(hl:l.length<=1048576)(h:l.Pairwise BT)(m:VM):
 AO (l,m,(),())=some (((l.takeWhile fun x=>G4 x m).length:Int),Ey (fun x=>decide (x=m)) (l.dropWhile fun x=>G4 x m),()):=
 Ho hl m (p:=fun x=>G4 x m) (q:=fun x=>decide (x=m)) (SJ h m) (fun x _=>cR x m)
theorem Iz {α:Type}{lim:Nat}{l:List α}(hl:l.length+1<=lim)(p:α->Bool)(z:α):JZ lim (((l.takeWhile p).length:Int),l,[z],())=some (l.takeWhile p++z::l.dropWhile p,()):=by
 have e:l.takeWhile p++l.dropWhile p=l:=List.takeWhile_append_dropWhile
 generalize l.takeWhile p=a at e ⊢
 generalize l.dropWhile p=b at e ⊢
 subst e
 have h1:a.length+b.length+1<=lim:=by simpa using hl
 simp[JZ,h1]
theorem NU {l:List TX}{k:Nat}(hk:k<l.length)(hr:l[k].2.2.2.2.2.2.2.1.length<=1048576)(hrd:l[k].2.2.2.2.2.2.2.1.Pairwise BT)(key:Int)(v:VV):
 Ck (k,key,v.1,v.2.1,v.2.2.1,v.2.2.2.1,v.2.2.2.2.1,l,())=some (match JM l[k] key v with|none=>(false,l,())|some t'=>(true,l.set k t',())):=by
 unfold Ck JM
 simp only[List.getElem?_eq_getElem hk,Option.bind_some]
 have e60:(((l[k].2.2.2.2.2.2.2.1.length:Nat):Int)==60)=(l[k].2.2.2.2.2.2.2.1.length==60):=by
  rw[Bool.eq_iff_iff,beq_iff_eq,beq_iff_eq];omega
 rw[e60]
 cases l[k].2.2.2.2.2.2.2.1.length==60
 ·simp only[cond_false]
  erw [et hr hrd (key,v.2.2.1,())]
  simp only[Option.bind_some]
  unfold HX Nf
  cases hd:l[k].2.2.2.2.2.2.2.1.dropWhile fun x=>G4 x (key,v.2.2.1,())with
  |nil=>
   simp only[Ey,Bool.not_false,cond_true,O4 hr,Option.bind_some,BW]
   erw [Iz (by omega) _ _]
   simp only[Option.bind_some,hd,Fg hk,Gi,List.length_set]
  |cons x r=>
   simp only[Ey]
   by_cases hx:x=(key,v.2.2.1,())
   ·have e:l[k].2.2.2.2.2.2.2.1=l[k].2.2.2.2.2.2.2.1.takeWhile (fun x=>G4 x (key,v.2.2.1,()))++(key,v.2.2.1,())::r:=by
     rw[<-hx]
     conv=>lhs;rw[<-List.takeWhile_append_dropWhile (p:=fun x=>G4 x (key,v.2.2.1,())) (l:=l[k].2.2.2.2.2.2.2.1),hd]
     rw[hx]
    simp only[hx,decide_true,Bool.not_true,cond_false,if_true,Fg hk,Option.bind_some,Gi,List.length_set]
    rw[<-e]
   ·simp only[hx,decide_false,Bool.not_false,cond_true,if_false,O4 hr,Option.bind_some,BW]
    erw [Iz (by omega) _ _]
    simp only[Option.bind_some,hd,Fg hk,Gi,List.length_set]
 ·rfl
end Go.Ab
end
section
namespace Go.Ab
abbrev EO:=Bool×Int×List (List VV)×List TX×List VM×List VM×Unit
def GK (ce:Bool)(e:EG):EO:=(ce,e.2.2.2.2,e.1,e.2.1,e.2.2.1,e.2.2.2.1,())
theorem S4 (t:TX)(key:Int):N6 t key=match t.2.2.2.2.2.2.2.2.1.findIdx? (fun m=>m.1==key)with
 |none=>none|some i=>(t.2.2.2.2.2.2.2.2.1[i]?).map (·.2.1):=by
 unfold N6
 rw[L8]
 cases t.2.2.2.2.2.2.2.2.1.findIdx? (fun m=>m.1==key)<;>rfl
theorem OkG.rdUp {e:EG}(H:OkG e){k:Nat}(hk:k<e.2.1.length):e.2.1[k].2.2.2.2.2.2.2.1.Pairwise BT:=
 ((Gk _).1 ((C2 _).1 (H.txA _ (List.getElem_mem hk)).1).1).2
theorem OkG.smT {e:EG}(H:OkG e){k:Nat}(hk:k<e.2.1.length):smT e.2.1[k]:=H.small.ft _ (List.getElem_mem hk)
theorem Pw {e:EG}(H:OkG e){k:Nat}(hk:k<e.2.1.length){key:Int}(hkey:inB key 0 5=true)(ce:Bool):
 DC (k,key,GK ce e)=some ((EI e k key).1,(EI e k key).2.1,GK ce (EI e k key).2.2):=by
 have hs:=H.small
 have ht:=H.smT hk
 unfold DC EI GK
 simp only[List.getElem?_eq_getElem hk,Option.bind_some,WV _ ht,RQ,S4]
 cases hf:e.2.1[k].2.2.2.2.2.2.2.2.1.findIdx? (fun m=>m.1==key)with
 |some i=>
  obtain⟨h1,_⟩:=List.findIdx?_eq_some_iff_getElem.1 hf
  have c:(0:Int)<=(i:Int)/\(i:Int)<(e.2.1[k].2.2.2.2.2.2.2.2.1.length:Int):=by omega
  simp only[Option.isSome_some,cond_true,fx,c,and_self,if_true,Nat.zero_add,Int.toNat_natCast,List.getElem?_eq_getElem h1,Option.bind_some,Option.map_some]
 |none=>
  simp only[Option.isSome_none,cond_false,My hs.fs H.gd.six _ hkey,Option.bind_some]
  cases GF e.1 e.2.1[k] key with
  |none=>
   simp only[bne,show((3:Int)==0)=false from rfl,Bool.not_false,cond_true,F7 hk hs.fk hs.fw,Option.bind_some,Hb,F5]
  |some v=>
   simp only[bne,show((0:Int)==0)=true from rfl,Bool.not_true,cond_false,NU hk ht.1 (H.rdUp hk),Option.bind_some]
   cases JM e.2.1[k] key v with
   |none=>rfl
   |some t'=>rfl
theorem NV {k:Nat}{hi:Int}{ce:Bool}(hh:hi<=5):∀(n:Nat) (key:Int) (out:List Int) (e:EG),OkG e->k<e.2.1.length->(∀t,e.2.1[k]?=some t->t.2.2.1=1)->0<=key->key+n=hi+1->out.length<=key.toNat->
 ((BL (fun v=>BM (k,hi,0,0,()) v _ some) (key,ce,e.2.2.2.2,e.1,e.2.1,e.2.2.1,e.2.2.2.1,out,())).bind fun p=>CA p (fun p=>some
   ((p.2.2.2.2.1,p.1,p.2.1,p.2.2.1,p.2.2.2.1,p.2.2.2.2.2.2.1,p.2.2.2.2.2.2.2.1,[],()):Int×Bool×Int×List (List VV)×List TX×List VM×List VM×List Int×Unit)) fun p=>some (0,p.1,p.2.1,p.2.2.1,p.2.2.2.1,p.2.2.2.2.1,p.2.2.2.2.2.1,p.2.2.2.2.2.2.1,()))=
 some ((DX k n key out e).1,ce,(DX k n key out e).2.2.2.2.2.2,(DX k n key out e).2.2.1,(DX k n key out e).2.2.2.1,(DX k n key out e).2.2.2.2.1,(DX k n key out e).2.2.2.2.2.1,(DX k n key out e).2.1,()):=by
 intro n
 induction n with
 |zero=>
  intro key out e H hk ha h0 hn ho
  rw[BH]
  have hd:¬key<=hi:=by omega
  simp only[BM,decide_eq_false hd,cond_false,Option.bind_some,CA,DX]
 |succ n ih=>
  intro key out e H hk ha h0 hn ho
  have hkey:inB key 0 5=true:=B8.2 ⟨h0,by omega⟩
  have hr:=Pw H hk hkey ce
  have hs:=H.read (List.getElem?_eq_getElem hk) (ha _ (List.getElem?_eq_getElem hk)) hkey
  unfold GK at hr
  rw[BH]
  have hd:key<=hi:=by omega
  simp only[BM,decide_eq_true hd,cond_true,hr,Option.bind_some,DX]
  cases hc:(EI e k key).2.1==0
  ·simp only[bne,hc,Bool.not_false,cond_true,Option.bind_some,CA,cond_false]
  ·have hc':(EI e k key).2.1=0:=by simpa using hc
   obtain⟨t',ht1,ht2,ht3⟩:=hs.2.1 hc'
   have hlen:(out++[(EI e k key).1]).length<=4398046511104:=by
    have:key.toNat<=5:=by omega
    simp;omega
   have hw:IntKind.i64.wrap (key+1)=key+1:=CU (by omega) (by omega)
   simp only[bne,hc,Bool.not_true,cond_false,hlen,if_true,Option.bind_some,hw,cond_true]
   exact ih (key+1) (out++[(EI e k key).1]) (EI e k key).2.2 hs.1 (by rw[hs.2.2];exact hk) (fun t ht=>by rw[ht1]at ht;obtain rfl:t'=t:=(by simpa using ht);exact ht2) (by omega) (by omega) (by simp;omega)
theorem KU {e:EG}(H:OkG e){k:Nat}(hk:k<e.2.1.length)(ha:e.2.1[k].2.2.1=1){lo hi:Int}(h0:0<=lo)(h1:lo<=hi+1)(h2:hi<=5)(ce:Bool):
 DB (k,lo,hi,GK ce e)=some ((DX k (hi-lo+1).toNat lo [] e).1,ce,(DX k (hi-lo+1).toNat lo [] e).2.2.2.2.2.2,(DX k (hi-lo+1).toNat lo [] e).2.2.1,(DX k (hi-lo+1).toNat lo [] e).2.2.2.1,(DX k (hi-lo+1).toNat lo [] e).2.2.2.2.1,(DX k (hi-lo+1).toNat lo [] e).2.2.2.2.2.1,(DX k (hi-lo+1).toNat lo [] e).2.1,()):=
 NV h2 (hi-lo+1).toNat lo [] e H hk (fun t ht=>by rw[List.getElem?_eq_getElem hk]at ht;obtain rfl:e.2.1[k]=t:=(by simpa using ht);exact ha) h0 (by omega) (by simp)
end Go.Ab
end
section
namespace Go.Ab
theorem LS {α:Type}[DecidableEq α]:∀(a b:List α),a.Nodup->(∀x∈a,x∈b)->a.length<=b.length
 |[],b,_,_=>Nat.zero_le _
 |x::a,b,hn,hs=>by
  rw[List.nodup_cons]at hn
  have hx:=hs x (List.mem_cons_self ..)
  have hlen:=(List.perm_cons_erase hx).length_eq
  have:=LS a (b.erase x) hn.2 (fun y hy=>(List.mem_erase_of_ne (fun e=>hn.1 (by rw[<-e];exact hy))).2 (hs y (List.mem_cons_of_mem _ hy)))
  simp only[List.length_cons]at hlen ⊢
  omega
theorem ZL (a b:Int):∃n:Int,Bv (a,b,())=some (n,())/\decide (n<0)=decide (a<b)/\(n==0)=(a==b):=by
 refine⟨_,X0 a b,?_,?_⟩
 ·by_cases h:a<b
  ·simp[h]
  ·by_cases h2:a>b<;>simp[h,h2]
 ·by_cases h:a<b
  ·simp[h];omega
  ·by_cases h2:a>b
   ·simp[h,h2];omega
   ·have:a=b:=by omega
    simp[this]
theorem Kt {α:Type}{f:α->Int}{l:List α}(h:EL f l)(t:Int):∀i j (hij:i<=j) (hj:j<l.length),(fun x=>decide (f x<t)) l[j]=true->(fun x=>decide (f x<t)) (l[i]'(by omega))=true:=by
 intro i j hij hj h1
 simp only[decide_eq_true_eq]at*
 by_cases e:i=j
 ·subst e;exact h1
 ·have:f l[i]<f l[j]:=List.pairwise_iff_getElem.1 h i j (by omega) hj (by omega)
  omega
def EY {α:Type}(f:α->Int)(l:List α)(t:Int):Bool:=Ey (fun x=>f x==t) (l.dropWhile fun x=>decide (f x<t))
theorem Iu {α:Type}{f:α->Int}{l:List α}{m:α}(h:EY f l (f m)=false):D8 f l m=(l.takeWhile fun x=>decide (f x<f m))++m::l.dropWhile fun x=>decide (f x<f m):=by
 unfold EY at h
 unfold D8
 cases hd:l.dropWhile fun x=>decide (f x<f m)with
 |nil=>rfl
 |cons x r=>
  rw[hd]at h
  simp only[Ey,beq_eq_false_iff_ne,ne_eq]at h
  simp only[h,if_false]
theorem JS {α:Type}{f:α->Int}{l:List α}{m:α}(h:EY f l (f m)=true):∃x,l[(l.takeWhile fun x=>decide (f x<f m)).length]?=some x/\f x=f m/\D8 f l m=l.set (l.takeWhile fun x=>decide (f x<f m)).length m:=by
 unfold EY at h
 unfold D8
 have e:l.takeWhile (fun x=>decide (f x<f m))++l.dropWhile (fun x=>decide (f x<f m))=l:=List.takeWhile_append_dropWhile
 cases hd:l.dropWhile fun x=>decide (f x<f m)with
 |nil=>rw[hd]at h;cases h
 |cons x r=>
  rw[hd]at h e
  simp only[Ey,beq_iff_eq]at h
  generalize l.takeWhile (fun x=>decide (f x<f m))=a at e ⊢
  subst e
  exact⟨x,by simp,h,by simp[h]⟩
theorem PN {α:Type}{f:α->Int}{l:List α}(hu:EL f l)(t:Int):EY f l t=true↔∃x∈l,f x=t:=by
 unfold EY
 have e:l.takeWhile (fun x=>decide (f x<t))++l.dropWhile (fun x=>decide (f x<t))=l:=List.takeWhile_append_dropWhile
 have hd:=Il hu t
 have hud:EL f (l.dropWhile fun x=>decide (f x<t)):=hu.sublist (List.dropWhile_sublist _)
 have htk:∀y∈(l.takeWhile fun x=>decide (f x<t)),f y<t:=fun y hy=>by
  have:=List.all_takeWhile (l:=l) (p:=fun x=>decide (f x<t))
  have:=List.all_eq_true.1 this y hy
  simpa using this
 have hm:∀x,x∈l↔x∈(l.takeWhile fun x=>decide (f x<t))\/x∈(l.dropWhile fun x=>decide (f x<t)):=fun x=>by rw[<-List.mem_append,e]
 cases hdw:l.dropWhile fun x=>decide (f x<t)with
 |nil=>
  rw[hdw]at hm
  simp only[Ey,Bool.false_eq_true,false_iff]
  rintro⟨x,hx,hxt⟩
  rcases(hm x).1 hx with h|h
  ·have:=htk x h;omega
  ·cases h
 |cons y r=>
  rw[hdw]at hm hud
  simp only[Ey,beq_iff_eq]
  constructor
  ·intro h;exact⟨y,(hm y).2 (.inr (List.mem_cons_self ..)),h⟩
  ·rintro⟨x,hx,hxt⟩
   rcases(hm x).1 hx with h|h
   ·have:=htk x h;omega
   ·have hy:t<=f y:=hd y (by rw[hdw];exact List.mem_cons_self ..)
    rcases List.mem_cons.1 h with rfl|h
    ·exact hxt
    ·have:=(List.pairwise_cons.1 hud).1 x h;omega
theorem NY {lk:List VM}(hl:lk.length<=1048576)(key:Int):DU (lk,key,())=some (CO lk key,()):=by
 unfold DU CO
 simp only[HD hl (some key,()) (p:=fun m=>m.1==key) (fun x _=>by simp[E9]),Option.bind_some,aV,L8]
 cases hf:lk.findIdx? (fun m=>m.1==key)with
 |none=>rfl
 |some i=>
  obtain⟨h1,_⟩:=List.findIdx?_eq_some_iff_getElem.1 hf
  simp only[Option.isNone_some,cond_false,fx,AL h1,Option.bind_some,List.getElem?_eq_getElem h1]
theorem NW {wt:List VM}(hl:wt.length<=1048576)(hv:CN (wt,())=some (true,()))(hu:EL (·.1) wt){a b:Int}(ha:inB a 1 9=true)(hb:inB b 1 9=true)(hab:a≠b):
 DQ (wt,a,b,())=some (true,D8 (·.1) wt (a,b,()),()):=by
 have hbs:AZ (wt,a,(),())=some (((wt.takeWhile fun x=>decide (x.1<a)).length:Int),EY (fun x:VM=>x.1) wt a,()):=IJ hl a (p:=fun x=>decide (x.1<a)) (q:=fun x=>x.1==a) (Kt (f:=fun x:VM=>x.1) hu a) (fun x _=>by
  obtain⟨n,e1,e2,e3⟩:=ZL x.1 a
  exact⟨n,by simp only[DR,e1,Option.bind_some],e2,e3⟩)
 have hab':(a==b)=false:=by simpa using hab
 unfold DQ
 simp only[KV hl,hv,I1,ha,hb,hab',Option.bind_some,Bool.not_true,cond_false]
 erw [hbs]
 simp only[Option.bind_some]
 cases hh:EY (fun x:VM=>x.1) wt a
 ·simp only[Bool.not_false,cond_true,Di]
  erw [Iz (by omega) _ _]
  rw[Iu (m:=(a,b,())) hh]
  rfl
 ·obtain⟨x,e1,e2,e3⟩:=JS (m:=(a,b,())) hh
  rw[e3]
  simp only[Bool.not_true,cond_false]
  have hlt:=(List.getElem?_eq_some_iff.1 e1).1
  have c:(0:Int)<=(((wt.takeWhile fun x=>decide (x.1<a)).length:Nat):Int)/\(((wt.takeWhile fun x=>decide (x.1<a)).length:Nat):Int)<((wt.length:Nat):Int):=⟨by omega,by simpa using hlt⟩
  simp only[c,and_self,if_true,Nat.zero_add,Int.toNat_natCast]
  erw [e1]
  simp only[Option.bind_some,show x.1=a from e2]
theorem WZ {lk:List VM}(hl:lk.length<=1048576)(hv:Dt (lk,())=some (true,()))(hu:EL (·.1) lk){key id:Int}(hk:inB key 0 5=true)(hi:inB id 1 9=true)(ho:CO lk key=0\/CO lk key=id)(hpos:∀m∈lk,m.2.1≠0):
 Db (lk,key,id,())=some (true,D8 (·.1) lk (key,id,()),()):=by
 have hbs:AJ (lk,key,(),())=some (((lk.takeWhile fun x=>decide (x.1<key)).length:Int),EY (fun x:VM=>x.1) lk key,()):=GX hl key (p:=fun x=>decide (x.1<key)) (q:=fun x=>x.1==key) (Kt (f:=fun x:VM=>x.1) hu key) (fun x _=>by
  obtain⟨n,e1,e2,e3⟩:=ZL x.1 key
  exact⟨n,by simp only[CD,e1,Option.bind_some],e2,e3⟩)
 unfold Db
 simp only[O5 hl,hv,I1,Jt,hk,hi,Option.bind_some,Bool.not_true,cond_false]
 erw [hbs]
 simp only[Option.bind_some]
 cases hh:EY (fun x:VM=>x.1) lk key
 ·simp only[cond_false,Dj]
  erw [Iz (by omega) _ _]
  rw[Iu (m:=(key,id,())) hh]
  rfl
 ·obtain⟨x,e1,e2,e3⟩:=JS (m:=(key,id,())) hh
  obtain⟨hlt,e4⟩:=List.getElem?_eq_some_iff.1 e1
  have hx:x∈lk:=by rw[<-e4];exact List.getElem_mem hlt
  have e2':x.1=key:=e2
  have hown:CO lk key=x.2.1:=by
   unfold CO
   cases hf:lk.find? (fun m=>m.1==key)with
   |none=>exact absurd (List.find?_eq_none.1 hf x hx) (by simp[e2'])
   |some y=>
    have h1:=List.find?_some hf
    have h2:=List.mem_of_find?_eq_some hf
    simp only[beq_iff_eq]at h1
    obtain⟨i,hi,rfl⟩:=List.getElem_of_mem h2
    obtain⟨j,hj,rfl⟩:=List.getElem_of_mem hx
    by_cases hij:i=j
    ·subst hij;rfl
    ·rcases Nat.lt_or_gt_of_ne hij with h|h
     ·have:=List.pairwise_iff_getElem.1 hu i j hi hj h;simp only at this;omega
     ·have:=List.pairwise_iff_getElem.1 hu j i hj hi h;simp only at this;omega
  have hxi:x.2.1=id:=by
   rcases ho with h|h
   ·exact absurd (hown.symm.trans h) (hpos x hx)
   ·exact hown.symm.trans h
  have hxe:x=(key,id,()):=Prod.ext e2' (Prod.ext hxi rfl)
  have hse:lk.set (lk.takeWhile fun x=>decide (x.1<key)).length (key,id,())=lk:=by
   apply List.ext_getElem?
   intro i
   rw[List.getElem?_set]
   split
   ·rename_i h
    subst h
    simp only at e1
    simp only[hlt,if_true,e1,hxe]
   ·rfl
  rw[e3]
  simp only[cond_true]
  rw[hse]
  have e5:lAt lk (((lk.takeWhile fun x=>decide (x.1<key)).length:Nat):Int)=some x:=by
   rw[AL (by simpa using hlt)]
   simpa using e4
  rw[e5]
  simp only[Option.bind_some,hxi,beq_self_eq_true]
end Go.Ab
end
section
namespace Go.Ab
theorem OkG.ltst {e:EG}(H:OkG e){key:Int}(hkey:inB key 0 5=true):∃(n:Nat) (hn:n<e.1.length) (v:VV),key=(n:Int)/\0<e.1[n].length/\e.1[n].length<=50/\e.1[n][e.1[n].length-1]?=some v/\Eg e.1 key=some v/\lAt e.1 key=some e.1[n]/\v∈e.1[n]:=by
 obtain⟨n,hn,e1,e2,e3⟩:=PK H.gd.six hkey
 have hl:=H.gd.ok _ (List.getElem_mem hn)
 obtain⟨v,hv,_⟩:=((FD _).1 hl.1).2.2
 have hne:e.1[n]≠[]:=by intro h;rw[h]at hv;cases hv
 have hpos:0<e.1[n].length:=List.length_pos_iff.2 hne
 have hv':e.1[n][e.1[n].length-1]?=some v:=by rw[<-List.getLast?_eq_getElem?];exact hv
 refine⟨n,hn,v,e1,hpos,hl.2,hv',?_,e2,List.mem_of_getElem? hv'⟩
 unfold Eg
 rw[e3];exact hv'
theorem Hn {e:EG}(H:OkG e){key:Int}(hkey:inB key 0 5=true):∃v,Cm ((e.1,()),key,())=some (some v,())/\Eg e.1 key=some v:=by
 obtain⟨n,hn,v,e1,e2,e3,e4,e5,e6,e7⟩:=H.ltst hkey
 refine⟨v,?_,e5⟩
 unfold Cm
 have h:lAt e.1[n] ((e.1[n].length:Int)-1)=some v:=by
  rw[show((e.1[n].length:Int)-1)=((e.1[n].length-1:Nat):Int) by omega,AL (by omega)]
  rw[List.getElem?_eq_getElem (by omega)]at e4;exact e4
 simp only[e6,Option.bind_some,Gd (by omega:e.1[n].length<9223372036854775808),h]
theorem Lp {e:EG}(H:OkG e){key:Int}(hkey:inB key 0 5=true):∃(n j:Nat) (l:List VV) (v:VV),Bq (key,e.1,())=some (some (n,j),e.1,())/\e.1[n]?=some l/\l[j]?=some v/\Eg e.1 key=some v:=by
 obtain⟨n,hn,v,e1,e2,e3,e4,e5,e6,e7⟩:=H.ltst hkey
 refine⟨n,e.1[n].length-1,e.1[n],v,?_,List.getElem?_eq_getElem hn,e4,e5⟩
 unfold Bq
 have c1:(0:Int)<=key/\key<(e.1.length:Int):=by omega
 have c2:(0:Int)<=(e.1[n].length:Int)-1/\(e.1[n].length:Int)-1<(e.1[n].length:Int):=by omega
 have hk:key.toNat=n:=by omega
 have hj:((e.1[n].length:Int)-1).toNat=e.1[n].length-1:=by omega
 simp only[c1,and_self,if_true,hk,Nat.zero_add,List.getElem?_eq_getElem hn,Option.bind_some,Gd (by omega:e.1[n].length<9223372036854775808),c2,hj]
theorem WQ {e:EG}(H:OkG e)(t:TX){key:Int}(hkey:inB key 0 5=true):
 CX ((e.1,()),e.2.2.1,(t.1,t.2.1,t.2.2.1,t.2.2.2.1,t.2.2.2.2.1,t.2.2.2.2.2.1,t.2.2.2.2.2.2.1,t.2.2.2.2.2.2.2.1,t.2.2.2.2.2.2.2.2.1,()),key,())=some (Eo e.1 e.2.2.1 t key,()):=by
 obtain⟨v,h1,h2⟩:=Hn H hkey
 unfold CX Eo
 simp only[NY H.small.fk,h1,h2,Option.bind_some,crV,J5,bne]
 generalize (CO e.2.2.1 key==0)=b1
 generalize (CO e.2.2.1 key==t.1)=b2
 generalize (t.2.1==1)=b3
 generalize (t.2.1==2)=b4
 generalize (t.2.1==4)=b5
 generalize decide (v.2.2.1>t.2.2.2.1)=b6
 generalize decide (v.2.2.2.1>t.2.2.2.1)=b7
 cases b1<;>cases b2<;>cases b3<;>cases b4<;>cases b5<;>cases b6<;>cases b7<;>rfl
theorem PA {l:List Int}(hl:l.length<=1048576)(y:Int):Dc (l,y,())=some (decide (y∈l),()):=by
 unfold Dc EW
 have e:=Du (B:=fun v=>BV (l,y,(l.length:Int),()) v _ some) hl (p:=fun z=>y==z) (fun i h=>by
  unfold BV
  simp only[AL h,Option.bind_some,decide_eq_true (by omega:(i:Int)<(l.length:Int)),cond_true,AB h (by omega)]
  cases y==l[i]<;>rfl) (by
  unfold BV
  simp only[Int.lt_irrefl,decide_false,cond_false])
 erw [e]
 simp only[Option.bind_some,RQ,List.findIdx?_isSome]
 congr 2
 rw[Bool.eq_iff_iff]
 simp only[List.any_eq_true,decide_eq_true_eq,beq_iff_eq]
 constructor
 ·rintro⟨x,hx,rfl⟩;exact hx
 ·intro h;exact⟨y,h,rfl⟩
theorem M6 (wt:List VM):∀(n:Nat) (out:List Int) (x:Int),out≠[]->Gt wt n out x≠[]
 |0,out,x,h=>by simpa[Gt]using h
 |n+1,out,x,h=>by
  unfold Gt
  split
  ·exact h
  ·split
   ·simp
   ·exact M6 wt n _ _ (by simp)
theorem Lc (wt:List VM):∀(n:Nat) (out:List Int) (x:Int),(Gt wt n out x).length<=out.length+n
 |0,out,x=>by simp[Gt]
 |n+1,out,x=>by
  unfold Gt
  split
  ·omega
  ·split
   ·simp
   ·rename_i y _ _
    have:=Lc wt n (out++[y]) y
    simp at this;omega
theorem ez {out:List Int}(hn:out.Nodup)(h:∀x∈out,inB x 1 9=true):out.length<=9:=by
 refine LS out [1,2,3,4,5,6,7,8,9] hn fun x hx=>?_
 have:=B8.1 (h x hx)
 simp only[List.mem_cons,List.not_mem_nil,or_false]
 omega
theorem XV {wt:List VM}(hl:wt.length<=1048576)(hw:∀m∈wt,inB m.2.1 1 9=true):∀(n:Nat) (out:List Int) (x:Int),out≠[]->out.getLast?=some x->out.Nodup->(∀y∈out,inB y 1 9=true)->10<=out.length+n->
 ((BL (fun v=>CH (wt,()) v _ some) (out,())).bind fun p=>CA p (fun p=>some ((p.1,()):List Int×Unit)) fun p=>some (p.2.1,()))=some (Gt wt n out x,()):=by
 intro n
 induction n with
 |zero=>
  intro out x h1 h2 h3 h4 h5
  have:=ez h3 h4
  omega
 |succ n ih=>
  intro out x h1 h2 h3 h4 h5
  have h9:=ez h3 h4
  have hpos:0<out.length:=List.length_pos_iff.2 h1
  have hlast:lAt out ((out.length:Int)-1)=some x:=by
   rw[show((out.length:Int)-1)=((out.length-1:Nat):Int) by omega,AL (by omega)]
   rw[List.getLast?_eq_getElem?,List.getElem?_eq_getElem (by omega)]at h2
   exact h2
  have hix:=HB hl (some out,()) (p:=fun m=>m.1==x) (fun m _=>by simp only[E8,Option.bind_some,Gd (by omega:out.length<9223372036854775808),hlast])
  rw[BH]
  simp only[CH,hix,Option.bind_some,aV]
  unfold Gt eF
  rw[L8]
  cases hf:wt.findIdx? (fun m=>m.1==x)with
  |none=>simp only[Option.isNone_none,cond_true,Option.bind_some,CA,Option.bind_none,Option.map_none]
  |some i=>
   obtain⟨hi,_⟩:=List.findIdx?_eq_some_iff_getElem.1 hf
   have hlen:(out++[wt[i].2.1]).length<=4398046511104:=by simp;omega
   simp only[Option.isNone_some,cond_false,fx,AL hi,Option.bind_some,PA (by omega:out.length<=1048576),hlen,if_true,List.getElem?_eq_getElem hi,Option.map_some]
   by_cases hm:wt[i].2.1∈out
   ·simp only[hm,decide_true,cond_true,Option.bind_some,CA,if_true]
   ·simp only[hm,decide_false,cond_false,Option.bind_some,if_false]
    refine ih (out++[wt[i].2.1]) wt[i].2.1 (by simp) (by simp) ?_ ?_ (by simp;omega)
    ·rw[List.nodup_append]
     exact⟨h3,by simp,fun a ha b hb=>by rw[List.mem_singleton.1 hb];rintro rfl;exact hm ha⟩
    ·intro y hy
     rcases List.mem_append.1 hy with h|h
     ·exact h4 y h
     ·rw[List.mem_singleton.1 h];exact hw _ (List.getElem_mem hi)
theorem X4 {wt:List VM}(h1:∀m∈wt,inB m.1 1 9=true/\inB m.2.1 1 9=true/\m.1≠m.2.1)(h2:EL (·.1) wt){a b:Int}(ha:inB a 1 9=true)(hb:inB b 1 9=true)(hab:a≠b):Mz (D8 (·.1) wt (a,b,())):=by
 refine(GY _).2 ⟨fun m hm=>?_,HY h2 _⟩
 rcases(F6 h2).1 hm with rfl|⟨h,_⟩
 ·exact⟨ha,hb,hab⟩
 ·exact h1 m h
theorem Pz {e:EG}(H:OkG e){a b:Int}(ha:inB a 1 9=true)(hb:inB b 1 9=true)(hab:a≠b):Dy (e.2.2.2.1,a,b,())=some (M3 e.2.2.2.1 a b,()):=by
 have hl:=H.wtLen
 have hw0:Mz e.2.2.2.1:=(GY _).2 ⟨H.wtA,H.wtU⟩
 have hw1:Mz (D8 (·.1) e.2.2.2.1 (a,b,())):=X4 H.wtA H.wtU ha hb hab
 have hpl:(D8 (·.1) e.2.2.2.1 (a,b,())).length<=1048576:=by have:=LK (f:=fun x:VM=>x.1) e.2.2.2.1 (a,b,());omega
 have hs:=NW (wt:=e.2.2.2.1) (by omega) ((G0 (by omega)).trans (by rw[Cd hw0])) H.wtU ha hb hab
 have hc:=XV (wt:=D8 (·.1) e.2.2.2.1 (a,b,())) hpl (fun m hm=>(((GY _).1 hw1).1 m hm).2.1) 10 [a] a (by simp) rfl (by simp) (by simpa using ha) (by simp)
 unfold Dy M3
 simp only[hs,Option.bind_some,Bool.not_true,cond_false]
 unfold Fz
 simp only[G0 hpl,Cd hw1,Bool.not_true,cond_false,I1,ha,Option.bind_some]
 erw [hc]
 simp only[Option.bind_some]
 have h1:=M6 (D8 (·.1) e.2.2.2.1 (a,b,())) 10 [a] a (by simp)
 have h2:=Lc (D8 (·.1) e.2.2.2.1 (a,b,())) 10 [a] a
 generalize Gt (D8 (·.1) e.2.2.2.1 (a,b,())) 10 [a] a=c at h1 h2 ⊢
 have hpos:0<c.length:=List.length_pos_iff.2 h1
 simp only[List.length_cons,List.length_nil]at h2
 have c1:(0:Int)<=(c.length:Int)-1/\(c.length:Int)-1<(c.length:Int):=by omega
 have hj:((c.length:Int)-1).toNat=c.length-1:=by omega
 simp only[Gd (by omega:c.length<9223372036854775808),c1,and_self,if_true,Nat.zero_add,hj,List.getLast?_eq_getElem?,List.getElem?_eq_getElem (by omega:c.length-1<c.length),Option.bind_some]
 rfl
end Go.Ab
end
section
namespace Go.Ab
theorem OkG.wrUp {e:EG}(H:OkG e){k:Nat}(hk:k<e.2.1.length):EL (·.1) e.2.1[k].2.2.2.2.2.2.2.2.1:=
 ((FN _).1 ((C2 _).1 (H.txA _ (List.getElem_mem hk)).1).2.1).2
theorem Sl {e:EG}(H:OkG e){k:Nat}(hk:k<e.2.1.length){key:Int}(hkey:inB key 0 5=true)(val:Int):
 Bj (k,key,val,e.2.1,e.1,())=some (e.2.1.set k (KH e.2.1[k] (mx e.2.1[k].2.2.2.2.1 (J5 (Eg e.1 key))) (D8 (·.1) e.2.1[k].2.2.2.2.2.2.2.2.1 (key,val,()))),e.1,()):=by
 obtain⟨n,j,l,v,h1,h2,h3,h4⟩:=Lp H hkey
 have hw:=(H.smT hk).2
 have hbs:AD (e.2.1[k].2.2.2.2.2.2.2.2.1,key,(),())=some (((e.2.1[k].2.2.2.2.2.2.2.2.1.takeWhile fun x=>decide (x.1<key)).length:Int),EY (fun x:VM=>x.1) e.2.1[k].2.2.2.2.2.2.2.2.1 key,()):=
  Gb hw key (p:=fun x=>decide (x.1<key)) (q:=fun x=>x.1==key) (Kt (f:=fun x:VM=>x.1) (H.wrUp hk) key) (fun x _=>by
   obtain⟨n,e1,e2,e3⟩:=ZL x.1 key
   exact⟨n,by simp only[C3,e1,Option.bind_some],e2,e3⟩)
 unfold Bj
 simp only[List.getElem?_eq_getElem hk,Option.bind_some,hbs,Sn hw,h1,h4,J5]
 cases hh:EY (fun x:VM=>x.1) e.2.1[k].2.2.2.2.2.2.2.2.1 key
 ·simp only[cond_false,Fg hk,Option.bind_some,D5]
  erw [Iz (by omega) _ _]
  rw[Iu (m:=(key,val,())) hh]
  simp only[Option.bind_some,Gi,Fg hk,h2,h3,List.length_set,and_self,if_true,Nat.le_refl,(by omega:8<9),KH]
 ·obtain⟨x,e1,e2,e3⟩:=JS (m:=(key,val,())) hh
  rw[e3]
  have hlt:=(List.getElem?_eq_some_iff.1 e1).1
  simp only at e1 hlt e2
  have c:(0:Int)<=(((e.2.1[k].2.2.2.2.2.2.2.2.1.takeWhile fun x=>decide (x.1<key)).length:Nat):Int)/\(((e.2.1[k].2.2.2.2.2.2.2.2.1.takeWhile fun x=>decide (x.1<key)).length:Nat):Int)<((e.2.1[k].2.2.2.2.2.2.2.2.1.length:Nat):Int):=⟨by omega,Int.ofNat_lt.2 hlt⟩
  simp only[cond_true,Fg hk,Option.bind_some,c,and_self,if_true,Nat.zero_add,Int.toNat_natCast,e1,Gi,h2,h3,e2,KH,List.length_set]
theorem S5 {s:List (List VV)}{lk:List VM}{t:TX}{key:Int}(h:Eo s lk t key=1):CO lk key≠0/\CO lk key≠t.1:=by
 unfold Eo at h
 cases h1:(CO lk key==0)
 ·cases h2:(CO lk key==t.1)
  ·exact⟨by simpa using h1,by simpa using h2⟩
  ·simp only[h1,h2,Bool.not_false,Bool.not_true,Bool.and_false,cond_false,Bool.false_or]at h
   revert h
   cases(t.2.1==2)<;>cases decide (crV (Eg s key)>t.2.2.2.1)<;>cases(t.2.1==4)<;>cases decide (J5 (Eg s key)>t.2.2.2.1)<;>simp
 ·simp only[h1,Bool.not_true,Bool.false_and,Bool.and_false,cond_false,Bool.false_or]at h
  revert h
  cases(t.2.1==2)<;>cases decide (crV (Eg s key)>t.2.2.2.1)<;>cases(t.2.1==4)<;>cases decide (J5 (Eg s key)>t.2.2.2.1)<;>simp
theorem N7 {s:List (List VV)}{lk:List VM}{t:TX}{key:Int}(h:Eo s lk t key=0)(ht:(t.2.1==1||t.2.1==2)=true):CO lk key=0\/CO lk key=t.1:=by
 unfold Eo at h
 cases h1:(CO lk key==0)
 ·cases h2:(CO lk key==t.1)
  ·exfalso
   simp only[h1,h2,Bool.not_false,Bool.and_true,Bool.true_or]at h
   revert h ht
   cases(t.2.1==1)<;>cases(t.2.1==2)<;>simp
  ·exact .inr (by simpa using h2)
 ·exact .inl (by simpa using h1)
theorem Xk {e:EG}(H:OkG e){key:Int}(h:CO e.2.2.1 key≠0):inB (CO e.2.2.1 key) 1 9=true:=by
 unfold CO at h ⊢
 cases hf:e.2.2.1.find? (fun m=>m.1==key)with
 |none=>rw[hf]at h;exact absurd rfl h
 |some m=>exact(H.lkA m (List.mem_of_find?_eq_some hf)).2
theorem OkG.idIn {e:EG}(H:OkG e){k:Nat}(hk:k<e.2.1.length):inB e.2.1[k].1 1 9=true:=((C2 _).1 (H.txA _ (List.getElem_mem hk)).1).2.2.1
theorem NT {e:EG}(H:OkG e){k:Nat}(hk:k<e.2.1.length){key:Int}(hkey:inB key 0 5=true)(val:Int)(ce:Bool):
 Df (k,key,val,GK ce e)=some ((HM e k key val).1,GK ce (HM e k key val).2):=by
 have hs:=H.small
 have hid:=H.idIn hk
 unfold Df HM GK
 simp only[List.getElem?_eq_getElem hk,Option.bind_some,WQ H _ hkey,NY hs.fk]
 cases hc:(Eo e.1 e.2.2.1 e.2.1[k] key==1)
 ·simp only[cond_false]
  cases hc0:(Eo e.1 e.2.2.1 e.2.1[k] key==0)
  ·simp only[bne,hc0,Bool.not_false,cond_true,F7 hk hs.fk hs.fw,Option.bind_some,cond_false,Hb,F5]
  ·have hc0':Eo e.1 e.2.2.1 e.2.1[k] key=0:=by simpa using hc0
   simp only[bne,hc0,Bool.not_true,cond_false,cond_true,Sl H hk hkey,Option.bind_some]
   have htl:Dz (e.2.1[k].2.1,())=some (e.2.1[k].2.1==1||e.2.1[k].2.1==2,()):=by
    unfold Dz
    cases e.2.1[k].2.1==1<;>rfl
   simp only[htl,Option.bind_some]
   cases ht:(e.2.1[k].2.1==1||e.2.1[k].2.1==2)
   ·simp only[cond_false]
   ·simp only[cond_true,WZ (lk:=e.2.2.1) hs.fk ((Kr hs.fk).trans (by rw[Cd ((KW _).2 ⟨H.lkA,H.lkU⟩)])) H.lkU hkey hid (N7 hc0' ht) (fun m hm=>by have:=B8.1 (H.lkA m hm).2;omega),Option.bind_some]
 ·have hc':Eo e.1 e.2.2.1 e.2.1[k] key=1:=by simpa using hc
  obtain⟨n0,n1⟩:=S5 hc'
  have ho:=Xk H n0
  have hab:e.2.1[k].1≠CO e.2.2.1 key:=fun h=>n1 h.symm
  simp only[cond_true,Pz H hid ho hab,Option.bind_some]
  cases M3 e.2.2.2.1 e.2.1[k].1 (CO e.2.2.1 key)
  ·simp only[cond_false,NW hs.fw ((G0 hs.fw).trans (by rw[Cd ((GY _).2 ⟨H.wtA,H.wtU⟩)])) H.wtU hid ho hab,Option.bind_some,hc']
  ·simp only[cond_true,F7 hk hs.fk hs.fw,Option.bind_some,Hb,F5]
end Go.Ab
end
section
namespace Go.Ab
abbrev tup (t:TX):TX:=(t.1,t.2.1,t.2.2.1,t.2.2.2.1,t.2.2.2.2.1,t.2.2.2.2.2.1,t.2.2.2.2.2.2.1,t.2.2.2.2.2.2.2.1,t.2.2.2.2.2.2.2.2.1,())
theorem OkG.rdIn {e:EG}(H:OkG e){k:Nat}(hk:k<e.2.1.length):Ls e.2.1[k].2.2.2.2.2.2.2.1:=((C2 _).1 (H.txA _ (List.getElem_mem hk)).1).1
theorem OkG.wrIn {e:EG}(H:OkG e){k:Nat}(hk:k<e.2.1.length):∀m∈e.2.1[k].2.2.2.2.2.2.2.2.1,inB m.1 0 5=true:=fun m hm=>
 (((FN _).1 ((C2 _).1 (H.txA _ (List.getElem_mem hk)).1).2.1).1 m hm).1
theorem WS {e:EG}(H:OkG e){k:Nat}(hk:k<e.2.1.length):CJ ((e.1,()),tup e.2.1[k],())=some (rlP e.1 e.2.1[k],()):=by
 have hsm:=H.smT hk
 have hwr:=H.wrIn hk
 unfold CJ rlP
 simp only
 generalize hr:e.2.1[k].2.2.2.2.2.2.2.1=rd at*
 generalize hw:e.2.1[k].2.2.2.2.2.2.2.2.1=wr at*
 have hr1:rd.length<=1048576:=by have:=(H.smT hk).1;rw[hr]at this;exact this
 have hw1:wr.length<=1048576:=by have:=(H.smT hk).2;rw[hw]at this;exact this
 refine Jg (l:=rd) (f:=fun n m=>mx n m.2.1) (X:=fun n=>(BL (fun v=>Bk (wr,(wr.length:Int),e.1,()) v _ some) (n,0,())).bind fun p=>some (p.1,())) 0 (fun i h n=>?_) (fun n=>⟨(n,()),?_,rfl⟩) ?_
 ·unfold BJ
  simp only[AL h,Option.bind_some]
  rw[decide_eq_true (by omega),AB h (by omega)];rfl
 ·unfold BJ
  simp only
  rw[decide_eq_false (by omega)];rfl
 ·refine Jg (l:=wr) (f:=fun n m=>mx n (J5 (Eg e.1 m.1))) (X:=fun n=>some (n,())) _ (fun i h n=>?_) (fun n=>⟨(n,()),?_,rfl⟩) rfl
  ·obtain⟨v,h1,h2⟩:=Hn H (hwr _ (List.getElem_mem h))
   unfold Bk
   simp only[AL h,Option.bind_some,h1,h2,J5]
   rw[decide_eq_true (by omega),AB h (by omega)];rfl
  ·unfold Bk
   simp only
   rw[decide_eq_false (by omega)];rfl
theorem LM {e:EG}(H:OkG e){k:Nat}(hk:k<e.2.1.length)(ha:e.2.1[k].2.2.1=1)(st:Int):CP ((e.1,()),tup e.2.1[k],st,())=some (loP e.1 e.2.1[k],hiP e.1 e.2.1[k] st,()):=by
 unfold CP
 simp only[WS H hk,WT H.small.fs H.gd.six _ (H.smT hk) (H.rdIn hk) ((H.txA _ (List.getElem_mem hk)).2.2.2 ha),Option.bind_some,loP,hiP]
theorem Py {e:EG}(H:OkG e){k:Nat}(hk:k<e.2.1.length):CQ ((e.1,()),tup e.2.1[k],())=some (Ki e.1 e.2.1[k],()):=by
 unfold CQ Ki
 have hc:∀x∈e.2.1[k].2.2.2.2.2.2.2.2.1,BZ (x,some (e.1,()),())=some ((match e.1[x.1.toNat]? with|some l=>decide (l.length>=50)|none=>false),()):=fun x hx=>by
  obtain⟨n,hn,e1,e2,e3⟩:=PK H.gd.six (H.wrIn hk x hx)
  have h50:=(H.gd.ok _ (List.getElem_mem hn)).2
  unfold BZ
  simp only[Option.bind_some,e2,e3]
  congr 2
  rw[Bool.eq_iff_iff,beq_iff_eq,decide_eq_true_eq];omega
 simp only[GI (H.smT hk).2 (some (e.1,()),()) hc,Option.bind_some]<;>rfl
theorem WW {e:EG}(H:OkG e){k:Nat}(hk:k<e.2.1.length):CK ((e.1,()),tup e.2.1[k],())=some (K4 e.1 e.2.1[k],()):=by
 unfold CK K4
 have hc:∀x∈e.2.1[k].2.2.2.2.2.2.2.2.1,Bz (x,some (e.1,()),some (tup e.2.1[k]),())=some (decide (crV (Eg e.1 x.1)>e.2.1[k].2.2.2.1),()):=fun x hx=>by
  obtain⟨v,h1,h2⟩:=Hn H (H.wrIn hk x hx)
  unfold Bz
  simp only[Option.bind_some,h1,h2,crV]
 simp only[G1 (H.smT hk).2 (some (e.1,()),some (tup e.2.1[k]),()) hc,Option.bind_some]
 cases e.2.1[k].2.2.2.2.2.2.2.2.1.any fun x=>decide (crV (Eg e.1 x.1)>e.2.1[k].2.2.2.1)<;>cases e.2.1[k].2.1==2<;>cases e.2.1[k].2.1==4<;>rfl
theorem Zi {s:List (List VV)}{n:Nat}(h:stOK s n)(hn:n<=1000){m:VM}(hm:inB m.1 0 5=true)(hx:FT s m)(st:Int):
 ∃(a j:Nat) (l:List VV) (v:VV),DI (m.1,m.2.1,s,())=some (some (a,j),s,())/\s[a]?=some l/\l[j]?=some v/\Hf st s m=s.set a (l.set j (Ko st v)):=by
 obtain⟨k,hk,hlt,l,e1,e2,e3,hl⟩:=Lb h.1 hm
 obtain⟨l',j,x1,x2⟩:=hx
 rw[e3]at x1;obtain rfl:l=l':=(by simpa using x1)
 have hj:=PO x2
 have hsm:=(h.small hn).2 _ hl
 refine⟨k,j,l,l[j],?_,e1,List.getElem?_eq_getElem hj,?_⟩
 ·unfold DI
  have c1:(0:Int)<=m.1/\m.1<(s.length:Int):=by omega
  have hkn:m.1.toNat=k:=by omega
  have hjlt:¬((j:Int)<0):=by omega
  have c2:(0:Int)<=(j:Int)/\(j:Int)<(l.length:Int):=by omega
  simp only[c1,and_self,if_true,hkn,Nat.zero_add,e1,Option.bind_some,O0 hsm,x2,fx,decide_eq_false hjlt,cond_false,c2,Int.toNat_natCast]
 ·unfold Hf
  have hkn:m.1.toNat=k:=by omega
  simp only[e3,x2,List.getElem?_eq_getElem hj,hkn]
theorem cQ {s:List (List VV)}{n:Nat}(h:stOK s n)(hn:n<=1000){m:VM}(hm:inB m.1 0 5=true):
 ∃(a:Nat) (l:List VV) (v:VV),m.1=(a:Int)/\a<s.length/\Bq (m.1,s,())=some (some (a,l.length-1),s,())/\s[a]?=some l/\l[l.length-1]?=some v/\l.length<=50+n/\EZ s m=some l:=by
 obtain⟨k,hk,hlt,l,e1,e2,e3,hl⟩:=Lb h.1 hm
 have h5:=h.2 l hl
 refine⟨k,l,l[l.length-1],hk,hlt,?_,e1,List.getElem?_eq_getElem (by omega),h5.2,e3⟩
 unfold Bq
 have c1:(0:Int)<=m.1/\m.1<(s.length:Int):=by omega
 have c2:(0:Int)<=(l.length:Int)-1/\(l.length:Int)-1<(l.length:Int):=by omega
 have hkn:m.1.toNat=k:=by omega
 have hj:((l.length:Int)-1).toNat=l.length-1:=by omega
 simp only[c1,and_self,if_true,hkn,Nat.zero_add,e1,Option.bind_some,Gd (by omega:l.length<9223372036854775808),c2,hj]
theorem Lq {e:EG}(H:OkG e){k:Nat}(hk:k<e.2.1.length)(ha:e.2.1[k].2.2.1=1)(st:Int)(ce:Bool)(st':Int):
 Cu (k,st,ce,st',e.1,e.2.1,e.2.2.1,e.2.2.2.1,())=some (ce,st',IQ e.1 e.2.1[k] st (hiP e.1 e.2.1[k] st),e.2.1.set k (GT e.2.1[k] (loP e.1 e.2.1[k]) (hiP e.1 e.2.1[k] st) st),e.2.2.1,e.2.2.2.1,()):=by
 have hsm:=H.smT hk
 have hwr:=H.wrIn hk
 have hrd:=H.rdIn hk
 have hx:=(H.txA _ (List.getElem_mem hk)).2.2.2 ha
 have hwl:=O7 ((C2 _).1 (H.txA _ (List.getElem_mem hk)).1).2.1
 unfold Cu IQ
 simp only[List.getElem?_eq_getElem hk,Option.bind_some,LM H hk ha,Fg hk,Gi,List.length_set,ge_iff_le,GT]
 generalize loP e.1 e.2.1[k]=lo
 generalize hiP e.1 e.2.1[k] st=hi
 have hk':∀t:TX,k<(e.2.1.set k t).length:=fun t=>by simpa using hk
 obtain⟨f1,f2⟩:=L6 (l:=e.2.1[k].2.2.2.2.2.2.2.1) (f:=Hf st) (Inv:=fun s i=>stOK s 0/\∀m∈e.2.1[k].2.2.2.2.2.2.2.1,FT s m) (n0:=e.1)
  (B:=fun v=>BC (k,st,k,(e.2.1[k].2.2.2.2.2.2.2.1.length:Int),ce,st',e.2.1.set k (e.2.1[k].1,e.2.1[k].2.1,2,e.2.1[k].2.2.2.1,lo,hi,st,e.2.1[k].2.2.2.2.2.2.2.1,e.2.1[k].2.2.2.2.2.2.2.2.1,()),e.2.2.1,e.2.2.2.1,()) v _ some)
  (fun i h s hI=>by
    obtain⟨_,hm,_⟩:=hrd i h
    obtain⟨a,j,l,v,h1,h2,h3,h4⟩:=Zi hI.1 (by omega) hm (hI.2 _ (List.getElem_mem h)) st
    have c:(0:Int)<=(i:Int)/\(i:Int)<(e.2.1[k].2.2.2.2.2.2.2.1.length:Int):=by omega
    unfold BC
    simp only[decide_eq_true c.2,decide_true,cond_true,Fg hk,Option.bind_some,c,and_self,if_true,Nat.zero_add,Int.toNat_natCast,List.getElem?_eq_getElem h,h1,h2,h3,AB h (by have:=hsm.1;omega),h4,Ko])
  (fun i h s hI=>⟨Sd st hI.1,fun m hm=>M2 st (hI.2 m hm)⟩)
  ⟨H.st.stOK,hx⟩
  (fun s=>by
    unfold BC
    simp only[Int.lt_irrefl,decide_false,cond_false])
 erw [f1]
 simp only[Option.bind_some,Fg hk]
 obtain⟨g1,g2⟩:=L6 (l:=e.2.1[k].2.2.2.2.2.2.2.2.1) (f:=IW st e.2.1[k].1 hi) (Inv:=fun s i=>stOK s i) (n0:=e.2.1[k].2.2.2.2.2.2.2.1.foldl (Hf st) e.1)
  (B:=fun v=>BB (k,st,k,(e.2.1[k].2.2.2.2.2.2.2.2.1.length:Int),ce,st',e.2.1.set k (e.2.1[k].1,e.2.1[k].2.1,2,e.2.1[k].2.2.2.1,lo,hi,st,e.2.1[k].2.2.2.2.2.2.2.1,e.2.1[k].2.2.2.2.2.2.2.2.1,()),e.2.2.1,e.2.2.2.1,()) v _ some)
  (fun i h s hI=>by
    obtain⟨a,l,v,h0,h5,h1,h2,h3,h4,h6⟩:=cQ hI (by omega) (hwr _ (List.getElem_mem h))
    have c:(0:Int)<=(i:Int)/\(i:Int)<(e.2.1[k].2.2.2.2.2.2.2.2.1.length:Int):=by omega
    have c3:(0:Int)<=(a:Int)/\(a:Int)<(s.length:Int):=by omega
    have c4:l.length+1<=879609302220:=by omega
    rw[h0]at h1
    unfold BB IW
    simp only[decide_eq_true c.2,decide_true,cond_true,Fg hk,Option.bind_some,c,and_self,if_true,Nat.zero_add,Int.toNat_natCast,List.getElem?_eq_getElem h,h0,h1,h2,h3,h6,AB h (by have:=hsm.2;omega),S9,List.length_set,c3.1,c3.2,true_and,Fg h5,Gi,List.length_append,List.length_cons,List.length_nil,c4,Nat.le_refl,Nat.zero_lt_one])
  (fun i h s hI=>Sc st _ hi hI)
  f2.1
  (fun s=>by
    unfold BB
    simp only[Int.lt_irrefl,decide_false,cond_false])
 erw [g1]
 rfl
end Go.Ab
end
section
namespace Go.Ab
theorem Mx {e:EG}(H:OkG e){k:Nat}(hk:k<e.2.1.length)(ha:e.2.1[k].2.2.1=1)(ce:Bool):
 CZ (k,GK ce e)=some ((GE ce e k).1,GK ce (GE ce e k).2):=by
 have hs:=H.small
 have hst0:=H.stamp0
 have hst1:=H.stamp
 have hkset:∀t,k<(e.2.1.set k t).length:=fun t=>by simpa using hk
 unfold CZ GE GK
 simp only[List.getElem?_eq_getElem hk,Option.bind_some,WW H hk,bne]
 cases hc:(K4 e.1 e.2.1[k]==0)
 ·simp only[Bool.not_false,cond_true,F7 hk hs.fk hs.fw,Option.bind_some,Hb,F5]
 ·simp only[Bool.not_true,cond_false]
  cases h9:(e.2.2.2.2==999)
  ·have hw:IntKind.i64.wrap (e.2.2.2.2+1)=e.2.2.2.2+1:=CU (by omega) (by omega)
   simp only[cond_false,hw,LM H hk ha,Option.bind_some,Py H hk,Lq H hk ha,F7 hk hs.fk hs.fw,LN (hkset _) hs.fk hs.fw]
   cases ce
   ·simp only[cond_false,Bool.false_and,Bool.false_or]
    cases Ki e.1 e.2.1[k]
    ·simp[Hb,GT]
    ·simp only[cond_true,Hb,F5,Option.bind_some]
   ·simp only[cond_true,Bool.true_and]
    cases decide (loP e.1 e.2.1[k]>=hiP e.1 e.2.1[k] (e.2.2.2.2+1))
    ·simp only[cond_false,Bool.false_or]
     cases Ki e.1 e.2.1[k]
     ·simp[Hb,GT]
     ·simp only[cond_true,Hb,F5,Option.bind_some]
    ·simp only[cond_true,Bool.true_or,Hb,F5,Option.bind_some]
  ·simp only[cond_true]
theorem Xa {id sc st:Int}(hid:inB id 1 9=true)(hsc:inB sc 1 4=true)(hst:inB st 0 999=true):Lr (Kf id sc st)=true:=by
 rw[C2]
 refine⟨fun i hi=>absurd hi (Nat.not_lt_zero _),fun i hi=>absurd hi (Nat.not_lt_zero _),hid,hsc,hst,by show inB 1 1 3=true;decide,by show inB 0 0 999=true;decide,by show inB 1000 1 1000=true;decide,?_,by show inB 0 0 999=true;decide,Nat.zero_le _⟩
 show(1:Int)=2↔(0:Int)>0
 omega
theorem XR {e:EG}(H:OkG e)(id:Int):(e.2.1.any fun t=>t.1==id)=EY (fun t:TX=>t.1) e.2.1 id:=by
 rw[Bool.eq_iff_iff,PN H.txU,List.any_eq_true]
 simp only[beq_iff_eq]
theorem O3 {e:EG}(H:OkG e){id sc:Int}(hid:inB id 1 9=true)(hsc:inB sc 1 4=true)(a b c d:Int)(ce:Bool):
 Dg (a,id,sc,b,c,d,GK ce e)=some ((Gv e id sc).1,ce,(Gv e id sc).2.2.2.2.2,(Gv e id sc).2.1,(Gv e id sc).2.2.2.1,(Gv e id sc).2.2.2.2.1,(Gv e id sc).2.2.1,()):=by
 have hs:=H.small
 have hst:inB e.2.2.2.2 0 999=true:=B8.2 ⟨H.stamp0,H.stamp⟩
 have hT:okT id sc 1 e.2.2.2.2 0 1000 0 [] []=true:=Xa hid hsc hst
 have hbs:AH (e.2.1,id,(),())=some (((e.2.1.takeWhile fun x=>decide (x.1<id)).length:Int),EY (fun x:TX=>x.1) e.2.1 id,()):=
  GJ hs.fl id (p:=fun x=>decide (x.1<id)) (q:=fun x=>x.1==id) (Kt (f:=fun x:TX=>x.1) H.txU id) (fun x _=>by
   obtain⟨n,e1,e2,e3⟩:=ZL x.1 id
   exact⟨n,by simp only[Cv,e1,Option.bind_some],e2,e3⟩)
 have h6:((e.2.1.length:Int)==6)=(e.2.1.length==6):=by rw[Bool.eq_iff_iff,beq_iff_eq,beq_iff_eq];omega
 unfold Dg Gv GK
 simp only[hbs,Option.bind_some,XR H,h6]
 cases hh:EY (fun x:TX=>x.1) e.2.1 id
 ·simp only[cond_false,Bool.false_or]
  cases h7:(e.2.1.length==6)
  ·have hn:Dd (id,sc,e.2.2.2.2,())=some (id,sc,1,e.2.2.2.2,0,1000,0,true,()):=by
    unfold Dd
    simp only[Zg (rd:=[]) (wr:=[]) (Nat.zero_le _) (Nat.zero_le _),hT,Option.bind_some,Bool.not_true,cond_false]
   simp only[cond_false,hn,Option.bind_some,Ch]
   erw [Iz (by have:=hs.fl;omega) _ _]
   rw[Iu (m:=Kf id sc e.2.2.2.2) hh]
   rfl
  ·simp only[cond_true]
 ·simp only[cond_true,Bool.true_or]
theorem dF {e:EG}(H:OkG e)(id:Int):(Fs e.2.1 id=true/\∃(k:Nat) (hk:k<e.2.1.length),e.2.1.findIdx? (fun t=>t.1==id)=some k/\e.2.1[k].2.2.1=1/\e.2.1[k].1=id)\/Fs e.2.1 id=false:=by
 cases h:Fs e.2.1 id with
 |false=>exact .inr rfl
 |true=>
  left
  refine⟨rfl,?_⟩
  obtain⟨t,ht,h1,h2⟩:=(Gw H.txU id).1 h
  obtain⟨k,hk,rfl⟩:=List.getElem_of_mem ht
  exact⟨k,hk,by rw[<-h1];exact RS H.txU hk,h2,h1⟩
def PE (ce:Bool)(r:Int×List Int×EG):Int×Bool×Int×List (List VV)×List TX×List VM×List VM×List Int×Unit:=
 (r.1,ce,r.2.2.2.2.2.2,r.2.2.1,r.2.2.2.1,r.2.2.2.2.1,r.2.2.2.2.2.1,r.2.1,())
theorem O8 (o:OPt):Ju o=true↔inB o.1 1 6=true/\inB o.2.1 1 9=true/\(bif o.1==1 then inB o.2.2.1 1 4 else o.2.2.1==0)=true/\(bif o.1==2||o.1==3||o.1==4 then inB o.2.2.2.1 0 5 else o.2.2.2.1==0)=true/\(bif o.1==4 then inB o.2.2.2.2.1 o.2.2.2.1 5 else o.2.2.2.2.1==0)=true/\(bif o.1==3 then inB o.2.2.2.2.2.1 (-1) 99 else o.2.2.2.2.2.1==0)=true:=by
 unfold Ju
 simp only[Bool.and_eq_true,and_assoc]
theorem Pv {e:EG}(H:OkG e){o:OPt}(ho:Ju o=true)(ce:Bool):
 DA (o.1,o.2.1,o.2.2.1,o.2.2.2.1,o.2.2.2.2.1,o.2.2.2.2.2.1,GK ce e)=some (PE ce (Jl ce e o)):=by
 have hs:=H.small
 obtain⟨o1,o2,o3,o4,o5,o6⟩:=(O8 o).1 ho
 unfold DA Jl
 cases h1:(o.1==1)
 ·simp only[cond_false]
  have hact:=dF H o.2.1
  rcases hact with⟨ha,k,hk,hf,h2,h3⟩|ha
  ·have hw:=H.wake o.2.1
   have hc:(0:Int)<=(k:Int)/\(k:Int)<(e.2.1.length:Int):=by omega
   have hwk:=Pu (l:=e.2.2.2.1) hs.fw o
   simp only[GK,LO hs.fl,ha,Bool.not_true,cond_false,cond_true,O1 hs.fl,hf,fx,Option.bind_some,hc,and_self,if_true,KV hs.fw,Nat.zero_add,Int.toNat_natCast]
   erw [hwk]
   simp only[Option.bind_some]
   have hE:∀{e':EG},(ce,e'.2.2.2.2,e'.1,e'.2.1,e'.2.2.1,e'.2.2.2.1,())=GK ce e':=rfl
   have kR:=KU hw (k:=k) hk h2 (lo:=o.2.2.2.1) (hi:=o.2.2.2.1) (ce:=ce)
   have kS:=KU hw (k:=k) hk h2 (lo:=o.2.2.2.1) (hi:=o.2.2.2.2.1) (ce:=ce)
   have kW:=fun h=>NT hw (k:=k) hk (key:=o.2.2.2.1) h o.2.2.2.2.2.1 ce
   have kC:=Mx hw (k:=k) hk h2 ce
   simp only[GK]at kR kS kW kC
   cases h4:(o.1==2)
   ·simp only[cond_false]
    cases h5:(o.1==4)
    ·simp only[cond_false]
     cases h6:(o.1==3)
     ·simp only[cond_false]
      cases h7:(o.1==5)
      ·simp only[cond_false,F7 (wt:=wkW e.2.2.2.1 o.2.1) hk hs.fk hw.small.fw,Option.bind_some,List.getElem?_eq_getElem hk,PE,Hb,F5]
      ·simp only[cond_true]
       erw [kC]
       simp only[Option.bind_some,PE]
     ·simp only[h6,Bool.or_true,Bool.true_or,cond_true]at o4
      simp only[cond_true]
      erw [kW o4]
      simp only[Option.bind_some,PE]
    ·simp only[h5,Bool.or_true,cond_true]at o4 o5
     rw[B8]at o4 o5
     simp only[cond_true]
     erw [kS o4.1 (by omega) o5.2]
     simp only[Option.bind_some,PE]
   ·simp only[h4,Bool.true_or,cond_true]at o4
    rw[B8]at o4
    simp only[cond_true]
    erw [kR o4.1 (by omega) o4.2]
    have hn:(o.2.2.2.1-o.2.2.2.1+1).toNat=1:=by omega
    simp only[Option.bind_some,PE,hn]
  ·simp only[GK,LO hs.fl,ha,Bool.not_false,cond_true,Option.bind_some,cond_false]
   cases e.2.1.findIdx? fun t=>t.1==o.2.1<;>rfl
 ·simp only[h1,cond_true]at o3
  simp only[cond_true,GK]
  have hb:=O3 H o2 o3 o.1 o.2.2.2.1 o.2.2.2.2.1 o.2.2.2.2.2.1 ce
  simp only[GK]at hb
  rw[hb]
  rfl
end Go.Ab
end
section
namespace Go.Ab
theorem ew (a:Int):a=1\/a=2\/a=3\/a=4\/a=5\/a=6\/((a==1)=false/\(a==2)=false/\(a==3)=false/\(a==4)=false/\(a==5)=false/\(a==6)=false/\inB a 1 6=false):=by
 by_cases h1:a=1
 ·exact .inl h1
 by_cases h2:a=2
 ·exact .inr (.inl h2)
 by_cases h3:a=3
 ·exact .inr (.inr (.inl h3))
 by_cases h4:a=4
 ·exact .inr (.inr (.inr (.inl h4)))
 by_cases h5:a=5
 ·exact .inr (.inr (.inr (.inr (.inl h5))))
 by_cases h6:a=6
 ·exact .inr (.inr (.inr (.inr (.inr (.inl h6)))))
 refine .inr (.inr (.inr (.inr (.inr (.inr ⟨by simpa using h1,by simpa using h2,by simpa using h3,by simpa using h4,by simpa using h5,by simpa using h6,?_⟩)))))
 cases h:inB a 1 6 with
 |false=>rfl
 |true=>have:=B8.1 h;omega
theorem Pt (x:Int):Ds (x,())=some (inB x 1 4,()):=by simp[Ds,FM]
theorem WU (o:OPt):ED (o,())=some (Ju o,()):=by
 obtain⟨a,b,c,d,f,g,u⟩:=o
 unfold ED Ju
 simp only[Pt,FM,I1,Jt,JU,Option.bind_some]
 generalize hb:inB b 1 9=b'
 generalize hd:inB d 0 5=d'
 generalize hg:inB g (-1) 99=g'
 generalize hf:inB f d 5=f'
 generalize hc:inB c 1 4=c'
 generalize (c==0)=c0
 generalize (d==0)=d0
 generalize (f==0)=f0
 generalize (g==0)=g0
 rcases ew a with rfl|rfl|rfl|rfl|rfl|rfl|⟨h1,h2,h3,h4,h5,h6,h7⟩
 ·simp only[show inB 1 1 6=true from rfl,show((1:Int)==1)=true from rfl,show((1:Int)==2)=false from rfl,show((1:Int)==3)=false from rfl,show((1:Int)==4)=false from rfl,cond_true,cond_false,Bool.or_false]
  cases b'<;>cases c'<;>cases d0<;>cases f0<;>cases g0<;>rfl
 ·simp only[show inB 2 1 6=true from rfl,show((2:Int)==1)=false from rfl,show((2:Int)==2)=true from rfl,show((2:Int)==3)=false from rfl,show((2:Int)==4)=false from rfl,cond_true,cond_false,Bool.or_false]
  cases b'<;>cases c0<;>cases d'<;>cases f0<;>cases g0<;>rfl
 ·simp only[show inB 3 1 6=true from rfl,show((3:Int)==1)=false from rfl,show((3:Int)==2)=false from rfl,show((3:Int)==3)=true from rfl,show((3:Int)==4)=false from rfl,cond_true,cond_false,Bool.or_false]
  cases b'<;>cases c0<;>cases d'<;>cases f0<;>cases g'<;>rfl
 ·simp only[show inB 4 1 6=true from rfl,show((4:Int)==1)=false from rfl,show((4:Int)==2)=false from rfl,show((4:Int)==3)=false from rfl,show((4:Int)==4)=true from rfl,cond_true,cond_false,Bool.or_false]
  cases b'<;>cases c0<;>cases d'<;>cases f'<;>cases g0<;>rfl
 ·simp only[show inB 5 1 6=true from rfl,show((5:Int)==1)=false from rfl,show((5:Int)==2)=false from rfl,show((5:Int)==3)=false from rfl,show((5:Int)==4)=false from rfl,cond_true,cond_false,Bool.or_false]
  cases b'<;>cases c0<;>cases d0<;>cases f0<;>cases g0<;>rfl
 ·simp only[show inB 6 1 6=true from rfl,show((6:Int)==1)=false from rfl,show((6:Int)==2)=false from rfl,show((6:Int)==3)=false from rfl,show((6:Int)==4)=false from rfl,cond_true,cond_false,Bool.or_false]
  cases b'<;>cases c0<;>cases d0<;>cases f0<;>cases g0<;>rfl
 ·simp only[h1,h2,h3,h4,h7,cond_true,cond_false,Bool.false_and]
end Go.Ab
end
section
namespace Go.Ab
end Go.Ab
end
section
namespace Go.Ab
end Go.Ab
end
section
namespace Go.Ab
end Go.Ab
end
section
namespace Go.Ab
end Go.Ab
end
section
namespace Go.Ab
end Go.Ab
end
section
namespace Go.Ab
end Go.Ab
end
section
namespace Go.Ab
theorem JP (k:Nat):∀(n:Nat) (key:Int) (out:List Int) (e:EG),(DX k n key out e).2.1.length<=out.length+n
 |0,key,out,e=>by simp[DX]
 |n+1,key,out,e=>by
  simp only[DX]
  cases(EI e k key).2.1==0
  ·simp only[cond_false,List.length_nil];omega
  ·simp only[cond_true]
   have:=JP k n (key+1) (out++[(EI e k key).1]) (EI e k key).2.2
   simp only[List.length_append,List.length_cons,List.length_nil]at this
   omega
theorem Sb (ce:Bool)(e:EG){o:OPt}(ho:Ju o=true):(Jl ce e o).2.1.length<=6:=by
 obtain⟨o1,o2,o3,o4,o5,o6⟩:=(O8 o).1 ho
 unfold Jl
 cases h1:o.1==1
 ·simp only[cond_false]
  cases e.2.1.findIdx? fun t=>t.1==o.2.1 with
  |none=>simp
  |some k=>
   simp only
   cases Fs e.2.1 o.2.1
   ·simp
   ·simp only[cond_true]
    cases h2:o.1==2
    ·simp only[cond_false]
     cases h4:o.1==4
     ·simp only[cond_false]
      cases o.1==3
      ·simp only[cond_false]
       cases o.1==5
       ·simp only[cond_false]
        cases e.2.1[k]?<;>simp
       ·simp
      ·simp
     ·simp only[cond_true]
      simp only[h4,Bool.or_true,cond_true]at o4 o5
      rw[B8]at o4 o5
      have:=JP k (o.2.2.2.2.1-o.2.2.2.1+1).toNat o.2.2.2.1 [] (e.1,e.2.1,e.2.2.1,wkW e.2.2.2.1 o.2.1,e.2.2.2.2)
      simp only[List.length_nil]at this
      omega
    ·simp only[cond_true]
     have:=JP k 1 o.2.2.2.1 [] (e.1,e.2.1,e.2.2.1,wkW e.2.2.2.1 o.2.1,e.2.2.2.2)
     simp only[List.length_nil]at this
     omega
 ·simp
noncomputable def seP (ce:Bool)(e:EG)(o:OPt):Int×List Int×EG:=bif okE e.1 e.2.1 e.2.2.1 e.2.2.2.1 e.2.2.2.2&&Ju o then Jl ce e o else(6,[],e)
end Go.Ab
end
section
namespace Go.Ab
end Go.Ab
end
section
namespace Go.Ab
abbrev STp:=Int×List Int×Unit
end Go.Ab
end
section
namespace Go.Ab
def Zl:List (List VV):=List.replicate 6 [(0,-1,0,0,1000,())]
theorem cP:ES ()=some (Zl,()):=by
 unfold ES
 refine L0 6 (fun j=>((j:Int),List.replicate j [(0,-1,0,0,1000,())],())) rfl (fun j hj=>?_) ⟨(Zl,()),?_,rfl⟩
 ·unfold DT
  simp only[List.length_append,List.length_replicate,List.length_cons,List.length_nil]
  rw[decide_eq_true (by omega),if_pos (by omega),wr1 (by omega) (by omega),<-List.replicate_succ']
  rfl
 ·rfl
def cV:EG:=(Zl,[],[],[],0)
theorem Zk:OkG cV:=by
 have h1:Ks [((0,-1,0,0,1000,()):VV)]:=(FD _).2 ⟨fun v hv=>by rw[List.mem_singleton]at hv;subst hv;rfl,List.pairwise_singleton _ _,_,rfl,rfl⟩
 refine⟨⟨rfl,fun l hl=>?_⟩,by decide,by decide,?_,List.Pairwise.nil,?_,List.Pairwise.nil,?_,List.Pairwise.nil,by decide,?_,?_⟩
 ·have:l=[((0,-1,0,0,1000,()):VV)]:=List.eq_of_mem_replicate hl
  subst this
  exact⟨h1,by decide⟩
 all_goals intro m hm;cases hm
theorem Px (ce:Bool):EC (ce,())=some (ce,0,Zl,()):=by
 unfold EC
 rw[cP];rfl
theorem OkG.se {e:EG}(H:OkG e)(ce:Bool)(o:OPt):OkG (seP ce e o).2.2/\(seP ce e o).2.1.length<=6:=by
 unfold seP
 rw[(MC e).2 H]
 cases ho:Ju o
 ·exact⟨H,by simp⟩
 ·exact⟨H.step ce ho,Sb ce e ho⟩
noncomputable def roF (ce:Bool)(r:EG×List STp)(o:OPt):EG×List STp:=((seP ce r.1 o).2.2,r.2++[((seP ce r.1 o).1,(seP ce r.1 o).2.1,())])
noncomputable def roG (ce:Bool)(l:List OPt)(i:Nat):EG×List STp:=(l.take i).foldl (roF ce) (cV,[])
theorem KL (ce:Bool){l:List OPt}{i:Nat}(h:i<l.length):roG ce l (i+1)=roF ce (roG ce l i) l[i]:=by
 unfold roG
 rw[<-List.take_append_getElem h,List.foldl_append];rfl
theorem OL (ce:Bool)(l:List OPt):∀i,i<=l.length->OkG (roG ce l i).1/\(roG ce l i).2.length=i/\∀s∈(roG ce l i).2,s.2.1.length<=6:=by
 intro i
 induction i with
 |zero=>intro _;exact⟨Zk,rfl,fun s hs=>by simp[roG]at hs⟩
 |succ i ih=>
  intro h
  obtain⟨h1,h2,h3⟩:=ih (by omega)
  rw[KL ce h]
  have hs:=h1.se ce l[i]
  refine⟨hs.1,?_,?_⟩
  ·simp[roF,h2]
  ·intro s hm
   simp only[roF,List.mem_append,List.mem_singleton]at hm
   rcases hm with hm|rfl
   ·exact h3 s hm
   ·exact hs.2
theorem Sf {α:Type}{l:List α}{n:Nat}(h:n<=l.length):T2 l 0 (n:Int)=some (l.take n):=by
 unfold T2
 rw[if_pos (by omega)];simp
theorem WR (ce:Bool){l:List OPt}(hl:l.length<=1048576):
 FF (ce,l,())=some (ce,(roG ce l (min l.length 100)).1.2.2.2.2,(roG ce l (min l.length 100)).1.1,(roG ce l (min l.length 100)).1.2.1,(roG ce l (min l.length 100)).1.2.2.1,(roG ce l (min l.length 100)).1.2.2.2.1,(roG ce l (min l.length 100)).2,()):=by
 unfold FF
 have hmn:mn (l.length:Int) 100=((min l.length 100:Nat):Int):=by unfold mn;split<;>omega
 have hsl:=Sf (l:=l) (n:=min l.length 100) (by omega)
 simp only[Px,Option.bind_some,hmn]
 erw [hsl]
 simp only[Option.bind_some]
 have hn1:min l.length 100<=l.length:=by omega
 have hn2:min l.length 100<=100:=by omega
 generalize min l.length 100=n at hn1 hn2
 have hlen:(l.take n).length=n:=by simp;omega
 refine L0 n (fun i=>((i:Int),ce,(roG ce l i).1.2.2.2.2,(roG ce l i).1.1,(roG ce l i).2,(roG ce l i).1.2.1,(roG ce l i).1.2.2.1,(roG ce l i).1.2.2.2.1,())) rfl (fun i hi=>?_) ⟨(ce,(roG ce l n).1.2.2.2.2,(roG ce l n).1.1,(roG ce l n).2,(roG ce l n).1.2.1,(roG ce l n).1.2.2.1,(roG ce l n).1.2.2.2.1,()),?_,rfl⟩
 ·have h:i<l.length:=by omega
  obtain⟨k1,k2,k3⟩:=OL ce l i (by omega)
  have hop:=WU l[i]
  have hg:lAt (l.take n) (i:Int)=some l[i]:=by
   rw[AL (by omega)];simp
  unfold DS
  rw[KL ce h]
  simp only[hlen]
  erw [hg]
  simp only[Option.bind_some]
  rw[decide_eq_true (by omega),AB h (by omega)]
  simp only[cond_true]
  erw [hop]
  simp only[Option.bind_some]
  cases ho:Ju l[i]
  ·simp only[cond_false]
   rw[if_pos (by simp[k2];omega)]
   simp only[roF,seP,ho,Bool.and_false,cond_false]
  ·have hst:=Pv k1 ho ce
   simp only[GK]at hst
   simp only[cond_true]
   erw [hst]
   simp only[Option.bind_some,PE]
   rw[if_pos (by simp[k2];omega)]
   simp only[roF,seP,ho,(MC _).2 k1,Bool.and_self,cond_true]
 ·unfold DS
  simp only[hlen]
  rw[decide_eq_false (by omega)];rfl
end Go.Ab
end
section
namespace Go.Ab
def rdM (rd:List VM)(k:Nat)(c:Int):Bool:=rd.any fun m=>m.1.toNat==k&&m.2.1==c
def fR (rd:List VM)(st:Int)(k:Nat)(v:VV):VV:=bif rdM rd k v.2.2.1 then Ko st v else v
theorem Jq {rd:List VM}{k:Nat}{c:Int}:rdM rd k c=true↔∃m∈rd,m.1.toNat=k/\m.2.1=c:=by
 unfold rdM
 simp only[List.any_eq_true,Bool.and_eq_true,beq_iff_eq]
theorem IT (rd:List VM)(st:Int)(k:Nat)(v:VV):(fR rd st k v).2.2.1=v.2.2.1/\(fR rd st k v).2.2.2.2.1=v.2.2.2.2.1:=by
 unfold fR
 cases rdM rd k v.2.2.1<;>exact⟨rfl,rfl⟩
theorem cW (a st:Int):mx (mx a st) st=mx a st:=by unfold mx;split<;>(try split)<;>omega
theorem ZG (m:VM)(rd:List VM)(st:Int)(k:Nat)(v:VV):fR rd st k (fR [m] st k v)=fR (m::rd) st k v:=by
 have e:rdM (m::rd) k v.2.2.1=(rdM [m] k v.2.2.1||rdM rd k v.2.2.1):=by simp[rdM]
 have h1:=(IT [m] st k v).1
 unfold fR at h1 ⊢
 rw[h1,e]
 cases rdM [m] k v.2.2.1
 ·rfl
 ·cases rdM rd k v.2.2.1
  ·rfl
  ·simp only[cond_true,Bool.true_or]
   unfold Ko
   simp only[cW]
theorem RT {m:VM}{st:Int}{k:Nat}{l:List VV}(h:∀v∈l,¬(m.1.toNat=k/\m.2.1=v.2.2.1)):l.map (fR [m] st k)=l:=by
 have:∀v∈l,fR [m] st k v=id v:=fun v hv=>by
  unfold fR
  have:rdM [m] k v.2.2.1=false:=by
   cases hc:rdM [m] k v.2.2.1
   ·rfl
   ·obtain⟨x,hx,h1,h2⟩:=Jq.1 hc
    rw[List.mem_singleton]at hx;subst hx
    exact absurd ⟨h1,h2⟩ (h v hv)
  rw[this];rfl
 rw[List.map_congr_left this,List.map_id]
theorem XX {s:List (List VV)}(st:Int)(m:VM)(hs:∀l∈s,l.Pairwise okP)(k:Nat):(Hf st s m)[k]?=(s[k]?).map fun l=>l.map (fR [m] st k):=by
 have hne:m.1.toNat≠k->s[k]?=(s[k]?).map fun l=>l.map (fR [m] st k):=fun hk=>by
  cases s[k]? with
  |none=>rfl
  |some l=>rw[Option.map_some,RT fun v _ h=>hk h.1]
 unfold Hf
 cases hc:EZ s m with
 |none=>
  by_cases hk:m.1.toNat=k
  ·have:s[k]?=none:=by rw[<-hk];exact hc
   simp only[this];rfl
  ·exact hne hk
 |some l0=>
  have h0:s[m.1.toNat]?=some l0:=hc
  have hl0:l0∈s:=List.mem_of_getElem? h0
  simp only
  cases hf:fvI l0 m.2.1 with
  |none=>
   by_cases hk:m.1.toNat=k
   ·rw[<-hk,h0,Option.map_some,RT]
    rintro v hv ⟨-,h2⟩
    obtain⟨j,hj⟩:=L5.2 ⟨v,hv,h2.symm⟩
    rw[hf]at hj;cases hj
   ·exact hne hk
  |some j=>
   unfold fvI at hf
   obtain⟨h1,h2,h3⟩:=List.findIdx?_eq_some_iff_getElem.1 hf
   rw[List.length_map]at h1
   have h2:l0[j].2.2.1=m.2.1:=by simpa using h2
   simp only
   rw[List.getElem?_eq_getElem h1]
   simp only
   by_cases hk:m.1.toNat=k
   ·subst hk
    obtain⟨hlt,-⟩:=List.getElem?_eq_some_iff.1 h0
    rw[List.getElem?_set_self hlt,h0,Option.map_some]
    congr 1
    apply List.ext_getElem (by simp)
    intro i hi1 hi2
    simp only[List.length_set]at hi1
    rw[List.getElem_map,List.getElem_set]
    by_cases e:j=i
    ·subst e
     rw[if_pos rfl]
     unfold fR
     have:rdM [m] m.1.toNat l0[j].2.2.1=true:=Jq.2 ⟨m,List.mem_singleton.2 rfl,rfl,h2.symm⟩
     rw[this];rfl
    ·rw[if_neg e]
     unfold fR
     have:rdM [m] m.1.toNat l0[i].2.2.1=false:=by
      cases hc2:rdM [m] m.1.toNat l0[i].2.2.1
      ·rfl
      ·obtain⟨x,hx,-,h5⟩:=Jq.1 hc2
       rw[List.mem_singleton]at hx;subst hx
       rw[<-h2]at h5
       rcases Nat.lt_or_gt_of_ne e with c|c
       ·have:=(List.pairwise_iff_getElem.1 (hs l0 hl0) j i h1 hi1 c).1;omega
       ·have:=(List.pairwise_iff_getElem.1 (hs l0 hl0) i j hi1 h1 c).1;omega
     rw[this];rfl
   ·rw[List.getElem?_set_ne hk]
    exact hne hk
theorem ep {rd:List VM}{st:Int}{k:Nat}{l:List VV}(h:l.Pairwise okP):(l.map (fR rd st k)).Pairwise okP:=by
 rw[List.pairwise_map]
 refine h.imp fun{a b} hab=>?_
 unfold okP at hab ⊢
 rw[(IT rd st k a).1,(IT rd st k b).1,(IT rd st k a).2];exact hab
theorem Tb (st:Int):∀(rd:List VM) {s:List (List VV)} (hs:∀l∈s,l.Pairwise okP) (k:Nat),(rd.foldl (Hf st) s)[k]?=(s[k]?).map fun l=>l.map (fR rd st k)
 |[],s,hs,k=>by
  cases h:s[k]? with
  |none=>rw[List.foldl_nil,h];rfl
  |some l=>rw[List.foldl_nil,h,Option.map_some];congr 1;exact(List.map_id l).symm
 |m::rd,s,hs,k=>by
  have h1:=XX st m hs
  have h2:∀l∈Hf st s m,l.Pairwise okP:=fun l hl=>by
   obtain⟨j,hj,rfl⟩:=List.getElem_of_mem hl
   have h3:=h1 j
   rw[List.getElem?_eq_getElem hj]at h3
   cases h4:s[j]? with
   |none=>rw[h4]at h3;cases h3
   |some l0=>
    rw[h4,Option.map_some]at h3
    rw[Option.some.inj h3]
    exact ep (hs l0 (List.mem_of_getElem? h4))
  rw[List.foldl_cons,Tb st rd h2 k,h1 k]
  cases s[k]? with
  |none=>rfl
  |some l=>
   simp only[Option.map_some,List.map_map]
   congr 1
   exact List.map_congr_left fun v _=>ZG m rd st k v
def fW (st id hi val:Int)(l:List VV):List VV:=match l[l.length-1]? with
 |some v=>l.set (l.length-1) (S9 hi v)++[(id,val,st,st,1000,())]
 |none=>l
theorem XW (s:List (List VV))(st id hi:Int)(m:VM)(k:Nat):(IW st id hi s m)[k]?=(s[k]?).map fun l=>if m.1.toNat=k then fW st id hi m.2.1 l else l:=by
 unfold IW fW
 cases hc:EZ s m with
 |none=>
  have h0:s[m.1.toNat]?=none:=hc
  by_cases hk:m.1.toNat=k
  ·rw[<-hk];simp only[h0];rfl
  ·simp only[if_neg hk]
   cases s[k]?<;>rfl
 |some l0=>
  have h0:s[m.1.toNat]?=some l0:=hc
  obtain⟨hlt,-⟩:=List.getElem?_eq_some_iff.1 h0
  simp only
  by_cases hk:m.1.toNat=k
  ·subst hk
   rw[h0]
   simp only[Option.map_some]
   cases hj:l0[l0.length-1]? with
   |none=>simp[h0]
   |some v=>simp[hlt]
  ·simp only[if_neg hk]
   have:∀x:List VV,(s.set m.1.toNat x)[k]?=s[k]?:=fun x=>List.getElem?_set_ne hk
   cases hj:l0[l0.length-1]? with
   |none=>cases s[k]?<;>rfl
   |some v=>simp only[this];cases s[k]?<;>rfl
theorem SP (st id hi:Int):∀(wr:List VM),(∀m∈wr,0<=m.1)->EL (·.1) wr->∀(s:List (List VV)) (k:Nat),(wr.foldl (IW st id hi) s)[k]?=(s[k]?).map fun l=>(match wr.find? fun m=>m.1.toNat==k with|some m=>fW st id hi m.2.1 l|none=>l)
 |[],_,_,s,k=>by
  cases h:s[k]?<;>(rw[List.foldl_nil,h];rfl)
 |m::wr,h0,hu,s,k=>by
  have hp:=List.pairwise_cons.1 hu
  rw[List.foldl_cons,SP st id hi wr (fun x hx=>h0 x (List.mem_cons_of_mem _ hx)) hp.2,XW]
  cases s[k]? with
  |none=>rfl
  |some l=>
   simp only[Option.map_some]
   congr 1
   by_cases hk:m.1.toNat=k
   ·have h1:wr.find? (fun m=>m.1.toNat==k)=none:=by
     rw[List.find?_eq_none]
     intro x hx
     have h2:m.1<x.1:=hp.1 x hx
     have h3:=h0 m (List.mem_cons_self ..)
     simp only[beq_iff_eq];omega
    have h2:(m::wr).find? (fun m=>m.1.toNat==k)=some m:=by
     rw[List.find?_cons,show(m.1.toNat==k)=true from beq_iff_eq.2 hk]
    rw[h1,h2,if_pos hk]
   ·have h2:(m::wr).find? (fun m=>m.1.toNat==k)=wr.find? fun m=>m.1.toNat==k:=by
     rw[List.find?_cons,show(m.1.toNat==k)=false from beq_false_of_ne hk]
    rw[h2,if_neg hk]
theorem Zq {s:List (List VV)}(t:TX)(st hi:Int)(hs:∀l∈s,l.Pairwise okP)(h0:∀m∈t.2.2.2.2.2.2.2.2.1,0<=m.1)(hu:EL (·.1) t.2.2.2.2.2.2.2.2.1)(k:Nat):
 (IQ s t st hi)[k]?=(s[k]?).map fun l=>(match t.2.2.2.2.2.2.2.2.1.find? fun m=>m.1.toNat==k with|some m=>fW st t.1 hi m.2.1 (l.map (fR t.2.2.2.2.2.2.2.1 st k))|none=>l.map (fR t.2.2.2.2.2.2.2.1 st k)):=by
 unfold IQ
 rw[SP st t.1 hi _ h0 hu,Tb st _ hs]
 cases s[k]?<;>rfl
end Go.Ab
end
section
namespace Go.Ab
def En (t:TX):Prop:=t.2.2.1=2
def coT (t:TX):Int:=t.2.2.2.2.2.2.1
def hiT (t:TX):Int:=t.2.2.2.2.2.1
def HU (t:TX):List VM:=t.2.2.2.2.2.2.2.1
structure MI (e:EG):Prop where
 cm:∀t∈e.2.1,En t->1<=coT t/\coT t<=e.2.2.2.2/\∀m∈HU t,m.2.1<=e.2.2.2.2
 un:∀t∈e.2.1,∀u∈e.2.1,En t->En u->coT t=coT u->hiT t=hiT u
 rd:∀(k:Nat) (l:List VV) (v:VV),e.1[k]?=some l->v∈l->v.2.2.1<=v.2.2.2.1/\(∀t∈e.2.1,En t->rdM (HU t) k v.2.2.1=true->coT t<=v.2.2.2.1)/\(v.2.2.2.1=v.2.2.1\/∃t∈e.2.1,En t/\rdM (HU t) k v.2.2.1=true/\coT t=v.2.2.2.1)
 su:∀(k:Nat) (l:List VV) (i:Nat) (v:VV),e.1[k]?=some l->l[i]?=some v->(l[i+1]?=none->v.2.2.2.2.1=1000)/\(∀w,l[i+1]?=some w->∃t∈e.2.1,En t/\coT t=w.2.2.1/\hiT t=v.2.2.2.2.1)
theorem MI.same {e e':EG}(H:MI e)(h1:e'.1=e.1)(h2:e'.2.2.2.2=e.2.2.2.2)(h3:∀t,En t->(t∈e'.2.1↔t∈e.2.1)):MI e':=by
 refine⟨fun t ht hc=>?_,fun t ht u hu hc hd=>H.un t ((h3 t hc).1 ht) u ((h3 u hd).1 hu) hc hd,fun k l v hk hv=>?_,fun k l i v hk hv=>?_⟩
 ·rw[h2];exact H.cm t ((h3 t hc).1 ht) hc
 ·rw[h1]at hk
  obtain⟨a1,a2,a3⟩:=H.rd k l v hk hv
  refine⟨a1,fun t ht hc=>a2 t ((h3 t hc).1 ht) hc,?_⟩
  rcases a3 with a3|⟨t,b1,b2,b3⟩
  ·exact .inl a3
  ·exact .inr ⟨t,(h3 t b2).2 b1,b2,b3⟩
 ·rw[h1]at hk
  obtain⟨a1,a2⟩:=H.su k l i v hk hv
  refine⟨a1,fun w hw=>?_⟩
  obtain⟨t,b1,b2,b3⟩:=a2 w hw
  exact⟨t,(h3 t b2).2 b1,b2,b3⟩
theorem T3 {T:List TX}{k:Nat}{t t':TX}(hk:T[k]?=some t)(h0:¬En t):∀u,En u->(u∈T.set k t'↔u∈T\/u=t'):=by
 intro u hu
 obtain⟨hlt,rfl⟩:=List.getElem?_eq_some_iff.1 hk
 constructor
 ·intro h
  rcases List.mem_or_eq_of_mem_set h with h|h
  ·exact .inl h
  ·exact .inr h
 ·rintro(h|h)
  ·obtain⟨j,hj,rfl⟩:=List.getElem_of_mem h
   by_cases e:k=j
   ·subst e;exact absurd hu h0
   ·rw[List.mem_iff_getElem]
    exact⟨j,by simpa using hj,by rw[List.getElem_set_ne e]⟩
  ·rw[h];exact List.mem_set hlt t'
theorem PZ {T:List TX}{k:Nat}{t t':TX}(hk:T[k]?=some t)(h0:¬En t)(h1:¬En t'):∀u,En u->(u∈T.set k t'↔u∈T):=by
 intro u hu
 rw[T3 hk h0 u hu]
 exact⟨fun h=>h.elim id fun h=>absurd (h▸hu) h1,.inl⟩
section
variable {e:EG}(H:OkG e)(M:MI e){k:Nat}{t:TX}(hk:e.2.1[k]?=some t)(ha:t.2.2.1=1)
include M hk ha
theorem MI.ends {t':TX}(h1:¬En t'):MI (Hb e k t'):=M.same rfl rfl (PZ hk (by unfold En;omega) h1)
theorem MI.sets {t':TX}(h1:¬En t'){lk wt:List VM}:MI (e.1,e.2.1.set k t',lk,wt,e.2.2.2.2):=M.same rfl rfl (PZ hk (by unfold En;omega) h1)
omit hk ha in
theorem MI.keeps {lk wt:List VM}:MI (e.1,e.2.1,lk,wt,e.2.2.2.2):=M.same rfl rfl fun _ _=>Iff.rfl
theorem MI.read (key:Int):MI (EI e k key).2.2:=by
 unfold EI
 rw[hk]
 simp only
 cases N6 t key with
 |some x=>exact M
 |none=>
  simp only
  cases GF e.1 t key with
  |none=>exact M.ends hk ha (by show ¬(3:Int)=2;decide)
  |some v=>
   simp only
   unfold JM
   cases t.2.2.2.2.2.2.2.1.length==60
   ·exact M.sets hk ha (by unfold En Nf;simp only;omega)
   ·exact M
end
theorem MI.scan {k:Nat}:∀(n:Nat) {key:Int} {out:List Int} {e:EG} {t:TX},OkG e->MI e->e.2.1[k]?=some t->t.2.2.1=1->0<=key->key+n<=6->MI (DX k n key out e).2.2
 |0,key,out,e,t,H,M,hk,ha,h0,h6=>M
 |n+1,key,out,e,t,H,M,hk,ha,h0,h6=>by
  simp only[DX]
  have h1:=H.read hk ha (key:=key) (by rw[B8];omega)
  have h2:=M.read hk ha key
  cases hc:(EI e k key).2.1==0
  ·exact h2
  ·simp only[cond_true]
   obtain⟨t',b1,b2,b3⟩:=h1.2.1 (by simpa using hc)
   exact MI.scan n h1.1 h2 b1 b2 (by omega) (by omega)
section
variable {e:EG}(H:OkG e)(M:MI e){k:Nat}{t:TX}(hk:e.2.1[k]?=some t)(ha:t.2.2.1=1)
include M hk ha
theorem MI.write (key val:Int):MI (HM e k key val).2:=by
 unfold HM
 rw[hk]
 simp only
 cases Eo e.1 e.2.2.1 t key==1
 ·simp only[cond_false]
  cases Eo e.1 e.2.2.1 t key==0
  ·exact M.ends hk ha (by show ¬(3:Int)=2;decide)
  ·exact M.sets hk ha (by unfold En KH;simp only;omega)
 ·simp only[cond_true]
  cases M3 e.2.2.2.1 t.1 (CO e.2.2.1 key)
  ·exact M.keeps
  ·exact M.ends hk ha (by show ¬(3:Int)=2;decide)
include H
theorem MI.commit (ce:Bool):MI (GE ce e k).2:=by
 unfold GE
 rw[hk]
 simp only
 cases hc:(K4 e.1 t==0)with
 |false=>exact M.ends hk ha (by show ¬(3:Int)=2;decide)
 |true=>
  simp only[Bool.not_true,cond_false]
  cases hs:(e.2.2.2.2==999)with
  |true=>exact M
  |false=>
   simp only[cond_false]
   cases hf:((ce&&decide (loP e.1 t>=hiP e.1 t (e.2.2.2.2+1)))||Ki e.1 t)with
   |true=>exact M.ends hk ha (by show ¬(3:Int)=2;decide)
   |false=>
    simp only[cond_false]
    have hst0:=H.stamp0
    generalize hhi:hiP e.1 t (e.2.2.2.2+1)=hi
    generalize loP e.1 t=lo
    have hmem:=List.mem_of_getElem? hk
    obtain⟨h1,h2,h3,h4⟩:=H.txA t hmem
    rw[C2]at h1
    have hrd:=(Gk _).1 h1.1
    have hwr:=(FN _).1 h1.2.1
    have hpw:∀l∈e.1,l.Pairwise okP:=fun l hl=>((FD l).1 (H.st.2 l hl).1).2.1
    have hat:=Zq (s:=e.1) t (e.2.2.2.2+1) hi hpw (fun m hm=>(B8.1 (hwr.1 m hm).1).1) hwr.2
    have hnc:¬En t:=by unfold En;omega
    have hset:∀u,En u->(u∈e.2.1.set k (GT t lo hi (e.2.2.2.2+1))↔u∈e.2.1\/u=GT t lo hi (e.2.2.2.2+1)):=T3 hk hnc
    have hcm':En (GT t lo hi (e.2.2.2.2+1)):=rfl
    have hco':coT (GT t lo hi (e.2.2.2.2+1))=e.2.2.2.2+1:=rfl
    have hhi':hiT (GT t lo hi (e.2.2.2.2+1))=hi:=rfl
    have hrd':HU (GT t lo hi (e.2.2.2.2+1))=t.2.2.2.2.2.2.2.1:=rfl
    generalize GT t lo hi (e.2.2.2.2+1)=t' at hset hcm' hco' hhi' hrd'
    have hst1:=H.stamp
    have hex:∀m∈t.2.2.2.2.2.2.2.1,m.2.1<=e.2.2.2.2:=fun m hm=>by
     obtain⟨l,hl,v,hv,hvc⟩:=L9.1 (h4 ha m hm)
     have hlm:l∈e.1:=List.mem_of_getElem? hl
     have h5:=H.gd.rd l hlm v hv
     have h6:=X5 (((FD l).1 (H.st.2 l hlm).1).1 v hv)
     omega
    have hA:∀(k':Nat) (l:List VV) (v:VV),e.1[k']?=some l->v∈l->∀v':VV,v'.2.2.1=v.2.2.1->v'.2.2.2.1=(fR t.2.2.2.2.2.2.2.1 (e.2.2.2.2+1) k' v).2.2.2.1->
     v'.2.2.1<=v'.2.2.2.1/\(∀u∈e.2.1.set k t',En u->rdM (HU u) k' v'.2.2.1=true->coT u<=v'.2.2.2.1)/\(v'.2.2.2.1=v'.2.2.1\/∃u∈e.2.1.set k t',En u/\rdM (HU u) k' v'.2.2.1=true/\coT u=v'.2.2.2.1):=by
     intro k' l v hl hv v' e1 e2
     obtain⟨a1,a2,a3⟩:=M.rd k' l v hl hv
     have hle:=H.gd.rd l (List.mem_of_getElem? hl) v hv
     rw[e1,e2]
     unfold fR
     cases hr:rdM t.2.2.2.2.2.2.2.1 k' v.2.2.1
     ·simp only[cond_false]
      refine⟨a1,fun u hu hc2 hru=>?_,?_⟩
      ·rcases(hset u hc2).1 hu with hu|rfl
       ·exact a2 u hu hc2 hru
       ·rw[hrd']at hru;rw[hr]at hru;cases hru
      ·rcases a3 with a3|⟨u,b1,b2,b3⟩
       ·exact .inl a3
       ·exact .inr ⟨u,(hset u b2).2 (.inl b1),b2,b3⟩
     ·simp only[cond_true]
      have hm:(Ko (e.2.2.2.2+1) v).2.2.2.1=e.2.2.2.2+1:=by
       show mx v.2.2.2.1 (e.2.2.2.2+1)=_
       unfold mx;split<;>omega
      rw[hm]
      refine⟨by omega,fun u hu hc2 hru=>?_,.inr ⟨t',(hset t' hcm').2 (.inr rfl),hcm',by rw[hrd'];exact hr,hco'⟩⟩
      rcases(hset u hc2).1 hu with hu|rfl
      ·have:=(M.cm u hu hc2).2.1;omega
      ·omega
    have hB:∀(k':Nat) (v':VV),v'.2.2.1=e.2.2.2.2+1->v'.2.2.2.1=e.2.2.2.2+1->
     v'.2.2.1<=v'.2.2.2.1/\(∀u∈e.2.1.set k t',En u->rdM (HU u) k' v'.2.2.1=true->coT u<=v'.2.2.2.1)/\(v'.2.2.2.1=v'.2.2.1\/∃u∈e.2.1.set k t',En u/\rdM (HU u) k' v'.2.2.1=true/\coT u=v'.2.2.2.1):=by
     intro k' v' e1 e2
     rw[e1,e2]
     refine⟨Int.le_refl _,fun u hu hc2 hru=>?_,.inl rfl⟩
     obtain⟨m,hm,-,hm2⟩:=Jq.1 hru
     rcases(hset u hc2).1 hu with hu|rfl
     ·have:=(M.cm u hu hc2).2.2 m hm;omega
     ·rw[hrd']at hm;have:=hex m hm;omega
    have hC:∀(k':Nat) (l:List VV) (i:Nat) (v:VV),e.1[k']?=some l->l[i]?=some v->∀w,l[i+1]?=some w->∃u∈e.2.1.set k t',En u/\coT u=w.2.2.1/\hiT u=v.2.2.2.2.1:=by
     intro k' l i v hl hv w hw
     obtain⟨u,b1,b2,b3⟩:=(M.su k' l i v hl hv).2 w hw
     exact⟨u,(hset u b2).2 (.inl b1),b2,b3⟩
    refine⟨fun u hu hc2=>?_,fun u hu w hw hc2 hd2 heq=>?_,fun k' l' v' hl' hv'=>?_,fun k' l' i v' hl' hv'=>?_⟩
    ·show 1<=coT u/\coT u<=e.2.2.2.2+1/\∀m∈HU u,m.2.1<=e.2.2.2.2+1
     rcases(hset u hc2).1 hu with hu|rfl
     ·obtain⟨b1,b2,b3⟩:=M.cm u hu hc2
      exact⟨b1,by omega,fun m hm=>by have:=b3 m hm;omega⟩
     ·exact⟨by omega,by omega,fun m hm=>by rw[hrd']at hm;have:=hex m hm;omega⟩
    ·rcases(hset u hc2).1 hu with hu1|hu1
     ·rcases(hset w hd2).1 hw with hw1|hw1
      ·exact M.un u hu1 w hw1 hc2 hd2 heq
      ·have:=(M.cm u hu1 hc2).2.1;rw[hw1]at heq;omega
     ·rcases(hset w hd2).1 hw with hw1|hw1
      ·have:=(M.cm w hw1 hd2).2.1;rw[hu1]at heq;omega
      ·rw[hu1,hw1]
    ·have h9:(IQ e.1 t (e.2.2.2.2+1) hi)[k']?=some l':=hl'
     rw[hat k']at h9
     cases hl:e.1[k']? with
     |none=>rw[hl]at h9;cases h9
     |some l=>
      rw[hl,Option.map_some]at h9
      have h9:=Option.some.inj h9
      have hold:∀x∈l.map (fR t.2.2.2.2.2.2.2.1 (e.2.2.2.2+1) k'),∃v∈l,x=fR t.2.2.2.2.2.2.2.1 (e.2.2.2.2+1) k' v:=fun x hx=>by
       obtain⟨v,hv,rfl⟩:=List.mem_map.1 hx
       exact⟨v,hv,rfl⟩
      cases hw:t.2.2.2.2.2.2.2.2.1.find? fun m=>m.1.toNat==k' with
      |none=>
       rw[hw]at h9
       simp only at h9
       rw[<-h9]at hv'
       obtain⟨v,hv,rfl⟩:=hold v' hv'
       exact hA k' l v hl hv _ (IT _ _ _ v).1 rfl
      |some m=>
       rw[hw]at h9
       simp only at h9
       unfold fW at h9
       cases hla:(l.map (fR t.2.2.2.2.2.2.2.1 (e.2.2.2.2+1) k'))[(l.map (fR t.2.2.2.2.2.2.2.1 (e.2.2.2.2+1) k')).length-1]? with
       |none=>
        rw[hla]at h9
        simp only at h9
        rw[<-h9]at hv'
        obtain⟨v,hv,rfl⟩:=hold v' hv'
        exact hA k' l v hl hv _ (IT _ _ _ v).1 rfl
       |some x=>
        rw[hla]at h9
        simp only at h9
        rw[<-h9]at hv'
        rcases List.mem_append.1 hv' with hv'|hv'
        ·rcases List.mem_or_eq_of_mem_set hv' with hv'|hv'
         ·obtain⟨v,hv,rfl⟩:=hold v' hv'
          exact hA k' l v hl hv _ (IT _ _ _ v).1 rfl
         ·obtain⟨v,hv,hx⟩:=hold x (List.mem_of_getElem? hla)
          refine hA k' l v hl hv v' ?_ ?_
          ·rw[hv',hx];exact(IT _ _ _ v).1
          ·rw[hv',hx];rfl
        ·rw[List.mem_singleton]at hv'
         exact hB k' v' (by rw[hv']) (by rw[hv'])
    ·have h9:(IQ e.1 t (e.2.2.2.2+1) hi)[k']?=some l':=hl'
     rw[hat k']at h9
     cases hl:e.1[k']? with
     |none=>rw[hl]at h9;cases h9
     |some l=>
      rw[hl,Option.map_some]at h9
      have h9:=Option.some.inj h9
      have hD:∀(j:Nat) (x:VV),(l.map (fR t.2.2.2.2.2.2.2.1 (e.2.2.2.2+1) k'))[j]?=some x->∃v:VV,l[j]?=some v/\x.2.2.1=v.2.2.1/\x.2.2.2.2.1=v.2.2.2.2.1:=fun j x hx=>by
       rw[List.getElem?_map]at hx
       cases hv:l[j]? with
       |none=>rw[hv]at hx;cases hx
       |some v=>rw[hv]at hx;cases hx;exact⟨v,rfl,(IT _ _ _ v).1,(IT _ _ _ v).2⟩
      have hE:∀j:Nat,(l.map (fR t.2.2.2.2.2.2.2.1 (e.2.2.2.2+1) k'))[j]?=none->l[j]?=none:=fun j hj=>by
       rw[List.getElem?_map]at hj
       cases hv:l[j]? with
       |none=>rfl
       |some v=>rw[hv]at hj;cases hj
      have hold:∀(j:Nat) (x:VV),(l.map (fR t.2.2.2.2.2.2.2.1 (e.2.2.2.2+1) k'))[j]?=some x->((l.map (fR t.2.2.2.2.2.2.2.1 (e.2.2.2.2+1) k'))[j+1]?=none->x.2.2.2.2.1=1000)/\(∀w,(l.map (fR t.2.2.2.2.2.2.2.1 (e.2.2.2.2+1) k'))[j+1]?=some w->∃u∈e.2.1.set k t',En u/\coT u=w.2.2.1/\hiT u=x.2.2.2.2.1):=fun j x hx=>by
       obtain⟨v,hv,e1,e2⟩:=hD j x hx
       rw[e2]
       refine⟨fun hn=>(M.su k' l j v hl hv).1 (hE _ hn),fun w hw=>?_⟩
       obtain⟨w0,hw0,e3,e4⟩:=hD _ w hw
       rw[e3]
       exact hC k' l j v hl hv w0 hw0
      cases hw:t.2.2.2.2.2.2.2.2.1.find? fun m=>m.1.toNat==k' with
      |none=>
       rw[hw]at h9
       simp only at h9
       rw[<-h9]at hv' ⊢
       exact hold i v' hv'
      |some m=>
       rw[hw]at h9
       simp only at h9
       generalize l.map (fR t.2.2.2.2.2.2.2.1 (e.2.2.2.2+1) k')=q at h9 hold
       unfold fW at h9
       cases hla:q[q.length-1]? with
       |none=>
        rw[hla]at h9
        simp only at h9
        rw[<-h9]at hv' ⊢
        exact hold i v' hv'
       |some x=>
        rw[hla]at h9
        simp only at h9
        rw[<-h9]at hv' ⊢
        have hq:q.length-1<q.length:=by
         obtain⟨h,-⟩:=List.getElem?_eq_some_iff.1 hla;exact h
        have hlen:(q.set (q.length-1) (S9 hi x)).length=q.length:=by simp
        rcases Nat.lt_trichotomy i (q.length-1)with c|c|c
        ·rw[List.getElem?_append_left (by omega),List.getElem?_set_ne (by omega)]at hv'
         obtain⟨b1,b2⟩:=hold i v' hv'
         have hne:∃w0,q[i+1]?=some w0:=⟨_,List.getElem?_eq_getElem (by omega)⟩
         obtain⟨w0,hw0⟩:=hne
         rw[List.getElem?_append_left (by omega)]
         by_cases c2:i+1=q.length-1
         ·rw[<-c2]at hla ⊢
          have hx0:w0=x:=by rw[hw0]at hla;exact Option.some.inj hla
          rw[List.getElem?_set_self (by omega)]
          refine⟨fun h=>(by cases h),fun w hw2=>?_⟩
          have:=b2 w0 hw0
          rw[<-Option.some.inj hw2]
          rw[hx0]at this;exact this
         ·rw[List.getElem?_set_ne (by omega)]
          exact⟨b1,b2⟩
        ·subst c
         rw[List.getElem?_append_left (by omega),List.getElem?_set_self hq]at hv'
         rw[<-Option.some.inj hv']
         rw[List.getElem?_append_right (by omega),hlen,show q.length-1+1-q.length=0 by omega]
         refine⟨fun h=>(by cases h),fun w hw2=>?_⟩
         rw[<-Option.some.inj hw2]
         exact⟨t',(hset t' hcm').2 (.inr rfl),hcm',hco',hhi'⟩
        ·rw[List.getElem?_append_right (by omega),hlen]at hv'
         have hi0:i-q.length=0:=by
          obtain⟨h,-⟩:=List.getElem?_eq_some_iff.1 hv'
          simp at h;omega
         rw[hi0]at hv'
         rw[<-Option.some.inj hv']
         rw[List.getElem?_append_right (by omega),hlen]
         refine⟨fun _=>rfl,fun w hw2=>?_⟩
         obtain⟨h,-⟩:=List.getElem?_eq_some_iff.1 hw2
         simp at h;omega
end
theorem MI.step {e:EG}(H:OkG e)(M:MI e)(ce:Bool){o:OPt}(ho:Ju o=true):MI (Jl ce e o).2.2:=by
 unfold Ju at ho
 simp only[Bool.and_eq_true]at ho
 obtain⟨⟨⟨⟨⟨o1,o2⟩,o3⟩,o4⟩,o5⟩,o6⟩:=ho
 unfold Jl
 cases h1:(o.1==1)with
 |true=>
  simp only[cond_true]
  unfold Gv
  cases hb:(e.2.1.any fun t=>t.1==o.2.1)||e.2.1.length==6
  ·simp only[cond_false]
   have hn:=(Bool.or_eq_false_iff.1 hb).1
   refine M.same rfl rfl fun u hu=>?_
   show u∈D8 (·.1) e.2.1 _↔_
   rw[F6 H.txU]
   constructor
   ·rintro(h|h)
    ·rw[h]at hu;exact absurd hu (by show ¬(1:Int)=2;decide)
    ·exact h.1
   ·intro h
    refine .inr ⟨h,fun h2=>?_⟩
    have:=List.any_eq_false.1 hn u h
    simp only[beq_iff_eq]at this
    exact this h2
  ·exact M
 |false=>
  simp only[cond_false]
  cases hf:e.2.1.findIdx? fun t=>t.1==o.2.1 with
  |none=>exact M
  |some k=>
   simp only
   cases hact:Fs e.2.1 o.2.1 with
   |false=>exact M
   |true=>
    simp only[cond_true]
    obtain⟨hk2,hk3,_⟩:=List.findIdx?_eq_some_iff_getElem.1 hf
    have ht:e.2.1[k]?=some e.2.1[k]:=List.getElem?_eq_getElem hk2
    have ha:e.2.1[k].2.2.1=1:=by
     unfold Fs at hact
     rw[hf]at hact
     simp only[ht]at hact
     simpa using hact
    have HW:=H.wake o.2.1
    have MW:MI (e.1,e.2.1,e.2.2.1,wkW e.2.2.2.1 o.2.1,e.2.2.2.2):=M.keeps
    cases h2:(o.1==2)with
    |true=>
     rw[h2]at o4
     simp only[Bool.true_or,cond_true]at o4 ⊢
     rw[B8]at o4
     exact MI.scan 1 HW MW ht ha (by omega) (by omega)
    |false=>
     simp only[cond_false]
     cases h4:(o.1==4)with
     |true=>
      rw[h4]at o4 o5
      simp only[Bool.or_true,cond_true]at o4 o5 ⊢
      rw[B8]at o4 o5
      exact MI.scan _ HW MW ht ha (by omega) (by omega)
     |false=>
      simp only[cond_false]
      cases h3:(o.1==3)with
      |true=>exact MW.write ht ha _ _
      |false=>
       simp only[cond_false]
       cases h5:(o.1==5)with
       |true=>exact MI.commit HW MW ht ha ce
       |false=>
        simp only[cond_false,ht]
        exact MW.ends ht ha (by show ¬(3:Int)=2;decide)
end Go.Ab
end
section
namespace Go.Ab
def rdF (T:List TX)(k:Nat)(c:Int):Int:=T.foldl (fun r t=>bif t.2.2.1==2 then(bif decide ((((k:Int),c,()):VM)∈HU t)then mx r (coT t)else r)else r) c
def suF (T:List TX)(nx:Option Int):Int:=T.foldl (fun s t=>bif t.2.2.1==2 then(match nx with|some c=>bif coT t==c then hiT t else s|none=>s)else s) 1000
theorem Y0 {rd:List VM}(h:∀m∈rd,0<=m.1)(k:Nat)(c:Int):rdM rd k c=decide ((((k:Int),c,()):VM)∈rd):=by
 rw[Bool.eq_iff_iff,decide_eq_true_eq,Jq]
 constructor
 ·rintro⟨m,hm,h1,h2⟩
  have h0:=h m hm
  have:m=((k:Int),c,()):=by
   obtain⟨a,b,_⟩:=m
   simp only at h0 h1 h2
   subst h2
   have:a=(k:Int):=by omega
   rw[this]
  rw[<-this];exact hm
 ·intro hm
  exact⟨_,hm,by simp,rfl⟩
theorem Jr {k:Nat}{c:Int}:∀(T:List TX) (r:Int),(∀t∈T,∀m∈HU t,0<=m.1)->
 let q:=T.foldl (fun r t=>bif t.2.2.1==2 then(bif decide ((((k:Int),c,()):VM)∈HU t)then mx r (coT t)else r)else r) r
 r<=q/\(∀t∈T,En t->rdM (HU t) k c=true->coT t<=q)/\(q=r\/∃t∈T,En t/\rdM (HU t) k c=true/\coT t=q)
 |[],r,_=>⟨Int.le_refl _,fun t ht=>(by cases ht),.inl rfl⟩
 |t::T,r,h=>by
  have hT:=fun u hu=>h u (List.mem_cons_of_mem _ hu)
  have e:=Y0 (h t (List.mem_cons_self ..)) k c
  simp only[List.foldl_cons]
  cases hc:(t.2.2.1==2)
  ·simp only[cond_false]
   obtain⟨a1,a2,a3⟩:=Jr T r hT
   refine⟨a1,fun u hu hcu hru=>?_,?_⟩
   ·rcases List.mem_cons.1 hu with rfl|hu
    ·unfold En at hcu;rw[hcu]at hc;cases hc
    ·exact a2 u hu hcu hru
   ·rcases a3 with a3|⟨u,hu,b⟩
    ·exact .inl a3
    ·exact .inr ⟨u,List.mem_cons_of_mem _ hu,b⟩
  ·simp only[cond_true]
   rw[<-e]
   have hcm:En t:=by unfold En;exact beq_iff_eq.1 hc
   cases hr:rdM (HU t) k c
   ·simp only[cond_false]
    obtain⟨a1,a2,a3⟩:=Jr T r hT
    refine⟨a1,fun u hu hcu hru=>?_,?_⟩
    ·rcases List.mem_cons.1 hu with rfl|hu
     ·rw[hr]at hru;cases hru
     ·exact a2 u hu hcu hru
    ·rcases a3 with a3|⟨u,hu,b⟩
     ·exact .inl a3
     ·exact .inr ⟨u,List.mem_cons_of_mem _ hu,b⟩
   ·simp only[cond_true]
    obtain⟨a1,a2,a3⟩:=Jr T (mx r (coT t)) hT
    have h1:r<=mx r (coT t)/\coT t<=mx r (coT t):=by unfold mx;split<;>omega
    refine⟨Int.le_trans h1.1 a1,fun u hu hcu hru=>?_,?_⟩
    ·rcases List.mem_cons.1 hu with rfl|hu
     ·exact Int.le_trans h1.2 a1
     ·exact a2 u hu hcu hru
    ·rcases a3 with a3|⟨u,hu,b⟩
     ·rw[a3]
      unfold mx
      split
      ·exact .inr ⟨t,List.mem_cons_self ..,hcm,hr,rfl⟩
      ·exact .inl rfl
     ·exact .inr ⟨u,List.mem_cons_of_mem _ hu,b⟩
theorem SX (T:List TX):suF T none=1000:=by
 unfold suF
 have:∀(T:List TX) (s:Int),T.foldl (fun s t=>bif t.2.2.1==2 then s else s) s=s:=by
  intro T
  induction T with
  |nil=>intro s;rfl
  |cons t T ih=>intro s;rw[List.foldl_cons,ih];cases(t.2.2.1==2)<;>rfl
 exact this T 1000
theorem Nb {c h:Int}:∀(T:List TX) (s:Int),(∀t∈T,En t->coT t=c->hiT t=h)->(s=h\/∃t∈T,En t/\coT t=c)->
 T.foldl (fun s t=>bif t.2.2.1==2 then(match some c with|some c=>bif coT t==c then hiT t else s|none=>s)else s) s=h
 |[],s,h1,h2=>by
  rcases h2 with h2|⟨t,ht,_⟩
  ·exact h2
  ·cases ht
 |t::T,s,h1,h2=>by
  rw[List.foldl_cons]
  refine Nb T _ (fun u hu=>h1 u (List.mem_cons_of_mem _ hu)) ?_
  by_cases hc:En t/\coT t=c
  ·left
   have e1:(t.2.2.1==2)=true:=beq_iff_eq.2 hc.1
   have e2:(coT t==c)=true:=beq_iff_eq.2 hc.2
   simp only[e1,e2,cond_true]
   exact h1 t (List.mem_cons_self ..) hc.1 hc.2
  ·have e:(bif t.2.2.1==2 then(match some c with|some c=>bif coT t==c then hiT t else s|none=>s)else s)=s:=by
    cases e1:(t.2.2.1==2)
    ·rfl
    ·cases e2:(coT t==c)
     ·simp only[cond_true,e2,cond_false]
     ·exact absurd ⟨beq_iff_eq.1 e1,beq_iff_eq.1 e2⟩ hc
   rw[e]
   rcases h2 with h2|⟨u,hu,h3⟩
   ·exact .inl h2
   ·rcases List.mem_cons.1 hu with rfl|hu
    ·exact absurd h3 hc
    ·exact .inr ⟨u,hu,h3⟩
section
variable {e:EG}(H:OkG e)(M:MI e)
include H M
theorem OkG.rd0:∀t∈e.2.1,∀m∈HU t,0<=m.1:=fun t ht m hm=>by
 have h1:=(H.txA t ht).1
 rw[C2]at h1
 exact(B8.1 (((Gk _).1 h1.1).1 m hm).1).1
theorem Xf {k:Nat}{l:List VV}{v:VV}(hk:e.1[k]?=some l)(hv:v∈l):rdF e.2.1 k v.2.2.1=v.2.2.2.1:=by
 obtain⟨a1,a2,a3⟩:=M.rd k l v hk hv
 obtain⟨b1,b2,b3⟩:=Jr (k:=k) (c:=v.2.2.1) e.2.1 v.2.2.1 (H.rd0 M)
 unfold rdF
 generalize e.2.1.foldl (fun r t=>bif t.2.2.1==2 then(bif decide ((((k:Int),v.2.2.1,()):VM)∈HU t)then mx r (coT t)else r)else r) v.2.2.1=q at b1 b2 b3
 have h1:q<=v.2.2.2.1:=by
  rcases b3 with b3|⟨t,ht,c1,c2,c3⟩
  ·omega
  ·have:=a2 t ht c1 c2;omega
 have h2:v.2.2.2.1<=q:=by
  rcases a3 with a3|⟨t,ht,c1,c2,c3⟩
  ·omega
  ·have:=b2 t ht c1 c2;omega
 omega
theorem Xe {k:Nat}{l:List VV}{i:Nat}{v:VV}(hk:e.1[k]?=some l)(hv:l[i]?=some v):suF e.2.1 ((l[i+1]?).map fun w=>w.2.2.1)=v.2.2.2.2.1:=by
 obtain⟨a1,a2⟩:=M.su k l i v hk hv
 cases hn:l[i+1]? with
 |none=>rw[a1 hn];exact SX _
 |some w=>
  obtain⟨t,ht,c1,c2,c3⟩:=a2 w hn
  refine Nb e.2.1 1000 (fun u hu d1 d2=>?_) (.inr ⟨t,ht,c1,c2⟩)
  rw[<-c3]
  exact M.un u hu t ht d1 c1 (by rw[d2,c2])
end
theorem MI.new:MI cV:=by
 refine⟨fun t ht=>(by cases ht),fun t ht=>(by cases ht),fun k l v hk hv=>?_,fun k l i v hk hv=>?_⟩
 ·have hl:l=[((0,-1,0,0,1000,()):VV)]:=List.eq_of_mem_replicate (List.mem_of_getElem? hk)
  subst hl
  rw[List.mem_singleton]at hv
  subst hv
  exact⟨Int.le_refl _,fun t ht=>(by cases ht),.inl rfl⟩
 ·have hl:l=[((0,-1,0,0,1000,()):VV)]:=List.eq_of_mem_replicate (List.mem_of_getElem? hk)
  subst hl
  obtain⟨hi,rfl⟩:=List.getElem?_eq_some_iff.1 hv
  have:i=0:=by simpa using hi
  subst this
  exact⟨fun _=>rfl,fun w hw=>(by cases hw)⟩
theorem MI.se {e:EG}(H:OkG e)(M:MI e)(ce:Bool)(o:OPt):MI (seP ce e o).2.2:=by
 unfold seP
 rw[(MC e).2 H]
 cases ho:Ju o
 ·exact M
 ·exact M.step H ce ho
theorem bc (ce:Bool)(l:List OPt):∀i,i<=l.length->MI (roG ce l i).1:=by
 intro i
 induction i with
 |zero=>intro _;exact MI.new
 |succ i ih=>
  intro h
  rw[KL ce h]
  exact MI.se (OL ce l i (by omega)).1 (ih (by omega)) ce l[i]
end Go.Ab
end
section
namespace Go.Ab
def Exi {α:Type}(x:Option α)(P:α->Prop):Prop:=∃y,x=some y/\P y
theorem Exi.so {α:Type}{y:α}{P:α->Prop}(h:P y):Exi (some y) P:=⟨y,rfl,h⟩
theorem Exi.cnd {α:Type}{c:Bool}{x y:Option α}{P:α->Prop}(hx:Exi x P)(hy:Exi y P):Exi (bif c then x else y) P:=by cases c<;>assumption
theorem Exi.bnd {α β:Type}{x:Option α}{F:α->Option β}{Q:α->Prop}{P:β->Prop}(hx:Exi x Q)(h:∀y,Q y->Exi (F y) P):Exi (x.bind F) P:=by
 obtain⟨y,rfl,hy⟩:=hx
 exact h y hy
theorem KA (z:Int):0<=MP .i64 z 255/\MP .i64 z 255<=255:=by
 unfold MP
 have h:(BitVec.ofInt (IntKind.bits .i64) z &&& BitVec.ofInt (IntKind.bits .i64) 255).toNat<=255:=by
  rw[BitVec.toNat_and]
  exact Nat.le_trans Nat.and_le_right (by decide)
 generalize (BitVec.ofInt (IntKind.bits .i64) z &&& BitVec.ofInt (IntKind.bits .i64) 255).toNat=m at h
 rw[CU (by omega) (by omega)]
 omega
def CI (b:List Int)(i:Int):Prop:=0<=i/\b.length<=1048576
theorem dC {b:List Int}{i h:Int}(H:CI b i):Exi (Cp (b,i,h,())) fun y=>0<=y.1/\y.1<=255/\CI y.2.1 y.2.2.1:=by
 unfold Cp
 simp only
 by_cases hi:i<(b.length:Int)
 ·rw[decide_eq_true hi]
  simp only[cond_true]
  obtain⟨j,rfl⟩:=Int.eq_ofNat_of_zero_le H.1
  have hj:j<b.length:=by omega
  have hb:=H.2
  simp only[AL hj,Option.bind_some]
  refine Exi.so ⟨(KA _).1,(KA _).2,?_,H.2⟩
  show 0<=IntKind.i64.wrap ((j:Int)+1)
  rw[wr1 (by omega) (by omega)];omega
 ·rw[decide_eq_false hi]
  exact Exi.so ⟨(KA _).1,(KA _).2,H⟩
theorem DD {b:List Int}{i h n:Int}(H:CI b i)(h1:1<=n)(h2:n<=256):Exi (Ag (n,b,i,h,())) fun y=>0<=y.1/\y.1<n/\CI y.2.1 y.2.2.1:=by
 unfold Ag
 simp only
 rw[decide_eq_false (by omega),decide_eq_true h2]
 simp only[cond_false,cond_true]
 refine Exi.bnd (dC H) fun v hv=>?_
 unfold T8
 rw[if_neg (by omega)]
 simp only[Option.bind_some]
 exact Exi.so ⟨Int.tmod_nonneg _ hv.1,Int.tmod_lt_of_pos _ (by omega),hv.2.2⟩
theorem K2 {b:List Int}{i h n:Int}(H:CI b i)(h1:1<=n)(h2:n<=256):Exi (Ak (n,b,i,h,())) fun y=>CI y.2.1 y.2.2.1:=by
 unfold Ak
 exact Exi.bnd (DD H h1 h2) fun v hv=>Exi.so hv.2.2
theorem MX {b:List Int}{i h:Int}{l:List Int}(H:CI b i)(h1:1<=l.length)(h2:l.length<=256):Exi (Ah (b,i,h,l,())) fun y=>CI y.2.1 y.2.2.1:=by
 unfold Ah
 simp only
 refine Exi.bnd (DD H (by omega) (by omega)) fun v hv=>?_
 rw[if_pos ⟨hv.1,hv.2.1⟩]
 have hlt:0+v.1.toNat<l.length:=by have:=hv.1;have:=hv.2.1;omega
 rw[List.getElem?_eq_getElem hlt]
 exact Exi.so hv.2.2
theorem eH {b:List Int}{i h most:Int}(H:CI b i)(m1:1<=most)(m2:most<=256):Exi (Ep (most,b,i,h,())) fun y=>(1<=y.2.1/\y.2.1<=most)/\CI y.2.2.2.2.2.2.1 y.2.2.2.2.2.2.2.1:=by
 unfold Ep
 simp only
 refine Exi.bnd (DD H m1 m2) fun v hv=>?_
 have hid:1<=IntKind.i64.wrap (1+v.1)/\IntKind.i64.wrap (1+v.1)<=most:=by
  have:=hv.1;have:=hv.2.1
  rw[CU (by omega) (by omega)];omega
 refine Exi.bnd (DD hv.2.2 (by omega) (by omega)) fun v1 hv1=>?_
 have hk1:1<=IntKind.i64.wrap (6-v1.1)/\IntKind.i64.wrap (6-v1.1)<=256:=by
  have:=hv1.1;have:=hv1.2.1
  rw[CU (by omega) (by omega)];omega
 refine Exi.bnd (K2 hv1.2.2 (by omega) (by omega)) fun v2 hv2=>?_
 refine Exi.cnd ?_ ?_
 ·refine Exi.bnd (DD hv2 (by omega) (by omega)) fun v3 hv3=>?_
  have hk3:1<=IntKind.i64.wrap (6-v3.1)/\IntKind.i64.wrap (6-v3.1)<=256:=by
   have:=hv3.1;have:=hv3.2.1
   rw[CU (by omega) (by omega)];omega
  refine Exi.bnd (DD hv3.2.2 (by omega) (by omega)) fun v4 hv4=>?_
  repeat' apply Exi.cnd
  all_goals first
   |exact Exi.so ⟨hid,hv4.2.2⟩
   |exact Exi.bnd (MX hv4.2.2 (by decide) (by decide)) fun v5 hv5=>Exi.so ⟨hid,hv5⟩
   |exact Exi.bnd (DD hv4.2.2 hk3.1 hk3.2) fun v5 hv5=>Exi.so ⟨hid,hv5.2.2⟩
   |exact Exi.bnd (K2 hv4.2.2 (by decide) (by decide)) fun v5 hv5=>Exi.cnd (Exi.so ⟨hid,hv5⟩) (Exi.so ⟨hid,hv5⟩)
 ·refine Exi.bnd (DD hv2 (by omega) (by omega)) fun v4 hv4=>?_
  repeat' apply Exi.cnd
  all_goals first
   |exact Exi.so ⟨hid,hv4.2.2⟩
   |exact Exi.bnd (MX hv4.2.2 (by decide) (by decide)) fun v5 hv5=>Exi.so ⟨hid,hv5⟩
   |exact Exi.bnd (DD hv4.2.2 hk1.1 hk1.2) fun v5 hv5=>Exi.so ⟨hid,hv5.2.2⟩
   |exact Exi.bnd (K2 hv4.2.2 (by decide) (by decide)) fun v5 hv5=>Exi.cnd (Exi.so ⟨hid,hv5⟩) (Exi.so ⟨hid,hv5⟩)
theorem eJ {b:List Int}{i h:Int}(H:CI b i):Exi (ER (b,i,h,())) fun y=>True:=by
 unfold ER
 simp only
 refine Exi.bnd (eH H (by omega) (by omega)) fun v hv=>?_
 refine Exi.bnd (K2 hv.2 (by omega) (by omega)) fun v1 hv1=>?_
 refine Exi.cnd ?_ ?_
 ·refine Exi.bnd (DD hv1 (by omega) (by omega)) fun v2 hv2=>?_
  refine Exi.bnd (DD hv2.2.2 (by omega) (by omega)) fun v3 hv3=>?_
  refine Exi.bnd (DD hv3.2.2 (by omega) (by omega)) fun v4 hv4=>?_
  repeat' apply Exi.cnd
  all_goals first
   |exact Exi.so trivial
   |exact Exi.bnd (MX hv4.2.2 (by decide) (by decide)) fun v5 hv5=>Exi.so trivial
   |exact Exi.bnd (DD hv4.2.2 (by decide) (by decide)) fun v5 hv5=>Exi.so trivial
 ·refine Exi.bnd (DD hv1 (by omega) (by omega)) fun v4 hv4=>?_
  repeat' apply Exi.cnd
  all_goals first
   |exact Exi.so trivial
   |exact Exi.bnd (MX hv4.2.2 (by decide) (by decide)) fun v5 hv5=>Exi.so trivial
   |exact Exi.bnd (DD hv4.2.2 (by decide) (by decide)) fun v5 hv5=>Exi.so trivial
theorem XG:∀(n:Nat) {b:List Int} {i h:Int} {out:List OPt} {op:List Bool},n<=40->CI b i->op.length=7->out.length+2*n<=1000->
 Exi (BL (fun v=>C8 () v _ some) ((n:Int),b,i,h,out,op,())) fun y=>CI y.1 y.2.1/\y.2.2.2.1.length<=out.length+2*n
 |0,b,i,h,out,op,hn,H,h7,ho=>by
  rw[BH]
  unfold C8
  simp only
  rw[decide_eq_false (by omega)]
  exact Exi.so ⟨H,by simp⟩
 |n+1,b,i,h,out,op,hn,H,h7,ho=>by
  have hB:Exi (C8 () (((n+1:Nat):Int),b,i,h,out,op,()) _ some) fun r=>∃b' i' h' out' op',r=.inl ((n:Int),b',i',h',out',op',())/\CI b' i'/\out'.length<=out.length+2/\op'.length=7:=by
   unfold C8
   simp only
   rw[decide_eq_true (by omega),show IntKind.i64.wrap (((n+1:Nat):Int)-1)=(n:Int)from by rw[CU (by omega) (by omega)];omega]
   simp only[cond_true]
   refine Exi.bnd (eH H (by omega) (by omega)) fun v hv=>?_
   have hlt:0+v.2.1.toNat<op.length:=by have:=hv.1.1;have:=hv.1.2;omega
   have c1:0<=v.2.1/\v.2.1<(op.length:Int):=by have:=hv.1.1;have:=hv.1.2;omega
   rw[if_pos c1,List.getElem?_eq_getElem hlt]
   simp only[Option.bind_some]
   refine Exi.cnd ?_ ?_
   ·refine Exi.bnd (DD hv.2 (by omega) (by omega)) fun v3 hv3=>?_
    rw[if_pos (by simp;omega)]
    simp only[if_pos c1,Option.bind_some]
    rw[if_pos (by simp;omega)]
    exact Exi.so ⟨_,_,_,_,_,rfl,hv3.2.2,by simp,by simp[h7]⟩
   ·rw[if_pos (by simp;omega)]
    exact Exi.so ⟨_,_,_,_,_,rfl,hv.2,by simp,h7⟩
  obtain⟨r,e,b',i',h',out',op',rfl,g1,g2,g3⟩:=hB
  rw[BH,e]
  obtain⟨y,e2,k1,k2⟩:=XG n (b:=b') (i:=i') (h:=h') (out:=out') (op:=op') (by omega) g1 g3 (by omega)
  simp only[Option.bind_some]
  rw[e2]
  exact Exi.so ⟨k1,by omega⟩
theorem eG {b:List Int}{i h:Int}(H:CI b i):Exi (EP (24,b,i,h,())) fun y=>CI y.1 y.2.1/\y.2.2.2.1.length<=100:=by
 unfold EP
 simp only
 refine Exi.bnd (DD H (by omega) (by omega)) fun v hv=>?_
 have h0:=hv.1
 have h1:=hv.2.1
 have e:IntKind.i64.wrap (4+v.1)=(((4+v.1).toNat:Nat):Int):=by rw[CU (by omega) (by omega)];omega
 rw[e]
 refine Exi.bnd (XG (4+v.1).toNat (by omega) hv.2.2 rfl (by simp;omega)) fun y hy=>?_
 refine Exi.so ⟨hy.1,?_⟩
 have:=hy.2
 simp only[List.length_nil]at this
 show y.2.2.2.1.length<=100
 omega
theorem eI {b:List Int}(hb:b.length<=1048576):Exi (G8 (b,())) fun y=>CI y.1 y.2.1:=by
 unfold G8
 simp only
 have key:∀(m j:Nat) (h:Int),j+m=b.length->Exi (BL (fun v=>Cf (b,()) v _ some) (h,(j:Int),())) fun _=>True:=by
  intro m
  induction m with
  |zero=>
   intro j h hj
   rw[BH]
   unfold Cf
   simp only
   rw[decide_eq_false (by omega)]
   exact Exi.so trivial
  |succ m ih=>
   intro j h hj
   have hjl:j<b.length:=by omega
   by_cases h4:(j:Int)<4000
   ·have hB:∃h',Cf (b,()) (h,(j:Int),()) _ some=some (.inl (h',((j+1:Nat):Int),())):=by
     unfold Cf
     simp only[AL hjl,Option.bind_some]
     rw[decide_eq_true (by omega),decide_eq_true h4,AB hjl (by omega)]
     exact⟨_,rfl⟩
    obtain⟨h',e⟩:=hB
    rw[BH,e]
    exact ih (j+1) h' (by omega)
   ·have hB:Cf (b,()) (h,(j:Int),()) _ some=some (.inr (.inl (h,()))):=by
     unfold Cf
     simp only
     rw[decide_eq_true (by omega),decide_eq_false h4]
     rfl
    rw[BH,hB]
    exact Exi.so trivial
 refine Exi.bnd (key b.length 0 _ (by omega)) fun p _=>?_
 cases p with
 |inl p=>exact Exi.so ⟨Int.le_refl _,hb⟩
 |inr p=>exact Exi.so ⟨Int.le_refl _,hb⟩
theorem dB {b:List Int}(hb:b.length<=1048576):Exi (Ek (b,())) fun y=>y.2.1.length<=101:=by
 unfold Ek
 simp only
 refine Exi.bnd (eI hb) fun v hv=>?_
 refine Exi.bnd (K2 hv (by omega) (by omega)) fun v1 hv1=>?_
 refine Exi.bnd (eG hv1) fun v2 hv2=>?_
 refine Exi.bnd (K2 hv2.1 (by omega) (by omega)) fun v3 hv3=>?_
 have hl:=hv2.2
 refine Exi.cnd ?_ ?_
 ·refine Exi.bnd (eJ hv3) fun v4 hv4=>?_
  rw[if_pos (by simp;omega)]
  exact Exi.so (by simp;omega)
 ·exact Exi.so (by simp only;omega)
end Go.Ab
end
section
namespace Go.Ab
theorem Xv (rd:List VM)(m:VM):d4 rd m=decide (m∈rd):=by
 unfold d4
 rw[Bool.eq_iff_iff,List.any_eq_true,decide_eq_true_eq]
 constructor
 ·rintro⟨x,hx,h⟩
  unfold eqM at h
  obtain⟨a,b,_⟩:=m
  obtain⟨c,d,_⟩:=x
  simp at h
  obtain⟨h1,h2⟩:=h
  subst h1;subst h2
  exact hx
 ·intro h
  refine⟨m,h,?_⟩
  unfold eqM
  simp
theorem Tc {T:List TX}{j:Nat}(h:j<T.length)(k:Nat)(c:Int):rdF (T.take (j+1)) k c=bif T[j].2.2.1==2 then(bif decide ((((k:Int),c,()):VM)∈T[j].2.2.2.2.2.2.2.1)then mx (rdF (T.take j) k c) T[j].2.2.2.2.2.2.1 else rdF (T.take j) k c)else rdF (T.take j) k c:=by
 unfold rdF
 rw[<-List.take_append_getElem h,List.foldl_append];rfl
theorem SW {T:List TX}{j:Nat}(h:j<T.length)(nx:Option Int):suF (T.take (j+1)) nx=bif T[j].2.2.1==2 then(match nx with|some c=>bif T[j].2.2.2.2.2.2.1==c then T[j].2.2.2.2.2.1 else suF (T.take j) nx|none=>suF (T.take j) nx)else suF (T.take j) nx:=by
 unfold suF
 rw[<-List.take_append_getElem h,List.foldl_append]
 cases nx<;>rfl
theorem eu {s:List (List VV)}{T:List TX}{k i:Nat}{l:List VV}(hk:s[k]?=some l)(hi:i<l.length)(hT:T.length<=1048576)(hl:l.length<=1048576)(hsm:∀t∈T,smT t)(ce:Bool)(stamp:Int)(lk wt:List VM):
 BL (fun e=>Cw ((k:Int),k,(i:Int),ce,stamp,s,T,lk,wt,()) e _ some) (l[i].2.2.1,1000,0,())=some (rdF T k l[i].2.2.1,suF T ((l[i+1]?).map fun w=>w.2.2.1),()):=by
 refine L1 T.length (fun j=>(rdF (T.take j) k l[i].2.2.1,suF (T.take j) ((l[i+1]?).map fun w=>w.2.2.1),(j:Int),())) rfl (fun j hj=>?_) ?_
 ·have c1:(0:Int)<=(j:Int)/\(j:Int)<(T.length:Int):=by omega
  have c2:(0:Int)<=(i:Int)/\(i:Int)<(l.length:Int):=by omega
  have hs:=hsm _ (List.getElem_mem hj)
  have hh:=Sm T[j] hs ((k:Int),l[i].2.2.1,())
  rw[Tc hj,SW hj]
  generalize rdF (T.take j) k l[i].2.2.1=r0
  generalize suF (T.take j) ((l[i+1]?).map fun w=>w.2.2.1)=s0
  unfold Cw
  simp only[if_pos c1,Nat.zero_add,Int.toNat_natCast,List.getElem?_eq_getElem hj,Option.bind_some,hk,if_pos c2,List.getElem?_eq_getElem hi]
  rw[decide_eq_true c1.2,AB hj (by omega),AB hi (by omega)]
  simp only[cond_true]
  erw [hh]
  simp only[Option.bind_some,Xv]
  cases hc:(T[j].2.2.1==2)
  ·have hb:(T[j].2.2.1 != 2)=true:=by show(!(T[j].2.2.1==2))=true;rw[hc];rfl
   rw[hb];rfl
  ·have hb:(T[j].2.2.1 != 2)=false:=by show(!(T[j].2.2.1==2))=false;rw[hc];rfl
   rw[hb]
   simp only[cond_false,cond_true]
   by_cases hn:i+1<l.length
   ·have c3:(0:Int)<=((i+1:Nat):Int)/\((i+1:Nat):Int)<(l.length:Int):=by omega
    rw[decide_eq_true c3.2]
    simp only[cond_true,if_pos c3,Int.toNat_natCast,List.getElem?_eq_getElem hn,Option.bind_some,Option.map_some]
    cases decide ((((k:Int),l[i].2.2.1,()):VM)∈T[j].2.2.2.2.2.2.2.1)<;>cases(T[j].2.2.2.2.2.2.1==l[i+1].2.2.1)<;>rfl
   ·have hno:l[i+1]?=none:=List.getElem?_eq_none (by omega)
    rw[decide_eq_false (show ¬((i+1:Nat):Int)<(l.length:Int) by omega),hno]
    cases decide ((((k:Int),l[i].2.2.1,()):VM)∈T[j].2.2.2.2.2.2.2.1)<;>rfl
 ·unfold Cw
  simp only[List.take_length]
  rw[decide_eq_false (by omega)];rfl
theorem cX {e:EG}(H:OkG e)(M:MI e){k:Nat}{l:List VV}(hk:e.1[k]?=some l)(ce:Bool)(stamp:Int)(lk wt:List VM):
 BL (fun d=>Cy ((k:Int),k,ce,stamp,e.1,e.2.1,lk,wt,()) d _ some) (0,())=some (.inr (.inr ())):=by
 have hlm:l∈e.1:=List.mem_of_getElem? hk
 have hl:=(H.st.2 l hlm).2
 have hsm:=H.small
 refine L1 l.length (fun i=>((i:Int),())) rfl (fun i hi=>?_) ?_
 ·have c2:(0:Int)<=(i:Int)/\(i:Int)<(l.length:Int):=by omega
  have h1:=eu hk hi hsm.fl (by omega) hsm.ft ce stamp lk wt
  have h2:=Xf H M hk (List.getElem_mem hi)
  have h3:=Xe H M hk (List.getElem?_eq_getElem hi)
  rw[h2,h3]at h1
  unfold Cy
  simp only[hk,Option.bind_some,if_pos c2,Nat.zero_add,Int.toNat_natCast,List.getElem?_eq_getElem hi]
  rw[decide_eq_true c2.2,AB hi (by omega)]
  simp only[cond_true]
  erw [h1]
  simp only[Option.bind_some,bne_self_eq_false,cond_false]
 ·unfold Cy
  simp only[hk,Option.bind_some]
  rw[decide_eq_false (by omega)];rfl
def law_tsMk:List Ty:=[.slice (.int .u8)]
theorem law_Marks (x:den (FX law_tsMk).ty)(hx:wf (FX law_tsMk).ty x):Gm x=some (true,()):=by
 obtain⟨b,_⟩:=x
 have hbig:J9 (b,())=some (decide ((List.length (α:=Int) b:Int)>1048576),()):=rfl
 unfold Gm
 simp only
 erw [hbig]
 simp only[Option.bind_some]
 by_cases hb:(List.length (α:=Int) b:Int)>1048576
 ·rw[decide_eq_true hb];rfl
 ·rw[decide_eq_false hb]
  simp only[cond_false]
  obtain⟨y,hy,hyl⟩:=dB (b:=b) (by omega)
  erw [hy]
  simp only[Option.bind_some]
  have hr:=WR true (l:=y.2.1) (by omega)
  erw [hr]
  simp only[Option.bind_some]
  have hM:=bc true y.2.1 (min y.2.1.length 100) (by omega)
  have hH:=(OL true y.2.1 (min y.2.1.length 100) (by omega)).1
  generalize (roG true y.2.1 (min y.2.1.length 100)).1=e at hM hH
  have h6:=hH.st.1
  have hne:(((e.1.length:Nat):Int) != 6)=false:=by rw[h6];rfl
  rw[hne]
  simp only[cond_false]
  refine L0 6 (fun k=>((k:Int),())) rfl (fun k hk6=>?_) ⟨.inr (.inr (.inr ())),?_,rfl⟩
  ·have hk:k<e.1.length:=by omega
   have c1:(0:Int)<=(k:Int)/\(k:Int)<(e.1.length:Int):=by omega
   have hkk:e.1[k]?=some e.1[k]:=List.getElem?_eq_getElem hk
   have hok:=(hH.st.2 _ (List.getElem_mem hk))
   have hc:=Zh (l:=e.1[k]) (show e.1[k].length<=1048576 by have:=hok.2;omega)
   rw[Cd hok.1]at hc
   have hrow:=cX hH hM hkk true e.2.2.2.2 e.2.2.1 e.2.2.2.1
   unfold Dr
   simp only[if_pos c1,Nat.zero_add,Int.toNat_natCast,hkk,Option.bind_some,hc,Bool.not_true,cond_false]
   rw[decide_eq_true (by omega),wr1 (by omega) (by omega)]
   simp only[cond_true]
   erw [hrow]
   rfl
  ·unfold Dr
   rfl
end Go.Ab
end
