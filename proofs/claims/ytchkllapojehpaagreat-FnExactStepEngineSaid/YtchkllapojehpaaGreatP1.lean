import Derived.Test.YtchkllapojehpaaGreatSp3
set_option linter.all false
section
namespace Go.Ab
abbrev VM:=Int×Int×Unit
abbrev VV:=Int×Int×Int×Int×Int×Unit
def mk2 (k:Int):VM:=(k,k+1,())
def mk5 (k:Int):VV:=(k,k+1,k+2,k+3,k+4,())
def mkL {α:Type}(f:Int->α)(c:Int)(k:Int):Nat->List α
 |0=>[]
 |n+1=>f k::mkL f c (k+c) n
theorem AL {α:Type}(f:Int->α)(c k:Int)(n:Nat):(mkL f c k n).length=n:=by
 induction n generalizing k with
 |zero=>rfl
 |succ n ih=>simp[mkL,ih]
theorem NG {α:Type}(f:Int->α)(c k:Int)(n i:Nat)(h:i<n):(mkL f c k n)[i]?=some (f (k+c*i)):=by
 induction n generalizing k i with
 |zero=>omega
 |succ n ih=>
  cases i with
  |zero=>simp[mkL]
  |succ i=>
   simp only[mkL,List.getElem?_cons_succ]
   rw[ih (k+c) i (by omega)]
   congr 2
   push_cast
   rw[Int.mul_add,Int.mul_one];omega
theorem vt {α:Type}(f:Int->α)(c k:Int)(n:Nat):mkL f c k (n+1)=mkL f c k n++[f (k+c*n)]:=by
 induction n generalizing k with
 |zero=>simp[mkL]
 |succ n ih=>
  rw[mkL,ih (k+c),mkL]
  simp only[List.cons_append]
  congr 4
  push_cast
  rw[Int.mul_add,Int.mul_one];omega
def mkd {α:Type}(f:Int->α)(c k:Int)(row:List α)(j:Nat):List α:=mkL f c k j++row.drop j
theorem LJ {α:Type}(f:Int->α)(c k:Int)(row:List α):mkd f c k row 0=row:=by simp[mkd,mkL]
theorem JD {α:Type}(f:Int->α)(c k:Int)(row:List α)(j:Nat)(h:j<=row.length):(mkd f c k row j).length=row.length:=by
 simp[mkd,AL];omega
theorem NF {α:Type}(f:Int->α)(c k:Int)(row:List α):mkd f c k row row.length=mkL f c k row.length:=by simp[mkd]
theorem NE {α:Type}(f:Int->α)(c k:Int)(row:List α)(j:Nat)(h:j<row.length):(mkd f c k row j)[j]?=some row[j]:=by
 unfold mkd
 rw[List.getElem?_append_right (by rw[AL];omega)]
 simp[AL,h]
theorem ND {α:Type}(f:Int->α)(c k:Int)(row:List α)(j:Nat)(h:j<row.length):(mkd f c k row j).set j (f (k+c*j))=mkd f c k row (j+1):=by
 unfold mkd
 rw[vt,List.set_append_right _ _ (by rw[AL];omega),AL,Nat.sub_self]
 rw[show row.drop j=row[j]::row.drop (j+1)from List.drop_eq_getElem_cons h,List.set_cons_zero]
 simp
theorem wr1 {k:Int}(h0:0<=k)(h:k<9223372036854775807):IntKind.wrap IntKind.i64 (k+1)=k+1:=De (by omega) (by omega)
theorem I3 {σ ρ:Type}{B:σ->Option (σ ⊕ ρ)}{s0:σ}{r:ρ}(n:Nat)(st:Nat->σ)(h0:s0=st 0)(hstep:∀i,i<n->B (st i)=some (.inl (st (i+1))))(hend:B (st n)=some (.inr r)):AE B s0=some r:=by
 subst h0;exact zX st hstep hend
theorem QO (xss:List (List VV))(i:Nat)(hi:i<xss.length)(k:Int)(h0:0<=k)(hk:k+5*xss[i].length<9223372036854775000):
 Fm (i,k,xss,())=some (k+5*xss[i].length,xss.set i (mkL mk5 5 k xss[i].length),()):=by
 unfold Fm
 simp only
 generalize hrow:xss[i]=row at*
 have key:∀j:Nat,(xss.set i (mkd mk5 5 k row j))[i]?=some (mkd mk5 5 k row j):=fun j=>by simp[hi]
 rw[I3 (r:=(k+5*row.length,xss.set i (mkL mk5 5 k row.length),())) row.length (fun j=>(k+5*(j:Int),(j:Int),xss.set i (mkd mk5 5 k row j),()))]
 ·rfl
 ·simp only[LJ,<-hrow];simp
 ·intro j hj
  unfold CC
  have hl:=JD mk5 5 k row j (by omega)
  have hg:=NE mk5 5 k row j hj
  have hs:=ND mk5 5 k row j hj
  simp only[key,Option.bind_some,hl]
  rw[decide_eq_true (by omega),if_pos (by omega)]
  simp only[cond_true,Option.bind_some,Nat.zero_add,Int.toNat_natCast,hg,List.set_set,List.length_set,List.getElem?_set_self,hi,hl,hj]
  rw[wr1 (k:=k+5*(j:Int)) (by omega) (by omega),wr1 (k:=k+5*(j:Int)+1) (by omega) (by omega),wr1 (k:=k+5*(j:Int)+1+1) (by omega) (by omega),wr1 (k:=k+5*(j:Int)+1+1+1) (by omega) (by omega),wr1 (k:=k+5*(j:Int)+1+1+1+1) (by omega) (by omega),wr1 (k:=(j:Int)) (by omega) (by omega)]
  have e1:k+5*(j:Int)+1+1+1+1+1=k+5*((j+1:Nat):Int):=by push_cast;omega
  have e2:(k+5*(j:Int),k+5*(j:Int)+1,k+5*(j:Int)+1+1,k+5*(j:Int)+1+1+1,k+5*(j:Int)+1+1+1+1,())=mk5 (k+5*(j:Int)):=by simp[mk5];omega
  rw[e1,e2,hs]
  simp[hj]
 ·unfold CC
  simp only[key,Option.bind_some,NF,AL]
  have key2:(xss.set i (mkL mk5 5 k row.length))[i]?=some (mkL mk5 5 k row.length):=by simp[hi]
  simp only[key2,Option.bind_some,AL]
  rw[decide_eq_false (by omega)]
  rfl
theorem Fe {σ ρ τ:Type}{B:σ->Option (σ ⊕ ρ)}{s0:σ}{k:ρ->Option τ}{q:Option τ}(n:Nat)(st:Nat->σ)(h0:s0=st 0)(hstep:∀i,i<n->B (st i)=some (.inl (st (i+1))))(hend:∃r,B (st n)=some (.inr r)/\k r=q):(AE B s0).bind k=q:=by
 obtain⟨r,h1,h2⟩:=hend
 rw[I3 n st h0 hstep h1];exact h2
def Ou:Int->List (List VV)->List (List VV)
 |_,[]=>[]
 |k,r::rs=>mkL mk5 5 k r.length::Ou (k+5*r.length) rs
def F5:Int->List (List VV)->Int
 |k,[]=>k
 |k,r::rs=>F5 (k+5*r.length) rs
theorem Pd (k:Int)(xss:List (List VV)):k<=F5 k xss:=by
 induction xss generalizing k with
 |nil=>exact Int.le_refl k
 |cons r rs ih=>have:=ih (k+5*r.length);simp only[F5];omega
theorem Q6 (xss:List (List VV))(k:Int)(h0:0<=k)(hk:F5 k xss<9223372036854775000)(hl:xss.length<9223372036854775000):EH (k,xss,())=some (F5 k xss,Ou k xss,()):=by
 unfold EH
 simp only
 have key:∀(rs pre:List (List VV)) (k:Int),0<=k->F5 k rs<9223372036854775000->pre.length+rs.length<9223372036854775000->
  AE (fun v=>Bz () v _ some) (k,(pre.length:Int),pre++rs,())=some (F5 k rs,pre++Ou k rs,()):=by
  intro rs
  induction rs with
  |nil=>
   intro pre k h0 hk hl
   rw[Bf]
   unfold Bz
   simp only[List.append_nil]
   rw[decide_eq_false (by omega)]
   simp[F5,Ou]
  |cons r rs ih=>
   intro pre k h0 hk hl
   have hge:=Pd (k+5*r.length) rs
   simp only[F5]at hk
   simp only[List.length_cons]at hl
   have hi:pre.length<(pre++r::rs).length:=by simp
   have hget:(pre++r::rs)[pre.length]=r:=by simp
   have hm:=QO (pre++r::rs) pre.length hi k h0 (by rw[hget];omega)
   rw[hget]at hm
   have hset:(pre++r::rs).set pre.length (mkL mk5 5 k r.length)=(pre++[mkL mk5 5 k r.length])++rs:=by simp
   have hB:Bz () (k,(pre.length:Int),pre++r::rs,()) _ some=some (.inl (k+5*r.length,(pre.length:Int)+1,(pre++[mkL mk5 5 k r.length])++rs,())):=by
    unfold Bz
    simp only[List.length_append,List.length_cons]
    rw[decide_eq_true (by omega),if_pos (by omega)]
    have hge2:(pre++r::rs)[pre.length]?=some r:=by simp
    simp only[cond_true,Nat.zero_add,Int.toNat_natCast,hge2,Option.bind_some,hm]
    rw[wr1 (by omega) (by omega),hset]
   rw[Bf,hB]
   have:=ih (pre++[mkL mk5 5 k r.length]) (k+5*r.length) (by omega) hk (by simp;omega)
   simp only[List.length_append,List.length_cons,List.length_nil,Nat.zero_add,Int.natCast_add]at this
   rw[show((1:Nat):Int)=1 from rfl]at this
   simp only[Option.bind_some]
   rw[this]
   simp[F5,Ou]
 have:=key xss [] k h0 hk (by simpa using hl)
 simp only[List.length_nil,List.nil_append,Int.natCast_zero]at this
 rw[this];rfl
end Go.Ab
end
section
namespace Go.Ab
theorem CU {ρ τ:Type}{B:Int×Unit->Option ((Int×Unit) ⊕ ρ)}{k:ρ->Option τ}{n:Nat}{c:Nat->Prop}{X no:Option τ}
 (hB:∀i,i<n->(c i->B ((i:Int),())=some (.inl (((i+1:Nat):Int),())))/\(¬c i->∃r,B ((i:Int),())=some (.inr r)/\k r=no))
 (hend:∃r,B ((n:Int),())=some (.inr r)/\k r=X):
 (AE B (0,())).bind k=bif dec (∀i,i<n->c i)then X else no:=by
 have key:∀m i:Nat,i+m=n->(AE B ((i:Int),())).bind k=bif dec (∀j,i<=j->j<n->c j)then X else no:=by
  intro m
  induction m with
  |zero=>
   intro i hi
   obtain rfl:i=n:=by omega
   obtain⟨r,h1,h2⟩:=hend
   rw[Bf,h1,AC (fun j h1 h2=>by omega)];exact h2
  |succ m ih=>
   intro i hi
   by_cases hc:c i
   ·rw[Bf,(hB i (by omega)).1 hc]
    simp only[Option.bind_some]
    rw[ih (i+1) (by omega)]
    congr 1
    apply JK
    constructor
    ·intro h j h1 h2
     by_cases e:j=i
     ·rw[e];exact hc
     ·exact h j (by omega) h2
    ·intro h j h1 h2;exact h j (by omega) h2
   ·obtain⟨r,h1,h2⟩:=(hB i (by omega)).2 hc
    rw[Bf,h1,Bl (fun h=>hc (h i (Nat.le_refl _) (by omega)))];exact h2
 have:=key n 0 (by omega)
 simp only[Int.natCast_zero,Nat.zero_le,true_implies]at this
 exact this
theorem Gi {σ α ρ τ:Type}{l:List α}{f:σ->α->σ}{B:σ×Int×Unit->Option ((σ×Int×Unit) ⊕ ρ)}{k:ρ->Option τ}{X:σ->Option τ}{q:Option τ}(n0:σ)(hB:∀(i:Nat) (h:i<l.length) (n:σ),B (n,(i:Int),())=some (.inl (f n l[i],((i+1:Nat):Int),())))
 (hend:∀n,∃r,B (n,(l.length:Int),())=some (.inr r)/\k r=X n)(hq:X (l.foldl f n0)=q):(AE B (n0,0,())).bind k=q:=by
 have key:∀m i:Nat,i+m=l.length->∀n,(AE B (n,(i:Int),())).bind k=X ((l.drop i).foldl f n):=by
  intro m
  induction m with
  |zero=>
   intro i hi n
   obtain rfl:i=l.length:=by omega
   obtain⟨r,h1,h2⟩:=hend n
   rw[Bf,h1];simpa using h2
  |succ m ih=>
   intro i hi n
   have h:i<l.length:=by omega
   rw[Bf,hB i h,List.drop_eq_getElem_cons h]
   simp only[Option.bind_some]
   rw[ih (i+1) (by omega)];rfl
 have:=key l.length 0 (by omega) n0
 simpa[hq]using this
def Hm (a:List VV):Prop:=a.length<=1048576
def CF (a:List (List VV)):Prop:=a.length<=1048576/\∀e∈a,Hm e
theorem Eu (x lo hi:Int):Al (x,lo,hi,())=some (inB x lo hi,()):=by
 unfold Al inB
 by_cases h:lo<=x<;>simp[h]
theorem J6 (x lo hi:Int):BC (x,lo,hi,())=some (inB x lo hi,()):=by
 unfold BC inB
 by_cases h:lo<=x<;>simp[h]
theorem OY (x:Int):DZ (x,())=some (inB x 0 5,()):=by simp[DZ,J6]
theorem N3 (x:Int):BF (x,())=some (inB x 1 9,()):=by simp[BF,J6]
theorem Pu (x:Int):GG (x,())=some (inB x (-1) 99,()):=by simp[GG,J6]
def okV (v:VV):Bool:=inB v.2.1 (-1) 99&&inB v.2.2.1 0 999&&inB v.2.2.2.1 v.2.2.1 999&&inB v.2.2.2.2.1 1 1000&&(bif v.2.2.1==0 then(bif v.1==0 then v.2.1==-1 else false)else inB v.1 1 9)
theorem jp (v:VV):DK (v,())=some (okV v,()):=by
 unfold DK okV
 simp only[Eu,Option.bind_some]
 cases inB v.2.1 (-1) 99<;>cases inB v.2.2.1 0 999<;>cases inB v.2.2.2.1 v.2.2.1 999<;>cases inB v.2.2.2.2.1 1 1000<;>cases(v.2.2.1==0:Bool)<;>cases(v.1==0:Bool)<;>simp
theorem zN (v:VV):Fp (v,())=some (okV v,()):=by
 unfold Fp okV
 simp only[J6,Pu,N3,Option.bind_some]
 cases inB v.2.1 (-1) 99<;>cases inB v.2.2.1 0 999<;>cases inB v.2.2.2.1 v.2.2.1 999<;>cases inB v.2.2.2.2.1 1 1000<;>cases(v.2.2.1==0:Bool)<;>cases(v.1==0:Bool)<;>simp
theorem YT {v:VV}(h:okV v=true):v.2.2.1<=v.2.2.2.1:=by
 unfold okV at h
 simp only[Bool.and_eq_true]at h
 have:=h.1.1.2
 unfold inB at this
 simp only[Bool.and_eq_true,decide_eq_true_eq]at this
 exact this.1
def okP (v w:VV):Prop:=v.2.2.1<w.2.2.1/\v.2.2.2.2.1<=w.2.2.1
def YV (l:List VV)(i:Nat):Prop:=∃h:i<l.length,okV l[i]=true/\∀h2:i+1<l.length,okP l[i] l[i+1]
def vo (l:List VV)(i:Nat):Prop:=∃h:i<l.length,okV l[i]=true/\∀h2:0<i,okP (l[i-1]'(by omega)) l[i]
theorem WJ (l:List VV):(∀i,i<l.length->YV l i)↔∀i,i<l.length->vo l i:=by
 constructor
 ·intro H i h
  obtain⟨_,h1,_⟩:=H i h
  refine⟨h,h1,fun h2=>?_⟩
  obtain⟨_,_,h4⟩:=H (i-1) (by omega)
  have:=h4 (by omega)
  simpa[show i-1+1=i by omega]using this
 ·intro H i h
  obtain⟨_,h1,_⟩:=H i h
  refine⟨h,h1,fun h2=>?_⟩
  obtain⟨_,_,h4⟩:=H (i+1) h2
  exact h4 (by omega)
def Ug (l:List VV):Option (Bool×Unit):=bif decide (((l.length:Nat):Int)>0)then(lAt l (IntKind.i64.wrap (((l.length:Nat):Int)-1))).bind fun e=>some ((e.2.2.2.2.1==1000),())else some (false,())
theorem uU {l:List VV}(hl:Hm l):CI (l,())=bif dec (∀i,i<l.length->YV l i)then Ug l else some (false,()):=by
 unfold Hm at hl
 unfold CI
 refine CU (n:=l.length) (c:=YV l) (fun i hi=>?_) ⟨.inr (.inr (.inr ())),?_,rfl⟩
 ·unfold D4
  simp only[Ak hi,Option.bind_some,jp]
  rw[decide_eq_true (by omega)]
  simp only[cond_true,Option.bind_some]
  cases hv:okV l[i]with
  |false=>
   refine⟨fun⟨_,h,_⟩=>?_,fun _=>⟨.inl (),rfl,rfl⟩⟩
   rw[hv]at h;cases h
  |true=>
   simp only[Bool.not_true,cond_false]
   rw[Am hi (by omega)]
   by_cases h2:i+1<l.length
   ·rw[decide_eq_true (by omega),Ak h2]
    simp only[cond_true,Option.bind_some]
    by_cases p1:l[i].2.2.1>=l[i+1].2.2.1
    ·rw[decide_eq_true p1]
     refine⟨fun⟨_,_,h⟩=>?_,fun _=>⟨.inr (.inl ()),rfl,rfl⟩⟩
     exact(Int.not_lt.2 p1 (h h2).1).elim
    ·rw[decide_eq_false p1]
     simp only[cond_false]
     by_cases p2:l[i].2.2.2.2.1>l[i+1].2.2.1
     ·rw[decide_eq_true p2]
      refine⟨fun⟨_,_,h⟩=>?_,fun _=>⟨.inr (.inr (.inl ())),rfl,rfl⟩⟩
      exact(Int.not_le.2 p2 (h h2).2).elim
     ·rw[decide_eq_false p2]
      refine⟨fun _=>rfl,fun h=>absurd ⟨hi,hv,fun _=>⟨Int.not_le.1 p1,Int.not_lt.1 p2⟩⟩ h⟩
   ·rw[decide_eq_false (by omega)]
    refine⟨fun _=>rfl,fun h=>absurd ⟨hi,hv,fun h3=>absurd h3 h2⟩ h⟩
 ·unfold D4
  simp only
  rw[decide_eq_false (by omega)];rfl
theorem vc {l:List VV}(hl:Hm l):EA (l,())=bif dec (∀i,i<l.length->YV l i)then Ug l else some (false,()):=by
 unfold Hm at hl
 rw[JK (WJ l)]
 unfold EA
 refine CU (n:=l.length) (c:=vo l) (fun i hi=>?_) ⟨.inr (.inr (.inr ())),?_,rfl⟩
 ·unfold Dc
  simp only[Ak hi,Option.bind_some,zN]
  rw[decide_eq_true (by omega)]
  simp only[cond_true,Option.bind_some]
  cases hv:okV l[i]with
  |false=>
   refine⟨fun⟨_,h,_⟩=>?_,fun _=>⟨_,rfl,rfl⟩⟩
   rw[hv]at h;cases h
  |true=>
   simp only[Bool.not_true,cond_false]
   rw[Am hi (by omega)]
   by_cases h2:0<i
   ·have hlt:i-1<l.length:=by omega
    rw[decide_eq_true (show(i:Int)>0 by omega),show IntKind.i64.wrap ((i:Int)-1)=((i-1:Nat):Int)from by rw[De (by omega) (by omega)];omega,Ak hlt]
    simp only[cond_true,Option.bind_some]
    by_cases p1:l[i-1].2.2.1>=l[i].2.2.1
    ·rw[decide_eq_true p1]
     refine⟨fun⟨_,_,h⟩=>?_,fun _=>⟨_,rfl,rfl⟩⟩
     exact(Int.not_lt.2 p1 (h h2).1).elim
    ·rw[decide_eq_false p1]
     simp only[cond_false]
     by_cases p2:l[i-1].2.2.2.2.1>l[i].2.2.1
     ·rw[decide_eq_true p2]
      refine⟨fun⟨_,_,h⟩=>?_,fun _=>⟨_,rfl,rfl⟩⟩
      exact(Int.not_le.2 p2 (h h2).2).elim
     ·rw[decide_eq_false p2]
      refine⟨fun _=>rfl,fun h=>absurd ⟨hi,hv,fun _=>⟨Int.not_le.1 p1,Int.not_lt.1 p2⟩⟩ h⟩
   ·rw[decide_eq_false (show ¬(i:Int)>0 by omega)]
    refine⟨fun _=>rfl,fun h=>absurd ⟨hi,hv,fun h3=>absurd h3 h2⟩ h⟩
 ·unfold Dc
  simp only
  rw[decide_eq_false (by omega)];rfl
def Lh (l:List VV):Prop:=(∀i,i<l.length->YV l i)/\∃h:0<l.length,(l[l.length-1]'(by omega)).2.2.2.2.1=1000
theorem jr {l:List VV}(hl:Hm l):(bif dec (∀i,i<l.length->YV l i)then Ug l else some (false,()))=some (dec (Lh l),()):=by
 unfold Hm at hl
 by_cases h:∀i,i<l.length->YV l i
 ·rw[AC h]
  unfold Ug
  simp only[cond_true]
  by_cases h0:0<l.length
  ·have hlt:l.length-1<l.length:=by omega
   rw[decide_eq_true (by omega),show IntKind.i64.wrap (((l.length:Nat):Int)-1)=((l.length-1:Nat):Int)from by rw[De (by omega) (by omega)];omega,Ak hlt]
   simp only[cond_true,Option.bind_some,Z2]
   rw[vU]
   congr 2
   apply JK
   exact⟨fun e=>⟨h,h0,e⟩,fun⟨_,_,e⟩=>e⟩
  ·rw[decide_eq_false (show ¬((l.length:Nat):Int)>0 by omega),Bl (fun⟨_,h1,_⟩=>h0 h1)];rfl
 ·rw[Bl h,Bl (fun h1=>h h1.1)];rfl
theorem TY {l:List VV}(hl:Hm l):CI (l,())=some (dec (Lh l),()):=(uU hl).trans (jr hl)
theorem zQ {l:List VV}(hl:Hm l):EA (l,())=some (dec (Lh l),()):=(vc hl).trans (jr hl)
def LI (s:List (List VV)):Prop:=s.length=6/\∀c∈s,Lh c/\c.length<=50
theorem M9 {s:List (List VV)}(hs:CF s):Bs ((s,()),())=some (dec (LI s),()):=by
 have hn:=hs.1
 have e:Bs ((s,()),())=bif dec (∀i,i<s.length->(∃h:i<s.length,Lh s[i]/\s[i].length<=50))then some ((((s.length:Nat):Int)==6),())else some (false,()):=by
  unfold Bs
  refine CU (n:=s.length) (fun i hi=>?_) ⟨.inr (.inr (.inr (.inr ()))),?_,rfl⟩
  ·unfold D3
   have hsm:=hs.2 _ (List.getElem_mem hi)
   simp only[Ak hi,Option.bind_some,TY hsm]
   rw[decide_eq_true (by omega)]
   simp only[cond_true]
   by_cases hc:Lh s[i]
   ·have h0:0<s[i].length:=hc.2.1
    rw[AC hc,Am hi (by omega),show lAt s[i] 0=some s[i][0]from Ak h0]
    simp only[Bool.not_true,cond_false,Option.bind_some]
    by_cases hl:s[i].length<=50
    ·refine⟨fun _=>?_,fun h=>absurd ⟨hi,hc,hl⟩ h⟩
     rw[decide_eq_false (show ¬((s[i].length:Nat):Int)>50 by omega)]
     cases decide ((s[i][0]).2.2.1>0)<;>rfl
    ·refine⟨fun⟨_,_,h⟩=>absurd h hl,fun _=>?_⟩
     rw[decide_eq_true (show((s[i].length:Nat):Int)>50 by omega)]
     cases decide ((s[i][0]).2.2.1>0)
     ·exact⟨.inr (.inr (.inr (.inl ()))),rfl,rfl⟩
     ·exact⟨.inr (.inl ()),rfl,rfl⟩
   ·rw[Bl hc]
    exact⟨fun⟨_,h,_⟩=>absurd h hc,fun _=>⟨.inl (),rfl,rfl⟩⟩
  ·unfold D3
   simp only
   rw[decide_eq_false (by omega)];rfl
 rw[e]
 by_cases h:∀i,i<s.length->(∃h:i<s.length,Lh s[i]/\s[i].length<=50)
 ·rw[AC h,Z2,vU]
  simp only[cond_true]
  congr 2
  apply JK
  constructor
  ·intro e
   refine⟨by omega,fun c hc=>?_⟩
   obtain⟨i,hi,rfl⟩:=List.getElem_of_mem hc
   exact(h i hi).2
  ·rintro⟨e,_⟩;omega
 ·rw[Bl h,Bl (fun h1:LI s=>h fun i hi=>⟨hi,h1.2 _ (List.getElem_mem hi)⟩)];rfl
theorem uH {l:List VV}(hl:Hm l):Fq (l,())=some (dec (¬(Lh l/\l.length<=50)),()):=by
 unfold Fq
 simp only[zQ hl,Option.bind_some]
 by_cases h:Lh l
 ·by_cases h2:l.length<=50
  ·rw[AC h,decide_eq_false (show ¬((l.length:Nat):Int)>50 by omega),Bl (fun hh=>hh ⟨h,h2⟩)];rfl
  ·rw[AC h,decide_eq_true (show((l.length:Nat):Int)>50 by omega),AC (fun hh=>h2 hh.2)];rfl
 ·rw[Bl h,AC (fun hh=>h hh.1)];rfl
theorem LR {α ρ:Type}{l:List α}{p:α->Prop}(hn:l.length<=1048576){B:Int×Unit->Option ((Int×Unit) ⊕ ((Int×Unit) ⊕ Unit))}
 (hB:∀i (h:i<l.length),B ((i:Int),())=some (bif dec (p l[i])then .inr (.inl ((i:Int),()))else .inl (((i+1:Nat):Int),())))(hend:B ((l.length:Int),())=some (.inr (.inr ()))):
 ∃n:Int,((AE B (0,())).bind fun q=>Az q (fun q=>some (q.1,())) fun _=>some (-1,()))=some (n,())/\((∃i:Nat,∃h:i<l.length,n=(i:Int)/\p l[i]/\∀j (hj:j<i),¬p (l[j]'(by omega)))\/(n=-1/\∀x∈l,¬p x)):=by
 have key:∀m i:Nat,i+m=l.length->(∀j (hj:j<l.length),j<i->¬p l[j])->∃n:Int,((AE B ((i:Int),())).bind fun q=>Az q (fun q=>some (q.1,())) fun _=>some (-1,()))=some (n,())/\((∃i:Nat,∃h:i<l.length,n=(i:Int)/\p l[i]/\∀j (hj:j<i),¬p (l[j]'(by omega)))\/(n=-1/\∀x∈l,¬p x)):=by
  intro m
  induction m with
  |zero=>
   intro i hi hno
   obtain rfl:i=l.length:=by omega
   rw[Bf,hend]
   refine⟨-1,rfl,.inr ⟨rfl,fun x hx=>?_⟩⟩
   obtain⟨j,hj,rfl⟩:=List.getElem_of_mem hx
   exact hno j hj hj
  |succ m ih=>
   intro i hi hno
   have hlt:i<l.length:=by omega
   rw[Bf,hB i hlt]
   by_cases hp:p l[i]
   ·rw[AC hp]
    exact⟨(i:Int),rfl,.inl ⟨i,hlt,rfl,hp,fun j hj=>hno j (by omega) hj⟩⟩
   ·rw[Bl hp]
    refine ih (i+1) (by omega) fun j hj h=>?_
    by_cases e:j=i
    ·subst e;exact hp
    ·exact hno j hj (by omega)
 exact key l.length 0 (by omega) (fun j hj h=>by omega)
theorem zO {s:List (List VV)}(hs:CF s):Gv ((s,()),())=some (dec (LI s),()):=by
 have hn:=hs.1
 unfold Gv C9 Cr
 obtain⟨n,e,h⟩:=LR (ρ:=Unit) (l:=s) (p:=fun c=>¬(Lh c/\c.length<=50)) hn (B:=fun v=>AJ (s,(),((s.length:Nat):Int),()) v _ some) (fun i hi=>by
  unfold AJ
  simp only[Ak hi,Option.bind_some,uH (hs.2 _ (List.getElem_mem hi))]
  rw[decide_eq_true (by omega),Am hi (by omega)]
  simp only[cond_true]
  cases dec (¬(Lh s[i]/\s[i].length<=50))<;>rfl) (by
  unfold AJ
  simp only
  rw[decide_eq_false (by omega)];rfl)
 simp only[e,Option.bind_some,Z2]
 by_cases h6:s.length=6
 ·rw[decide_eq_true (show((s.length:Nat):Int)=6 by omega)]
  simp only[cond_true]
  congr 2
  rcases h with⟨i,hi,rfl,hp,_⟩|⟨rfl,hp⟩
  ·rw[decide_eq_true (by omega),Bl (fun hh:LI s=>hp (hh.2 _ (List.getElem_mem hi)))];rfl
  ·rw[decide_eq_false (by omega),AC (show LI s from⟨h6,fun c hc=>Classical.not_not.1 (hp c hc)⟩)];rfl
 ·rw[decide_eq_false (by omega),Bl (fun hh:LI s=>h6 hh.1)];rfl
end Go.Ab
end
section
namespace Go.Ab
def Jk (n:Int)(l:List VV):Int:=l.foldl (fun n v=>mx n v.2.2.2.1) n
theorem YH {s:List (List VV)}(hs:CF s):EK ((s,()),())=some (s.foldl Jk 0,()):=by
 have hn:=hs.1
 unfold EK
 refine Gi (l:=s) (f:=Jk) (X:=fun n=>some (n,())) 0 (fun i h n=>?_) (fun n=>⟨(n,()),?_,rfl⟩) rfl
 ·unfold Cv
  have hsm:s[i].length<=1048576:=hs.2 _ (List.getElem_mem h)
  simp only[Ak h,Option.bind_some]
  rw[decide_eq_true (by omega),Am h (by omega)]
  simp only[cond_true]
  refine Gi (l:=s[i]) (f:=fun n v=>mx n v.2.2.2.1) (X:=fun n=>some (.inl (n,((i+1:Nat):Int),()))) n (fun j hj n=>?_) (fun n=>⟨(n,()),?_,rfl⟩) rfl
  ·unfold Cu
   simp only[Ak hj,Option.bind_some]
   rw[decide_eq_true (by omega),Am hj (by omega)];rfl
  ·unfold Cu
   simp only
   rw[decide_eq_false (by omega)];rfl
 ·unfold Cv
  simp only
  rw[decide_eq_false (by omega)];rfl
theorem S6 {α σ:Type}{f g:σ->α->σ}:(l:List α)->(∀x∈l,∀n,f n x=g n x)->∀n,l.foldl f n=l.foldl g n
 |[],_,_=>rfl
 |x::l,h,n=>by
  simp only[List.foldl_cons]
  rw[h x (by simp)]
  exact S6 l (fun y hy=>h y (by simp[hy])) _
theorem A70 {n a b:Int}(h:a<=b):mx (mx n a) b=mx n b:=by
 unfold mx;repeat' split
 all_goals omega
theorem QI {s:List (List VV)}(hs:CF s)(hok:LI s):GB ((s,()),())=some (s.foldl Jk 0,()):=by
 have hn:=hs.1
 unfold GB
 refine Gi (l:=s) (f:=Jk) (X:=fun n=>some (n,())) 0 (fun i h n=>?_) (fun n=>⟨.inr (n,()),?_,rfl⟩) rfl
 ·unfold Ea
  have hsm:s[i].length<=1048576:=hs.2 _ (List.getElem_mem h)
  simp only[M9 hs,AC hok,Option.bind_some]
  rw[decide_eq_true (by omega),Am h (by omega)]
  simp only[cond_true]
  have hc:=(hok.2 _ (List.getElem_mem h)).1
  refine Gi (l:=s[i]) (f:=fun n v=>mx (mx n v.2.2.1) v.2.2.2.1) (X:=fun n=>some (.inl (n,((i+1:Nat):Int),()))) n (fun j hj n=>?_) (fun n=>⟨(n,()),?_,rfl⟩) ?_
  ·unfold E9
   simp only[Ak h,Ak hj,Option.bind_some]
   rw[decide_eq_true (by omega),Am hj (by omega)];rfl
  ·unfold E9
   simp only[Ak h,Option.bind_some]
   rw[decide_eq_false (by omega)];rfl
  ·rw[S6 (g:=fun n (v:VV)=>mx n v.2.2.2.1) s[i] (fun v hv n=>?_) n]
   ·rfl
   ·obtain⟨k,hk,rfl⟩:=List.getElem_of_mem hv
    obtain⟨_,h1,_⟩:=hc.1 k hk
    exact A70 (YT h1)
 ·unfold Ea
  simp only
  rw[decide_eq_false (by omega)];rfl
noncomputable def vA (l:List VV)(stamp:Int):Nat->Int
 |0=>-1
 |k+1=>bif dec (∃h:k<l.length,l[k].2.2.1<=stamp)then(k:Int)else vA l stamp k
theorem Qp (l:List VV)(stamp:Int):∀k,-1<=vA l stamp k/\vA l stamp k<k
 |0=>by simp[vA]
 |k+1=>by
  have:=Qp l stamp k
  unfold vA
  cases dec (∃h:k<l.length,l[k].2.2.1<=stamp)<;>simp<;>omega
theorem uV {l:List VV}(hl:Hm l)(hok:Lh l)(stamp:Int):Ia (l,stamp,())=some (vA l stamp l.length,()):=by
 have hl':l.length<=1048576:=hl
 unfold Ia
 refine Fe l.length (fun i=>(vA l stamp i,(i:Int),())) rfl (fun i hi=>?_) ⟨.inr (vA l stamp l.length,()),?_,rfl⟩
 ·unfold E8
  simp only[TY hl,AC hok,Ak hi,Option.bind_some]
  rw[decide_eq_true (by omega),Am hi (by omega)]
  simp only[cond_true]
  by_cases h:l[i].2.2.1<=stamp
  ·rw[decide_eq_true h]
   simp only[cond_true,vA]
   rw[AC ⟨hi,h⟩];rfl
  ·rw[decide_eq_false h]
   simp only[cond_false,vA]
   rw[Bl fun⟨_,h2⟩=>h h2];rfl
 ·unfold E8
  simp only
  rw[decide_eq_false (by omega)];rfl
theorem vd {l:List VV}(hl:Hm l)(stamp:Int):Il (l,stamp,())=some (vA l stamp l.length,()):=by
 have hl':l.length<=1048576:=hl
 unfold Il
 have key:∀k:Nat,k<=l.length->((AE (fun v=>CP (l,stamp,()) v _ some) ((k:Int)-1,())).bind fun p=>Az p (fun p=>some (p.1,())) fun p=>some (p.1,()))=some (vA l stamp k,()):=by
  intro k
  induction k with
  |zero=>
   intro _
   rw[Bf];unfold CP
   rfl
  |succ k ih=>
   intro hk
   have hlt:k<l.length:=by omega
   rw[Bf]
   have hB:CP (l,stamp,()) (((k+1:Nat):Int)-1,()) _ some=some (bif decide (l[k].2.2.1<=stamp)then .inr (.inl ((k:Int),()))else .inl ((k:Int)-1,())):=by
    unfold CP
    simp only[show((k+1:Nat):Int)-1=(k:Int) by omega,Ak hlt,Option.bind_some]
    rw[decide_eq_true (show(k:Int)>=0 by omega),De (by omega) (by omega)]
    by_cases h:l[k].2.2.1<=stamp
    ·rw[decide_eq_false (show ¬l[k].2.2.1>stamp from Int.not_lt.2 h),decide_eq_true h];rfl
    ·rw[decide_eq_true (show l[k].2.2.1>stamp from Int.not_le.1 h),decide_eq_false h];rfl
   rw[hB]
   by_cases h:l[k].2.2.1<=stamp
   ·rw[decide_eq_true h]
    simp only[cond_true,Option.bind_some,vA]
    rw[AC ⟨hlt,h⟩];rfl
   ·rw[decide_eq_false h]
    simp only[cond_false,Option.bind_some,vA]
    rw[Bl fun⟨_,h2⟩=>h h2];exact ih (by omega)
 simp only
 rw[De (by omega) (by omega)]
 exact key l.length (Nat.le_refl _)
end Go.Ab
end
section
namespace Go.Ab
theorem IP {α:Type}{a:List α}{z:α}(ha:a.length<=1048576){B:Int×List α×Unit->Option ((Int×List α×Unit) ⊕ (List α×Unit))}
 (hB:∀(i:Nat) (h:i<a.length) (out:List α),out.length=a.length->B ((i:Int),out,())=some (.inl (((i+1:Nat):Int),out.set i a[i],())))(hend:∀out,B ((a.length:Int),out,())=some (.inr (out,()))):
 ((AE B (0,List.replicate a.length z,())).bind fun p=>some (p.1,()))=some (a,()):=by
 rw[I3 (r:=(a,())) a.length (fun i=>((i:Int),a.take i++List.replicate (a.length-i) z,()))]
 ·rfl
 ·simp
 ·intro i hi
  rw[hB i hi _ (by simp;omega)]
  congr 3
  congr 1
  apply List.ext_getElem
  ·simp;omega
  ·intro j h1 h2
   simp at h1 h2
   rw[List.getElem_set]
   by_cases he:i=j
   ·subst he
    simp only[if_true]
    rw[List.getElem_append_left (by simp;omega)]
    simp
   ·rw[if_neg he]
    by_cases hlt:j<i
    ·rw[List.getElem_append_left (by simp;omega),List.getElem_append_left (by simp;omega)];simp
    ·rw[List.getElem_append_right (by simp;omega),List.getElem_append_right (by simp;omega)];simp
 ·simp[hend]
theorem UD {α:Type}{Small:α->Prop}{F:α->Int->Option (Int×Unit)}{a:List α}(ha:a.length<=maxLen)(hF:∀e∈a,∀l,0<=l->l<=1048576->L1 (Small e) (F e l)){B:Int×Int×Unit->Option ((Int×Int×Unit) ⊕ ((Int×Unit) ⊕ (Int×Unit)))}
 (hB:∀l i:Int,B (l,i,())=bif decide (i<((a.length:Nat):Int))then(lAt a i).bind fun e=>(F e l).bind fun r=>bif decide (r.1<0)then some (.inr (.inl (r.1,())))else some (.inl (r.1,IntKind.i64.wrap (i+1),()))else some (.inr (.inr (l,())))){l:Int}(h0:0<=l)(h1:l<=1048576):
 L1 (a.length<=1048576/\∀e∈a,Small e) (bif decide (IntKind.i64.wrap (l-((a.length:Nat):Int))<0)then some (-1,())else(AE B (IntKind.i64.wrap (l-((a.length:Nat):Int)),0,())).bind fun q=>Az q (fun _=>some (-1,())) fun b=>some (b.1,())):=by
 unfold maxLen at ha
 rw[De (by omega) (by omega)]
 by_cases h:l-(a.length:Int)<0
 ·rw[decide_eq_true h];exact⟨_,rfl,.inl (by omega)⟩
 rw[decide_eq_false h]
 have key:∀k i:Nat,i+k=a.length->∀l:Int,0<=l->l<=1048576->∃p,AE B (l,(i:Int),())=some p/\((∃n,p=.inl n)\/∃n,p=.inr (n,())/\0<=n/\n<=1048576/\∀e∈a.drop i,Small e):=by
  intro k
  induction k with
  |zero=>
   intro i hi l h0 h1
   rw[Bf,hB,decide_eq_false (by omega)]
   exact⟨_,rfl,.inr ⟨l,rfl,h0,h1,fun e he=>by rw[List.drop_eq_nil_iff.2 (by omega)]at he;cases he⟩⟩
  |succ k ih=>
   intro i hi l h0 h1
   have hlt:i<a.length:=by omega
   rw[Bf,hB,decide_eq_true (by omega),Ak hlt]
   obtain⟨n,e1,h2⟩:=hF a[i] (List.getElem_mem hlt) l h0 h1
   simp only[cond_true,Option.bind_some,e1]
   rcases h2 with h2|⟨h2,h3,h4⟩
   ·rw[decide_eq_true h2];exact⟨_,rfl,.inl ⟨(n,()),rfl⟩⟩
   ·rw[decide_eq_false (show ¬n<0 by omega),Am hlt (by omega)]
    obtain⟨p,e2,h5⟩:=ih (i+1) (by omega) n h2 h3
    refine⟨p,e2,h5.imp id ?_⟩
    rintro⟨m,rfl,h6,h7,h8⟩
    refine⟨m,rfl,h6,h7,fun e he=>?_⟩
    rw[List.drop_eq_getElem_cons hlt]at he
    rcases List.mem_cons.1 he with rfl|he
    ·exact h4
    ·exact h8 e he
 obtain⟨p,e1,h2⟩:=key a.length 0 (by omega) (l-a.length) (by omega) (by omega)
 simp only[Int.natCast_zero]at e1
 have e1':AE B (l-(a.length:Int),0,())=some p:=e1
 rw[cond_false,e1']
 rcases h2 with⟨n,rfl⟩|⟨n,rfl,h3,h4,h5⟩
 ·exact⟨_,rfl,.inl (by omega)⟩
 ·exact⟨_,rfl,.inr ⟨h3,h4,by omega,by simpa using h5⟩⟩
theorem TT (a:List VV)(ha:a.length<=1048576):HH (a,())=some (a,()):=by
 unfold HH
 simp only
 rw[if_pos (by omega),Int.toNat_natCast]
 refine IP ha (fun i h out ho=>?_) fun out=>?_
 ·unfold DU
  simp only[Ak h,Option.bind_some,JF]
  rw[decide_eq_true (by omega),if_pos (by omega),Am h (by omega)]
  simp[ho,h]
 ·unfold DU
  simp only
  rw[decide_eq_false (by omega)];rfl
theorem TU {a:List VV}{l:Int}(ha:a.length<=maxLen)(h0:0<=l)(h1:l<=1048576):L1 (a.length<=1048576) (HJ (a,l,())):=OJ ha h0 h1
theorem Ri (a:List (List VV))(ha:CF a):GV (a,())=some (a,()):=by
 have hn:=ha.1
 unfold GV
 simp only
 rw[if_pos (by omega),Int.toNat_natCast]
 refine IP hn (fun i h out ho=>?_) fun out=>?_
 ·unfold Dx
  simp only[Ak h,Option.bind_some,TT _ (ha.2 _ (List.getElem_mem h))]
  rw[decide_eq_true (by omega),if_pos (by omega),Am h (by omega)]
  simp[ho,h]
 ·unfold Dx
  simp only
  rw[decide_eq_false (by omega)];rfl
theorem Rk {a:List (List VV)}{l:Int}(ha:a.length<=maxLen)(hb:∀e∈a,e.length<=maxLen)(h0:0<=l)(h1:l<=1048576):L1 (CF a) (IL (a,l,())):=
 UD (Small:=Hm) (F:=fun e l=>HJ (e,l,())) ha (fun e he l h0 h1=>TU (hb e he) h0 h1) (fun l i=>rfl) h0 h1
theorem kl {a:List (List VV)}{l:Int}(ha:a.length<=maxLen)(hb:∀e∈a,e.length<=maxLen)(h0:0<=l)(h1:l<=1048576):L1 (CF a) (KM ((a,()),l,())):=Qr (Rk ha hb h0 h1)
theorem kh (a:List (List VV))(ha:CF a):Jb ((a,()),())=some (a,()):=by
 simp[Jb,Ri a ha]
theorem jJ {a:List (List VV)}:∀(k:Int),(∀e∈a,e.length<=1048576)->F5 k a<=k+5242880*a.length:=by
 induction a with
 |nil=>intro k _;simp[F5]
 |cons r rs ih=>
  intro k h
  have h1:=ih (k+5*r.length) (fun e he=>h e (List.mem_cons_of_mem _ he))
  have h2:=h r (List.mem_cons_self ..)
  simp only[F5,List.length_cons]
  push_cast
  omega
def Xm (a:List (List VV)):Prop:=a.length<9223372036854775000/\F5 1 a<9223372036854775000
theorem CF.small {a:List (List VV)}(h:CF a):Xm a:=by
 have h1:=jJ 1 h.2
 have h2:=h.1
 exact⟨by omega,by omega⟩
theorem WE (v:VV):Ik (v,v,())=some (true,()):=by
 simp[Ik]
theorem U4 (a:List VV)(ha:a.length<9223372036854775000):HQ (a,a,())=some (true,()):=by
 unfold HQ
 simp only[bne_self_eq_false,cond_false]
 refine Fe a.length (fun j=>((j:Int),())) rfl (fun j hj=>?_) ⟨.inr (),?_,rfl⟩
 ·unfold DX
  simp only[Ak hj,Option.bind_some,WE]
  rw[decide_eq_true (by omega),wr1 (by omega) (by omega)]
  rfl
 ·unfold DX
  simp only
  rw[decide_eq_false (by omega)]
  rfl
theorem Rp (a:List (List VV))(ha:a.length<9223372036854775000)(hb:∀r∈a,r.length<9223372036854775000):Ha (a,a,())=some (true,()):=by
 unfold Ha
 simp only[bne_self_eq_false,cond_false]
 refine Fe a.length (fun j=>((j:Int),())) rfl (fun j hj=>?_) ⟨.inr (),?_,rfl⟩
 ·unfold DB
  simp only[Ak hj,Option.bind_some,U4 _ (hb _ (List.getElem_mem hj))]
  rw[decide_eq_true (by omega),wr1 (by omega) (by omega)]
  rfl
 ·unfold DB
  simp only
  rw[decide_eq_false (by omega)]
  rfl
theorem vT {a:List (List VV)}{r:List VV}(h:r∈a)(k:Int):k+5*r.length<=F5 k a:=by
 induction a generalizing k with
 |nil=>cases h
 |cons s rs ih=>
  simp only[F5]
  rcases List.mem_cons.1 h with rfl|h
  ·exact Pd _ _
  ·have:=ih h (k+5*s.length);omega
theorem Xm.row {a:List (List VV)}(h:Xm a):∀r∈a,r.length<9223372036854775000:=fun r hr=>by
 have:=vT hr 1;have:=h.2;omega
theorem U5 (v:VM):HR (v,v,())=some (true,()):=by
 simp[HR]
theorem Rq (a:List VM)(ha:a.length<9223372036854775000):Hb (a,a,())=some (true,()):=by
 unfold Hb
 simp only[bne_self_eq_false,cond_false]
 refine Fe a.length (fun j=>((j:Int),())) rfl (fun j hj=>?_) ⟨.inr (),?_,rfl⟩
 ·unfold DC
  simp only[Ak hj,Option.bind_some,U5]
  rw[decide_eq_true (by omega),wr1 (by omega) (by omega)]
  rfl
 ·unfold DC
  simp only
  rw[decide_eq_false (by omega)]
  rfl
theorem Q8 (n:Nat)(k:Int)(h0:0<=k)(hk:k+2*n<9223372036854775000):G2 (mkL mk2 2 k n,k,())=some (k+2*n,()):=by
 unfold G2
 simp only
 refine Fe n (fun j=>(k+2*(j:Int),(j:Int),())) (by simp) (fun j hj=>?_) ⟨.inr (.inr (k+2*n,())),?_,rfl⟩
 ·unfold CQ
  have hg:lAt (mkL mk2 2 k n) (j:Int)=some (mk2 (k+2*(j:Int))):=by
   rw[Ak (by rw[AL];exact hj)]
   have:=NG mk2 2 k n j hj
   rw[List.getElem?_eq_getElem (by rw[AL];exact hj)]at this
   exact this
  simp only[AL,hg,Option.bind_some]
  rw[decide_eq_true (by omega)]
  rw[wr1 (k:=k+2*(j:Int)) (by omega) (by omega),wr1 (k:=k+2*(j:Int)+1) (by omega) (by omega),wr1 (k:=(j:Int)) (by omega) (by omega)]
  simp only[mk2,cond_true]
  have e0:(k+2*(j:Int) != k+2*(j:Int))=false:=by first|simp|(rw[bne_eq_false_iff_eq];omega)
  have e1:(k+2*(j:Int)+1 != k+2*(j:Int)+1)=false:=by first|simp|(rw[bne_eq_false_iff_eq];omega)
  simp only[e0,e1,cond_false]
  congr 3
  ·push_cast;omega
 ·unfold CQ
  simp only[AL]
  rw[decide_eq_false (by omega)]
  rfl
theorem kB (v:VM):Jg (v,v,())=some (true,()):=by
 simp[Jg]
theorem YN (a:List VM)(ha:a.length<9223372036854775000):ID (a,a,())=some (true,()):=by
 unfold ID
 simp only[bne_self_eq_false,cond_false]
 refine Fe a.length (fun j=>((j:Int),())) rfl (fun j hj=>?_) ⟨.inr (),?_,rfl⟩
 ·unfold EX
  simp only[Ak hj,Option.bind_some,kB]
  rw[decide_eq_true (by omega),wr1 (by omega) (by omega)]
  rfl
 ·unfold EX
  simp only
  rw[decide_eq_false (by omega)]
  rfl
theorem U2 (n:Nat)(k:Int)(h0:0<=k)(hk:k+2*n<9223372036854775000):HP (mkL mk2 2 k n,k,())=some (k+2*n,()):=by
 unfold HP
 simp only
 refine Fe n (fun j=>(k+2*(j:Int),(j:Int),())) (by simp) (fun j hj=>?_) ⟨.inr (.inr (k+2*n,())),?_,rfl⟩
 ·unfold DW
  have hg:lAt (mkL mk2 2 k n) (j:Int)=some (mk2 (k+2*(j:Int))):=by
   rw[Ak (by rw[AL];exact hj)]
   have:=NG mk2 2 k n j hj
   rw[List.getElem?_eq_getElem (by rw[AL];exact hj)]at this
   exact this
  simp only[AL,hg,Option.bind_some]
  rw[decide_eq_true (by omega)]
  rw[wr1 (k:=k+2*(j:Int)) (by omega) (by omega),wr1 (k:=k+2*(j:Int)+1) (by omega) (by omega),wr1 (k:=(j:Int)) (by omega) (by omega)]
  simp only[mk2,cond_true]
  have e0:(k+2*(j:Int) != k+2*(j:Int))=false:=by first|simp|(rw[bne_eq_false_iff_eq];omega)
  have e1:(k+2*(j:Int)+1 != k+2*(j:Int)+1)=false:=by first|simp|(rw[bne_eq_false_iff_eq];omega)
  simp only[e0,e1,cond_false]
  congr 3
  ·push_cast;omega
 ·unfold DW
  simp only[AL]
  rw[decide_eq_false (by omega)]
  rfl
end Go.Ab
end
section
namespace Go.Ab
theorem QR (n:Nat)(k:Int)(h0:0<=k)(hk:k+5*n<9223372036854775000):Gq (mkL mk5 5 k n,k,())=some (k+5*n,()):=by
 unfold Gq
 simp only
 refine Fe n (fun j=>(k+5*(j:Int),(j:Int),())) (by simp) (fun j hj=>?_) ⟨.inr (.inr (.inr (.inr (.inr (k+5*n,()))))),?_,rfl⟩
 ·unfold D8
  have hg:lAt (mkL mk5 5 k n) (j:Int)=some (mk5 (k+5*(j:Int))):=by
   rw[Ak (by rw[AL];exact hj)]
   have:=NG mk5 5 k n j hj
   rw[List.getElem?_eq_getElem (by rw[AL];exact hj)]at this
   exact this
  simp only[AL,hg,Option.bind_some]
  rw[decide_eq_true (by omega)]
  rw[wr1 (k:=k+5*(j:Int)) (by omega) (by omega),wr1 (k:=k+5*(j:Int)+1) (by omega) (by omega),wr1 (k:=k+5*(j:Int)+1+1) (by omega) (by omega),wr1 (k:=k+5*(j:Int)+1+1+1) (by omega) (by omega),wr1 (k:=k+5*(j:Int)+1+1+1+1) (by omega) (by omega),wr1 (k:=(j:Int)) (by omega) (by omega)]
  simp only[mk5,cond_true]
  have e0:(k+5*(j:Int) != k+5*(j:Int))=false:=by simp
  have e1:(k+5*(j:Int)+1 != k+5*(j:Int)+1)=false:=by simp
  have e2:(k+5*(j:Int)+2 != k+5*(j:Int)+1+1)=false:=by rw[bne_eq_false_iff_eq];omega
  have e3:(k+5*(j:Int)+3 != k+5*(j:Int)+1+1+1)=false:=by rw[bne_eq_false_iff_eq];omega
  have e4:(k+5*(j:Int)+4 != k+5*(j:Int)+1+1+1+1)=false:=by rw[bne_eq_false_iff_eq];omega
  simp only[e0,e1,e2,e3,e4,cond_false]
  congr 3
  ·push_cast;omega
 ·unfold D8
  simp only[AL]
  rw[decide_eq_false (by omega)]
  rfl
theorem Q7 (xss:List (List VV))(k:Int)(h0:0<=k)(hk:F5 k xss<9223372036854775000)(hl:xss.length<9223372036854775000):G1 (Ou k xss,k,())=some (F5 k xss,()):=by
 unfold G1
 simp only
 have key:∀(rs pre:List (List VV)) (k:Int),0<=k->F5 k rs<9223372036854775000->pre.length+rs.length<9223372036854775000->
  AE (fun v=>BR (pre++Ou k rs,()) v _ some) (k,(pre.length:Int),())=some (.inr (F5 k rs,())):=by
  intro rs
  induction rs with
  |nil=>
   intro pre k h0 hk hl
   rw[Bf]
   unfold BR
   simp only[Ou,List.append_nil]
   rw[decide_eq_false (by omega)]
   simp[F5]
  |cons r rs ih=>
   intro pre k h0 hk hl
   have hge:=Pd (k+5*r.length) rs
   simp only[F5]at hk
   simp only[List.length_cons]at hl
   rw[Bf]
   simp only[Ou]
   have:=ih (pre++[mkL mk5 5 k r.length]) (k+5*r.length) (by omega) hk (by simp;omega)
   simp only[List.length_append,List.length_cons,List.length_nil,Nat.zero_add,Int.natCast_add,List.append_assoc,List.singleton_append]at this
   rw[show((1:Nat):Int)=1 from rfl]at this
   simp only[F5]
   rw[<-this]
   have hB:BR (pre++mkL mk5 5 k r.length::Ou (k+5*r.length) rs,()) (k,(pre.length:Int),()) _ some=some (.inl (k+5*r.length,(pre.length:Int)+1,())):=by
    unfold BR
    have hg:lAt (pre++mkL mk5 5 k r.length::Ou (k+5*r.length) rs) (pre.length:Int)=some (mkL mk5 5 k r.length):=by
     rw[Ak (by simp)];simp
    simp only[hg,Option.bind_some,QR r.length k h0 (by omega)]
    rw[decide_eq_true (by simp;omega),decide_eq_false (by omega),wr1 (by omega) (by omega)]
    rfl
   rw[hB];rfl
 have:=key xss [] k h0 hk (by simpa using hl)
 simp only[List.length_nil,List.nil_append,Int.natCast_zero]at this
 rw[this];rfl
end Go.Ab
end
section
namespace Go.Ab
def Cg (a b:VM):Prop:=a.1<b.1\/(a.1=b.1/\a.2.1<b.2.1)
instance (a b:VM):Decidable (Cg a b):=by unfold Cg;infer_instance
theorem WF (a b:VM):Ho ((a.1,a.2.1,()),(b.1,b.2.1,()),())=some (decide (Cg a b),()):=by
 unfold Ho Cg
 by_cases h1:a.1<b.1
 ·simp[h1]
 ·by_cases h2:a.1=b.1
  ·simp[h2]
  ·have h3:(a.1==b.1)=false:=by simpa using h2
   simp[h1,h2,h3]
theorem vj (a b:Int):C0 (a,b,())=some (if a<b then-1 else if a>b then 1 else 0,()):=by
 unfold C0 IE
 by_cases h1:a<b
 ·simp[h1]
 ·by_cases h2:a>b<;>simp[h1,h2]
theorem A6y (a b:Int):Kx ([a,b],())=some (if a≠0 then a else b,()):=by
 unfold Kx
 have l0:lAt [a,b] 0=some a:=rfl
 have l1:lAt [a,b] 1=some b:=rfl
 have w0:IntKind.i64.wrap ((0:Int)+1)=1:=wr1 (by omega) (by omega)
 have w1:IntKind.i64.wrap ((1:Int)+1)=2:=wr1 (by omega) (by omega)
 have B0:Dh (0,[a,b],2,()) (0,()) ((Int×Unit) ⊕ ((Int×Unit) ⊕ Unit)) some=some (bif a != 0 then .inr (.inl (a,()))else .inl (1,())):=by
  unfold Dh
  simp only[l0,Option.bind_some,w0]
  cases(a != 0:Bool)<;>rfl
 have B1:Dh (0,[a,b],2,()) (1,()) ((Int×Unit) ⊕ ((Int×Unit) ⊕ Unit)) some=some (bif b != 0 then .inr (.inl (b,()))else .inl (2,())):=by
  unfold Dh
  simp only[l1,Option.bind_some,w1]
  cases(b != 0:Bool)<;>rfl
 have B2:Dh (0,[a,b],2,()) (2,()) ((Int×Unit) ⊕ ((Int×Unit) ⊕ Unit)) some=some (.inr (.inr ())):=by
  unfold Dh
  rfl
 have e:(((List.length [a,b]:Nat):Int))=2:=rfl
 simp only[e]
 rw[Bf,B0]
 by_cases ha:a=0
 ·subst ha
  simp only[bne_self_eq_false,cond_false,Option.bind_some]
  rw[Bf,B1]
  by_cases hb:b=0
  ·subst hb
   simp only[bne_self_eq_false,cond_false,Option.bind_some]
   rw[Bf,B2];rfl
  ·have:(b != 0)=true:=by simpa using hb
   rw[this];simp[Az]
 ·have:(a != 0)=true:=by simpa using ha
  rw[this];simp[Az,ha]
theorem N4 (a b:VM):∃n:Int,BW ((a.1,a.2.1,()),(b.1,b.2.1,()),())=some (n,())/\(n>=0↔¬Cg a b):=by
 unfold BW
 simp only[vj,A6y,Option.bind_some]
 refine⟨_,rfl,?_⟩
 unfold Cg
 by_cases h1:a.1<b.1
 ·simp[h1]
 ·by_cases h2:a.1>b.1
  ·simp[h1,h2];omega
  ·have h3:a.1=b.1:=by omega
   simp[h3]
   by_cases h4:a.2.1<b.2.1
   ·simp[h4]
   ·by_cases h5:a.2.1>b.2.1<;>simp[h4,h5]<;>omega
def wj (l:List VM)(i:Nat):Prop:=∃h:i<l.length,inB l[i].1 0 5=true/\inB l[i].2.1 0 999=true/\∀h2:0<i,Cg (l[i-1]'(by omega)) l[i]
def wc (l:List VM)(i:Nat):Prop:=∃h:i<l.length,inB l[i].1 0 5=true/\inB l[i].2.1 (-1) 99=true/\∀h2:0<i,(l[i-1]'(by omega)).1<l[i].1
def NT (l:List VM):Prop:=∀i,i<l.length->wj l i
def QW (l:List VM):Prop:=∀i,i<l.length->wc l i
theorem Wu {l:List VM}(hl:l.length<=1048576):DG (l,())=some (dec (NT l)&&decide (l.length<=60),()):=by
 have e:DG (l,())=bif dec (NT l)then some (decide (((l.length:Nat):Int)<=60),())else some (false,()):=by
  unfold DG
  refine CU (n:=l.length) (c:=wj l) (fun i hi=>?_) ⟨.inr (.inr (.inr ())),?_,rfl⟩
  ·unfold EY
   simp only[Ak hi,Option.bind_some,OY,J6]
   rw[decide_eq_true (by omega)]
   simp only[cond_true]
   cases h1:inB l[i].1 0 5 with
   |false=>exact⟨fun⟨_,h,_⟩=>(by rw[h1]at h;cases h),fun _=>⟨.inl _,rfl,rfl⟩⟩
   |true=>
    simp only[Bool.not_true,cond_false]
    cases h2:inB l[i].2.1 0 999 with
    |false=>exact⟨fun⟨_,_,h,_⟩=>(by rw[h2]at h;cases h),fun _=>⟨.inr (.inl _),rfl,rfl⟩⟩
    |true=>
     simp only[Bool.not_true,cond_false]
     rw[Am hi (by omega)]
     by_cases h3:0<i
     ·have hlt:i-1<l.length:=by omega
      rw[decide_eq_true (show(i:Int)>0 by omega),show IntKind.i64.wrap ((i:Int)-1)=((i-1:Nat):Int)from by rw[De (by omega) (by omega)];omega,Ak hlt]
      obtain⟨n,e1,e2⟩:=N4 l[i-1] l[i]
      simp only[cond_true,Option.bind_some,e1]
      by_cases hb:Cg l[i-1] l[i]
      ·rw[decide_eq_false (fun h=>e2.1 h hb)]
       exact⟨fun _=>rfl,fun h=>absurd ⟨hi,h1,h2,fun _=>hb⟩ h⟩
      ·rw[decide_eq_true (e2.2 hb)]
       exact⟨fun⟨_,_,_,h⟩=>absurd (h h3) hb,fun _=>⟨.inr (.inr (.inl _)),rfl,rfl⟩⟩
     ·rw[decide_eq_false (show ¬(i:Int)>0 by omega)]
      exact⟨fun _=>rfl,fun h=>absurd ⟨hi,h1,h2,fun h=>absurd h h3⟩ h⟩
  ·unfold EY
   simp only
   rw[decide_eq_false (by omega)];rfl
 rw[e]
 have d:decide (((l.length:Nat):Int)<=60)=decide (l.length<=60):=decide_eq_decide.2 (by omega)
 rw[d]
 cases dec (NT l)<;>simp
theorem TZ {l:List VM}(hl:l.length<=1048576):D9 (l,())=some (dec (QW l),()):=by
 have e:D9 (l,())=bif dec (QW l)then some (true,())else some (false,()):=by
  unfold D9
  refine CU (n:=l.length) (c:=wc l) (fun i hi=>?_) ⟨.inr (.inr (.inr ())),?_,rfl⟩
  ·unfold Eg
   simp only[Ak hi,Option.bind_some,OY,Pu]
   rw[decide_eq_true (by omega)]
   simp only[cond_true]
   cases h1:inB l[i].1 0 5 with
   |false=>exact⟨fun⟨_,h,_⟩=>(by rw[h1]at h;cases h),fun _=>⟨.inl _,rfl,rfl⟩⟩
   |true=>
    simp only[Bool.not_true,cond_false]
    cases h2:inB l[i].2.1 (-1) 99 with
    |false=>exact⟨fun⟨_,_,h,_⟩=>(by rw[h2]at h;cases h),fun _=>⟨.inr (.inl _),rfl,rfl⟩⟩
    |true=>
     simp only[Bool.not_true,cond_false]
     rw[Am hi (by omega)]
     by_cases h3:0<i
     ·have hlt:i-1<l.length:=by omega
      rw[decide_eq_true (show(i:Int)>0 by omega),show IntKind.i64.wrap ((i:Int)-1)=((i-1:Nat):Int)from by rw[De (by omega) (by omega)];omega,Ak hlt]
      simp only[cond_true,Option.bind_some]
      by_cases hb:l[i-1].1<l[i].1
      ·rw[decide_eq_false (by omega)]
       exact⟨fun _=>rfl,fun h=>absurd ⟨hi,h1,h2,fun _=>hb⟩ h⟩
      ·rw[decide_eq_true (by omega)]
       exact⟨fun⟨_,_,_,h⟩=>absurd (h h3) hb,fun _=>⟨.inr (.inr (.inl _)),rfl,rfl⟩⟩
     ·rw[decide_eq_false (show ¬(i:Int)>0 by omega)]
      exact⟨fun _=>rfl,fun h=>absurd ⟨hi,h1,h2,fun h=>absurd h h3⟩ h⟩
  ·unfold Eg
   simp only
   rw[decide_eq_false (by omega)];rfl
 rw[e]
 cases dec (QW l)<;>rfl
noncomputable def okT (id sc st be lo hi co:Int)(rd wr:List VM):Bool:=
 dec (NT rd)&&dec (QW wr)&&inB id 1 9&&inB sc 1 4&&inB be 0 999&&inB st 1 3&&inB lo 0 999&&inB hi 1 1000&&((st==2)==decide (co>0))&&inB co 0 999&&decide (rd.length<=60)
theorem Qk {id sc st be lo hi co:Int}{rd wr:List VM}(hr:rd.length<=1048576)(hw:wr.length<=1048576):AO ((id,sc,st,be,lo,hi,co,rd,wr,()),())=some (okT id sc st be lo hi co rd wr,()):=by
 unfold AO
 simp only
 refine(CU (n:=rd.length) (c:=wj rd) (no:=some (false,())) (X:=bif dec (QW wr)then some (inB id 1 9&&inB sc 1 4&&inB be 0 999&&inB st 1 3&&inB lo 0 999&&inB hi 1 1000&&((st==2)==decide (co>0))&&inB co 0 999&&decide (rd.length<=60),())else some (false,())) (fun i hi'=>?_) ⟨.inr (.inr (.inr ())),?_,?_⟩).trans ?_
 ·unfold BZ
  simp only[Ak hi',Option.bind_some,Eu]
  rw[decide_eq_true (by omega)]
  simp only[cond_true]
  cases h1:inB rd[i].1 0 5 with
  |false=>exact⟨fun⟨_,h,_⟩=>(by rw[h1]at h;cases h),fun _=>⟨.inl _,rfl,rfl⟩⟩
  |true=>
   simp only[Bool.not_true,cond_false]
   cases h2:inB rd[i].2.1 0 999 with
   |false=>exact⟨fun⟨_,_,h,_⟩=>(by rw[h2]at h;cases h),fun _=>⟨.inr (.inl _),rfl,rfl⟩⟩
   |true=>
    simp only[Bool.not_true,cond_false]
    rw[Am hi' (by omega)]
    by_cases h3:0<i
    ·have hlt:i-1<rd.length:=by omega
     rw[decide_eq_true (show(i:Int)>0 by omega),show IntKind.i64.wrap ((i:Int)-1)=((i-1:Nat):Int)from by rw[De (by omega) (by omega)];omega,Ak hlt]
     simp only[cond_true,Option.bind_some,WF]
     by_cases hb:Cg rd[i-1] rd[i]
     ·rw[decide_eq_true hb]
      exact⟨fun _=>rfl,fun h=>absurd ⟨hi',h1,h2,fun _=>hb⟩ h⟩
     ·rw[decide_eq_false hb]
      exact⟨fun⟨_,_,_,h⟩=>absurd (h h3) hb,fun _=>⟨.inr (.inr (.inl _)),rfl,rfl⟩⟩
    ·rw[decide_eq_false (show ¬(i:Int)>0 by omega)]
     exact⟨fun _=>rfl,fun h=>absurd ⟨hi',h1,h2,fun h=>absurd h h3⟩ h⟩
 ·unfold BZ
  simp only
  rw[decide_eq_false (by omega)];rfl
 ·refine CU (n:=wr.length) (c:=wc wr) (fun i hi'=>?_) ⟨.inr (.inr (.inr ())),?_,?_⟩
  ·unfold BX
   simp only[Ak hi',Option.bind_some,Eu]
   rw[decide_eq_true (by omega)]
   simp only[cond_true]
   cases h1:inB wr[i].1 0 5 with
   |false=>exact⟨fun⟨_,h,_⟩=>(by rw[h1]at h;cases h),fun _=>⟨.inl _,rfl,rfl⟩⟩
   |true=>
    simp only[Bool.not_true,cond_false]
    cases h2:inB wr[i].2.1 (-1) 99 with
    |false=>exact⟨fun⟨_,_,h,_⟩=>(by rw[h2]at h;cases h),fun _=>⟨.inr (.inl _),rfl,rfl⟩⟩
    |true=>
     simp only[Bool.not_true,cond_false]
     rw[Am hi' (by omega)]
     by_cases h3:0<i
     ·have hlt:i-1<wr.length:=by omega
      rw[decide_eq_true (show(i:Int)>0 by omega),show IntKind.i64.wrap ((i:Int)-1)=((i-1:Nat):Int)from by rw[De (by omega) (by omega)];omega,Ak hlt]
      simp only[cond_true,Option.bind_some]
      by_cases hb:wr[i-1].1<wr[i].1
      ·rw[decide_eq_false (by omega)]
       exact⟨fun _=>rfl,fun h=>absurd ⟨hi',h1,h2,fun _=>hb⟩ h⟩
      ·rw[decide_eq_true (by omega)]
       exact⟨fun⟨_,_,_,h⟩=>absurd (h h3) hb,fun _=>⟨.inr (.inr (.inl _)),rfl,rfl⟩⟩
     ·rw[decide_eq_false (show ¬(i:Int)>0 by omega)]
      exact⟨fun _=>rfl,fun h=>absurd ⟨hi',h1,h2,fun h=>absurd h h3⟩ h⟩
  ·unfold BX
   simp only
   rw[decide_eq_false (by omega)];rfl
  ·simp only[Az,Eu,Option.bind_some]
   have d:decide (((rd.length:Nat):Int)<=60)=decide (rd.length<=60):=decide_eq_decide.2 (by omega)
   rw[d]
   cases inB id 1 9<;>cases inB sc 1 4<;>cases inB be 0 999<;>cases inB st 1 3<;>cases inB lo 0 999<;>cases inB hi 1 1000<;>cases((st==2)==decide (co>0):Bool)<;>cases inB co 0 999<;>rfl
 ·unfold okT
  show(bif dec (NT rd)then _ else _)=_
  cases dec (NT rd)<;>cases dec (QW wr)<;>simp
end Go.Ab
end
section
namespace Go.Ab
theorem Ph {α:Type}{a:List α}(ha:a.length<=1048576){B:Int×List α×Unit->Option ((Int×List α×Unit) ⊕ (List α×Unit))}
 (hB:∀(i:Nat) (h:i<a.length) (out:List α),out.length=i->B ((i:Int),out,())=some (.inl (((i+1:Nat):Int),out++[a[i]],())))(hend:∀out,B ((a.length:Int),out,())=some (.inr (out,()))):
 ((AE B (0,[],())).bind fun p=>some (p.1,()))=some (a,()):=by
 rw[I3 (r:=(a,())) a.length (fun i=>((i:Int),a.take i,()))]
 ·rfl
 ·simp
 ·intro i hi
  rw[hB i hi _ (by simp;omega)]
  have e:a.take i++[a[i]]=a.take (i+1):=by rw[List.take_append_getElem hi]
  rw[e]
 ·simp[hend]
theorem QM {s:List (List VV)}(hs:CF s):Iu ((s,()),())=some (s,()):=by
 have hn:=hs.1
 unfold Iu
 refine Ph hn (fun i h out ho=>?_) fun out=>?_
 ·have hsm:s[i].length<=1048576:=hs.2 _ (List.getElem_mem h)
  unfold Gx L7
  simp only[Ak h,Option.bind_some]
  rw[decide_eq_true (by omega),if_pos (by omega)]
  simp only[cond_true,Option.bind_some,List.length_append,List.length_cons,List.length_nil]
  rw[if_pos (by omega),Am h (by omega)]
 ·unfold Gx
  simp only
  rw[decide_eq_false (by omega)];rfl
theorem zS {l:List VV}(hl:l.length<=1048576):Df (l,())=some (l,()):=by
 unfold Df
 simp only
 rw[if_pos (by omega)]
 cases l with
 |nil=>exact LV _
 |cons a l=>rfl
theorem YL {s:List (List VV)}(hs:CF s):Gs ((s,()),())=some (s,()):=by
 have hn:=hs.1
 unfold Gs
 refine Ph hn (fun i h out ho=>?_) fun out=>?_
 ·have hsm:s[i].length<=1048576:=hs.2 _ (List.getElem_mem h)
  unfold Db
  simp only[Ak h,Option.bind_some,zS hsm,List.length_append,List.length_cons,List.length_nil]
  rw[decide_eq_true (by omega),if_pos (by omega),Am h (by omega)]
  rfl
 ·unfold Db
  simp only
  rw[decide_eq_false (by omega)];rfl
theorem uI {id sc st be lo hi co:Int}{rd wr:List VM}(hr:rd.length<=1048576)(hw:wr.length<=1048576):EN ((id,sc,st,be,lo,hi,co,rd,wr,()),())=some (id,sc,st,be,lo,hi,co,rd,wr,()):=by
 unfold EN
 simp only
 rw[if_pos (by omega),if_pos (by omega)]
def fvI (l:List VV)(c:Int):Option Nat:=(l.map (fun v=>v.2.2.1)).findIdx? (fun x=>x==c)
def fx:Option Nat->Int|some i=>(i:Int)|none=>-1
theorem vV (b:Bool):dec (b=true)=b:=by
 cases b
 ·exact Bl (by simp)
 ·exact AC rfl
theorem El {α:Type}{l:List α}{p:α->Bool}(hn:l.length<=1048576){B:Int×Unit->Option ((Int×Unit) ⊕ ((Int×Unit) ⊕ Unit))}
 (hB:∀i (h:i<l.length),B ((i:Int),())=some (bif p l[i]then .inr (.inl ((i:Int),()))else .inl (((i+1:Nat):Int),())))(hend:B ((l.length:Int),())=some (.inr (.inr ()))):
 ((AE B (0,())).bind fun q=>Az q (fun q=>some (q.1,())) fun _=>some (-1,()))=some (fx (l.findIdx? p),()):=by
 obtain⟨n,e,h⟩:=LR (ρ:=Unit) (l:=l) (p:=fun x=>p x=true) hn (B:=B) (fun i h=>by rw[hB i h,vV]) hend
 rw[e]
 rcases h with⟨i,hi,rfl,hp,hq⟩|⟨rfl,hq⟩
 ·have:l.findIdx? p=some i:=List.findIdx?_eq_some_iff_getElem.2 ⟨hi,hp,fun j hj=>by simpa using hq j hj⟩
  rw[this];rfl
 ·have:l.findIdx? p=none:=List.findIdx?_eq_none_iff.2 fun x hx=>by simpa using hq x hx
  rw[this];rfl
theorem QK {l:List VV}(hl:l.length<=1048576)(c:Int):DS (l,c,())=some (fx (fvI l c),()):=by
 unfold DS fvI
 rw[List.findIdx?_map]
 refine El hl (fun i h=>?_) ?_
 ·unfold Dw
  simp only[Ak h,Option.bind_some]
  rw[decide_eq_true (by omega),Am h (by omega)]
  simp only[cond_true,Function.comp]
  cases(l[i].2.2.1==c:Bool)<;>rfl
 ·unfold Dw
  simp only
  rw[decide_eq_false (by omega)];rfl
theorem QQ {l:List VV}(hl:l.length<=1048576)(c:Int):Ff (l,c,())=some (fx (fvI l c),()):=by
 unfold Ff Cy fvI
 rw[List.findIdx?_map]
 have:=El hl (p:=(fun x=>x==c)∘fun v:VV=>v.2.2.1) (B:=fun v=>AK (l,(some c,()),((l.length:Nat):Int),()) v _ some) (fun i h=>by
  unfold AK I4
  simp only[Ak h,Option.bind_some]
  rw[decide_eq_true (by omega),Am h (by omega)]
  simp only[cond_true,Function.comp]
  cases(l[i].2.2.1==c:Bool)<;>rfl) (by
  unfold AK
  simp only
  rw[decide_eq_false (by omega)];rfl)
 simp only[this,Option.bind_some]
theorem PD {l:List VV}{c:Int}{j:Nat}(h:fvI l c=some j):j<l.length:=by
 unfold fvI at h
 obtain⟨h1,_⟩:=List.findIdx?_eq_some_iff_getElem.1 h
 simpa using h1
theorem Z1 (o:Option Nat):decide (fx o<0)=o.isNone:=by
 cases o with
 |none=>rfl
 |some i=>exact decide_eq_false (by simp only[fx];omega)
def Jo (s:List (List VV))(m:VM):Option (List VV):=s[m.1.toNat]?
def Hk (s:List (List VV))(m:VM):Prop:=∃l j,Jo s m=some l/\fvI l m.2.1=some j
theorem K3 {s:List (List VV)}{m:VM}(h6:s.length=6)(hm:inB m.1 0 5=true):∃k:Nat,m.1=(k:Int)/\k<s.length/\∃l,s[k]?=some l/\lAt s m.1=some l/\Jo s m=some l/\l∈s:=by
 unfold inB at hm
 simp only[Bool.and_eq_true,decide_eq_true_eq]at hm
 obtain⟨k,hk⟩:=Int.eq_ofNat_of_zero_le hm.1
 have hlt:k<s.length:=by omega
 refine⟨k,hk,hlt,s[k],by simp[hlt],by rw[hk];exact Ak hlt,?_,List.getElem_mem hlt⟩
 unfold Jo
 rw[hk];simp[hlt]
theorem QL {s:List (List VV)}(hs:CF s)(hok:LI s){id sc st be lo hi co:Int}{rd wr:List VM}(hr:rd.length<=1048576)(hw:wr.length<=1048576)(hT:okT id sc st be lo hi co rd wr=true)(hrd:NT rd):
 Dk ((s,()),(id,sc,st,be,lo,hi,co,rd,wr,()),())=some (dec (∀m∈rd,Hk s m),()):=by
 unfold Dk
 simp only[M9 hs,AC hok,Qk hr hw,hT,Option.bind_some,Bool.not_true,cond_false]
 refine(CU (n:=rd.length) (c:=fun i=>∃h:i<rd.length,Hk s rd[i]) (X:=some (true,())) (no:=some (false,())) (fun i hi'=>?_) ⟨.inr (),?_,rfl⟩).trans ?_
 ·obtain⟨_,h1,_⟩:=hrd i hi'
  obtain⟨k,hk,hlt,l,e1,e2,e3,hm⟩:=K3 hok.1 h1
  unfold DR
  simp only[Ak hi',Option.bind_some,e2,QK (hs.2 _ hm),Z1]
  rw[decide_eq_true (by omega),Am hi' (by omega)]
  simp only[cond_true]
  cases hf:fvI l rd[i].2.1 with
  |none=>
   refine⟨fun⟨_,l',j,h2,h3⟩=>?_,fun _=>⟨.inl (),rfl,rfl⟩⟩
   rw[e3]at h2;obtain rfl:l=l':=by simpa using h2
   rw[hf]at h3;cases h3
  |some j=>exact⟨fun _=>rfl,fun h=>absurd ⟨hi',l,j,e3,hf⟩ h⟩
 ·unfold DR
  simp only
  rw[decide_eq_false (by omega)];rfl
 ·rw[JK (q:=∀m∈rd,Hk s m)]
  ·cases dec (∀m∈rd,Hk s m)<;>rfl
  ·constructor
   ·intro h m hm
    obtain⟨i,hi',rfl⟩:=List.getElem_of_mem hm
    exact(h i hi').2
   ·intro h i hi';exact⟨hi',h _ (List.getElem_mem hi')⟩
theorem YJ {s:List (List VV)}(hs:CF s)(h6:s.length=6){m:VM}(hm:inB m.1 0 5=true):∃o:Option VV,Ds ((s,()),(m.1,m.2.1,()),())=some (o,())/\(o.isNone=false↔Hk s m):=by
 obtain⟨k,hk,hlt,l,e1,e2,e3,hl⟩:=K3 h6 hm
 unfold Ds
 simp only[e2,Option.bind_some,QQ (hs.2 _ hl),Z1]
 cases hf:fvI l m.2.1 with
 |none=>
  refine⟨none,rfl,by simp,fun⟨l',j,h2,h3⟩=>?_⟩
  rw[e3]at h2;obtain rfl:l=l':=by simpa using h2
  rw[hf]at h3;cases h3
 |some j=>
  have hj:=PD hf
  refine⟨some l[j],?_,fun _=>⟨l,j,e3,hf⟩,fun _=>rfl⟩
  simp only[Option.isNone_some,cond_false,fx]
  rw[Ak hj];rfl
theorem v9 {s:List (List VV)}(hs:CF s)(h6:s.length=6){rd:List VM}(hr:rd.length<=1048576)(hrd:NT rd):
 Da ((s,()),rd,())=some (dec (∀m∈rd,Hk s m),()):=by
 unfold Da BH C2
 obtain⟨n,e,h⟩:=LR (ρ:=Unit) (l:=rd) (p:=fun m=>¬Hk s m) hr (B:=fun v=>AD (rd,(some (s,()),()),((rd.length:Nat):Int),()) v _ some) (fun i hi=>by
  obtain⟨_,h1,_⟩:=hrd i hi
  obtain⟨o,e1,e2⟩:=YJ hs h6 h1
  unfold AD FA
  simp only[Ak hi,Option.bind_some,e1]
  rw[decide_eq_true (by omega),Am hi (by omega)]
  simp only[cond_true]
  cases ho:o.isNone with
  |true=>rw[AC (fun hh=>by rw[e2.2 hh]at ho;cases ho)];rfl
  |false=>rw[Bl (fun hh=>hh (e2.1 ho))];rfl) (by
  unfold AD
  simp only
  rw[decide_eq_false (by omega)];rfl)
 simp only[e,Option.bind_some]
 rcases h with⟨i,hi,rfl,hp,_⟩|⟨rfl,hp⟩
 ·rw[decide_eq_true (by omega),Bl (fun hh=>hp (hh _ (List.getElem_mem hi)))];rfl
 ·rw[decide_eq_false (by omega),AC (fun m hm=>Classical.not_not.1 (hp m hm))];rfl
end Go.Ab
end
section
namespace Go.Ab
theorem Mm {σ α:Type}{l:List α}{f:σ->α->σ}{Inv:σ->Nat->Prop}{n0:σ}{B:Int×σ×Unit->Option ((Int×σ×Unit) ⊕ (σ×Unit))}
 (hB:∀(i:Nat) (h:i<l.length) (n:σ),Inv n i->B ((i:Int),n,())=some (.inl (((i+1:Nat):Int),f n l[i],())))(hI:∀(i:Nat) (h:i<l.length) n,Inv n i->Inv (f n l[i]) (i+1))(h0:Inv n0 0)
 (hend:∀n,B ((l.length:Int),n,())=some (.inr (n,()))):AE B (0,n0,())=some (l.foldl f n0,())/\Inv (l.foldl f n0) l.length:=by
 have key:∀m i:Nat,i+m=l.length->∀n,Inv n i->AE B ((i:Int),n,())=some ((l.drop i).foldl f n,())/\Inv ((l.drop i).foldl f n) l.length:=by
  intro m
  induction m with
  |zero=>
   intro i hi n hn
   obtain rfl:i=l.length:=by omega
   rw[Bf,hend];simpa using hn
  |succ m ih=>
   intro i hi n hn
   have h:i<l.length:=by omega
   rw[Bf,hB i h n hn,List.drop_eq_getElem_cons h]
   simp only[Option.bind_some]
   exact ih (i+1) (by omega) _ (hI i h n hn)
 simpa using key l.length 0 (by omega) n0 h0
def Rh (st:Int)(v:VV):VV:=(v.1,v.2.1,v.2.2.1,mx v.2.2.2.1 st,v.2.2.2.2.1,())
def Mx (st:Int)(s:List (List VV))(m:VM):List (List VV):=match Jo s m with
 |some l=>match fvI l m.2.1 with
  |some j=>match l[j]? with
   |some v=>s.set m.1.toNat (l.set j (Rh st v))
   |none=>s
  |none=>s
 |none=>s
def ln (hi:Int)(v:VV):VV:=(v.1,v.2.1,v.2.2.1,v.2.2.2.1,hi,())
def OH (st id hi:Int)(s:List (List VV))(m:VM):List (List VV):=match Jo s m with
 |some l=>match l[l.length-1]? with
  |some v=>s.set m.1.toNat (l.set (l.length-1) (ln hi v)++[(id,m.2.1,st,st,1000,())])
  |none=>s
 |none=>s
def stOK (s:List (List VV))(n:Nat):Prop:=s.length=6/\∀l∈s,0<l.length/\l.length<=50+n
theorem stOK.set {s:List (List VV)}{n k:Nat}{l:List VV}(h:stOK s n){n':Nat}(hn:n<=n')(h0:0<l.length)(h1:l.length<=50+n'):stOK (s.set k l) n':=by
 refine⟨by simpa using h.1,fun x hx=>?_⟩
 rcases List.mem_or_eq_of_mem_set hx with h2|rfl
 ·have:=h.2 x h2;omega
 ·exact⟨h0,h1⟩
theorem stOK.small {s:List (List VV)}{n:Nat}(h:stOK s n)(hn:n<=1000):CF s:=
 ⟨by have:=h.1;omega,fun l hl=>by have:=h.2 l hl;unfold Hm;omega⟩
theorem A0x {l:List VV}{j:Nat}{v:VV}(c:Int)(h:l[j]?=some v)(st:Int):fvI (l.set j (Rh st v)) c=fvI l c:=by
 have e:(l.set j (Rh st v)).map (fun v=>v.2.2.1)=l.map (fun v=>v.2.2.1):=by
  rw[List.map_set]
  obtain⟨hlt,h2⟩:=List.getElem?_eq_some_iff.1 h
  apply List.ext_getElem
  ·simp
  ·intro i h3 h4
   rw[List.getElem_set]
   split
   ·rename_i e;subst e;simp[h2,Rh]
   ·rfl
 unfold fvI
 rw[e]
theorem PE {s:List (List VV)}{m x:VM}(st:Int)(hx:Hk s x):Hk (Mx st s m) x:=by
 unfold Mx
 split
 ·rename_i l hl
  split
  ·rename_i j hj
   split
   ·rename_i v hv
    obtain⟨l',j',h1,h2⟩:=hx
    unfold Hk Jo at*
    by_cases e:m.1.toNat=x.1.toNat
    ·rw[<-e,hl]at h1
     obtain rfl:l=l':=by simpa using h1
     refine⟨l.set j (Rh st v),j',?_,by rw[A0x _ hv];exact h2⟩
     rw[<-e]
     have:=(List.getElem?_eq_some_iff.1 hl).1
     simp[this]
    ·exact⟨l',j',by rw[List.getElem?_set_ne e];exact h1,h2⟩
   ·exact hx
  ·exact hx
 ·exact hx
theorem RE {s:List (List VV)}{n:Nat}{m:VM}(st:Int)(h:stOK s n):stOK (Mx st s m) n:=by
 unfold Mx
 split
 ·rename_i l hl
  have hm:=h.2 l (List.mem_of_getElem? hl)
  split
  ·split
   ·exact h.set (Nat.le_refl _) (by simpa using hm.1) (by simpa using hm.2)
   ·exact h
  ·exact h
 ·exact h
theorem RD {s:List (List VV)}{n:Nat}{m:VM}(st id hi:Int)(h:stOK s n):stOK (OH st id hi s m) (n+1):=by
 unfold OH
 split
 ·rename_i l hl
  have hm:=h.2 l (List.mem_of_getElem? hl)
  split
  ·exact h.set (Nat.le_succ _) (by simp) (by simp;omega)
  ·exact⟨h.1,fun x hx=>by have:=h.2 x hx;omega⟩
 ·exact⟨h.1,fun x hx=>by have:=h.2 x hx;omega⟩
theorem LI.stOK {s:List (List VV)}(h:LI s):stOK s 0:=⟨h.1,fun l hl=>⟨(h.2 l hl).1.2.1,by have:=(h.2 l hl).2;omega⟩⟩
end Go.Ab
end
section
namespace Go.Ab
theorem Rj (a:List VM)(ha:a.length<=1048576):GW (a,())=some (a,()):=by
 unfold GW
 simp only
 rw[if_pos (by omega),Int.toNat_natCast]
 refine IP ha (fun i h out ho=>?_) fun out=>?_
 ·unfold Dy
  simp only[Ak h,Option.bind_some,Jc]
  rw[decide_eq_true (by omega),if_pos (by omega),Am h (by omega)]
  simp[ho,h]
 ·unfold Dy
  simp only
  rw[decide_eq_false (by omega)];rfl
theorem Yu (a:List VM)(ha:a.length<=1048576):IB (a,())=some (a,()):=by
 unfold IB
 simp only
 rw[if_pos (by omega),Int.toNat_natCast]
 refine IP ha (fun i h out ho=>?_) fun out=>?_
 ·unfold EV
  simp only[Ak h,Option.bind_some,KJ]
  rw[decide_eq_true (by omega),if_pos (by omega),Am h (by omega)]
  simp[ho,h]
 ·unfold EV
  simp only
  rw[decide_eq_false (by omega)];rfl
theorem Rl {a:List VM}{l:Int}(ha:a.length<=maxLen)(h0:0<=l)(h1:l<=1048576):L1 (a.length<=1048576) (IM (a,l,())):=OJ ha h0 h1
theorem Yv {a:List VM}{l:Int}(ha:a.length<=maxLen)(h0:0<=l)(h1:l<=1048576):L1 (a.length<=1048576) (Ke (a,l,())):=OJ ha h0 h1
theorem kF {c:List (List VV)}(h:CF c):Ji ((c,()),(c,()),())=some (true,()):=by
 have hh:=h.small
 simp[Ji,Rp c hh.1 hh.row]
theorem Wo {c:List (List VV)}(h:CF c):GY (1,c,())=some (F5 1 c,Ou 1 c,()):=by
 have hh:=h.small
 simp[GY,Q6 c 1 (by omega) hh.2 hh.1]
theorem WC {c:List (List VV)}(h:CF c):Ii ((Ou 1 c,()),1,())=some (F5 1 c,()):=by
 have hh:=h.small
 have:=Pd 1 c
 have e:decide (F5 1 c<0)=false:=decide_eq_false (by omega)
 simp only[Ii,Q7 c 1 (by omega) hh.2 hh.1,Option.bind_some,e,cond_false]
theorem Z4 {c:List (List VV)}(h:CF c):1<=F5 1 c/\F5 1 c<=1000000000000000000:=by
 have h1:=jJ 1 h.2
 have h2:=h.1
 have h3:=Pd 1 c
 omega
end Go.Ab
end
section
namespace Go.Ab
end Go.Ab
end
section
namespace Go.Ab
def zW (l:List VM)(i:Nat):Prop:=∃h:i<l.length,inB l[i].1 0 5=true/\inB l[i].2.1 1 9=true/\∀h2:0<i,(l[i-1]'(by omega)).1<l[i].1
def Qa (l:List VM):Prop:=∀i,i<l.length->zW l i
def wb (l:List VM)(i:Nat):Prop:=∃h:i<l.length,inB l[i].1 1 9=true/\inB l[i].2.1 1 9=true/\l[i].1≠l[i].2.1/\∀h2:0<i,(l[i-1]'(by omega)).1<l[i].1
def ML (l:List VM):Prop:=∀i,i<l.length->wb l i
theorem Mt {l:List VM}(hl:l.length<=1048576):Es (l,())=some (dec (Qa l),()):=by
 have e:Es (l,())=bif dec (Qa l)then some (true,())else some (false,()):=by
  unfold Es
  refine CU (n:=l.length) (c:=zW l) (fun i hi=>?_) ⟨.inr (.inr (.inr ())),?_,rfl⟩
  ·unfold F0
   simp only[Ak hi,Option.bind_some,OY,N3]
   rw[decide_eq_true (by omega)]
   simp only[cond_true]
   cases h1:inB l[i].1 0 5 with
   |false=>exact⟨fun⟨_,h,_⟩=>(by rw[h1]at h;cases h),fun _=>⟨_,rfl,rfl⟩⟩
   |true=>
    simp only[Bool.not_true,cond_false]
    cases h2:inB l[i].2.1 1 9 with
    |false=>exact⟨fun⟨_,_,h,_⟩=>(by rw[h2]at h;cases h),fun _=>⟨_,rfl,rfl⟩⟩
    |true=>
    simp only[Bool.not_true,cond_false]
    rw[Am hi (by omega)]
    by_cases h3:0<i
    ·have hlt:i-1<l.length:=by omega
     rw[decide_eq_true (show(i:Int)>0 by omega),show IntKind.i64.wrap ((i:Int)-1)=((i-1:Nat):Int)from by rw[De (by omega) (by omega)];omega,Ak hlt]
     simp only[cond_true,Option.bind_some]
     by_cases hb:l[i-1].1<l[i].1
     ·rw[decide_eq_false (by omega)]
      exact⟨fun _=>rfl,fun h=>absurd ⟨hi,h1,h2,fun _=>hb⟩ h⟩
     ·rw[decide_eq_true (by omega)]
      exact⟨fun⟨_,_,_,h⟩=>absurd (h h3) hb,fun _=>⟨_,rfl,rfl⟩⟩
    ·rw[decide_eq_false (show ¬(i:Int)>0 by omega)]
     exact⟨fun _=>rfl,fun h=>absurd ⟨hi,h1,h2,fun h=>absurd h h3⟩ h⟩
  ·unfold F0
   simp only
   rw[decide_eq_false (by omega)];rfl
 rw[e]
 cases dec (Qa l)<;>rfl
theorem Kb {l:List VM}(hl:l.length<=1048576):En (l,())=some (dec (Qa l),()):=by
 have e:En (l,())=bif dec (Qa l)then some (true,())else some (false,()):=by
  unfold En
  refine CU (n:=l.length) (c:=zW l) (fun i hi=>?_) ⟨.inr (.inr (.inr ())),?_,rfl⟩
  ·unfold ET
   simp only[Ak hi,Option.bind_some,Eu]
   rw[decide_eq_true (by omega)]
   simp only[cond_true]
   cases h1:inB l[i].1 0 5 with
   |false=>exact⟨fun⟨_,h,_⟩=>(by rw[h1]at h;cases h),fun _=>⟨_,rfl,rfl⟩⟩
   |true=>
    simp only[Bool.not_true,cond_false]
    cases h2:inB l[i].2.1 1 9 with
    |false=>exact⟨fun⟨_,_,h,_⟩=>(by rw[h2]at h;cases h),fun _=>⟨_,rfl,rfl⟩⟩
    |true=>
    simp only[Bool.not_true,cond_false]
    rw[Am hi (by omega)]
    by_cases h3:0<i
    ·have hlt:i-1<l.length:=by omega
     rw[decide_eq_true (show(i:Int)>0 by omega),show IntKind.i64.wrap ((i:Int)-1)=((i-1:Nat):Int)from by rw[De (by omega) (by omega)];omega,Ak hlt]
     simp only[cond_true,Option.bind_some]
     by_cases hb:l[i-1].1<l[i].1
     ·rw[decide_eq_false (by omega)]
      exact⟨fun _=>rfl,fun h=>absurd ⟨hi,h1,h2,fun _=>hb⟩ h⟩
     ·rw[decide_eq_true (by omega)]
      exact⟨fun⟨_,_,_,h⟩=>absurd (h h3) hb,fun _=>⟨_,rfl,rfl⟩⟩
    ·rw[decide_eq_false (show ¬(i:Int)>0 by omega)]
     exact⟨fun _=>rfl,fun h=>absurd ⟨hi,h1,h2,fun h=>absurd h h3⟩ h⟩
  ·unfold ET
   simp only
   rw[decide_eq_false (by omega)];rfl
 rw[e]
 cases dec (Qa l)<;>rfl
theorem IA {l:List VM}(hl:l.length<=1048576):DH (l,())=some (dec (ML l),()):=by
 have e:DH (l,())=bif dec (ML l)then some (true,())else some (false,()):=by
  unfold DH
  refine CU (n:=l.length) (c:=wb l) (fun i hi=>?_) ⟨.inr (.inr (.inr (.inr ()))),?_,rfl⟩
  ·unfold EZ
   simp only[Ak hi,Option.bind_some,N3]
   rw[decide_eq_true (by omega)]
   simp only[cond_true]
   cases h1:inB l[i].1 1 9 with
   |false=>exact⟨fun⟨_,h,_⟩=>(by rw[h1]at h;cases h),fun _=>⟨_,rfl,rfl⟩⟩
   |true=>
    simp only[Bool.not_true,cond_false]
    cases h2:inB l[i].2.1 1 9 with
    |false=>exact⟨fun⟨_,_,h,_⟩=>(by rw[h2]at h;cases h),fun _=>⟨_,rfl,rfl⟩⟩
    |true=>
    simp only[Bool.not_true,cond_false]
    by_cases hq:l[i].1=l[i].2.1
    ·rw[show(l[i].1==l[i].2.1)=true from by simpa using hq]
     exact⟨fun⟨_,_,_,h,_⟩=>absurd hq h,fun _=>⟨_,rfl,rfl⟩⟩
    rw[show(l[i].1==l[i].2.1)=false from by simpa using hq]
    simp only[cond_false]
    rw[Am hi (by omega)]
    by_cases h3:0<i
    ·have hlt:i-1<l.length:=by omega
     rw[decide_eq_true (show(i:Int)>0 by omega),show IntKind.i64.wrap ((i:Int)-1)=((i-1:Nat):Int)from by rw[De (by omega) (by omega)];omega,Ak hlt]
     simp only[cond_true,Option.bind_some]
     by_cases hb:l[i-1].1<l[i].1
     ·rw[decide_eq_false (by omega)]
      exact⟨fun _=>rfl,fun h=>absurd ⟨hi,h1,h2,hq,fun _=>hb⟩ h⟩
     ·rw[decide_eq_true (by omega)]
      exact⟨fun⟨_,_,_,_,h⟩=>absurd (h h3) hb,fun _=>⟨_,rfl,rfl⟩⟩
    ·rw[decide_eq_false (show ¬(i:Int)>0 by omega)]
     exact⟨fun _=>rfl,fun h=>absurd ⟨hi,h1,h2,hq,fun h=>absurd h h3⟩ h⟩
  ·unfold EZ
   simp only
   rw[decide_eq_false (by omega)];rfl
 rw[e]
 cases dec (ML l)<;>rfl
theorem Ka {l:List VM}(hl:l.length<=1048576):Em (l,())=some (dec (ML l),()):=by
 have e:Em (l,())=bif dec (ML l)then some (true,())else some (false,()):=by
  unfold Em
  refine CU (n:=l.length) (c:=wb l) (fun i hi=>?_) ⟨.inr (.inr (.inr (.inr ()))),?_,rfl⟩
  ·unfold ES
   simp only[Ak hi,Option.bind_some,Eu]
   rw[decide_eq_true (by omega)]
   simp only[cond_true]
   cases h1:inB l[i].1 1 9 with
   |false=>exact⟨fun⟨_,h,_⟩=>(by rw[h1]at h;cases h),fun _=>⟨_,rfl,rfl⟩⟩
   |true=>
    simp only[Bool.not_true,cond_false]
    cases h2:inB l[i].2.1 1 9 with
    |false=>exact⟨fun⟨_,_,h,_⟩=>(by rw[h2]at h;cases h),fun _=>⟨_,rfl,rfl⟩⟩
    |true=>
    simp only[Bool.not_true,cond_false]
    by_cases hq:l[i].1=l[i].2.1
    ·rw[show(l[i].1==l[i].2.1)=true from by simpa using hq]
     exact⟨fun⟨_,_,_,h,_⟩=>absurd hq h,fun _=>⟨_,rfl,rfl⟩⟩
    rw[show(l[i].1==l[i].2.1)=false from by simpa using hq]
    simp only[cond_false]
    rw[Am hi (by omega)]
    by_cases h3:0<i
    ·have hlt:i-1<l.length:=by omega
     rw[decide_eq_true (show(i:Int)>0 by omega),show IntKind.i64.wrap ((i:Int)-1)=((i-1:Nat):Int)from by rw[De (by omega) (by omega)];omega,Ak hlt]
     simp only[cond_true,Option.bind_some]
     by_cases hb:l[i-1].1<l[i].1
     ·rw[decide_eq_false (by omega)]
      exact⟨fun _=>rfl,fun h=>absurd ⟨hi,h1,h2,hq,fun _=>hb⟩ h⟩
     ·rw[decide_eq_true (by omega)]
      exact⟨fun⟨_,_,_,_,h⟩=>absurd (h h3) hb,fun _=>⟨_,rfl,rfl⟩⟩
    ·rw[decide_eq_false (show ¬(i:Int)>0 by omega)]
     exact⟨fun _=>rfl,fun h=>absurd ⟨hi,h1,h2,hq,fun h=>absurd h h3⟩ h⟩
  ·unfold ES
   simp only
   rw[decide_eq_false (by omega)];rfl
 rw[e]
 cases dec (ML l)<;>rfl
abbrev TX:=Int×Int×Int×Int×Int×Int×Int×List VM×List VM×Unit
noncomputable def LH (t:TX):Bool:=okT t.1 t.2.1 t.2.2.1 t.2.2.2.1 t.2.2.2.2.1 t.2.2.2.2.2.1 t.2.2.2.2.2.2.1 t.2.2.2.2.2.2.2.1 t.2.2.2.2.2.2.2.2.1
def smT (t:TX):Prop:=t.2.2.2.2.2.2.2.1.length<=1048576/\t.2.2.2.2.2.2.2.2.1.length<=1048576
theorem jq {id sc st be lo hi co:Int}{rd wr:List VM}(hr:rd.length<=1048576)(hw:wr.length<=1048576):CH ((id,sc,st,be,lo,hi,co,rd,wr,()),())=some (okT id sc st be lo hi co rd wr,()):=by
 unfold CH FM KS
 simp only[N3,J6,Wu hr,TZ hw,Option.bind_some]
 unfold okT
 have e1:∀n:Int,inB n 1 999=(inB n 0 999&&decide (n>0)):=fun n=>by
  unfold inB
  rw[Bool.eq_iff_iff]
  simp only[Bool.and_eq_true,decide_eq_true_eq]
  omega
 have e2:(co==0)=(inB co 0 999&&!decide (co>0)):=by
  unfold inB
  rw[Bool.eq_iff_iff]
  simp only[beq_iff_eq,Bool.and_eq_true,decide_eq_true_eq,Bool.not_eq_true',decide_eq_false_iff_not]
  omega
 simp only[e1,e2,bne]
 cases inB id 1 9<;>cases inB sc 1 4<;>cases inB be 0 999<;>cases inB st 1 3<;>cases inB lo 0 999<;>cases inB hi 1 1000<;>cases(st==2:Bool)<;>cases inB co 0 999<;>cases decide (co>0)<;>cases dec (NT rd)<;>cases decide (rd.length<=60)<;>cases dec (QW wr)<;>rfl
theorem YU {id sc st be lo hi co:Int}{rd wr:List VM}(h:okT id sc st be lo hi co rd wr=true):NT rd:=by
 unfold okT at h
 simp only[Bool.and_eq_true]at h
 by_cases h2:NT rd
 ·exact h2
 ·have:=h.1.1.1.1.1.1.1.1.1.1
  rw[Bl h2]at this;cases this
def wg (s:List (List VV))(stamp:Int)(l:List TX)(i:Nat):Prop:=∃h:i<l.length,LH l[i]=true/\(∀h2:0<i,(l[i-1]'(by omega)).1<l[i].1)/\l[i].2.2.2.1<=stamp/\l[i].2.2.2.2.2.2.1<=stamp/\(l[i].2.2.1=1->∀m∈l[i].2.2.2.2.2.2.2.1,Hk s m)
def P0 (s:List (List VV))(stamp:Int)(l:List TX):Prop:=∀i,i<l.length->wg s stamp l i
section
variable {s:List (List VV)}(hs:CF s)(hok:LI s){l:List TX}(hl:l.length<=1048576)(hsm:∀t∈l,smT t)
include hs hok hl hsm
theorem kx (ce:Bool)(lk wt:List VM)(stamp:Int):C3 ((ce,(s,()),l,lk,wt,stamp,()),())=some (dec (P0 s stamp l)&&decide (l.length<=6),()):=by
 have e:C3 ((ce,(s,()),l,lk,wt,stamp,()),())=bif dec (P0 s stamp l)then some (decide (((l.length:Nat):Int)<=6),())else some (false,()):=by
  unfold C3
  refine CU (n:=l.length) (c:=wg s stamp l) (fun i hi=>?_) ⟨.inr (.inr (.inr (.inr (.inr (.inr (.inr (.inr ()))))))),?_,rfl⟩
  ·have hm:=hsm _ (List.getElem_mem hi)
   unfold Bw
   simp only[Ak hi,Option.bind_some,jq hm.1 hm.2]
   rw[decide_eq_true (by omega)]
   simp only[cond_true]
   cases h1:LH l[i]with
   |false=>
    have h1':=h1
    unfold LH at h1'
    rw[h1']
    exact⟨fun⟨_,h,_⟩=>(by rw[h1]at h;cases h),fun _=>⟨_,rfl,rfl⟩⟩
   |true=>
    have h1':=h1
    unfold LH at h1'
    rw[h1']
    simp only[Bool.not_true,cond_false,v9 hs hok.1 hm.1 (YU h1'),Option.bind_some]
    rw[Am hi (by omega)]
    by_cases h3:0<i
    ·have hlt:i-1<l.length:=by omega
     rw[decide_eq_true (show(i:Int)>0 by omega),show IntKind.i64.wrap ((i:Int)-1)=((i-1:Nat):Int)from by rw[De (by omega) (by omega)];omega,Ak hlt]
     simp only[cond_true,Option.bind_some]
     by_cases hb:l[i-1].1<l[i].1
     case neg=>
      rw[decide_eq_true (by omega)]
      exact⟨fun⟨_,_,h,_⟩=>absurd (h h3) hb,fun _=>⟨_,rfl,rfl⟩⟩
     rw[decide_eq_false (by omega)]
     simp only[cond_false]
     by_cases q1:l[i].2.2.2.1<=stamp
     case neg=>
      rw[decide_eq_true (by omega)]
      exact⟨fun⟨_,_,_,h,_⟩=>absurd h q1,fun _=>⟨_,rfl,rfl⟩⟩
     rw[decide_eq_false (by omega)]
     simp only[cond_false]
     by_cases q2:l[i].2.2.2.2.2.2.1<=stamp
     case neg=>
      rw[decide_eq_true (by omega)]
      exact⟨fun⟨_,_,_,_,h,_⟩=>absurd h q2,fun _=>⟨_,rfl,rfl⟩⟩
     rw[decide_eq_false (by omega)]
     simp only[cond_false]
     by_cases q3:l[i].2.2.1=1
     ·rw[show(l[i].2.2.1==1)=true from by simpa using q3]
      simp only[cond_true]
      by_cases q4:∀m∈l[i].2.2.2.2.2.2.2.1,Hk s m
      ·rw[AC q4]
       exact⟨fun _=>rfl,fun h=>absurd ⟨hi,h1,fun _=>hb,q1,q2,fun _=>q4⟩ h⟩
      ·rw[Bl q4]
       exact⟨fun⟨_,_,_,_,_,h⟩=>absurd (h q3) q4,fun _=>⟨_,rfl,rfl⟩⟩
     ·rw[show(l[i].2.2.1==1)=false from by simpa using q3]
      exact⟨fun _=>rfl,fun h=>absurd ⟨hi,h1,fun _=>hb,q1,q2,fun h=>absurd h q3⟩ h⟩
    ·rw[decide_eq_false (show ¬(i:Int)>0 by omega)]
     simp only[cond_false]
     by_cases q1:l[i].2.2.2.1<=stamp
     case neg=>
      rw[decide_eq_true (by omega)]
      exact⟨fun⟨_,_,_,h,_⟩=>absurd h q1,fun _=>⟨_,rfl,rfl⟩⟩
     rw[decide_eq_false (by omega)]
     simp only[cond_false]
     by_cases q2:l[i].2.2.2.2.2.2.1<=stamp
     case neg=>
      rw[decide_eq_true (by omega)]
      exact⟨fun⟨_,_,_,_,h,_⟩=>absurd h q2,fun _=>⟨_,rfl,rfl⟩⟩
     rw[decide_eq_false (by omega)]
     simp only[cond_false]
     by_cases q3:l[i].2.2.1=1
     ·rw[show(l[i].2.2.1==1)=true from by simpa using q3]
      simp only[cond_true]
      by_cases q4:∀m∈l[i].2.2.2.2.2.2.2.1,Hk s m
      ·rw[AC q4]
       exact⟨fun _=>rfl,fun h=>absurd ⟨hi,h1,fun h=>absurd h h3,q1,q2,fun _=>q4⟩ h⟩
      ·rw[Bl q4]
       exact⟨fun⟨_,_,_,_,_,h⟩=>absurd (h q3) q4,fun _=>⟨_,rfl,rfl⟩⟩
     ·rw[show(l[i].2.2.1==1)=false from by simpa using q3]
      exact⟨fun _=>rfl,fun h=>absurd ⟨hi,h1,fun h=>absurd h h3,q1,q2,fun h=>absurd h q3⟩ h⟩
  ·unfold Bw
   simp only
   rw[decide_eq_false (by omega)];rfl
 rw[e]
 have d:decide (((l.length:Nat):Int)<=6)=decide (l.length<=6):=decide_eq_decide.2 (by omega)
 rw[d]
 cases dec (P0 s stamp l)<;>rfl
end
end Go.Ab
end
section
namespace Go.Ab
section
variable {s:List (List VV)}(hs:CF s)(hok:LI s){l:List TX}(hl:l.length<=1048576)(hsm:∀t∈l,smT t)
include hs hok hl hsm
theorem kp (ce:Bool)(lk wt:List VM)(stamp:Int){τ:Type}(X no:Option τ):((AE (fun v=>Cl (ce,s,l,lk,wt,stamp,()) v _ some) (0,())).bind fun p=>Az p (fun p=>no) fun p=>Az p (fun p=>no) fun p=>Az p (fun p=>no) fun p=>Az p (fun p=>no) fun p=>Az p (fun p=>no) fun p=>Az p (fun p=>no) fun p=>Az p (fun p=>no) fun p=>Az p (fun p=>no) fun p=>X)=bif dec (P0 s stamp l)then X else no:=by
 refine CU (n:=l.length) (c:=wg s stamp l) (fun i hi=>?_) ⟨.inr (.inr (.inr (.inr (.inr (.inr (.inr (.inr ()))))))),?_,rfl⟩
 ·have hm:=hsm _ (List.getElem_mem hi)
  unfold Cl
  simp only[Ak hi,Option.bind_some,Qk hm.1 hm.2]
  rw[decide_eq_true (by omega)]
  simp only[cond_true]
  cases h1:LH l[i]with
  |false=>
   have h1':=h1
   unfold LH at h1'
   rw[h1']
   exact⟨fun⟨_,h,_⟩=>(by rw[h1]at h;cases h),fun _=>⟨_,rfl,rfl⟩⟩
  |true=>
   have h1':=h1
   unfold LH at h1'
   rw[h1']
   simp only[Bool.not_true,cond_false,QL hs hok hm.1 hm.2 h1' (YU h1'),Option.bind_some]
   rw[Am hi (by omega)]
   by_cases h3:0<i
   ·have hlt:i-1<l.length:=by omega
    rw[decide_eq_true (show(i:Int)>0 by omega),show IntKind.i64.wrap ((i:Int)-1)=((i-1:Nat):Int)from by rw[De (by omega) (by omega)];omega,Ak hlt]
    simp only[cond_true,Option.bind_some]
    by_cases hb:l[i-1].1<l[i].1
    case neg=>
     rw[decide_eq_true (by omega)]
     exact⟨fun⟨_,_,h,_⟩=>absurd (h h3) hb,fun _=>⟨_,rfl,rfl⟩⟩
    rw[decide_eq_false (by omega)]
    simp only[cond_false]
    by_cases q1:l[i].2.2.2.1<=stamp
    case neg=>
     rw[decide_eq_true (by omega)]
     exact⟨fun⟨_,_,_,h,_⟩=>absurd h q1,fun _=>⟨_,rfl,rfl⟩⟩
    rw[decide_eq_false (by omega)]
    simp only[cond_false]
    by_cases q2:l[i].2.2.2.2.2.2.1<=stamp
    case neg=>
     rw[decide_eq_true (by omega)]
     exact⟨fun⟨_,_,_,_,h,_⟩=>absurd h q2,fun _=>⟨_,rfl,rfl⟩⟩
    rw[decide_eq_false (by omega)]
    simp only[cond_false]
    by_cases q3:l[i].2.2.1=1
    ·rw[show(l[i].2.2.1==1)=true from by simpa using q3]
     simp only[cond_true]
     by_cases q4:∀m∈l[i].2.2.2.2.2.2.2.1,Hk s m
     ·rw[AC q4]
      exact⟨fun _=>rfl,fun h=>absurd ⟨hi,h1,fun _=>hb,q1,q2,fun _=>q4⟩ h⟩
     ·rw[Bl q4]
      exact⟨fun⟨_,_,_,_,_,h⟩=>absurd (h q3) q4,fun _=>⟨_,rfl,rfl⟩⟩
    ·rw[show(l[i].2.2.1==1)=false from by simpa using q3]
     exact⟨fun _=>rfl,fun h=>absurd ⟨hi,h1,fun _=>hb,q1,q2,fun h=>absurd h q3⟩ h⟩
   ·rw[decide_eq_false (show ¬(i:Int)>0 by omega)]
    simp only[cond_false]
    by_cases q1:l[i].2.2.2.1<=stamp
    case neg=>
     rw[decide_eq_true (by omega)]
     exact⟨fun⟨_,_,_,h,_⟩=>absurd h q1,fun _=>⟨_,rfl,rfl⟩⟩
    rw[decide_eq_false (by omega)]
    simp only[cond_false]
    by_cases q2:l[i].2.2.2.2.2.2.1<=stamp
    case neg=>
     rw[decide_eq_true (by omega)]
     exact⟨fun⟨_,_,_,_,h,_⟩=>absurd h q2,fun _=>⟨_,rfl,rfl⟩⟩
    rw[decide_eq_false (by omega)]
    simp only[cond_false]
    by_cases q3:l[i].2.2.1=1
    ·rw[show(l[i].2.2.1==1)=true from by simpa using q3]
     simp only[cond_true]
     by_cases q4:∀m∈l[i].2.2.2.2.2.2.2.1,Hk s m
     ·rw[AC q4]
      exact⟨fun _=>rfl,fun h=>absurd ⟨hi,h1,fun h=>absurd h h3,q1,q2,fun _=>q4⟩ h⟩
     ·rw[Bl q4]
      exact⟨fun⟨_,_,_,_,_,h⟩=>absurd (h q3) q4,fun _=>⟨_,rfl,rfl⟩⟩
    ·rw[show(l[i].2.2.1==1)=false from by simpa using q3]
     exact⟨fun _=>rfl,fun h=>absurd ⟨hi,h1,fun h=>absurd h h3,q1,q2,fun h=>absurd h q3⟩ h⟩
 ·unfold Cl
  simp only
  rw[decide_eq_false (by omega)];rfl
end
def DY (l:List TX)(id:Int):Bool:=match l.findIdx? (fun t=>t.1==id)with
 |some i=>match l[i]? with
  |some t=>t.2.2.1==1
  |none=>false
 |none=>false
theorem Wl {s:List (List VV)}{l:List TX}(hl:l.length<=1048576)(ce:Bool)(lk wt:List VM)(stamp id:Int):Dm ((ce,(s,()),l,lk,wt,stamp,()),id,())=some (fx (l.findIdx? (fun t=>t.1==id)),()):=by
 unfold Dm
 refine El hl (fun i h=>?_) ?_
 ·unfold Cs
  simp only[Ak h,Option.bind_some]
  rw[decide_eq_true (by omega),Am h (by omega)]
  simp only[cond_true]
  cases(l[i].1==id:Bool)<;>rfl
 ·unfold Cs
  simp only
  rw[decide_eq_false (by omega)];rfl
theorem Wx {s:List (List VV)}{l:List TX}(hl:l.length<=1048576)(ce:Bool)(lk wt:List VM)(stamp id:Int):Dt ((ce,(s,()),l,lk,wt,stamp,()),id,())=some (fx (l.findIdx? (fun t=>t.1==id)),()):=by
 unfold Dt C8
 have:=El hl (p:=fun t:TX=>t.1==id) (B:=fun v=>AF (l,(some id,()),((l.length:Nat):Int),()) v _ some) (fun i h=>by
  unfold AF Gh
  simp only[Ak h,Option.bind_some]
  rw[decide_eq_true (by omega),Am h (by omega)]
  simp only[cond_true]
  cases(l[i].1==id:Bool)<;>rfl) (by
  unfold AF
  simp only
  rw[decide_eq_false (by omega)];rfl)
 simp only[this,Option.bind_some]
theorem Xj (l:List TX)(id:Int):(bif decide (fx (l.findIdx? (fun t=>t.1==id))>=0)then(lAt l (fx (l.findIdx? (fun t=>t.1==id)))).bind fun v=>some (v.2.2.1==1,())else some (false,()))=some (DY l id,()):=by
 unfold DY
 cases h:l.findIdx? (fun t=>t.1==id)with
 |none=>rfl
 |some i=>
  obtain⟨hi,_⟩:=List.findIdx?_eq_some_iff_getElem.1 h
  have e1:decide (fx (some i)>=0)=true:=decide_eq_true (by simp only[fx];omega)
  have e2:lAt l (fx (some i))=some l[i]:=Ak hi
  rw[e1,e2]
  simp[hi]
theorem RP {s:List (List VV)}{l:List TX}(hl:l.length<=1048576)(ce:Bool)(lk wt:List VM)(stamp id:Int):EP ((ce,(s,()),l,lk,wt,stamp,()),id,())=some (DY l id,()):=by
 unfold EP
 simp only[Wl hl,Option.bind_some]
 exact Xj l id
theorem NB {s:List (List VV)}{l:List TX}(hl:l.length<=1048576)(ce:Bool)(lk wt:List VM)(stamp id:Int):Cc ((ce,(s,()),l,lk,wt,stamp,()),id,())=some (DY l id,()):=by
 unfold Cc
 simp only[Wx hl,Option.bind_some]
 exact Xj l id
section
variable {s:List (List VV)}{l:List TX}(hl:l.length<=1048576)
include hl
theorem kr (ce:Bool)(lk wt:List VM)(hk:lk.length<=1048576)(stamp:Int){τ:Type}(X no:Option τ):((AE (fun v=>C7 (ce,s,l,lk,wt,stamp,()) v _ some) (0,())).bind fun p=>Az p (fun p=>no) fun p=>X)=bif dec (∀m∈lk,DY l m.2.1=true)then X else no:=by
 refine(CU (n:=lk.length) (c:=fun i=>∃h:i<lk.length,DY l lk[i].2.1=true) (X:=X) (no:=no) (fun i hi=>?_) ⟨.inr (),?_,rfl⟩).trans ?_
 ·unfold C7
  simp only[Ak hi,Option.bind_some,RP hl]
  rw[decide_eq_true (by omega),Am hi (by omega)]
  cases h:DY l lk[i].2.1 with
  |true=>exact⟨fun _=>rfl,fun hh=>absurd ⟨hi,h⟩ hh⟩
  |false=>exact⟨fun⟨_,hh⟩=>(by rw[h]at hh;cases hh),fun _=>⟨_,rfl,rfl⟩⟩
 ·unfold C7
  simp only
  rw[decide_eq_false (by omega)];rfl
 ·rw[JK (q:=∀m∈lk,DY l m.2.1=true)]
  constructor
  ·intro h m hm
   obtain⟨i,hi',rfl⟩:=List.getElem_of_mem hm
   exact(h i hi').2
  ·intro h i hi';exact⟨hi',h _ (List.getElem_mem hi')⟩
theorem ko (ce:Bool)(lk wt:List VM)(hk:wt.length<=1048576)(stamp:Int){τ:Type}(X no:Option τ):((AE (fun v=>C6 (ce,s,l,lk,wt,stamp,()) v _ some) (0,())).bind fun p=>Az p (fun p=>no) fun p=>Az p (fun p=>no) fun p=>X)=bif dec (∀m∈wt,DY l m.1=true/\DY l m.2.1=true)then X else no:=by
 refine(CU (n:=wt.length) (c:=fun i=>∃h:i<wt.length,DY l wt[i].1=true/\DY l wt[i].2.1=true) (X:=X) (no:=no) (fun i hi=>?_) ⟨.inr (.inr ()),?_,rfl⟩).trans ?_
 ·unfold C6
  simp only[Ak hi,Option.bind_some,RP hl]
  rw[decide_eq_true (by omega),Am hi (by omega)]
  cases h:DY l wt[i].1 with
  |false=>exact⟨fun⟨_,hh,_⟩=>(by rw[h]at hh;cases hh),fun _=>⟨_,rfl,rfl⟩⟩
  |true=>
   cases h':DY l wt[i].2.1 with
   |true=>exact⟨fun _=>rfl,fun hh=>absurd ⟨hi,h,h'⟩ hh⟩
   |false=>exact⟨fun⟨_,_,hh⟩=>(by rw[h']at hh;cases hh),fun _=>⟨_,rfl,rfl⟩⟩
 ·unfold C6
  simp only
  rw[decide_eq_false (by omega)];rfl
 ·rw[JK (q:=∀m∈wt,DY l m.1=true/\DY l m.2.1=true)]
  constructor
  ·intro h m hm
   obtain⟨i,hi',rfl⟩:=List.getElem_of_mem hm
   exact(h i hi').2
  ·intro h i hi';exact⟨hi',h _ (List.getElem_mem hi')⟩
theorem kA (ce:Bool)(lk wt:List VM)(hk:lk.length<=1048576)(stamp:Int):Br (lk,(some (ce,(s,()),l,lk,wt,stamp,()),()),())=some (!dec (∀m∈lk,DY l m.2.1=true),()):=by
 unfold Br Cn
 obtain⟨n,e,h⟩:=LR (ρ:=Unit) (l:=lk) (p:=fun m=>¬DY l m.2.1=true) hk (B:=fun v=>AI (lk,(some (ce,(s,()),l,lk,wt,stamp,()),()),((lk.length:Nat):Int),()) v _ some) (fun i hi=>by
  unfold AI Hi
  simp only[Ak hi,Option.bind_some,NB hl]
  rw[decide_eq_true (by omega),Am hi (by omega)]
  cases ho:DY l lk[i].2.1 with
  |true=>rw[Bl (fun hh=>hh rfl)];rfl
  |false=>rw[AC (by simp)];rfl) (by
  unfold AI
  simp only
  rw[decide_eq_false (by omega)];rfl)
 simp only[e,Option.bind_some]
 rcases h with⟨i,hi,rfl,hp,_⟩|⟨rfl,hp⟩
 ·rw[decide_eq_true (by omega),Bl (fun hh=>hp (hh _ (List.getElem_mem hi)))];rfl
 ·rw[decide_eq_false (by omega),AC (fun m hm=>Classical.not_not.1 (hp m hm))];rfl
theorem kw (ce:Bool)(lk wt:List VM)(hk:wt.length<=1048576)(stamp:Int):Bq (wt,(some (ce,(s,()),l,lk,wt,stamp,()),()),())=some (!dec (∀m∈wt,DY l m.1=true/\DY l m.2.1=true),()):=by
 unfold Bq Cm
 obtain⟨n,e,h⟩:=LR (ρ:=Unit) (l:=wt) (p:=fun m=>¬(DY l m.1=true/\DY l m.2.1=true)) hk (B:=fun v=>AH (wt,(some (ce,(s,()),l,lk,wt,stamp,()),()),((wt.length:Nat):Int),()) v _ some) (fun i hi=>by
  unfold AH Hg
  simp only[Ak hi,Option.bind_some,NB hl]
  rw[decide_eq_true (by omega),Am hi (by omega)]
  cases ho:DY l wt[i].1 with
  |false=>rw[AC (by simp)];rfl
  |true=>
   cases ho':DY l wt[i].2.1 with
   |true=>rw[Bl (fun hh=>hh ⟨rfl,rfl⟩)];rfl
   |false=>rw[AC (by simp)];rfl) (by
  unfold AH
  simp only
  rw[decide_eq_false (by omega)];rfl)
 simp only[e,Option.bind_some]
 rcases h with⟨i,hi,rfl,hp,_⟩|⟨rfl,hp⟩
 ·rw[decide_eq_true (by omega),Bl (fun hh=>hp (hh _ (List.getElem_mem hi)))];rfl
 ·rw[decide_eq_false (by omega),AC (fun m hm=>Classical.not_not.1 (hp m hm))];rfl
end
noncomputable def okE (s:List (List VV))(l:List TX)(lk wt:List VM)(stamp:Int):Bool:=
 dec (LI s)&&dec (Qa lk)&&dec (ML wt)&&inB stamp (s.foldl Jk 0) 999&&dec (P0 s stamp l)&&decide (l.length<=6)&&dec (∀m∈lk,DY l m.2.1=true)&&dec (∀m∈wt,DY l m.1=true/\DY l m.2.1=true)
structure SmallE (s:List (List VV))(l:List TX)(lk wt:List VM):Prop where
 fs:CF s
 fl:l.length<=1048576
 ft:∀t∈l,smT t
 fk:lk.length<=1048576
 fw:wt.length<=1048576
theorem zP {s:List (List VV)}{l:List TX}{lk wt:List VM}(h:SmallE s l lk wt)(ce:Bool)(stamp:Int):G7 ((ce,(s,()),l,lk,wt,stamp,()),())=some (okE s l lk wt stamp,()):=by
 unfold G7 okE
 simp only[zO h.fs,Mt h.fk,IA h.fw,YH h.fs,J6,kA h.fl _ _ _ h.fk,kw h.fl _ _ _ h.fw,Option.bind_some]
 by_cases h1:LI s
 case neg=>rw[Bl h1];rfl
 rw[AC h1,kx h.fs h1 h.fl h.ft]
 simp only[Option.bind_some]
 cases dec (Qa lk)<;>cases dec (ML wt)<;>cases inB stamp (s.foldl Jk 0) 999<;>cases dec (P0 s stamp l)<;>cases decide (l.length<=6)<;>cases dec (∀m∈lk,DY l m.2.1=true)<;>cases dec (∀m∈wt,DY l m.1=true/\DY l m.2.1=true)<;>rfl
theorem zM {s:List (List VV)}{l:List TX}{lk wt:List VM}(h:SmallE s l lk wt)(ce:Bool)(stamp:Int):FR ((ce,(s,()),l,lk,wt,stamp,()),())=some (okE s l lk wt stamp,()):=by
 unfold FR okE
 simp only[M9 h.fs,Kb h.fk,Ka h.fw,Eu,Option.bind_some]
 by_cases h1:LI s
 case neg=>rw[Bl h1];rfl
 rw[AC h1]
 simp only[QI h.fs h1,Eu,Option.bind_some,kp h.fs h1 h.fl h.ft,kr h.fl _ _ _ h.fk,ko h.fl _ _ _ h.fw]
 have d:decide (((l.length:Nat):Int)>6)=!decide (l.length<=6):=by
  rw[Bool.eq_iff_iff]
  simp only[decide_eq_true_eq,Bool.not_eq_true',decide_eq_false_iff_not]
  omega
 rw[d]
 cases dec (Qa lk)<;>cases dec (ML wt)<;>cases inB stamp (s.foldl Jk 0) 999<;>cases dec (P0 s stamp l)<;>cases decide (l.length<=6)<;>cases dec (∀m∈lk,DY l m.2.1=true)<;>cases dec (∀m∈wt,DY l m.1=true/\DY l m.2.1=true)<;>rfl
end Go.Ab
end
section
namespace Go.Ab
theorem ki (a:List VM)(ha:a.length<=1048576):Jd (a,())=some (a,()):=by
 unfold Jd
 simp only
 rw[if_pos (by omega),Int.toNat_natCast]
 refine IP ha (fun i h out ho=>?_) fun out=>?_
 ·unfold FI
  simp only[Ak h,Option.bind_some,Lk]
  rw[decide_eq_true (by omega),if_pos (by omega),Am h (by omega)]
  simp[ho,h]
 ·unfold FI
  simp only
  rw[decide_eq_false (by omega)];rfl
theorem kg (a:List VM)(ha:a.length<=1048576):Ja (a,())=some (a,()):=by
 unfold Ja
 simp only
 rw[if_pos (by omega),Int.toNat_natCast]
 refine IP ha (fun i h out ho=>?_) fun out=>?_
 ·unfold FH
  simp only[Ak h,Option.bind_some,Lj]
  rw[decide_eq_true (by omega),if_pos (by omega),Am h (by omega)]
  simp[ho,h]
 ·unfold FH
  simp only
  rw[decide_eq_false (by omega)];rfl
theorem km {a:List VM}{l:Int}(ha:a.length<=maxLen)(h0:0<=l)(h1:l<=1048576):L1 (a.length<=1048576) (Jf (a,l,())):=OJ ha h0 h1
theorem kj {a:List VM}{l:Int}(ha:a.length<=maxLen)(h0:0<=l)(h1:l<=1048576):L1 (a.length<=1048576) (Je (a,l,())):=OJ ha h0 h1
theorem vh (v:VM):JQ (v,v,())=some (true,()):=by
 simp[JQ]
theorem kG (a:List VM)(ha:a.length<9223372036854775000):Jj (a,a,())=some (true,()):=by
 unfold Jj
 simp only[bne_self_eq_false,cond_false]
 refine Fe a.length (fun j=>((j:Int),())) rfl (fun j hj=>?_) ⟨.inr (),?_,rfl⟩
 ·unfold FL
  simp only[Ak hj,Option.bind_some,vh]
  rw[decide_eq_true (by omega),wr1 (by omega) (by omega)]
  rfl
 ·unfold FL
  simp only
  rw[decide_eq_false (by omega)]
  rfl
theorem vg (v:VM):JP (v,v,())=some (true,()):=by
 simp[JP]
theorem kD (a:List VM)(ha:a.length<9223372036854775000):Jh (a,a,())=some (true,()):=by
 unfold Jh
 simp only[bne_self_eq_false,cond_false]
 refine Fe a.length (fun j=>((j:Int),())) rfl (fun j hj=>?_) ⟨.inr (),?_,rfl⟩
 ·unfold FJ
  simp only[Ak hj,Option.bind_some,vg]
  rw[decide_eq_true (by omega),wr1 (by omega) (by omega)]
  rfl
 ·unfold FJ
  simp only
  rw[decide_eq_false (by omega)]
  rfl
theorem Q5 {t:TX}{l:Int}(h1:t.2.2.2.2.2.2.2.1.length<=maxLen)(h2:t.2.2.2.2.2.2.2.2.1.length<=maxLen)(h0:0<=l)(hl:l<=1048576):L1 (smT t) (G0 (t,l,())):=
 Qd (Rl h1 h0 hl) fun n h0 h1=>Qr (Yv h2 h0 h1)
theorem Pt {a:List TX}{l:Int}(ha:a.length<=maxLen)(hb:∀t∈a,t.2.2.2.2.2.2.2.1.length<=maxLen/\t.2.2.2.2.2.2.2.2.1.length<=maxLen)(h0:0<=l)(h1:l<=1048576):L1 (a.length<=1048576/\∀t∈a,smT t) (Fl (a,l,())):=
 UD (Small:=smT) (F:=fun e l=>G0 (e,l,())) ha (fun e he l h0 h1=>Q5 (hb e he).1 (hb e he).2 h0 h1) (fun l i=>rfl) h0 h1
theorem Yw {ce:Bool}{s:List (List VV)}{t:List TX}{lk wt:List VM}{stamp l:Int}(hs:s.length<=maxLen)(hss:∀e∈s,e.length<=maxLen)(ha:t.length<=maxLen)(hb:∀x∈t,x.2.2.2.2.2.2.2.1.length<=maxLen/\x.2.2.2.2.2.2.2.2.1.length<=maxLen)(hk:lk.length<=maxLen)(hw:wt.length<=maxLen)(h0:0<=l)(h1:l<=1048576):
 L1 (SmallE s t lk wt) (Kf ((ce,(s,()),t,lk,wt,stamp,()),l,())):=by
 have:=Qd (B:=((t.length<=1048576/\∀x∈t,smT x)/\(lk.length<=1048576/\wt.length<=1048576))) (kl hs hss h0 h1) (G:=fun v=>(Fl (t,v.1,())).bind fun v=>bif decide (v.1<0)then some (-1,())else(Jf (lk,v.1,())).bind fun v=>bif decide (v.1<0)then some (-1,())else(Je (wt,v.1,())).bind fun v=>bif decide (v.1<0)then some (-1,())else some (v.1,())) fun n h0 h1=>
  Qd (Pt ha hb h0 h1) fun n h0 h1=>Qd (km hk h0 h1) fun n h0 h1=>Qr (kj hw h0 h1)
 exact this.mono fun⟨q1,⟨q2,q3⟩,q4,q5⟩=>⟨q1,q2,q3,q4,q5⟩
theorem Q4 (t:TX)(h:smT t):FZ ((t.1,t.2.1,t.2.2.1,t.2.2.2.1,t.2.2.2.2.1,t.2.2.2.2.2.1,t.2.2.2.2.2.2.1,t.2.2.2.2.2.2.2.1,t.2.2.2.2.2.2.2.2.1,()),())=some t:=by
 simp[FZ,Rj _ h.1,Yu _ h.2]
theorem Ps (a:List TX)(ha:a.length<=1048576)(hb:∀t∈a,smT t):Fk (a,())=some (a,()):=by
 unfold Fk
 simp only
 rw[if_pos (by omega),Int.toNat_natCast]
 refine IP ha (fun i h out ho=>?_) fun out=>?_
 ·unfold CB
  simp only[Ak h,Option.bind_some,Q4 _ (hb _ (List.getElem_mem h))]
  rw[decide_eq_true (by omega),if_pos (by omega),Am h (by omega)]
  simp[ho,h]
 ·unfold CB
  simp only
  rw[decide_eq_false (by omega)];rfl
theorem Q9 (t:TX)(h:smT t):G4 ((t.1,t.2.1,t.2.2.1,t.2.2.2.1,t.2.2.2.2.1,t.2.2.2.2.2.1,t.2.2.2.2.2.2.1,t.2.2.2.2.2.2.2.1,t.2.2.2.2.2.2.2.2.1,()),(t.1,t.2.1,t.2.2.1,t.2.2.2.1,t.2.2.2.2.1,t.2.2.2.2.2.1,t.2.2.2.2.2.2.1,t.2.2.2.2.2.2.2.1,t.2.2.2.2.2.2.2.2.1,()),())=some (true,()):=by
 have h1:=h.1
 have h2:=h.2
 simp[G4,Rq _ (show t.2.2.2.2.2.2.2.1.length<9223372036854775000 by omega),YN _ (show t.2.2.2.2.2.2.2.2.1.length<9223372036854775000 by omega)]
theorem Pv (a:List TX)(ha:a.length<=1048576)(hb:∀t∈a,smT t):Fn (a,a,())=some (true,()):=by
 unfold Fn
 simp only[bne_self_eq_false,cond_false]
 refine Fe a.length (fun j=>((j:Int),())) rfl (fun j hj=>?_) ⟨.inr (),?_,rfl⟩
 ·unfold CD
  simp only[Ak hj,Option.bind_some,Q9 _ (hb _ (List.getElem_mem hj))]
  rw[decide_eq_true (by omega),wr1 (by omega) (by omega)]
  rfl
 ·unfold CD
  simp only
  rw[decide_eq_false (by omega)]
  rfl
theorem QG {ce:Bool}{s:List (List VV)}{t:List TX}{lk wt:List VM}{stamp:Int}(h:SmallE s t lk wt):Ep ((ce,(s,()),t,lk,wt,stamp,()),())=some (ce,stamp,s,t,lk,wt,()):=by
 simp[Ep,kh s h.fs,Ps t h.fl h.ft,ki lk h.fk,kg wt h.fw]
theorem QS {ce:Bool}{s:List (List VV)}{t:List TX}{lk wt:List VM}{stamp:Int}(h:SmallE s t lk wt):Er ((ce,(s,()),t,lk,wt,stamp,()),(ce,(s,()),t,lk,wt,stamp,()),())=some (true,()):=by
 have h1:=h.fk
 have h2:=h.fw
 simp[Er,kF h.fs,Pv t h.fl h.ft,kG lk (by omega),kD wt (by omega)]
end Go.Ab
end
section
namespace Go.Ab
theorem QU {l:List VM}(hl:l.length<=1048576):Ci (l,())=some (l,()):=by
 unfold Ci
 simp only
 rw[if_pos (by omega)]
 cases l with
 |nil=>exact LV _
 |cons a l=>rfl
theorem OZ {l:List VM}(hl:l.length<=1048576):BI (l,())=some (l,()):=by
 unfold BI
 simp only
 rw[if_pos (by omega)]
 cases l with
 |nil=>exact LV _
 |cons a l=>rfl
theorem QT {l:List VM}(hl:l.length<=1048576):Ce (l,())=some (l,()):=by
 unfold Ce
 simp only
 rw[if_pos (by omega)]
 cases l with
 |nil=>exact LV _
 |cons a l=>rfl
theorem RS {l:List VM}(hl:l.length<=1048576):CG (l,())=some (l,()):=by
 unfold CG
 simp only
 rw[if_pos (by omega)]
 cases l with
 |nil=>exact LV _
 |cons a l=>rfl
theorem Yt (t:TX)(h:smT t):DJ ((t.1,t.2.1,t.2.2.1,t.2.2.2.1,t.2.2.2.2.1,t.2.2.2.2.2.1,t.2.2.2.2.2.2.1,t.2.2.2.2.2.2.2.1,t.2.2.2.2.2.2.2.2.1,()),())=some t:=by
 simp[DJ,QT h.1,RS h.2]
theorem Wy {ce:Bool}{s:List (List VV)}{t:List TX}{lk wt:List VM}{stamp:Int}(h:SmallE s t lk wt):Gb ((ce,(s,()),t,lk,wt,stamp,()),())=some (ce,stamp,s,t,lk,wt,()):=by
 have hl:=h.fl
 unfold Gb
 simp only[YL h.fs,QU h.fk,OZ h.fw,Option.bind_some]
 rw[I3 (r:=(t,())) t.length (fun i=>((i:Int),t.take i,()))]
 ·rfl
 ·simp
 ·intro i hi
  unfold CT
  simp only[Ak hi,Option.bind_some,Yt _ (h.ft _ (List.getElem_mem hi)),List.length_append,List.length_cons,List.length_nil,List.length_take]
  rw[decide_eq_true (by omega),if_pos (by omega),Am hi (by omega)]
  have e:t.take i++[t[i]]=t.take (i+1):=by rw[List.take_append_getElem hi]
  simp only[cond_true]
  rw[<-e]
 ·unfold CT
  simp only[List.take_length]
  rw[decide_eq_false (by omega)];rfl
theorem NA (t:TX)(h:smT t):EN ((t.1,t.2.1,t.2.2.1,t.2.2.2.1,t.2.2.2.2.1,t.2.2.2.2.2.1,t.2.2.2.2.2.2.1,t.2.2.2.2.2.2.2.1,t.2.2.2.2.2.2.2.2.1,()),())=some t:=uI h.1 h.2
theorem Wm {ce:Bool}{s:List (List VV)}{t:List TX}{lk wt:List VM}{stamp:Int}(h:SmallE s t lk wt):J3 ((ce,(s,()),t,lk,wt,stamp,()),())=some (ce,stamp,s,t,lk,wt,()):=by
 have hl:=h.fl
 have hk:=h.fk
 have hw:=h.fw
 unfold J3 GA
 simp only[QM h.fs]
 rw[if_pos (show lk.length<=2199023255552 by omega)]
 simp only[Option.bind_some]
 rw[if_pos (show wt.length<=2199023255552 by omega)]
 rw[I3 (r:=(t,())) t.length (fun i=>((i:Int),t.take i,()))]
 ·rfl
 ·simp
 ·intro i hi
  unfold FE
  simp only[Ak hi,Option.bind_some,NA _ (h.ft _ (List.getElem_mem hi)),List.length_append,List.length_cons,List.length_nil,List.length_take]
  rw[decide_eq_true (by omega),if_pos (by omega),Am hi (by omega)]
  have e:t.take i++[t[i]]=t.take (i+1):=by rw[List.take_append_getElem hi]
  simp only[cond_true]
  rw[<-e]
 ·unfold FE
  simp only[List.take_length]
  rw[decide_eq_false (by omega)];rfl
def O0 (s:List (List VV))(m:VM):Int:=match Jo s m with
 |some l=>match fvI l m.2.1 with
  |some j=>match l[j]? with
   |some v=>v.2.2.2.2.1
   |none=>0
  |none=>0
 |none=>0
def rfH (s:List (List VV))(rd:List VM):Int:=rd.foldl (fun n m=>mn n (O0 s m)) 1000
theorem Ww {s:List (List VV)}(hs:CF s)(h6:s.length=6){m:VM}(hm:inB m.1 0 5=true)(hx:Hk s m):∃v:VV,Ds ((s,()),(m.1,m.2.1,()),())=some (some v,())/\v.2.2.2.2.1=O0 s m:=by
 obtain⟨k,hk,hlt,l,e1,e2,e3,hl⟩:=K3 h6 hm
 obtain⟨l',j,x1,x2⟩:=hx
 rw[e3]at x1;obtain rfl:l=l':=by simpa using x1
 have hj:=PD x2
 refine⟨l[j],?_,?_⟩
 ·unfold Ds
  simp only[e2,Option.bind_some,QQ (hs.2 _ hl),Z1,x2,Option.isNone_some,cond_false,fx]
  rw[Ak hj];rfl
 ·unfold O0
  simp[e3,x2,hj]
theorem v6 {s:List (List VV)}(hs:CF s)(h6:s.length=6)(t:TX)(ht:smT t)(hrd:NT t.2.2.2.2.2.2.2.1)(hx:∀m∈t.2.2.2.2.2.2.2.1,Hk s m):E3 ((s,()),(t.1,t.2.1,t.2.2.1,t.2.2.2.1,t.2.2.2.2.1,t.2.2.2.2.2.1,t.2.2.2.2.2.2.1,t.2.2.2.2.2.2.2.1,t.2.2.2.2.2.2.2.2.1,()),())=some (rfH s t.2.2.2.2.2.2.2.1,()):=by
 have hl:=ht.1
 unfold E3
 simp only
 generalize t.2.2.2.2.2.2.2.1=rd at*
 refine Gi (l:=rd) (f:=fun n m=>mn n (O0 s m)) (X:=fun n=>some (n,())) 1000 (fun i h n=>?_) (fun n=>⟨(n,()),?_,rfl⟩) rfl
 ·obtain⟨_,h1,_⟩:=hrd i h
  obtain⟨v,e1,e2⟩:=Ww hs h6 h1 (hx _ (List.getElem_mem h))
  unfold C4
  simp only[Ak h,Option.bind_some,e1,e2]
  rw[decide_eq_true (by omega),Am h (by omega)];rfl
 ·unfold C4
  simp only
  rw[decide_eq_false (by omega)];rfl
theorem uO {s:List (List VV)}(hs:CF s)(hok:LI s)(t:TX)(ht:smT t)(hT:LH t=true)(hx:∀m∈t.2.2.2.2.2.2.2.1,Hk s m):GP ((s,()),(t.1,t.2.1,t.2.2.1,t.2.2.2.1,t.2.2.2.2.1,t.2.2.2.2.2.1,t.2.2.2.2.2.2.1,t.2.2.2.2.2.2.2.1,t.2.2.2.2.2.2.2.2.1,()),())=some (rfH s t.2.2.2.2.2.2.2.1,()):=by
 have hl:=ht.1
 have hrd:=YU hT
 unfold GP
 simp only[QL hs hok ht.1 ht.2 hT hrd,AC hx,Option.bind_some,Bool.not_true,cond_false]
 generalize t.2.2.2.2.2.2.2.1=rd at*
 refine Gi (l:=rd) (f:=fun n m=>mn n (O0 s m)) (X:=fun n=>some (n,())) 1000 (fun i h n=>?_) (fun n=>⟨(n,()),?_,rfl⟩) rfl
 ·obtain⟨_,h1,_⟩:=hrd i h
  obtain⟨k,hk,hlt,l,e1,e2,e3,hm⟩:=K3 hok.1 h1
  obtain⟨l',j,x1,x2⟩:=hx _ (List.getElem_mem h)
  rw[e3]at x1;obtain rfl:l=l':=by simpa using x1
  have hj:=PD x2
  have e4:lAt l (fx (some j))=some l[j]:=Ak hj
  unfold Dv
  simp only[Ak h,Option.bind_some,e2,QK (hs.2 _ hm),x2,e4]
  rw[decide_eq_true (by omega),Am h (by omega)]
  simp[O0,e3,x2,hj]
 ·unfold Dv
  simp only
  rw[decide_eq_false (by omega)];rfl
end Go.Ab
end
section
namespace Go.Ab
end Go.Ab
end
section
namespace Go.Ab
end Go.Ab
end
section
namespace Go.Ab
def PO (t:TX)(r:List VM):TX:=(t.1,t.2.1,t.2.2.1,t.2.2.2.1,t.2.2.2.2.1,t.2.2.2.2.2.1,t.2.2.2.2.2.2.1,r,t.2.2.2.2.2.2.2.2.1,())
def PN (t:TX)(r:List VM):TX:=(t.1,t.2.1,t.2.2.1,t.2.2.2.1,t.2.2.2.2.1,t.2.2.2.2.2.1,t.2.2.2.2.2.2.1,t.2.2.2.2.2.2.2.1,r,())
theorem OW (ts:List TX)(i:Nat)(hi:i<ts.length)(k:Int)(h0:0<=k)(hk:k+2*ts[i].2.2.2.2.2.2.2.1.length<9223372036854775000):
 EI (i,k,ts,())=some (k+2*ts[i].2.2.2.2.2.2.2.1.length,ts.set i (PO ts[i] (mkL mk2 2 k ts[i].2.2.2.2.2.2.2.1.length)),()):=by
 unfold EI
 simp only
 have hset0:ts.set i (PO ts[i] ts[i].2.2.2.2.2.2.2.1)=ts:=by
  have:PO ts[i] ts[i].2.2.2.2.2.2.2.1=ts[i]:=rfl
  rw[this];simp
 generalize htt:ts[i]=t at*
 have key:∀x:TX,(ts.set i x)[i]?=some x:=fun x=>by simp[hi]
 rw[I3 (r:=(k+2*t.2.2.2.2.2.2.2.1.length,ts.set i (PO t (mkL mk2 2 k t.2.2.2.2.2.2.2.1.length)),())) t.2.2.2.2.2.2.2.1.length (fun j=>(k+2*(j:Int),(j:Int),ts.set i (PO t (mkd mk2 2 k t.2.2.2.2.2.2.2.1 j)),()))]
 ·rfl
 ·simp only[LJ,hset0];simp
 ·intro j hj
  have hl:=JD mk2 2 k t.2.2.2.2.2.2.2.1 j (by omega)
  have hg:=NE mk2 2 k t.2.2.2.2.2.2.2.1 j hj
  have hs:=ND mk2 2 k t.2.2.2.2.2.2.2.1 j hj
  have c1:(0:Int)<=(j:Int)/\(j:Int)<((t.2.2.2.2.2.2.2.1.length:Nat):Int):=by omega
  unfold Ct
  simp only[key,Option.bind_some,PO,hl,if_pos c1,Nat.zero_add,Int.toNat_natCast,hg,List.set_set,List.length_set,List.getElem?_set_self,hj]
  rw[decide_eq_true (by omega),wr1 (k:=k+2*(j:Int)) (by omega) (by omega),wr1 (k:=k+2*(j:Int)+1) (by omega) (by omega),wr1 (k:=(j:Int)) (by omega) (by omega)]
  have e1:k+2*(j:Int)+1+1=k+2*((j+1:Nat):Int):=by push_cast;omega
  have e2:(k+2*(j:Int),k+2*(j:Int)+1,())=mk2 (k+2*(j:Int)):=by simp[mk2]
  rw[e1,e2,hs]
  simp[hj]
 ·unfold Ct
  simp only[key,Option.bind_some,PO,NF,AL]
  rw[decide_eq_false (by omega)]
  rfl
theorem QN (ts:List TX)(i:Nat)(hi:i<ts.length)(k:Int)(h0:0<=k)(hk:k+2*ts[i].2.2.2.2.2.2.2.2.1.length<9223372036854775000):
 Gp (i,k,ts,())=some (k+2*ts[i].2.2.2.2.2.2.2.2.1.length,ts.set i (PN ts[i] (mkL mk2 2 k ts[i].2.2.2.2.2.2.2.2.1.length)),()):=by
 unfold Gp
 simp only
 have hset0:ts.set i (PN ts[i] ts[i].2.2.2.2.2.2.2.2.1)=ts:=by
  have:PN ts[i] ts[i].2.2.2.2.2.2.2.2.1=ts[i]:=rfl
  rw[this];simp
 generalize htt:ts[i]=t at*
 have key:∀x:TX,(ts.set i x)[i]?=some x:=fun x=>by simp[hi]
 rw[I3 (r:=(k+2*t.2.2.2.2.2.2.2.2.1.length,ts.set i (PN t (mkL mk2 2 k t.2.2.2.2.2.2.2.2.1.length)),())) t.2.2.2.2.2.2.2.2.1.length (fun j=>(k+2*(j:Int),(j:Int),ts.set i (PN t (mkd mk2 2 k t.2.2.2.2.2.2.2.2.1 j)),()))]
 ·rfl
 ·simp only[LJ,hset0];simp
 ·intro j hj
  have hl:=JD mk2 2 k t.2.2.2.2.2.2.2.2.1 j (by omega)
  have hg:=NE mk2 2 k t.2.2.2.2.2.2.2.2.1 j hj
  have hs:=ND mk2 2 k t.2.2.2.2.2.2.2.2.1 j hj
  have c1:(0:Int)<=(j:Int)/\(j:Int)<((t.2.2.2.2.2.2.2.2.1.length:Nat):Int):=by omega
  unfold D7
  simp only[key,Option.bind_some,PN,hl,if_pos c1,Nat.zero_add,Int.toNat_natCast,hg,List.set_set,List.length_set,List.getElem?_set_self,hj]
  rw[decide_eq_true (by omega),wr1 (k:=k+2*(j:Int)) (by omega) (by omega),wr1 (k:=k+2*(j:Int)+1) (by omega) (by omega),wr1 (k:=(j:Int)) (by omega) (by omega)]
  have e1:k+2*(j:Int)+1+1=k+2*((j+1:Nat):Int):=by push_cast;omega
  have e2:(k+2*(j:Int),k+2*(j:Int)+1,())=mk2 (k+2*(j:Int)):=by simp[mk2]
  rw[e1,e2,hs]
  simp[hj]
 ·unfold D7
  simp only[key,Option.bind_some,PN,NF,AL]
  rw[decide_eq_false (by omega)]
  rfl
theorem Wp (row:List VM)(k:Int)(h0:0<=k)(hk:k+2*row.length<9223372036854775000):
 GZ (k,row,())=some (k+2*row.length,mkL mk2 2 k row.length,()):=by
 unfold GZ
 simp only
 rw[I3 (r:=(k+2*row.length,mkL mk2 2 k row.length,())) row.length (fun j=>(k+2*(j:Int),(j:Int),mkd mk2 2 k row j,()))]
 ·rfl
 ·simp only[LJ];simp
 ·intro j hj
  unfold DA
  have hl:=JD mk2 2 k row j (by omega)
  have hg:=NE mk2 2 k row j hj
  have hs:=ND mk2 2 k row j hj
  simp only[hl]
  rw[decide_eq_true (by omega),if_pos (by omega)]
  simp only[cond_true,Option.bind_some,Nat.zero_add,Int.toNat_natCast,hg,List.set_set,List.length_set,List.getElem?_set_self,hl,hj]
  rw[wr1 (k:=k+2*(j:Int)) (by omega) (by omega),wr1 (k:=k+2*(j:Int)+1) (by omega) (by omega),wr1 (k:=(j:Int)) (by omega) (by omega)]
  have e1:k+2*(j:Int)+1+1=k+2*((j+1:Nat):Int):=by push_cast;omega
  have e2:(k+2*(j:Int),k+2*(j:Int)+1,())=mk2 (k+2*(j:Int)):=by simp[mk2]
  rw[e1,e2,hs]
  simp[hj]
 ·unfold DA
  simp only[NF,AL]
  rw[decide_eq_false (by omega)]
  rfl
theorem WD (n:Nat)(k:Int)(h0:0<=k)(hk:k+2*n<9223372036854775000):Ij (mkL mk2 2 k n,k,())=some (k+2*n,()):=by
 unfold Ij
 simp only
 refine Fe n (fun j=>(k+2*(j:Int),(j:Int),())) (by simp) (fun j hj=>?_) ⟨.inr (.inr (k+2*n,())),?_,rfl⟩
 ·unfold Ef
  have hg:lAt (mkL mk2 2 k n) (j:Int)=some (mk2 (k+2*(j:Int))):=by
   rw[Ak (by rw[AL];exact hj)]
   have:=NG mk2 2 k n j hj
   rw[List.getElem?_eq_getElem (by rw[AL];exact hj)]at this
   exact this
  simp only[AL,hg,Option.bind_some]
  rw[decide_eq_true (by omega)]
  rw[wr1 (k:=k+2*(j:Int)) (by omega) (by omega),wr1 (k:=k+2*(j:Int)+1) (by omega) (by omega),wr1 (k:=(j:Int)) (by omega) (by omega)]
  simp only[mk2,cond_true]
  have e0:(k+2*(j:Int) != k+2*(j:Int))=false:=by first|simp|(rw[bne_eq_false_iff_eq];omega)
  have e1:(k+2*(j:Int)+1 != k+2*(j:Int)+1)=false:=by first|simp|(rw[bne_eq_false_iff_eq];omega)
  simp only[e0,e1,cond_false]
  congr 3
  ·push_cast;omega
 ·unfold Ef
  simp only[AL]
  rw[decide_eq_false (by omega)]
  rfl
theorem Wn (row:List VM)(k:Int)(h0:0<=k)(hk:k+2*row.length<9223372036854775000):
 GX (k,row,())=some (k+2*row.length,mkL mk2 2 k row.length,()):=by
 unfold GX
 simp only
 rw[I3 (r:=(k+2*row.length,mkL mk2 2 k row.length,())) row.length (fun j=>(k+2*(j:Int),(j:Int),mkd mk2 2 k row j,()))]
 ·rfl
 ·simp only[LJ];simp
 ·intro j hj
  unfold Dz
  have hl:=JD mk2 2 k row j (by omega)
  have hg:=NE mk2 2 k row j hj
  have hs:=ND mk2 2 k row j hj
  simp only[hl]
  rw[decide_eq_true (by omega),if_pos (by omega)]
  simp only[cond_true,Option.bind_some,Nat.zero_add,Int.toNat_natCast,hg,List.set_set,List.length_set,List.getElem?_set_self,hl,hj]
  rw[wr1 (k:=k+2*(j:Int)) (by omega) (by omega),wr1 (k:=k+2*(j:Int)+1) (by omega) (by omega),wr1 (k:=(j:Int)) (by omega) (by omega)]
  have e1:k+2*(j:Int)+1+1=k+2*((j+1:Nat):Int):=by push_cast;omega
  have e2:(k+2*(j:Int),k+2*(j:Int)+1,())=mk2 (k+2*(j:Int)):=by simp[mk2]
  rw[e1,e2,hs]
  simp[hj]
 ·unfold Dz
  simp only[NF,AL]
  rw[decide_eq_false (by omega)]
  rfl
theorem WB (n:Nat)(k:Int)(h0:0<=k)(hk:k+2*n<9223372036854775000):Ih (mkL mk2 2 k n,k,())=some (k+2*n,()):=by
 unfold Ih
 simp only
 refine Fe n (fun j=>(k+2*(j:Int),(j:Int),())) (by simp) (fun j hj=>?_) ⟨.inr (.inr (k+2*n,())),?_,rfl⟩
 ·unfold Ed
  have hg:lAt (mkL mk2 2 k n) (j:Int)=some (mk2 (k+2*(j:Int))):=by
   rw[Ak (by rw[AL];exact hj)]
   have:=NG mk2 2 k n j hj
   rw[List.getElem?_eq_getElem (by rw[AL];exact hj)]at this
   exact this
  simp only[AL,hg,Option.bind_some]
  rw[decide_eq_true (by omega)]
  rw[wr1 (k:=k+2*(j:Int)) (by omega) (by omega),wr1 (k:=k+2*(j:Int)+1) (by omega) (by omega),wr1 (k:=(j:Int)) (by omega) (by omega)]
  simp only[mk2,cond_true]
  have e0:(k+2*(j:Int) != k+2*(j:Int))=false:=by first|simp|(rw[bne_eq_false_iff_eq];omega)
  have e1:(k+2*(j:Int)+1 != k+2*(j:Int)+1)=false:=by first|simp|(rw[bne_eq_false_iff_eq];omega)
  simp only[e0,e1,cond_false]
  congr 3
  ·push_cast;omega
 ·unfold Ed
  simp only[AL]
  rw[decide_eq_false (by omega)]
  rfl
def mkT (k:Int)(t:TX):TX:=(k,k+1,k+2,k+3,k+4,k+5,k+6,mkL mk2 2 (k+7) t.2.2.2.2.2.2.2.1.length,mkL mk2 2 (k+7+2*t.2.2.2.2.2.2.2.1.length) t.2.2.2.2.2.2.2.2.1.length,())
def enT (k:Int)(t:TX):Int:=k+7+2*t.2.2.2.2.2.2.2.1.length+2*t.2.2.2.2.2.2.2.2.1.length
def Py:Int->List TX->List TX
 |_,[]=>[]
 |k,t::ts=>mkT k t::Py (enT k t) ts
def Ix:Int->List TX->Int
 |k,[]=>k
 |k,t::ts=>Ix (enT k t) ts
theorem Z3 (k:Int)(t:TX):k<=enT k t:=by unfold enT;omega
theorem Ur (k:Int)(ts:List TX):k<=Ix k ts:=by
 induction ts generalizing k with
 |nil=>exact Int.le_refl k
 |cons t ts ih=>have:=ih (enT k t);have:=Z3 k t;simp only[Ix];omega
theorem A10 {a:List TX}:∀(k:Int),(∀t∈a,smT t)->Ix k a<=k+4194311*a.length:=by
 induction a with
 |nil=>intro k _;simp[Ix]
 |cons r rs ih=>
  intro k h
  have h1:=ih (enT k r) (fun e he=>h e (List.mem_cons_of_mem _ he))
  have h2:=h r (List.mem_cons_self ..)
  unfold smT at h2
  unfold enT at h1
  simp only[Ix,List.length_cons]
  unfold enT
  push_cast
  omega
theorem Oq (ts:List TX)(k:Int)(h0:0<=k)(hk:Ix k ts<9223372036854775000)(hl:ts.length<9223372036854775000):DI (k,ts,())=some (Ix k ts,Py k ts,()):=by
 unfold DI
 simp only
 have key:∀(rs pre:List TX) (k:Int),0<=k->Ix k rs<9223372036854775000->pre.length+rs.length<9223372036854775000->
  AE (fun v=>Bn () v _ some) (k,(pre.length:Int),pre++rs,())=some (Ix k rs,pre++Py k rs,()):=by
  intro rs
  induction rs with
  |nil=>
   intro pre k h0 hk hl
   rw[Bf]
   unfold Bn
   simp only[List.append_nil]
   rw[decide_eq_false (by omega)]
   simp[Ix,Py]
  |cons t rs ih=>
   intro pre k h0 hk hl
   have hge:=Ur (enT k t) rs
   simp only[Ix]at hk
   have hge2:enT k t<9223372036854775000:=by omega
   unfold enT at hge2
   simp only[List.length_cons]at hl
   have hi:pre.length<(pre++t::rs).length:=by simp
   have hget:(pre++t::rs)[pre.length]?=some t:=by simp
   have keyS:∀x:TX,((pre++t::rs).set pre.length x)[pre.length]?=some x:=fun x=>by simp
   have c1:(0:Int)<=(pre.length:Int)/\(pre.length:Int)<(((pre++t::rs).length:Nat):Int):=by simp;omega
   have hR:=OW ((pre++t::rs).set pre.length (k,k+1,k+2,k+3,k+4,k+5,k+6,t.2.2.2.2.2.2.2.1,t.2.2.2.2.2.2.2.2.1,())) pre.length (by simp) (k+7) (by omega) (by simp;omega)
   simp only[List.getElem_set_self,PO,List.set_set]at hR
   have hW:=QN ((pre++t::rs).set pre.length (k,k+1,k+2,k+3,k+4,k+5,k+6,mkL mk2 2 (k+7) t.2.2.2.2.2.2.2.1.length,t.2.2.2.2.2.2.2.2.1,())) pre.length (by simp) (k+7+2*t.2.2.2.2.2.2.2.1.length) (by omega) (by simp;omega)
   simp only[List.getElem_set_self,PN,List.set_set]at hW
   have hset:(pre++t::rs).set pre.length (mkT k t)=(pre++[mkT k t])++rs:=by simp
   have hB:Bn () (k,(pre.length:Int),pre++t::rs,()) _ some=some (.inl (enT k t,(pre.length:Int)+1,(pre++[mkT k t])++rs,())):=by
    unfold Bn
    simp only[List.length_set,if_pos c1,Nat.zero_add,Int.toNat_natCast,hget,Option.bind_some,keyS,List.set_set]
    rw[decide_eq_true c1.2,wr1 (k:=k) (by omega) (by omega),wr1 (k:=k+1) (by omega) (by omega),wr1 (k:=k+1+1) (by omega) (by omega),wr1 (k:=k+1+1+1) (by omega) (by omega),wr1 (k:=k+1+1+1+1) (by omega) (by omega),wr1 (k:=k+1+1+1+1+1) (by omega) (by omega),wr1 (k:=k+1+1+1+1+1+1) (by omega) (by omega),wr1 (k:=(pre.length:Int)) (by omega) (by omega)]
    have a2:k+1+1=k+2:=by omega
    have a3:k+2+1=k+3:=by omega
    have a4:k+3+1=k+4:=by omega
    have a5:k+4+1=k+5:=by omega
    have a6:k+5+1=k+6:=by omega
    have a7:k+6+1=k+7:=by omega
    simp only[a2,a3,a4,a5,a6,a7,hR,Option.bind_some,keyS,List.length_set,if_pos c1,hW,cond_true]
    rw[<-hset]
    rfl
   rw[Bf,hB]
   have:=ih (pre++[mkT k t]) (enT k t) (by have:=Z3 k t;omega) hk (by simp;omega)
   simp only[List.length_append,List.length_cons,List.length_nil,Nat.zero_add,Int.natCast_add]at this
   rw[show((1:Nat):Int)=1 from rfl]at this
   simp only[Option.bind_some]
   rw[this]
   simp[Ix,Py]
 have:=key ts [] k h0 hk (by simpa using hl)
 simp only[List.length_nil,List.nil_append,Int.natCast_zero]at this
 rw[this];rfl
theorem Ot (ts:List TX)(k:Int)(h0:0<=k)(hk:Ix k ts<9223372036854775000)(hl:ts.length<9223372036854775000):Ee (Py k ts,k,())=some (Ix k ts,()):=by
 unfold Ee
 simp only
 have key:∀(rs pre:List TX) (k:Int),0<=k->Ix k rs<9223372036854775000->pre.length+rs.length<9223372036854775000->
  AE (fun v=>Bv (pre++Py k rs,()) v _ some) (k,(pre.length:Int),())=some (.inr (.inr (.inr (.inr (.inr (.inr (.inr (.inr (.inr (Ix k rs,())))))))))):=by
  intro rs
  induction rs with
  |nil=>
   intro pre k h0 hk hl
   rw[Bf]
   unfold Bv
   simp only[Py,List.append_nil]
   rw[decide_eq_false (by omega)]
   simp[Ix]
  |cons t rs ih=>
   intro pre k h0 hk hl
   have hge:=Ur (enT k t) rs
   simp only[Ix]at hk
   have hge2:enT k t<9223372036854775000:=by omega
   unfold enT at hge2
   simp only[List.length_cons]at hl
   rw[Bf]
   simp only[Py]
   have:=ih (pre++[mkT k t]) (enT k t) (by have:=Z3 k t;omega) hk (by simp;omega)
   simp only[List.length_append,List.length_cons,List.length_nil,Nat.zero_add,Int.natCast_add,List.append_assoc,List.singleton_append]at this
   rw[show((1:Nat):Int)=1 from rfl]at this
   simp only[Ix]
   rw[<-this]
   have hB:Bv (pre++mkT k t::Py (enT k t) rs,()) (k,(pre.length:Int),()) _ some=some (.inl (enT k t,(pre.length:Int)+1,())):=by
    unfold Bv
    have hg:lAt (pre++mkT k t::Py (enT k t) rs) (pre.length:Int)=some (mkT k t):=by
     rw[Ak (by simp)];simp
    simp only[hg,Option.bind_some]
    rw[decide_eq_true (by simp;omega),wr1 (k:=k) (by omega) (by omega),wr1 (k:=k+1) (by omega) (by omega),wr1 (k:=k+1+1) (by omega) (by omega),wr1 (k:=k+1+1+1) (by omega) (by omega),wr1 (k:=k+1+1+1+1) (by omega) (by omega),wr1 (k:=k+1+1+1+1+1) (by omega) (by omega),wr1 (k:=k+1+1+1+1+1+1) (by omega) (by omega),wr1 (k:=(pre.length:Int)) (by omega) (by omega)]
    have a2:k+1+1=k+2:=by omega
    have a3:k+2+1=k+3:=by omega
    have a4:k+3+1=k+4:=by omega
    have a5:k+4+1=k+5:=by omega
    have a6:k+5+1=k+6:=by omega
    have a7:k+6+1=k+7:=by omega
    simp only[a2,a3,a4,a5,a6,a7,mkT,bne_self_eq_false,cond_true,cond_false,Q8 t.2.2.2.2.2.2.2.1.length (k+7) (by omega) (by omega),Option.bind_some]
    rw[decide_eq_false (by omega)]
    simp only[cond_false,U2 t.2.2.2.2.2.2.2.2.1.length (k+7+2*(t.2.2.2.2.2.2.2.1.length:Int)) (by omega) (by omega),Option.bind_some]
    rw[decide_eq_false (by omega)]
    rfl
   rw[hB];rfl
 have:=key ts [] k h0 hk (by simpa using hl)
 simp only[List.length_nil,List.nil_append,Int.natCast_zero]at this
 rw[this];rfl
def enE (s:List (List VV))(l:List TX)(lk wt:List VM):Int:=Ix (F5 1 s) l+2*lk.length+2*wt.length
section
variable {ce:Bool}{s:List (List VV)}{l:List TX}{lk wt:List VM}{stamp:Int}(h:SmallE s l lk wt)
include h
theorem NK:1<=F5 1 s/\F5 1 s<=Ix (F5 1 s) l/\Ix (F5 1 s) l<=2000000000000000000/\Ix (F5 1 s) l<=enE s l lk wt/\enE s l lk wt<=3000000000000000000:=by
 have b1:=Z4 h.fs
 have b2:=Ur (F5 1 s) l
 have b3:=A10 (F5 1 s) h.ft
 have b4:=h.fl
 have b5:=h.fk
 have b6:=h.fw
 unfold enE
 omega
theorem OX:Ev (ce,stamp,1,s,l,lk,wt,())=some (enE s l lk wt,Ou 1 s,Py (F5 1 s) l,mkL mk2 2 (Ix (F5 1 s) l) lk.length,mkL mk2 2 (Ix (F5 1 s) l+2*lk.length) wt.length,()):=by
 obtain⟨b1,b2,b3,b4,b5⟩:=NK h
 have c4:=h.fl
 have c5:=h.fk
 have c6:=h.fw
 unfold Ev
 simp only[Wo h.fs,Option.bind_some,Oq l (F5 1 s) (by omega) (by omega) (by omega),Wp lk (Ix (F5 1 s) l) (by omega) (by omega),Wn wt (Ix (F5 1 s) l+2*lk.length) (by omega) (by omega)]
 rfl
theorem U3:G3 ((ce,(Ou 1 s,()),Py (F5 1 s) l,mkL mk2 2 (Ix (F5 1 s) l) lk.length,mkL mk2 2 (Ix (F5 1 s) l+2*lk.length) wt.length,stamp,()),1,())=some (enE s l lk wt,()):=by
 obtain⟨b1,b2,b3,b4,b5⟩:=NK h
 have c4:=h.fl
 have c5:=h.fk
 have c6:=h.fw
 unfold G3
 simp only[WC h.fs,Option.bind_some]
 rw[decide_eq_false (by omega)]
 simp only[cond_false,Ot l (F5 1 s) (by omega) (by omega) (by omega),Option.bind_some]
 rw[decide_eq_false (by omega)]
 simp only[cond_false,WD lk.length (Ix (F5 1 s) l) (by omega) (by omega),Option.bind_some]
 rw[decide_eq_false (by omega)]
 simp only[cond_false,WB wt.length (Ix (F5 1 s) l+2*lk.length) (by omega) (by omega),Option.bind_some]
 rw[decide_eq_false (by omega)]
 rfl
end
end Go.Ab
end
section
namespace Go.Ab
end Go.Ab
end
section
namespace Go.Ab
end Go.Ab
end
section
namespace Go.Ab
theorem kM {α σ τ ρ:Type}{B:τ->Option (τ ⊕ ρ)}{l:List α}(st:σ->Nat->τ)(f:σ->α->σ)(J:Nat->σ->Prop){s0:σ}(h0:J 0 s0)
 (hB:∀i (h:i<l.length) s,J i s->B (st s i)=some (.inl (st (f s l[i]) (i+1)))/\J (i+1) (f s l[i])){r:σ->ρ}(hend:∀s,J l.length s->B (st s l.length)=some (.inr (r s))){t0:τ}(ht:t0=st s0 0):AE B t0=some (r (l.foldl f s0)):=by
 subst ht
 have key:∀m i:Nat,i+m=l.length->∀s,J i s->AE B (st s i)=some (r ((l.drop i).foldl f s)):=by
  intro m
  induction m with
  |zero=>
   intro i hi s hs
   obtain rfl:i=l.length:=by omega
   rw[Bf,hend s hs];simp
  |succ m ih=>
   intro i hi s hs
   have h:i<l.length:=by omega
   obtain⟨h1,h2⟩:=hB i h s hs
   rw[Bf,h1,List.drop_eq_getElem_cons h]
   simp only[Option.bind_some]
   rw[ih (i+1) (by omega) _ h2];rfl
 have:=key l.length 0 (by omega) s0 h0
 simpa using this
theorem Mk {α τ ρ:Type}{B:τ->Option (τ ⊕ ρ)}{l:List α}(st:Nat->τ)(p:α->Bool){fd:Nat->ρ}{no:ρ}
 (hB:∀i (h:i<l.length),B (st i)=some (if p l[i]=true then .inr (fd i)else .inl (st (i+1))))(hend:B (st l.length)=some (.inr no)){t0:τ}(ht:t0=st 0):
 AE B t0=some (match l.findIdx? p with|some i=>fd i|none=>no):=by
 subst ht
 have key:∀m i:Nat,i+m=l.length->AE B (st i)=some (match(l.drop i).findIdx? p with|some j=>fd (i+j)|none=>no):=by
  intro m
  induction m with
  |zero=>
   intro i hi
   obtain rfl:i=l.length:=by omega
   rw[Bf,hend];simp
  |succ m ih=>
   intro i hi
   have h:i<l.length:=by omega
   rw[Bf,hB i h,List.drop_eq_getElem_cons h,List.findIdx?_cons]
   by_cases hp:p l[i]=true
   ·simp[hp]
   ·simp only[hp,if_false,Option.bind_some,Bool.false_eq_true]
    rw[ih (i+1) (by omega)]
    cases(l.drop (i+1)).findIdx? p with
    |none=>rfl
    |some j=>simp only[Option.map_some];congr 2;omega
 have:=key l.length 0 (by omega)
 simpa using this
end Go.Ab
end
section
namespace Go.Ab
theorem NL {α:Type}{R:α->α->Prop}(ht:∀a b c,R a b->R b c->R a c){P:α->Prop}(l:List α):
 (∀i,i<l.length->∃h:i<l.length,P l[i]/\∀h2:0<i,R (l[i-1]'(by omega)) l[i])↔(∀x∈l,P x)/\l.Pairwise R:=by
 constructor
 ·intro h
  refine⟨fun x hx=>?_,?_⟩
  ·obtain⟨i,hi,rfl⟩:=List.getElem_of_mem hx
   exact(h i hi).2.1
  ·rw[List.pairwise_iff_getElem]
   intro i j hi hj hij
   induction j with
   |zero=>omega
   |succ j ih=>
    have h1:=(h (j+1) hj).2.2 (by omega)
    simp only[Nat.add_sub_cancel]at h1
    by_cases e:i=j
    ·subst e;exact h1
    ·exact ht _ _ _ (ih (by omega) (by omega)) h1
 ·rintro⟨h1,h2⟩ i hi
  refine⟨hi,h1 _ (List.getElem_mem hi),fun h0=>?_⟩
  exact List.pairwise_iff_getElem.1 h2 (i-1) i (by omega) hi (by omega)
abbrev I7 {α:Type}(f:α->Int)(l:List α):Prop:=l.Pairwise fun a b=>f a<f b
def CA {α:Type}(f:α->Int)(l:List α)(m:α):List α:=
 (l.takeWhile fun x=>decide (f x<f m))++m::(match l.dropWhile fun x=>decide (f x<f m)with|[]=>[]|x::r=>if f x=f m then r else x::r)
theorem Nr {α:Type}{f:α->Int}:∀{l:List α} (h:I7 f l) (n:Int),∀x∈l.dropWhile (fun x=>decide (f x<n)),n<=f x
 |[],_,_,x,hx=>by simp at hx
 |a::l,h,n,x,hx=>by
  have h1:=List.pairwise_cons.1 h
  simp only[List.dropWhile_cons]at hx
  split at hx
  ·exact Nr h1.2 n x hx
  ·rename_i hn
   simp only[decide_eq_true_eq]at hn
   rcases List.mem_cons.1 hx with rfl|hx
   ·omega
   ·have:=h1.1 x hx;omega
theorem Ig {α:Type}{f:α->Int}{l:List α}(h:I7 f l){m x:α}:x∈CA f l m↔x=m\/(x∈l/\f x≠f m):=by
 have hd:=Nr h (f m)
 have hu:I7 f (l.dropWhile fun x=>decide (f x<f m)):=h.sublist (List.dropWhile_sublist _)
 have hl:x∈l↔x∈(l.takeWhile fun x=>decide (f x<f m))\/x∈(l.dropWhile fun x=>decide (f x<f m)):=by
  rw[<-List.mem_append,List.takeWhile_append_dropWhile]
 have htk:∀y∈(l.takeWhile fun x=>decide (f x<f m)),f y<f m:=fun y hy=>by
  have:=List.all_takeWhile (l:=l) (p:=fun x=>decide (f x<f m))
  have:=List.all_eq_true.1 this y hy
  simpa using this
 unfold CA
 cases hb:(l.dropWhile fun x=>decide (f x<f m))with
 |nil=>
  rw[hb]at hl
  simp only[List.mem_append,List.mem_cons,List.not_mem_nil,or_false]at hl ⊢
  rw[hl]
  constructor
  ·rintro(h1|h1)
   ·exact .inr ⟨h1,by have:=htk x h1;omega⟩
   ·exact .inl h1
  ·rintro(h1|⟨h1,_⟩)
   ·exact .inr h1
   ·exact .inl h1
 |cons y r=>
  rw[hb]at hl hd hu
  have hyr:=List.pairwise_cons.1 hu
  have hy:=hd y (List.mem_cons_self)
  simp only
  by_cases e:f y=f m
  ·rw[if_pos e]
   simp only[List.mem_append,List.mem_cons]at hl ⊢
   rw[hl]
   constructor
   ·rintro(h1|h1|h1)
    ·exact .inr ⟨.inl h1,by have:=htk x h1;omega⟩
    ·exact .inl h1
    ·exact .inr ⟨.inr (.inr h1),by have:=hyr.1 x h1;omega⟩
   ·rintro(h1|⟨h1|h1|h1,h2⟩)
    ·exact .inr (.inl h1)
    ·exact .inl h1
    ·subst h1;exact absurd e h2
    ·exact .inr (.inr h1)
  ·rw[if_neg e]
   simp only[List.mem_append,List.mem_cons]at hl ⊢
   rw[hl]
   constructor
   ·rintro(h1|h1|h1|h1)
    ·exact .inr ⟨.inl h1,by have:=htk x h1;omega⟩
    ·exact .inl h1
    ·subst h1;exact .inr ⟨.inr (.inl rfl),e⟩
    ·exact .inr ⟨.inr (.inr h1),by have:=hyr.1 x h1;omega⟩
   ·rintro(h1|⟨h1|h1|h1,h2⟩)
    ·exact .inr (.inl h1)
    ·exact .inl h1
    ·exact .inr (.inr (.inl h1))
    ·exact .inr (.inr (.inr h1))
theorem LB {α:Type}{f:α->Int}{l:List α}(h:I7 f l)(m:α):I7 f (CA f l m):=by
 have hd:=Nr h (f m)
 have hu:I7 f (l.dropWhile fun x=>decide (f x<f m)):=h.sublist (List.dropWhile_sublist _)
 have ht:I7 f (l.takeWhile fun x=>decide (f x<f m)):=h.sublist (List.takeWhile_sublist _)
 have htk:∀y∈(l.takeWhile fun x=>decide (f x<f m)),f y<f m:=fun y hy=>by
  have:=List.all_takeWhile (l:=l) (p:=fun x=>decide (f x<f m))
  have:=List.all_eq_true.1 this y hy
  simpa using this
 unfold CA
 have key:∀r:List α,I7 f r->(∀x∈r,f m<f x)->I7 f ((l.takeWhile fun x=>decide (f x<f m))++m::r):=by
  intro r hr h1
  refine List.pairwise_append.2 ⟨ht,List.pairwise_cons.2 ⟨h1,hr⟩,fun a ha b hb=>?_⟩
  have h2:=htk a ha
  rcases List.mem_cons.1 hb with rfl|hb
  ·exact h2
  ·have:=h1 b hb;omega
 cases hb:(l.dropWhile fun x=>decide (f x<f m))with
 |nil=>exact key [] .nil (by simp)
 |cons y r=>
  rw[hb]at hd hu
  have hyr:=List.pairwise_cons.1 hu
  have hy:=hd y (List.mem_cons_self)
  simp only
  by_cases e:f y=f m
  ·rw[if_pos e];exact key r hyr.2 fun x hx=>by have:=hyr.1 x hx;omega
  ·rw[if_neg e]
   refine key _ hu fun x hx=>?_
   have h0:f m<f y:=by omega
   rcases List.mem_cons.1 hx with rfl|hx
   ·exact h0
   ·have:=hyr.1 x hx;omega
theorem Pq {α:Type}{f:α->Int}(l:List α)(m:α):(CA f l m).length<=l.length+1:=by
 have e:=congrArg List.length (List.takeWhile_append_dropWhile (p:=fun x=>decide (f x<f m)) (l:=l))
 rw[List.length_append]at e
 unfold CA
 split
 ·rename_i h1;simp only[List.length_append,List.length_cons,List.length_nil];omega
 ·rename_i y r h1
  rw[h1]at e
  simp only[List.length_cons]at e
  split<;>simp only[List.length_append,List.length_cons]<;>omega
theorem N6 (l:List VM):Qa l↔(∀x∈l,inB x.1 0 5=true/\inB x.2.1 1 9=true)/\I7 (·.1) l:=by
 unfold Qa zW
 refine Iff.trans ?_ (NL (R:=fun a b:VM=>a.1<b.1) (P:=fun x=>inB x.1 0 5=true/\inB x.2.1 1 9=true) (fun a b c h1 h2=>Int.lt_trans h1 h2) l)
 simp only[and_assoc]
theorem J8 (l:List VM):ML l↔(∀x∈l,inB x.1 1 9=true/\inB x.2.1 1 9=true/\x.1≠x.2.1)/\I7 (·.1) l:=by
 unfold ML wb
 refine Iff.trans ?_ (NL (R:=fun a b:VM=>a.1<b.1) (P:=fun x=>inB x.1 1 9=true/\inB x.2.1 1 9=true/\x.1≠x.2.1) (fun a b c h1 h2=>Int.lt_trans h1 h2) l)
 simp only[and_assoc]
theorem KH (l:List VM):QW l↔(∀x∈l,inB x.1 0 5=true/\inB x.2.1 (-1) 99=true)/\I7 (·.1) l:=by
 unfold QW wc
 refine Iff.trans ?_ (NL (R:=fun a b:VM=>a.1<b.1) (P:=fun x=>inB x.1 0 5=true/\inB x.2.1 (-1) 99=true) (fun a b c h1 h2=>Int.lt_trans h1 h2) l)
 simp only[and_assoc]
theorem Jq (a b c:VM)(h1:Cg a b)(h2:Cg b c):Cg a c:=by unfold Cg at*;omega
theorem N5 (l:List VM):NT l↔(∀x∈l,inB x.1 0 5=true/\inB x.2.1 0 999=true)/\l.Pairwise Cg:=by
 unfold NT wj
 rw[<-NL Jq]
 simp only[and_assoc]
theorem RV (s:List (List VV))(stamp:Int)(l:List TX):P0 s stamp l↔(∀t∈l,LH t=true/\t.2.2.2.1<=stamp/\t.2.2.2.2.2.2.1<=stamp/\(t.2.2.1=1->∀m∈t.2.2.2.2.2.2.2.1,Hk s m))/\I7 (·.1) l:=by
 unfold P0 wg
 refine Iff.trans ?_ (NL (R:=fun a b:TX=>a.1<b.1) (P:=fun t=>LH t=true/\t.2.2.2.1<=stamp/\t.2.2.2.2.2.2.1<=stamp/\(t.2.2.1=1->∀m∈t.2.2.2.2.2.2.2.1,Hk s m)) (fun a b c h1 h2=>Int.lt_trans h1 h2) l)
 constructor
 ·intro h i hi
  obtain⟨h0,h1,h2,h3,h4,h5⟩:=h i hi
  exact⟨h0,⟨h1,h3,h4,h5⟩,h2⟩
 ·intro h i hi
  obtain⟨h0,⟨h1,h3,h4,h5⟩,h2⟩:=h i hi
  exact⟨h0,h1,h2,h3,h4,h5⟩
theorem jI {l:List TX}(h:I7 (·.1) l){k:Nat}(hk:k<l.length):l.findIdx? (fun t=>t.1==l[k].1)=some k:=by
 rw[List.findIdx?_eq_some_iff_getElem]
 refine⟨hk,by simp,fun j hj=>?_⟩
 have:l[j].1<l[k].1:=List.pairwise_iff_getElem.1 h j k (by omega) hk hj
 simp;omega
theorem K5 {l:List TX}(h:I7 (·.1) l)(id:Int):DY l id=true↔∃t∈l,t.1=id/\t.2.2.1=1:=by
 unfold DY
 constructor
 ·intro h1
  split at h1
  ·rename_i i hi
   split at h1
   ·rename_i t ht
    obtain⟨h2,h3,_⟩:=List.findIdx?_eq_some_iff_getElem.1 hi
    rw[List.getElem?_eq_getElem h2]at ht
    obtain rfl:l[i]=t:=by simpa using ht
    exact⟨_,List.getElem_mem h2,by simpa using h3,by simpa using h1⟩
   ·cases h1
  ·cases h1
 ·rintro⟨t,ht,rfl,h2⟩
  obtain⟨k,hk,rfl⟩:=List.getElem_of_mem ht
  rw[jI h hk]
  simp[List.getElem?_eq_getElem hk,h2]
end Go.Ab
end
section
namespace Go.Ab
noncomputable section
def FV (t:TX)(n:Int):TX:=(t.1,t.2.1,n,t.2.2.2.1,t.2.2.2.2.1,t.2.2.2.2.2.1,t.2.2.2.2.2.2.1,t.2.2.2.2.2.2.2.1,t.2.2.2.2.2.2.2.2.1,())
def Zf (t:TX)(lo hi:Int)(rd:List VM):TX:=(t.1,t.2.1,t.2.2.1,t.2.2.2.1,lo,hi,t.2.2.2.2.2.2.1,rd,t.2.2.2.2.2.2.2.2.1,())
def O3 (t:TX)(lo:Int)(wr:List VM):TX:=(t.1,t.2.1,t.2.2.1,t.2.2.2.1,lo,t.2.2.2.2.2.1,t.2.2.2.2.2.2.1,t.2.2.2.2.2.2.2.1,wr,())
def Ms (t:TX)(lo hi co:Int):TX:=(t.1,t.2.1,2,t.2.2.2.1,lo,hi,co,t.2.2.2.2.2.2.2.1,t.2.2.2.2.2.2.2.2.1,())
def Mu (id sc be:Int):TX:=(id,sc,1,be,0,1000,0,[],[],())
abbrev EG:=List (List VV)×List TX×List VM×List VM×Int
def US (lk:List VM)(id:Int):List VM:=lk.filter fun m=>!(m.2.1==id)
def Xa (wt:List VM)(id:Int):List VM:=wt.filter fun m=>!(m.1==id)&&!(m.2.1==id)
def wkW (wt:List VM)(id:Int):List VM:=wt.filter fun m=>!(m.1==id)
def Jt (e:EG)(k:Nat)(t:TX):EG:=(e.1,e.2.1.set k t,US e.2.2.1 t.1,Xa e.2.2.2.1 t.1,e.2.2.2.2)
def CO (lk:List VM)(key:Int):Int:=match lk.find? fun m=>m.1==key with|some m=>m.2.1|none=>0
def Zd (t:TX)(key:Int):Option Int:=(t.2.2.2.2.2.2.2.2.1.find? fun m=>m.1==key).map (·.2.1)
def Ew (s:List (List VV))(key:Int):Option VV:=(s[key.toNat]?).bind fun l=>l[l.length-1]?
def crV (o:Option VV):Int:=match o with|some v=>v.2.2.1|none=>0
def LA (o:Option VV):Int:=match o with|some v=>v.2.2.2.1|none=>0
def JT (s:List (List VV))(t:TX)(key:Int):Option VV:=
 (s[key.toNat]?).bind fun l=>
   let i:Int:=bif t.2.1==2 then vA l t.2.2.2.1 l.length else(l.length:Int)-1
   bif decide (i<0)then none else(l[i.toNat]?).bind fun v=>bif t.2.1==4&&decide (v.2.2.1>t.2.2.2.1)then none else some v
def HU (a b:VM):Bool:=dec (Cg a b)
def KF (rd:List VM)(m:VM):List VM:=
 (rd.takeWhile fun x=>HU x m)++m::(match rd.dropWhile fun x=>HU x m with|[]=>[]|x::r=>if x=m then r else x::r)
def MT (t:TX)(key:Int)(v:VV):Option TX:=
 bif t.2.2.2.2.2.2.2.1.length==60 then none else some (Zf t (mx t.2.2.2.2.1 v.2.2.1) (mn t.2.2.2.2.2.1 v.2.2.2.2.1) (KF t.2.2.2.2.2.2.2.1 (key,v.2.2.1,())))
def Fv (e:EG)(k:Nat)(key:Int):Int×Int×EG:=match e.2.1[k]? with
 |none=>(0,6,e)
 |some t=>match Zd t key with
  |some x=>(x,0,e)
  |none=>match JT e.1 t key with
   |none=>(0,3,Jt e k (FV t 3))
   |some v=>match MT t key v with
    |none=>(0,6,e)
    |some t'=>(v.2.1,0,(e.1,e.2.1.set k t',e.2.2))
def E4 (k:Nat):Nat->Int->List Int->EG->Int×List Int×EG
 |0,_,out,e=>(0,out,e)
 |n+1,key,out,e=>let r:=Fv e k key
  bif r.2.1==0 then E4 k n (key+1) (out++[r.1]) r.2.2 else(r.2.1,[],r.2.2)
def Gc (s:List (List VV))(lk:List VM)(t:TX)(key:Int):Int:=
 let o:=CO lk key
 let f:=!(o==0)&&!(o==t.1)
 bif t.2.1==1&&f then 1
 else bif t.2.1==2&&(f||decide (crV (Ew s key)>t.2.2.2.1))then 2
 else bif t.2.1==4&&decide (LA (Ew s key)>t.2.2.2.1)then 3 else 0
def Ul (wt:List VM)(id:Int):Option Int:=(wt.find? fun m=>m.1==id).map (·.2.1)
def Hy (wt:List VM):Nat->List Int->Int->List Int
 |0,out,_=>out
 |n+1,out,x=>match Ul wt x with
  |none=>out
  |some y=>if y∈out then out++[y]else Hy wt n (out++[y]) y
def Q0 (wt:List VM)(id o:Int):Bool:=(Hy (CA (·.1) wt (id,o,())) 10 [id] id).getLast?==some id
def LX (e:EG)(k:Nat)(key val:Int):Int×EG:=match e.2.1[k]? with
 |none=>(6,e)
 |some t=>
  let c:=Gc e.1 e.2.2.1 t key
  bif c==1 then(bif Q0 e.2.2.2.1 t.1 (CO e.2.2.1 key)then(4,Jt e k (FV t 3))else(1,e.1,e.2.1,e.2.2.1,CA (·.1) e.2.2.2.1 (t.1,CO e.2.2.1 key,()),e.2.2.2.2))
  else bif c==0 then(0,e.1,e.2.1.set k (O3 t (mx t.2.2.2.2.1 (LA (Ew e.1 key))) (CA (·.1) t.2.2.2.2.2.2.2.2.1 (key,val,()))),(bif t.2.1==1||t.2.1==2 then CA (·.1) e.2.2.1 (key,t.1,())else e.2.2.1),e.2.2.2.1,e.2.2.2.2)
  else(c,Jt e k (FV t 3))
def Mp (s:List (List VV))(t:TX):Int:=
 bif t.2.2.2.2.2.2.2.2.1.any fun m=>decide (crV (Ew s m.1)>t.2.2.2.1)then(bif t.2.1==2 then 2 else bif t.2.1==4 then 3 else 0)else 0
def rlP (s:List (List VV))(t:TX):Int:=t.2.2.2.2.2.2.2.2.1.foldl (fun n m=>mx n (LA (Ew s m.1))) (t.2.2.2.2.2.2.2.1.foldl (fun n m=>mx n m.2.1) 0)
def loP (s:List (List VV))(t:TX):Int:=mx t.2.2.2.2.1 (rlP s t)
def hiP (s:List (List VV))(t:TX)(stamp:Int):Int:=mn (mn t.2.2.2.2.2.1 (rfH s t.2.2.2.2.2.2.2.1)) stamp
def Ni (s:List (List VV))(t:TX):Bool:=t.2.2.2.2.2.2.2.2.1.any fun m=>match s[m.1.toNat]? with|some l=>decide (l.length>=50)|none=>false
def P8 (s:List (List VV))(t:TX)(stamp hi:Int):List (List VV):=t.2.2.2.2.2.2.2.2.1.foldl (OH stamp t.1 hi) (t.2.2.2.2.2.2.2.1.foldl (Mx stamp) s)
def Ip (ce:Bool)(e:EG)(k:Nat):Int×EG:=match e.2.1[k]? with
 |none=>(6,e)
 |some t=>
  let c:=Mp e.1 t
  bif !(c==0)then(c,Jt e k (FV t 3))
  else bif e.2.2.2.2==999 then(6,e)
  else
   let st:=e.2.2.2.2+1
   bif (ce&&decide (loP e.1 t>=hiP e.1 t st))||Ni e.1 t then(5,Jt e k (FV t 3))
   else(0,Jt (P8 e.1 t st (hiP e.1 t st),e.2.1,e.2.2.1,e.2.2.2.1,st) k (Ms t (loP e.1 t) (hiP e.1 t st) st))
def KV (e:EG)(id sc:Int):Int×EG:=
 bif (e.2.1.any fun t=>t.1==id)||e.2.1.length==6 then(6,e)else(0,e.1,CA (·.1) e.2.1 (Mu id sc e.2.2.2.2),e.2.2)
abbrev OPt:=Int×Int×Int×Int×Int×Int×Unit
def O1 (ce:Bool)(e:EG)(o:OPt):Int×List Int×EG:=
 bif o.1==1 then(let r:=KV e o.2.1 o.2.2.1;(r.1,[],r.2))
 else match e.2.1.findIdx? fun t=>t.1==o.2.1 with
  |none=>(6,[],e)
  |some k=>bif DY e.2.1 o.2.1 then
    (let e':EG:=(e.1,e.2.1,e.2.2.1,wkW e.2.2.2.1 o.2.1,e.2.2.2.2)
    bif o.1==2 then E4 k 1 o.2.2.2.1 [] e'
    else bif o.1==4 then E4 k (o.2.2.2.2.1-o.2.2.2.1+1).toNat o.2.2.2.1 [] e'
    else bif o.1==3 then(let r:=LX e' k o.2.2.2.1 o.2.2.2.2.2.1;(r.1,[],r.2))
    else bif o.1==5 then(let r:=Ip ce e' k;(r.1,[],r.2))
    else match e.2.1[k]? with
     |some t=>(0,[],Jt e' k (FV t 3))
     |none=>(6,[],e'))
   else(6,[],e)
def MM (o:OPt):Bool:=
 inB o.1 1 6&&inB o.2.1 1 9&&(bif o.1==1 then inB o.2.2.1 1 4 else o.2.2.1==0)&&(bif o.1==2||o.1==3||o.1==4 then inB o.2.2.2.1 0 5 else o.2.2.2.1==0)&&(bif o.1==4 then inB o.2.2.2.2.1 o.2.2.2.1 5 else o.2.2.2.2.1==0)&&(bif o.1==3 then inB o.2.2.2.2.2.1 (-1) 99 else o.2.2.2.2.2.1==0)
structure OkG (e:EG):Prop where
 st:LI e.1
 last:e.1.foldl Jk 0<=e.2.2.2.2
 stamp:e.2.2.2.2<=999
 lkA:∀m∈e.2.2.1,inB m.1 0 5=true/\inB m.2.1 1 9=true
 lkU:I7 (·.1) e.2.2.1
 wtA:∀m∈e.2.2.2.1,inB m.1 1 9=true/\inB m.2.1 1 9=true/\m.1≠m.2.1
 wtU:I7 (·.1) e.2.2.2.1
 txA:∀t∈e.2.1,LH t=true/\t.2.2.2.1<=e.2.2.2.2/\t.2.2.2.2.2.2.1<=e.2.2.2.2/\(t.2.2.1=1->∀m∈t.2.2.2.2.2.2.2.1,Hk e.1 m)
 txU:I7 (·.1) e.2.1
 len:e.2.1.length<=6
 lkO:∀m∈e.2.2.1,DY e.2.1 m.2.1=true
 wtO:∀m∈e.2.2.2.1,DY e.2.1 m.1=true/\DY e.2.1 m.2.1=true
theorem Mo {p:Prop}(h:dec p=true):p:=by
 by_cases e:p
 ·exact e
 ·rw[Bl e]at h;cases h
theorem U7 (e:EG):okE e.1 e.2.1 e.2.2.1 e.2.2.2.1 e.2.2.2.2=true↔OkG e:=by
 unfold okE inB
 simp only[Bool.and_eq_true,decide_eq_true_eq]
 constructor
 ·rintro⟨⟨⟨⟨⟨⟨⟨h1,h2⟩,h3⟩,h4⟩,h5⟩,h6⟩,h7⟩,h8⟩
  have a2:=(N6 _).1 (Mo h2)
  have a3:=(J8 _).1 (Mo h3)
  have a5:=(RV _ _ _).1 (Mo h5)
  exact⟨Mo h1,h4.1,h4.2,a2.1,a2.2,a3.1,a3.2,a5.1,a5.2,h6,Mo h7,Mo h8⟩
 ·rintro⟨h1,h2,h3,h4,h5,h6,h7,h8,h9,h10,h11,h12⟩
  exact⟨⟨⟨⟨⟨⟨⟨AC h1,AC ((N6 _).2 ⟨h4,h5⟩)⟩,AC ((J8 _).2 ⟨h6,h7⟩)⟩,h2,h3⟩,AC ((RV _ _ _).2 ⟨h8,h9⟩)⟩,h10⟩,AC h11⟩,AC h12⟩
end
end Go.Ab
end
section
namespace Go.Ab
theorem Bk {x a b:Int}:inB x a b=true↔a<=x/\x<=b:=by unfold inB;simp
theorem vq {a b n:Int}:mx a b<=n↔a<=n/\b<=n:=by unfold mx;split<;>omega
theorem vC {a b n:Int}:n<=mn a b↔n<=a/\n<=b:=by unfold mn;split<;>omega
theorem kJ (a b c:VV)(h1:okP a b)(h2:okP b c):okP a c:=by unfold okP at*;omega
theorem Kr (l:List VV):Lh l↔(∀v∈l,okV v=true)/\l.Pairwise okP/\∃v,l.getLast?=some v/\v.2.2.2.2.1=1000:=by
 unfold Lh
 rw[WJ]
 have h1:=NL (R:=okP) (P:=fun v=>okV v=true) kJ l
 have h2:(∀i,i<l.length->vo l i)↔(∀x∈l,okV x=true)/\l.Pairwise okP:=h1
 rw[h2,and_assoc]
 have h3:(∃h:0<l.length,(l[l.length-1]'(by omega)).2.2.2.2.1=1000)↔∃v,l.getLast?=some v/\v.2.2.2.2.1=1000:=by
  constructor
  ·rintro⟨h,e⟩
   exact⟨_,by rw[List.getLast?_eq_getElem?,List.getElem?_eq_getElem (by omega)],e⟩
  ·rintro⟨v,e1,e2⟩
   rw[List.getLast?_eq_getElem?]at e1
   obtain⟨h,e3⟩:=List.getElem?_eq_some_iff.1 e1
   exact⟨by omega,by rw[e3];exact e2⟩
 rw[h3]
theorem Md (v:VV):okV v=true↔inB v.2.1 (-1) 99=true/\inB v.2.2.1 0 999=true/\inB v.2.2.2.1 v.2.2.1 999=true/\inB v.2.2.2.2.1 1 1000=true/\(bif v.2.2.1==0 then(bif v.1==0 then v.2.1==-1 else false)else inB v.1 1 9)=true:=by
 unfold okV
 simp only[Bool.and_eq_true,and_assoc]
theorem mem_set {α:Type}{l:List α}{k:Nat}{t x:α}(h:x∈l.set k t):x=t\/∃j,∃hj:j<l.length,j≠k/\x=l[j]:=by
 obtain⟨j,hj,rfl⟩:=List.getElem_of_mem h
 rw[List.length_set]at hj
 rw[List.getElem_set]
 by_cases e:k=j
 ·rw[if_pos e];exact .inl rfl
 ·rw[if_neg e];exact .inr ⟨j,hj,fun h=>e h.symm,rfl⟩
theorem Yp {α:Type}{R:α->α->Prop}{l:List α}{k:Nat}(hk:k<l.length){t:α}(h:l.Pairwise R)(h1:∀x,R x l[k]->R x t)(h2:∀x,R l[k] x->R t x):(l.set k t).Pairwise R:=by
 rw[List.pairwise_iff_getElem]at h ⊢
 intro i j hi hj hij
 rw[List.length_set]at hi hj
 rw[List.getElem_set,List.getElem_set]
 have h3:=h i j hi hj hij
 by_cases e1:k=i
 ·subst e1;rw[if_pos rfl,if_neg (by omega)];exact h2 _ h3
 ·rw[if_neg e1]
  by_cases e2:k=j
  ·subst e2;rw[if_pos rfl];exact h1 _ h3
  ·rw[if_neg e2];exact h3
theorem A5d {l:List VV}{j:Nat}{v:VV}(h:Lh l)(hj:l[j]?=some v){st:Int}(hs:st<=999):Lh (l.set j (Rh st v)):=by
 obtain⟨hjl,rfl⟩:=List.getElem?_eq_some_iff.1 hj
 rw[Kr]at h ⊢
 obtain⟨h1,h2,w,h3,h4⟩:=h
 refine⟨fun x hx=>?_,Yp hjl h2 (fun x hx=>hx) (fun x hx=>hx),?_⟩
 ·rcases mem_set hx with rfl|⟨i,hi,_,rfl⟩
  ·have:=h1 _ (List.getElem_mem hjl)
   rw[Md]at this ⊢
   obtain⟨a1,a2,a3,a4,a5⟩:=this
   refine⟨a1,a2,?_,a4,a5⟩
   rw[Bk]at a3 ⊢
   show l[j].2.2.1<=mx l[j].2.2.2.1 st/\mx l[j].2.2.2.1 st<=999
   unfold mx;split<;>omega
  ·exact h1 _ (List.getElem_mem hi)
 ·rw[List.getLast?_eq_getElem?,List.length_set,List.getElem?_set]
  rw[List.getLast?_eq_getElem?]at h3
  by_cases e:j=l.length-1
  ·rw[if_pos e,if_pos (by omega)]
   refine⟨_,rfl,?_⟩
   subst e
   rw[List.getElem?_eq_getElem (by omega)]at h3
   obtain rfl:=Option.some.inj h3
   exact h4
  ·rw[if_neg e];exact⟨w,h3,h4⟩
theorem A5c {l:List VV}{v:VV}(h:Lh l)(hl:l[l.length-1]?=some v){st hi id val:Int}(hs:1<=st/\st<=999)(hh:1<=hi/\hi<=st)(hid:inB id 1 9=true)(hval:inB val (-1) 99=true)(hc:∀x∈l,x.2.2.1<st):
 Lh (l.set (l.length-1) (ln hi v)++[(id,val,st,st,1000,())]):=by
 obtain⟨hjl,rfl⟩:=List.getElem?_eq_some_iff.1 hl
 rw[Kr]at h ⊢
 obtain⟨h1,h2,w,h3,h4⟩:=h
 have hpos:0<l.length:=by omega
 refine⟨fun x hx=>?_,?_,_,by rw[List.getLast?_append];rfl,rfl⟩
 ·rcases List.mem_append.1 hx with hx|hx
  ·rcases mem_set hx with rfl|⟨i,hi,_,rfl⟩
   ·have:=h1 _ (List.getElem_mem hjl)
    rw[Md]at this ⊢
    obtain⟨a1,a2,a3,a4,a5⟩:=this
    exact⟨a1,a2,a3,by rw[Bk];show 1<=hi/\hi<=1000;omega,a5⟩
   ·exact h1 _ (List.getElem_mem hi)
  ·obtain rfl:=by simpa using hx
   rw[Md]
   refine⟨hval,by rw[Bk];show 0<=st/\st<=999;omega,by rw[Bk];show st<=st/\st<=999;omega,by rw[Bk];show(1:Int)<=1000/\(1000:Int)<=1000;omega,?_⟩
   show(bif st==0 then _ else inB id 1 9)=true
   rw[show(st==0)=false by simp;omega]
   exact hid
 ·rw[List.pairwise_append]
  refine⟨?_,List.pairwise_singleton _ _,fun a ha b hb=>?_⟩
  ·
   rw[List.pairwise_iff_getElem]at h2 ⊢
   intro i j hi hj hij
   rw[List.length_set]at hi hj
   rw[List.getElem_set,List.getElem_set,if_neg (by omega)]
   have h5:=h2 i j hi hj hij
   by_cases e:l.length-1=j
   ·subst e;rw[if_pos rfl];exact h5
   ·rw[if_neg e];exact h5
  ·obtain rfl:=by simpa using hb
   rcases mem_set ha with rfl|⟨i,hi',hne,rfl⟩
   ·exact⟨show l[l.length-1].2.2.1<st from hc _ (List.getElem_mem hjl),hh.2⟩
   ·have h6:okP l[i] (l[l.length-1]'(by omega)):=List.pairwise_iff_getElem.1 h2 i (l.length-1) hi' (by omega) (by omega)
    have h7:=hc _ (List.getElem_mem hi')
    have h8:=hc _ (List.getElem_mem hjl)
    exact⟨h7,by have:=h6.2;show l[i].2.2.2.2.1<=st;omega⟩
theorem WS {n:Int}:∀(l:List VV) (a:Int),Jk a l<=n↔a<=n/\∀v∈l,v.2.2.2.1<=n
 |[],a=>by simp[Jk]
 |v::l,a=>by
  show Jk (mx a v.2.2.2.1) l<=n↔_
  rw[WS l,vq]
  simp[and_assoc]
theorem P4 {n:Int}:∀(s:List (List VV)) (a:Int),s.foldl Jk a<=n↔a<=n/\∀l∈s,∀v∈l,v.2.2.2.1<=n
 |[],a=>by simp
 |l::s,a=>by
  rw[List.foldl_cons,P4 s,WS]
  simp[and_assoc]
structure GdS (s:List (List VV))(n:Int):Prop where
 six:s.length=6
 ok:∀l∈s,Lh l/\l.length<=50
 rd:∀l∈s,∀v∈l,v.2.2.2.1<=n
theorem GdS.of {s:List (List VV)}{n:Int}(h:LI s)(hn:s.foldl Jk 0<=n):GdS s n:=⟨h.1,h.2,((P4 s 0).1 hn).2⟩
theorem GdS.last {s:List (List VV)}{n:Int}(h:GdS s n)(h0:0<=n):LI s/\s.foldl Jk 0<=n:=⟨⟨h.six,h.ok⟩,(P4 s 0).2 ⟨h0,h.rd⟩⟩
theorem GdS.set {s:List (List VV)}{n:Int}(h:GdS s n){k:Nat}{l:List VV}(h1:Lh l)(h2:l.length<=50)(h3:∀v∈l,v.2.2.2.1<=n):GdS (s.set k l) n:=by
 refine⟨by simpa using h.six,fun x hx=>?_,fun x hx=>?_⟩
 ·rcases List.mem_or_eq_of_mem_set hx with h4|rfl
  ·exact h.ok x h4
  ·exact⟨h1,h2⟩
 ·rcases List.mem_or_eq_of_mem_set hx with h4|rfl
  ·exact h.rd x h4
  ·exact h3
theorem R6 {s:List (List VV)}{m x:VM}{l:List VV}:Jo (s.set m.1.toNat l) x=if m.1.toNat=x.1.toNat then(Jo s m).map fun _=>l else Jo s x:=by
 unfold Jo
 rw[List.getElem?_set]
 by_cases e:m.1.toNat=x.1.toNat
 ·rw[if_pos e,if_pos e]
  by_cases e2:m.1.toNat<s.length
  ·rw[if_pos e2,List.getElem?_eq_getElem e2];rfl
  ·rw[if_neg e2,List.getElem?_eq_none (by omega)];rfl
 ·rw[if_neg e,if_neg e]
theorem A11 {l:List VV}{j:Nat}{v:VV}(hj:l[j]?=some v){v':VV}(e:v'.2.2.1=v.2.2.1):(l.set j v').map (fun v=>v.2.2.1)=l.map fun v=>v.2.2.1:=by
 obtain⟨hjl,rfl⟩:=List.getElem?_eq_some_iff.1 hj
 apply List.ext_getElem (by simp)
 intro i h1 h2
 simp only[List.length_map,List.length_set]at h1 h2
 simp only[List.getElem_map,List.getElem_set]
 split
 ·rename_i h;subst h;exact e
 ·rfl
theorem A05 {s:List (List VV)}{n st:Int}(h:GdS s n)(hn:n<=st)(hs:st<=999)(m:VM):GdS (Mx st s m) st/\∀x,(Jo (Mx st s m) x).map (List.map fun v:VV=>v.2.2.1)=(Jo s x).map (List.map fun v:VV=>v.2.2.1):=by
 have h':GdS s st:=⟨h.six,h.ok,fun l hl v hv=>Int.le_trans (h.rd l hl v hv) hn⟩
 unfold Mx
 cases hc:Jo s m with
 |none=>exact⟨h',fun x=>rfl⟩
 |some l=>
  have hl:l∈s:=List.mem_of_getElem? hc
  simp only
  cases hf:fvI l m.2.1 with
  |none=>exact⟨h',fun x=>rfl⟩
  |some j=>
   simp only
   cases hj:l[j]? with
   |none=>exact⟨h',fun x=>rfl⟩
   |some v=>
    simp only
    refine⟨h'.set (A5d (h.ok l hl).1 hj hs) (by simpa using(h.ok l hl).2) (fun x hx=>?_),fun x=>?_⟩
    ·rcases List.mem_or_eq_of_mem_set hx with h4|rfl
     ·exact h'.rd l hl x h4
     ·have:=h'.rd l hl v (List.mem_of_getElem? hj)
      show mx _ st<=st
      rw[vq];exact⟨this,Int.le_refl _⟩
    ·rw[R6]
     split
     ·rename_i e
      have:Jo s x=some l:=by rw[<-hc];unfold Jo;rw[e]
      rw[this,hc]
      simp only[Option.map_some]
      rw[A11 (v':=Rh st v) hj rfl]
     ·rfl
theorem vM {n st:Int}(hn:n<=st)(hs:st<=999):∀(rd:List VM) {s:List (List VV)},GdS s n->(GdS (rd.foldl (Mx st) s) st)/\∀x,(Jo (rd.foldl (Mx st) s) x).map (List.map fun v:VV=>v.2.2.1)=(Jo s x).map (List.map fun v:VV=>v.2.2.1)
 |[],s,h=>⟨⟨h.six,h.ok,fun l hl v hv=>Int.le_trans (h.rd l hl v hv) hn⟩,fun x=>rfl⟩
 |m::rd,s,h=>by
  obtain⟨h1,h2⟩:=A05 h hn hs m
  obtain⟨h3,h4⟩:=vM (Int.le_refl st) hs rd h1
  exact⟨h3,fun x=>(h4 x).trans (h2 x)⟩
theorem A04 {s:List (List VV)}{st id hi:Int}(h:GdS s st)(hs:1<=st/\st<=999)(hh:1<=hi/\hi<=st)(hid:inB id 1 9=true){m:VM}(hv:inB m.2.1 (-1) 99=true)(hf:∀l,Jo s m=some l->l.length<50/\∀v∈l,v.2.2.1<st):
 GdS (OH st id hi s m) st/\(∀x:VM,m.1.toNat≠x.1.toNat->Jo (OH st id hi s m) x=Jo s x):=by
 unfold OH
 cases hc:Jo s m with
 |none=>exact⟨h,fun x _=>rfl⟩
 |some l=>
  have hl:l∈s:=List.mem_of_getElem? hc
  obtain⟨g1,g2⟩:=hf l hc
  simp only
  cases hj:l[l.length-1]? with
  |none=>exact⟨h,fun x _=>rfl⟩
  |some v=>
   simp only
   refine⟨h.set (A5c (h.ok l hl).1 hj hs hh hid hv g2) (by simp;omega) (fun x hx=>?_),fun x hx=>?_⟩
   ·rcases List.mem_append.1 hx with hx|hx
    ·rcases List.mem_or_eq_of_mem_set hx with h4|rfl
     ·exact h.rd l hl x h4
     ·exact h.rd l hl v (List.mem_of_getElem? hj)
    ·obtain rfl:=by simpa using hx
     exact Int.le_refl _
   ·rw[R6,if_neg hx]
theorem vL {st id hi:Int}(hs:1<=st/\st<=999)(hh:1<=hi/\hi<=st)(hid:inB id 1 9=true):∀(wr:List VM) {s:List (List VV)},GdS s st->(∀m∈wr,0<=m.1/\inB m.2.1 (-1) 99=true)->I7 (·.1) wr->(∀m∈wr,∀l,Jo s m=some l->l.length<50/\∀v∈l,v.2.2.1<st)->GdS (wr.foldl (OH st id hi) s) st
 |[],s,h,_,_,_=>h
 |m::wr,s,h,hv,hu,hf=>by
  obtain⟨h1,h2⟩:=A04 h hs hh hid (hv m List.mem_cons_self).2 (hf m List.mem_cons_self)
  have hp:=List.pairwise_cons.1 hu
  refine vL hs hh hid wr h1 (fun x hx=>hv x (List.mem_cons_of_mem _ hx)) hp.2 (fun x hx l hl=>?_)
  have h3:m.1<x.1:=hp.1 x hx
  have h4:=(hv m List.mem_cons_self).1
  have h5:=(hv x (List.mem_cons_of_mem _ hx)).1
  rw[h2 x (by omega)]at hl
  exact hf x (List.mem_cons_of_mem _ hx) l hl
theorem X2 {l:List VV}{c:Int}:(∃j,fvI l c=some j)↔∃v∈l,v.2.2.1=c:=by
 unfold fvI
 rw[<-Option.isSome_iff_exists,List.findIdx?_isSome]
 simp
theorem X7 {s:List (List VV)}{m:VM}:Hk s m↔∃l,Jo s m=some l/\∃v∈l,v.2.2.1=m.2.1:=by
 unfold Hk
 constructor
 ·rintro⟨l,j,h1,h2⟩;exact⟨l,h1,X2.1 ⟨j,h2⟩⟩
 ·rintro⟨l,h1,h2⟩;obtain⟨j,h3⟩:=X2.2 h2;exact⟨l,j,h1,h3⟩
theorem kU {s:List (List VV)}{m x:VM}(st id hi:Int)(hx:Hk s x):Hk (OH st id hi s m) x:=by
 rw[X7]at hx ⊢
 obtain⟨l,h1,v,h2,h3⟩:=hx
 unfold OH
 cases hc:Jo s m with
 |none=>exact⟨l,h1,v,h2,h3⟩
 |some r=>
  simp only
  cases hj:r[r.length-1]? with
  |none=>exact⟨l,h1,v,h2,h3⟩
  |some w=>
   simp only
   rw[R6]
   split
   ·rename_i e
    have:Jo s x=some r:=by rw[<-hc];unfold Jo;rw[e]
    rw[this]at h1
    obtain rfl:r=l:=by simpa using h1
    rw[hc]
    refine⟨_,rfl,?_⟩
    obtain⟨i,hi',rfl⟩:=List.getElem_of_mem h2
    obtain⟨hl,rfl⟩:=List.getElem?_eq_some_iff.1 hj
    by_cases e2:r.length-1=i
    ·subst e2
     refine⟨ln hi _,?_,h3⟩
     rw[List.mem_append];left
     exact List.mem_set hl _
    ·refine⟨r[i],?_,h3⟩
     rw[List.mem_append];left
     rw[List.mem_iff_getElem]
     exact⟨i,by simpa using hi',by rw[List.getElem_set,if_neg e2]⟩
   ·exact⟨l,h1,v,h2,h3⟩
theorem kV {s:List (List VV)}{t:TX}{st hi:Int}{x:VM}(hx:Hk s x):Hk (P8 s t st hi) x:=by
 unfold P8
 have h1:∀(rd:List VM) (s:List (List VV)),Hk s x->Hk (rd.foldl (Mx st) s) x:=by
  intro rd
  induction rd with
  |nil=>intro s h;exact h
  |cons m rd ih=>intro s h;exact ih _ (PE st h)
 have h2:∀(wr:List VM) (s:List (List VV)),Hk s x->Hk (wr.foldl (OH st t.1 hi) s) x:=by
  intro wr
  induction wr with
  |nil=>intro s h;exact h
  |cons m wr ih=>intro s h;exact ih _ (kU st t.1 hi h)
 exact h2 _ _ (h1 _ _ hx)
end Go.Ab
end
section
namespace Go.Ab
theorem D6 (t:TX):LH t=true↔NT t.2.2.2.2.2.2.2.1/\QW t.2.2.2.2.2.2.2.2.1/\inB t.1 1 9=true/\inB t.2.1 1 4=true/\inB t.2.2.2.1 0 999=true/\inB t.2.2.1 1 3=true/\inB t.2.2.2.2.1 0 999=true/\inB t.2.2.2.2.2.1 1 1000=true/\(t.2.2.1=2↔t.2.2.2.2.2.2.1>0)/\inB t.2.2.2.2.2.2.1 0 999=true/\t.2.2.2.2.2.2.2.1.length<=60:=by
 unfold LH okT
 simp only[Bool.and_eq_true,decide_eq_true_eq,and_assoc]
 have e:∀(a b:Prop) [Decidable b] (x:Bool),(x=true↔a)->(((x==decide b)=true)↔(a↔b)):=by
  intro a b _ x hx
  cases x<;>by_cases hb:b<;>simp[hb]at hx ⊢<;>exact hx
 rw[e (t.2.2.1=2) (t.2.2.2.2.2.2.1>0) (t.2.2.1==2) (by simp)]
 constructor
 ·rintro⟨h1,h2,h3⟩;exact⟨Mo h1,Mo h2,h3⟩
 ·rintro⟨h1,h2,h3⟩;exact⟨AC h1,AC h2,h3⟩
section
variable {e:EG}(H:OkG e)
include H
theorem OkG.stamp0:0<=e.2.2.2.2:=Int.le_trans ((P4 e.1 0).1 (Int.le_refl _)).1 H.last
theorem OkG.gd:GdS e.1 e.2.2.2.2:=GdS.of H.st H.last
theorem jQ {k:Nat}(hk:k<e.2.1.length){t':TX}(ht:t'.1=e.2.1[k].1)(id:Int):DY (e.2.1.set k t') id=true↔(id≠t'.1/\DY e.2.1 id=true)\/(id=t'.1/\t'.2.2.1=1):=by
 have hu:I7 (·.1) (e.2.1.set k t'):=Yp hk H.txU (fun x h=>by show x.1<t'.1;rw[ht];exact h) (fun x h=>by show t'.1<x.1;rw[ht];exact h)
 rw[K5 hu,K5 H.txU]
 constructor
 ·rintro⟨t,h1,rfl,h2⟩
  rcases mem_set h1 with rfl|⟨j,hj,hne,rfl⟩
  ·exact .inr ⟨rfl,h2⟩
  ·refine .inl ⟨fun he=>?_,_,List.getElem_mem hj,rfl,h2⟩
   rw[ht]at he
   rcases Nat.lt_or_gt_of_ne hne with h3|h3
   ·have:e.2.1[j].1<e.2.1[k].1:=List.pairwise_iff_getElem.1 H.txU j k hj hk h3;omega
   ·have:e.2.1[k].1<e.2.1[j].1:=List.pairwise_iff_getElem.1 H.txU k j hk hj h3;omega
 ·rintro(⟨h1,t,h2,rfl,h3⟩|⟨rfl,h2⟩)
  ·obtain⟨j,hj,rfl⟩:=List.getElem_of_mem h2
   have hne:k≠j:=fun he=>by subst he;exact h1 ht.symm
   refine⟨e.2.1[j],?_,rfl,h3⟩
   rw[List.mem_iff_getElem]
   exact⟨j,by simpa using hj,by rw[List.getElem_set,if_neg hne]⟩
  ·exact⟨t',List.mem_set hk _,rfl,h2⟩
theorem Ze {k:Nat}(hk:k<e.2.1.length){t':TX}(ht:t'.1=e.2.1[k].1):I7 (·.1) (e.2.1.set k t'):=
 Yp hk H.txU (fun x h=>by show x.1<t'.1;rw[ht];exact h) (fun x h=>by show t'.1<x.1;rw[ht];exact h)
theorem OkG.ends {k:Nat}(hk:k<e.2.1.length){t':TX}(ht:t'.1=e.2.1[k].1){s':List (List VV)}{stamp':Int}(hs:LI s')(hl:s'.foldl Jk 0<=stamp')(hst:e.2.2.2.2<=stamp'/\stamp'<=999)(hx:∀m,Hk e.1 m->Hk s' m)
 (ok:LH t'=true)(hbe:t'.2.2.2.1<=stamp')(hco:t'.2.2.2.2.2.2.1<=stamp')(hna:t'.2.2.1≠1):OkG (Jt (s',e.2.1,e.2.2.1,e.2.2.2.1,stamp') k t'):=by
 have hact:=jQ H hk ht
 refine⟨hs,hl,hst.2,fun m hm=>H.lkA m ((List.mem_filter.1 hm).1),H.lkU.filter _,fun m hm=>H.wtA m ((List.mem_filter.1 hm).1),H.wtU.filter _,fun t h=>?_,Ze H hk ht,by show(e.2.1.set k t').length<=6;simpa using H.len,fun m hm=>?_,fun m hm=>?_⟩
 ·rcases mem_set h with rfl|⟨j,hj,_,rfl⟩
  ·exact⟨ok,hbe,hco,fun h=>absurd h hna⟩
  ·obtain⟨h1,h2,h3,h4⟩:=H.txA _ (List.getElem_mem hj)
   exact⟨h1,Int.le_trans h2 hst.1,Int.le_trans h3 hst.1,fun h m hm=>hx m (h4 h m hm)⟩
 ·obtain⟨h1,h2⟩:=List.mem_filter.1 hm
  have h3:¬m.2.1=t'.1:=by simpa using h2
  exact(hact _).2 (.inl ⟨h3,H.lkO m h1⟩)
 ·obtain⟨h1,h2⟩:=List.mem_filter.1 hm
  have h3:¬m.1=t'.1/\¬m.2.1=t'.1:=by simpa using h2
  exact⟨(hact _).2 (.inl ⟨h3.1,(H.wtO m h1).1⟩),(hact _).2 (.inl ⟨h3.2,(H.wtO m h1).2⟩)⟩
theorem OkG.goes {k:Nat}(hk:k<e.2.1.length){t':TX}(ht:t'.1=e.2.1[k].1)(hact0:e.2.1[k].2.2.1=1)(hact1:t'.2.2.1=1)(ok:LH t'=true)(hbe:t'.2.2.2.1<=e.2.2.2.2)(hco:t'.2.2.2.2.2.2.1<=e.2.2.2.2)(hx:∀m∈t'.2.2.2.2.2.2.2.1,Hk e.1 m)
 {lk:List VM}(hlA:∀m∈lk,inB m.1 0 5=true/\inB m.2.1 1 9=true)(hlU:I7 (·.1) lk)(hlO:∀m∈lk,DY e.2.1 m.2.1=true):OkG (e.1,e.2.1.set k t',lk,e.2.2.2.1,e.2.2.2.2):=by
 have hact:=jQ H hk ht
 have hk1:DY e.2.1 t'.1=true:=(K5 H.txU _).2 ⟨_,List.getElem_mem hk,ht.symm,hact0⟩
 have hall:∀id,DY e.2.1 id=true->DY (e.2.1.set k t') id=true:=fun id h=>(hact id).2 (by
  by_cases e1:id=t'.1
  ·exact .inr ⟨e1,hact1⟩
  ·exact .inl ⟨e1,h⟩)
 refine⟨H.st,H.last,H.stamp,hlA,hlU,H.wtA,H.wtU,fun t h=>?_,Ze H hk ht,by show(e.2.1.set k t').length<=6;simpa using H.len,fun m hm=>hall _ (hlO m hm),fun m hm=>⟨hall _ (H.wtO m hm).1,hall _ (H.wtO m hm).2⟩⟩
 rcases mem_set h with rfl|⟨j,hj,_,rfl⟩
 ·exact⟨ok,hbe,hco,fun _=>hx⟩
 ·exact H.txA _ (List.getElem_mem hj)
theorem OkG.aborts {k:Nat}{t:TX}(hk:e.2.1[k]?=some t)(ha:t.2.2.1=1):OkG (Jt e k (FV t 3)):=by
 obtain⟨hk2,rfl⟩:∃h:k<e.2.1.length,e.2.1[k]=t:=List.getElem?_eq_some_iff.1 hk
 obtain⟨h1,h2,h3,h4⟩:=H.txA _ (List.getElem_mem hk2)
 refine OkG.ends H hk2 (t':=FV e.2.1[k] 3) rfl H.st H.last ⟨Int.le_refl _,H.stamp⟩ (fun m h=>h) ?_ h2 h3 (by show(3:Int)≠1;decide)
 rw[D6]at h1 ⊢
 obtain⟨a1,a2,a3,a4,a5,a6,a7,a8,a9,a10,a11⟩:=h1
 refine⟨a1,a2,a3,a4,a5,by show inB 3 1 3=true;decide,a7,a8,?_,a10,a11⟩
 show(3:Int)=2↔_
 rw[ha]at a9
 constructor
 ·intro h;omega
 ·intro h;have:=a9.2 h;omega
end
theorem LW {a b:VM}:HU a b=true↔Cg a b:=by unfold HU;exact⟨Mo,AC⟩
theorem zK {rd:List VM}(h:rd.Pairwise Cg)(m:VM):∀x∈rd.dropWhile (fun x=>HU x m),¬Cg x m:=by
 induction rd with
 |nil=>simp
 |cons a rd ih=>
  have hp:=List.pairwise_cons.1 h
  intro x hx
  rw[List.dropWhile_cons]at hx
  split at hx
  ·exact ih hp.2 x hx
  ·rename_i hn
   rw[LW]at hn
   rcases List.mem_cons.1 hx with rfl|hx
   ·exact hn
   ·intro hb;exact hn (Jq _ _ _ (hp.1 x hx) hb)
theorem Z7 (a b:VM):Cg a b\/a=b\/Cg b a:=by
 obtain⟨a1,a2,a3⟩:=a;obtain⟨b1,b2,b3⟩:=b
 unfold Cg
 simp only[Prod.mk.injEq,and_true]
 omega
theorem RN {rd:List VM}{m x:VM}(hx:x∈KF rd m):x=m\/x∈rd:=by
 unfold KF at hx
 have hl:∀y,y∈(rd.takeWhile fun x=>HU x m)\/y∈(rd.dropWhile fun x=>HU x m)->y∈rd:=fun y hy=>by
  rw[<-List.mem_append,List.takeWhile_append_dropWhile]at hy;exact hy
 rw[List.mem_append,List.mem_cons]at hx
 rcases hx with hx|hx|hx
 ·exact .inr (hl x (.inl hx))
 ·exact .inl hx
 ·split at hx
  ·cases hx
  ·rename_i y r hd
   right
   apply hl;right;rw[hd]
   split at hx
   ·exact List.mem_cons_of_mem _ hx
   ·exact hx
theorem uD {rd:List VM}(h:rd.Pairwise Cg)(m:VM):(KF rd m).Pairwise Cg:=by
 have hd:=zK h m
 have hu:(rd.dropWhile fun x=>HU x m).Pairwise Cg:=h.sublist (List.dropWhile_sublist _)
 have ht:(rd.takeWhile fun x=>HU x m).Pairwise Cg:=h.sublist (List.takeWhile_sublist _)
 have htk:∀y∈(rd.takeWhile fun x=>HU x m),Cg y m:=fun y hy=>by
  have h1:=List.all_takeWhile (l:=rd) (p:=fun x=>HU x m)
  exact LW.1 (List.all_eq_true.1 h1 y hy)
 unfold KF
 have key:∀r:List VM,r.Pairwise Cg->(∀x∈r,Cg m x)->((rd.takeWhile fun x=>HU x m)++m::r).Pairwise Cg:=by
  intro r hr h1
  refine List.pairwise_append.2 ⟨ht,List.pairwise_cons.2 ⟨h1,hr⟩,fun a ha b hb=>?_⟩
  have h2:=htk a ha
  rcases List.mem_cons.1 hb with rfl|hb
  ·exact h2
  ·exact Jq _ _ _ h2 (h1 b hb)
 cases hb:(rd.dropWhile fun x=>HU x m)with
 |nil=>exact key [] .nil (by simp)
 |cons y r=>
  rw[hb]at hd hu
  have hyr:=List.pairwise_cons.1 hu
  have hy:=hd y (List.mem_cons_self)
  simp only
  by_cases e:y=m
  ·rw[if_pos e];exact key r hyr.2 fun x hx=>by rw[<-e];exact hyr.1 x hx
  ·rw[if_neg e]
   have h0:Cg m y:=by
    rcases Z7 y m with h1|h1|h1
    ·exact absurd h1 hy
    ·exact absurd h1 e
    ·exact h1
   refine key _ hu fun x hx=>?_
   rcases List.mem_cons.1 hx with rfl|hx
   ·exact h0
   ·exact Jq _ _ _ h0 (hyr.1 x hx)
theorem kf (rd:List VM)(m:VM):(KF rd m).length<=rd.length+1:=by
 have e:=congrArg List.length (List.takeWhile_append_dropWhile (p:=fun x=>HU x m) (l:=rd))
 rw[List.length_append]at e
 unfold KF
 split
 ·rename_i h1;simp only[List.length_append,List.length_cons,List.length_nil];omega
 ·rename_i y r h1
  rw[h1]at e
  simp only[List.length_cons]at e
  split<;>simp only[List.length_append,List.length_cons]<;>omega
theorem Q1 {s:List (List VV)}{t:TX}{key:Int}{v:VV}(h:JT s t key=some v):∃l,s[key.toNat]?=some l/\v∈l:=by
 unfold JT at h
 obtain⟨l,h1,h2⟩:=Option.bind_eq_some_iff.1 h
 refine⟨l,h1,?_⟩
 simp only at h2
 cases hd:decide ((bif t.2.1==2 then vA l t.2.2.2.1 l.length else(l.length:Int)-1)<0)with
 |true=>rw[hd]at h2;cases h2
 |false=>
  rw[hd]at h2
  obtain⟨w,h3,h4⟩:=Option.bind_eq_some_iff.1 h2
  cases h5:(t.2.1==4&&decide (w.2.2.1>t.2.2.2.1))with
  |true=>rw[h5]at h4;cases h4
  |false=>
   rw[h5]at h4
   obtain rfl:=Option.some.inj h4
   exact List.mem_of_getElem? h3
section
variable {e:EG}(H:OkG e){k:Nat}{t:TX}(hk:e.2.1[k]?=some t)(ha:t.2.2.1=1)
include H
theorem OkG.wake (id:Int):OkG (e.1,e.2.1,e.2.2.1,wkW e.2.2.2.1 id,e.2.2.2.2):=
 ⟨H.st,H.last,H.stamp,H.lkA,H.lkU,fun m hm=>H.wtA m ((List.mem_filter.1 hm).1),H.wtU.filter _,H.txA,H.txU,H.len,H.lkO,fun m hm=>H.wtO m ((List.mem_filter.1 hm).1)⟩
include hk ha
theorem OkG.read {key:Int}(hkey:inB key 0 5=true):OkG (Fv e k key).2.2/\((Fv e k key).2.1=0->∃t',(Fv e k key).2.2.2.1[k]?=some t'/\t'.2.2.1=1/\t'.1=t.1)/\(Fv e k key).2.2.2.1.length=e.2.1.length:=by
 unfold Fv
 rw[hk]
 simp only
 cases hw:Zd t key with
 |some x=>exact⟨H,fun _=>⟨t,hk,ha,rfl⟩,rfl⟩
 |none=>
  simp only
  cases hc:JT e.1 t key with
  |none=>exact⟨H.aborts hk ha,fun h=>by exact absurd h (by show ¬((3:Int)=0);decide),by show(e.2.1.set k _).length=_;simp⟩
  |some v=>
   simp only
   unfold MT
   cases hl:(t.2.2.2.2.2.2.2.1.length==60)with
   |true=>exact⟨H,fun h=>by exact absurd h (by show ¬((6:Int)=0);decide),rfl⟩
   |false=>
    simp only[cond_false]
    obtain⟨hk2,rfl⟩:=List.getElem?_eq_some_iff.1 hk
    obtain⟨h1,h2,h3,h4⟩:=H.txA _ (List.getElem_mem hk2)
    obtain⟨l,q1,q2⟩:=Q1 hc
    have hlm:l∈e.1:=List.mem_of_getElem? q1
    have hv:=((Kr l).1 (H.st.2 l hlm).1).1 v q2
    rw[Md]at hv
    obtain⟨v1,v2,v3,v4,v5⟩:=hv
    rw[Bk]at v2 v3 v4
    rw[D6]at h1
    obtain⟨a1,a2,a3,a4,a5,a6,a7,a8,a9,a10,a11⟩:=h1
    rw[Bk]at a7 a8
    refine⟨OkG.goes H hk2 (t':=Zf e.2.1[k] (mx e.2.1[k].2.2.2.2.1 v.2.2.1) (mn e.2.1[k].2.2.2.2.2.1 v.2.2.2.2.1) (KF e.2.1[k].2.2.2.2.2.2.2.1 (key,v.2.2.1,()))) rfl ha ha ?_ h2 h3 (fun m hm=>?_) H.lkA H.lkU H.lkO,fun _=>⟨Zf e.2.1[k] (mx e.2.1[k].2.2.2.2.1 v.2.2.1) (mn e.2.1[k].2.2.2.2.2.1 v.2.2.2.2.1) (KF e.2.1[k].2.2.2.2.2.2.2.1 (key,v.2.2.1,())),by rw[List.getElem?_set,if_pos rfl,if_pos hk2],ha,rfl⟩,by simp⟩
    ·rw[D6]
     rw[N5]at a1
     refine⟨(N5 _).2 ⟨fun x hx=>?_,uD a1.2 _⟩,a2,a3,a4,a5,a6,?_,?_,a9,a10,?_⟩
     ·rcases RN hx with rfl|hx
      ·exact⟨hkey,by rw[Bk];exact v2⟩
      ·exact a1.1 x hx
     ·rw[Bk];show 0<=mx _ _/\mx _ _<=999
      unfold mx;split<;>omega
     ·rw[Bk];show 1<=mn _ _/\mn _ _<=1000
      unfold mn;split<;>omega
     ·have:=kf e.2.1[k].2.2.2.2.2.2.2.1 (key,v.2.2.1,())
      have h60:¬e.2.1[k].2.2.2.2.2.2.2.1.length=60:=by simpa using hl
      show(KF _ _).length<=60
      omega
    ·rcases RN hm with rfl|hm
     ·rw[X7];exact⟨l,q1,v,q2,rfl⟩
     ·exact h4 ha m hm
end
theorem OkG.scan {k:Nat}:∀(n:Nat) {key:Int} {out:List Int} {e:EG} {t:TX},OkG e->e.2.1[k]?=some t->t.2.2.1=1->0<=key->key+n<=6->OkG (E4 k n key out e).2.2
 |0,key,out,e,t,H,_,_,_,_=>H
 |n+1,key,out,e,t,H,hk,ha,h0,h1=>by
  obtain⟨g1,g2,g3⟩:=H.read hk ha (key:=key) (by rw[Bk];omega)
  unfold E4
  simp only
  cases hc:((Fv e k key).2.1==0)with
  |false=>exact g1
  |true=>
   obtain⟨t',q1,q2,_⟩:=g2 (by simpa using hc)
   exact OkG.scan n g1 q1 q2 (by omega) (by omega)
section
variable {e:EG}(H:OkG e){k:Nat}{t:TX}(hk:e.2.1[k]?=some t)(ha:t.2.2.1=1)
include H hk ha
theorem OkG.getV {key:Int}(hkey:inB key 0 5=true):∃l v,e.1[key.toNat]?=some l/\l∈e.1/\Ew e.1 key=some v/\v∈l/\okV v=true:=by
 rw[Bk]at hkey
 have h6:=H.st.1
 have hlt:key.toNat<e.1.length:=by omega
 have hl:e.1[key.toNat]∈e.1:=List.getElem_mem hlt
 have hok:=(Kr _).1 (H.st.2 _ hl).1
 obtain⟨w,h1,h2⟩:=hok.2.2
 refine⟨e.1[key.toNat],w,List.getElem?_eq_getElem hlt,hl,?_,List.mem_of_getLast? h1,hok.1 w (List.mem_of_getLast? h1)⟩
 unfold Ew
 rw[List.getElem?_eq_getElem hlt]
 simpa[List.getLast?_eq_getElem?]using h1
theorem OkG.write {key val:Int}(hkey:inB key 0 5=true)(hval:inB val (-1) 99=true):OkG (LX e k key val).2:=by
 unfold LX
 rw[hk]
 simp only
 have hk1:DY e.2.1 t.1=true:=(K5 H.txU _).2 ⟨_,List.mem_of_getElem? hk,rfl,ha⟩
 cases hc:(Gc e.1 e.2.2.1 t key==1)with
 |true=>
  simp only[cond_true]
  cases hd:Q0 e.2.2.2.1 t.1 (CO e.2.2.1 key)with
  |true=>exact H.aborts hk ha
  |false=>
   simp only[cond_false]
   have hf:∃m∈e.2.2.1,m.2.1=CO e.2.2.1 key/\m.2.1≠t.1:=by
    have h1:Gc e.1 e.2.2.1 t key=1:=by simpa using hc
    unfold Gc at h1
    simp only at h1
    have h2:(!(CO e.2.2.1 key==0)&&!(CO e.2.2.1 key==t.1))=true:=by
     cases hx:(!(CO e.2.2.1 key==0)&&!(CO e.2.2.1 key==t.1))with
     |true=>rfl
     |false=>
      rw[hx]at h1
      simp only[Bool.and_false,cond_false,Bool.false_or]at h1
      exfalso
      revert h1
      cases(t.2.1==2&&decide (crV (Ew e.1 key)>t.2.2.2.1))<;>cases(t.2.1==4&&decide (LA (Ew e.1 key)>t.2.2.2.1))<;>simp
    simp only[Bool.and_eq_true,Bool.not_eq_true',beq_eq_false_iff_ne]at h2
    unfold CO at h2 ⊢
    cases hfd:e.2.2.1.find? (fun m=>m.1==key)with
    |none=>rw[hfd]at h2;exact absurd rfl h2.1
    |some m=>rw[hfd]at h2;exact⟨m,List.mem_of_find?_eq_some hfd,rfl,h2.2⟩
   obtain⟨m,hm,hme,hne⟩:=hf
   have hmb:=H.lkA m hm
   have hma:=H.lkO m hm
   have htok:=(D6 _).1 (H.txA t (List.mem_of_getElem? hk)).1
   refine⟨H.st,H.last,H.stamp,H.lkA,H.lkU,fun x hx=>?_,LB H.wtU _,H.txA,H.txU,H.len,H.lkO,fun x hx=>?_⟩
   ·rcases(Ig H.wtU).1 hx with rfl|⟨hx,_⟩
    ·exact⟨htok.2.2.1,by rw[<-hme];exact hmb.2,by show t.1≠CO _ _;rw[<-hme];exact Ne.symm hne⟩
    ·exact H.wtA x hx
   ·rcases(Ig H.wtU).1 hx with rfl|⟨hx,_⟩
    ·exact⟨hk1,by rw[<-hme];exact hma⟩
    ·exact H.wtO x hx
 |false=>
  simp only[cond_false]
  cases hc0:(Gc e.1 e.2.2.1 t key==0)with
  |false=>exact H.aborts hk ha
  |true=>
   simp only[cond_true]
   obtain⟨l,v,q1,q2,q3,q4,q5⟩:=H.getV hk ha hkey
   obtain⟨hk2,rfl⟩:∃h:k<e.2.1.length,e.2.1[k]=t:=List.getElem?_eq_some_iff.1 hk
   obtain⟨h1,h2,h3,h4⟩:=H.txA _ (List.getElem_mem hk2)
   rw[D6]at h1
   obtain⟨a1,a2,a3,a4,a5,a6,a7,a8,a9,a10,a11⟩:=h1
   rw[Md]at q5
   obtain⟨v1,v2,v3,v4,v5⟩:=q5
   rw[Bk]at v2 v3 a7
   have hrd:LA (Ew e.1 key)=v.2.2.2.1:=by rw[q3];rfl
   have htx:LH (O3 e.2.1[k] (mx e.2.1[k].2.2.2.2.1 (LA (Ew e.1 key))) (CA (·.1) e.2.1[k].2.2.2.2.2.2.2.2.1 (key,val,())))=true:=by
    rw[D6]
    rw[KH]at a2
    refine⟨a1,(KH _).2 ⟨fun x hx=>?_,LB a2.2 _⟩,a3,a4,a5,a6,?_,a8,a9,a10,a11⟩
    ·rcases(Ig a2.2).1 hx with rfl|⟨hx,_⟩
     ·exact⟨hkey,hval⟩
     ·exact a2.1 x hx
    ·rw[Bk];show 0<=mx _ _/\mx _ _<=999
     rw[hrd];unfold mx;split<;>omega
   refine OkG.goes H hk2 (t':=O3 e.2.1[k] (mx e.2.1[k].2.2.2.2.1 (LA (Ew e.1 key))) (CA (·.1) e.2.1[k].2.2.2.2.2.2.2.2.1 (key,val,()))) rfl ha ha htx h2 h3 (h4 ha) (fun m hm=>?_) ?_ (fun m hm=>?_)
   ·cases hb:(e.2.1[k].2.1==1||e.2.1[k].2.1==2)with
    |false=>rw[hb]at hm;exact H.lkA m hm
    |true=>
     rw[hb]at hm
     rcases(Ig H.lkU).1 hm with rfl|⟨hm,_⟩
     ·exact⟨hkey,a3⟩
     ·exact H.lkA m hm
   ·cases hb:(e.2.1[k].2.1==1||e.2.1[k].2.1==2)with
    |false=>exact H.lkU
    |true=>exact LB H.lkU _
   ·cases hb:(e.2.1[k].2.1==1||e.2.1[k].2.1==2)with
    |false=>rw[hb]at hm;exact H.lkO m hm
    |true=>
     rw[hb]at hm
     rcases(Ig H.lkU).1 hm with rfl|⟨hm,_⟩
     ·exact hk1
     ·exact H.lkO m hm
theorem X3 {α:Type}(f:α->Int)(n:Int):∀(l:List α) (a:Int),a<=n->(∀x∈l,f x<=n)->l.foldl (fun n x=>mx n (f x)) a<=n:=by
 clear H hk ha
 intro l
 induction l with
 |nil=>intro a h _;exact h
 |cons x l ih=>intro a h h2;exact ih _ (vq.2 ⟨h,h2 x List.mem_cons_self⟩) fun y hy=>h2 y (List.mem_cons_of_mem _ hy)
theorem S5 {α:Type}(f:α->Int):∀(l:List α) (a:Int),a<=l.foldl (fun n x=>mx n (f x)) a:=by
 clear H hk ha
 intro l
 induction l with
 |nil=>intro a;exact Int.le_refl _
 |cons x l ih=>intro a;refine Int.le_trans ?_ (ih _);show a<=mx a (f x);unfold mx;split<;>omega
theorem OkG.rl:0<=rlP e.1 t/\rlP e.1 t<=999:=by
 have htok:=(D6 _).1 (H.txA t (List.mem_of_getElem? hk)).1
 have hr:=((N5 _).1 htok.1).1
 have hw:=((KH _).1 htok.2.1).1
 unfold rlP
 refine⟨Int.le_trans (S5 H hk ha (fun m:VM=>m.2.1) _ 0) (S5 H hk ha (fun m:VM=>LA (Ew e.1 m.1)) _ _),X3 H hk ha _ _ _ _ (X3 H hk ha _ _ _ _ (by decide) fun x hx=>(Bk.1 (hr x hx).2).2) fun x hx=>?_⟩
 obtain⟨l,v,q1,q2,q3,q4,q5⟩:=H.getV hk ha (hw x hx).1
 rw[q3]
 rw[Md]at q5
 have:=Bk.1 q5.2.2.1
 exact this.2
theorem OkG.sucB {m:VM}(hx:Hk e.1 m):1<=O0 e.1 m/\O0 e.1 m<=1000:=by
 obtain⟨l,j,h1,h2⟩:=hx
 unfold O0
 rw[h1]
 have hl:l∈e.1:=List.mem_of_getElem? h1
 have hok:=((Kr l).1 (H.st.2 l hl).1).1
 simp only[h2]
 have hj:=PD h2
 rw[List.getElem?_eq_getElem hj]
 exact Bk.1 ((Md _).1 (hok _ (List.getElem_mem hj))).2.2.2.1
theorem OkG.rh:1<=rfH e.1 t.2.2.2.2.2.2.2.1:=by
 have htok:=(D6 _).1 (H.txA t (List.mem_of_getElem? hk)).1
 have hr:=((N5 _).1 htok.1).1
 unfold rfH
 have hex:=(H.txA t (List.mem_of_getElem? hk)).2.2.2 ha
 have key:∀(l:List VM) (a:Int),(∀x∈l,Hk e.1 x)->1<=a->1<=l.foldl (fun n m=>mn n (O0 e.1 m)) a:=by
  intro l
  induction l with
  |nil=>intro a _ h;exact h
  |cons x l ih=>intro a h1 h2;exact ih _ (fun y hy=>h1 y (List.mem_cons_of_mem _ hy)) (vC.2 ⟨h2,(H.sucB hk ha (h1 x List.mem_cons_self)).1⟩)
 exact key _ _ hex (by decide)
theorem OkG.commit (ce:Bool):OkG (Ip ce e k).2:=by
 unfold Ip
 rw[hk]
 simp only
 cases hc:(Mp e.1 t==0)with
 |false=>exact H.aborts hk ha
 |true=>
  simp only[Bool.not_true,cond_false]
  cases hs:(e.2.2.2.2==999)with
  |true=>exact H
  |false=>
   simp only[cond_false]
   cases hf:((ce&&decide (loP e.1 t>=hiP e.1 t (e.2.2.2.2+1)))||Ni e.1 t)with
   |true=>exact H.aborts hk ha
   |false=>
    simp only[cond_false]
    have hst0:=H.stamp0
    have hst1:=H.stamp
    have hst2:¬e.2.2.2.2=999:=by simpa using hs
    have hrl:=H.rl hk ha
    have hrh:=H.rh hk ha
    have hfull:Ni e.1 t=false:=(Bool.or_eq_false_iff.1 hf).2
    obtain⟨hk2,rfl⟩:∃h:k<e.2.1.length,e.2.1[k]=t:=List.getElem?_eq_some_iff.1 hk
    obtain⟨h1,h2,h3,h4⟩:=H.txA _ (List.getElem_mem hk2)
    rw[D6]at h1
    obtain⟨a1,a2,a3,a4,a5,a6,a7,a8,a9,a10,a11⟩:=h1
    rw[Bk]at a7 a8
    have hlo:0<=loP e.1 e.2.1[k]/\loP e.1 e.2.1[k]<=999:=by unfold loP mx;split<;>omega
    have hhi:1<=hiP e.1 e.2.1[k] (e.2.2.2.2+1)/\hiP e.1 e.2.1[k] (e.2.2.2.2+1)<=e.2.2.2.2+1:=by
     unfold hiP
     exact⟨vC.2 ⟨vC.2 ⟨a8.1,hrh⟩,by omega⟩,by unfold mn;split<;>omega⟩
    have hwr:=(KH _).1 a2
    obtain⟨g1,g2⟩:=vM (n:=e.2.2.2.2) (st:=e.2.2.2.2+1) (by omega) (by omega) e.2.1[k].2.2.2.2.2.2.2.1 H.gd
    have g3:GdS (P8 e.1 e.2.1[k] (e.2.2.2.2+1) (hiP e.1 e.2.1[k] (e.2.2.2.2+1))) (e.2.2.2.2+1):=by
     refine vL (by omega) hhi a3 _ g1 (fun m hm=>⟨(Bk.1 (hwr.1 m hm).1).1,(hwr.1 m hm).2⟩) hwr.2 (fun m hm l hl=>?_)
     have h5:=g2 m
     rw[hl]at h5
     cases hr:Jo e.1 m with
     |none=>rw[hr]at h5;cases h5
     |some r=>
      rw[hr]at h5
      simp only[Option.map_some,Option.some.injEq]at h5
      have hrm:r∈e.1:=List.mem_of_getElem? hr
      have hlen:l.length=r.length:=by simpa using congrArg List.length h5
      refine⟨?_,fun v hv=>?_⟩
      ·have h6:=List.any_eq_false.1 hfull m hm
       have hr':e.1[m.1.toNat]?=some r:=hr
       rw[hr']at h6
       have:¬r.length>=50:=by simpa using h6
       omega
      ·have:v.2.2.1∈r.map fun v=>v.2.2.1:=by rw[<-h5];exact List.mem_map_of_mem hv
       obtain⟨w,hw1,hw2⟩:=List.mem_map.1 this
       have h7:=YT (((Kr r).1 (H.st.2 r hrm).1).1 w hw1)
       have h8:=H.gd.rd r hrm w hw1
       omega
    obtain⟨g4,g5⟩:=g3.last (by omega)
    refine OkG.ends H hk2 (t':=Ms e.2.1[k] _ _ _) rfl g4 g5 ⟨by omega,by omega⟩ (fun m hm=>kV hm) ?_ (by show e.2.1[k].2.2.2.1<=_;omega) (by show e.2.2.2.2+1<=_;omega) (by show(2:Int)≠1;decide)
    rw[D6]
    refine⟨a1,a2,a3,a4,a5,by show inB 2 1 3=true;decide,by rw[Bk];exact hlo,by rw[Bk];exact⟨hhi.1,Int.le_trans hhi.2 (by omega)⟩,?_,by rw[Bk];show 0<=e.2.2.2.2+1/\e.2.2.2.2+1<=999;omega,a11⟩
    show(2:Int)=2↔e.2.2.2.2+1>0
    exact⟨fun _=>by omega,fun _=>rfl⟩
end
theorem OkG.begin {e:EG}(H:OkG e){id sc:Int}(hid:inB id 1 9=true)(hsc:inB sc 1 4=true):OkG (KV e id sc).2:=by
 unfold KV
 cases hc:((e.2.1.any fun t=>t.1==id)||e.2.1.length==6)with
 |true=>exact H
 |false=>
  simp only[cond_false]
  obtain⟨h1,h2⟩:=Bool.or_eq_false_iff.1 hc
  have hno:∀t∈e.2.1,t.1≠id:=fun t ht=>by simpa using List.any_eq_false.1 h1 t ht
  have hlen:¬e.2.1.length=6:=by simpa using h2
  have hst0:=H.stamp0
  have hst1:=H.stamp
  have hu:=LB H.txU (Mu id sc e.2.2.2.2)
  have hmem:∀t,t∈CA (·.1) e.2.1 (Mu id sc e.2.2.2.2)↔t=Mu id sc e.2.2.2.2\/t∈e.2.1:=fun t=>by
   rw[Ig H.txU]
   exact⟨fun h=>h.imp (fun h=>h) (·.1),fun h=>h.imp (fun h=>h) fun h=>⟨h,hno t h⟩⟩
  have hact:∀id',DY e.2.1 id'=true->DY (CA (·.1) e.2.1 (Mu id sc e.2.2.2.2)) id'=true:=fun id' h=>by
   rw[K5 H.txU]at h
   obtain⟨t,q1,q2,q3⟩:=h
   exact(K5 hu _).2 ⟨t,(hmem t).2 (.inr q1),q2,q3⟩
  refine⟨H.st,H.last,H.stamp,H.lkA,H.lkU,H.wtA,H.wtU,fun t ht=>?_,hu,?_,fun m hm=>hact _ (H.lkO m hm),fun m hm=>⟨hact _ (H.wtO m hm).1,hact _ (H.wtO m hm).2⟩⟩
  ·rcases(hmem t).1 ht with rfl|ht
   ·refine⟨?_,Int.le_refl _,hst0,fun _ m hm=>by cases hm⟩
    rw[D6]
    refine⟨fun i hi=>absurd hi (Nat.not_lt_zero _),fun i hi=>absurd hi (Nat.not_lt_zero _),hid,hsc,by rw[Bk];exact⟨hst0,hst1⟩,by show inB 1 1 3=true;decide,by show inB 0 0 999=true;decide,by show inB 1000 1 1000=true;decide,?_,by show inB 0 0 999=true;decide,Nat.zero_le _⟩
    show(1:Int)=2↔(0:Int)>0
    omega
   ·exact H.txA t ht
  ·have:=Pq (f:=(·.1)) e.2.1 (Mu id sc e.2.2.2.2)
   have:=H.len
   show(CA _ _ _).length<=6
   omega
theorem OkG.step {e:EG}(H:OkG e)(ce:Bool){o:OPt}(ho:MM o=true):OkG (O1 ce e o).2.2:=by
 unfold MM at ho
 simp only[Bool.and_eq_true]at ho
 obtain⟨⟨⟨⟨⟨o1,o2⟩,o3⟩,o4⟩,o5⟩,o6⟩:=ho
 unfold O1
 cases hb:(o.1==1)with
 |true=>
  rw[hb]at o3
  exact H.begin o2 o3
 |false=>
  simp only[cond_false]
  cases hk:e.2.1.findIdx? (fun t=>t.1==o.2.1)with
  |none=>exact H
  |some k=>
   simp only
   cases hact:DY e.2.1 o.2.1 with
   |false=>exact H
   |true=>
    simp only[cond_true]
    obtain⟨hk2,hk3,_⟩:=List.findIdx?_eq_some_iff_getElem.1 hk
    have ht:e.2.1[k]?=some e.2.1[k]:=List.getElem?_eq_getElem hk2
    have ha:e.2.1[k].2.2.1=1:=by
     unfold DY at hact
     rw[hk]at hact
     simp only[ht]at hact
     simpa using hact
    have HW:=H.wake o.2.1
    cases h2:(o.1==2)with
    |true=>
     rw[h2]at o4
     simp only[Bool.true_or,cond_true]at o4 ⊢
     rw[Bk]at o4
     exact OkG.scan 1 HW ht ha (by omega) (by omega)
    |false=>
     simp only[cond_false]
     cases h4:(o.1==4)with
     |true=>
      rw[h4]at o4 o5
      simp only[Bool.or_true,cond_true]at o4 o5 ⊢
      rw[Bk]at o4 o5
      exact OkG.scan _ HW ht ha (by omega) (by omega)
     |false=>
      simp only[cond_false]
      cases h3:(o.1==3)with
      |true=>
       rw[h3]at o4 o6
       simp only[Bool.or_true,Bool.true_or,cond_true]at o4 o6 ⊢
       exact HW.write ht ha o4 o6
      |false=>
       simp only[cond_false]
       cases h5:(o.1==5)with
       |true=>exact HW.commit ht ha ce
       |false=>
        simp only[cond_false,ht]
        exact HW.aborts ht ha
end Go.Ab
end
section
namespace Go.Ab
theorem LS {i j:Nat}(h:i+j<4611686018427387904):IntKind.wrap IntKind.i64 (Int.fdiv (IntKind.wrap IntKind.u64 (IntKind.wrap IntKind.i64 ((i:Int)+(j:Int)))) (2 ^ min (Int.toNat 1) (IntKind.bits IntKind.u64)))=(((i+j) / 2:Nat):Int):=by
 have h1:IntKind.wrap IntKind.i64 ((i:Int)+(j:Int))=(i:Int)+(j:Int):=by rw[IntKind.wrap_i64];omega
 have h2:IntKind.wrap IntKind.u64 ((i:Int)+(j:Int))=(i:Int)+(j:Int):=by
  have e:((i:Int)+(j:Int)) % 18446744073709551616=(i:Int)+(j:Int):=by omega
  show IntKind.wrap IntKind.u64 _=_
  unfold IntKind.wrap
  simp[IntKind.bits,IntKind.signed,e]
 rw[h1,h2]
 have h3:(2:Int) ^ min (Int.toNat 1) (IntKind.bits IntKind.u64)=2:=by decide
 rw[h3]
 have h4:Int.fdiv ((i:Int)+(j:Int)) 2=(((i+j) / 2:Nat):Int):=by
  rw[Int.fdiv_eq_ediv_of_nonneg _ (by omega)]
  omega
 rw[h4,IntKind.wrap_i64];omega
theorem Pg {n:Nat}{B:Int×Int×Unit->Option ((Int×Int×Unit) ⊕ (Int×Unit))}{p:Nat->Bool}(mono:∀i j,i<=j->j<n->p j=true->p i=true)
 (hB:∀i j:Nat,i<j->j<=n->B ((i:Int),(j:Int),())=some (.inl (if p ((i+j) / 2)=true then((((i+j) / 2+1:Nat):Int),(j:Int),())else((i:Int),(((i+j) / 2:Nat):Int),()))))
 (hE:∀i:Nat,i<=n->B ((i:Int),(i:Int),())=some (.inr ((i:Int),()))):
 ∃c:Nat,c<=n/\AE B (0,(n:Int),())=some ((c:Int),())/\(∀k,k<c->p k=true)/\(∀k,c<=k->k<n->p k=false):=by
 have key:∀m i j:Nat,j-i=m->i<=j->j<=n->(∀k,k<i->p k=true)->(∀k,j<=k->k<n->p k=false)->∃c:Nat,c<=n/\AE B ((i:Int),(j:Int),())=some ((c:Int),())/\(∀k,k<c->p k=true)/\(∀k,c<=k->k<n->p k=false):=by
  intro m
  induction m using Nat.strongRecOn with
  |_ m ih=>
   intro i j hm hij hj h1 h2
   by_cases e:i=j
   ·subst e
    refine⟨i,hj,?_,h1,h2⟩
    rw[Bf,hE i hj];rfl
   ·have hlt:i<j:=by omega
    have hs:=hB i j hlt hj
    cases hp:p ((i+j) / 2)with
    |true=>
     rw[hp,if_pos rfl]at hs
     obtain⟨c,g1,g2,g3⟩:=ih (j-((i+j) / 2+1)) (by omega) ((i+j) / 2+1) j rfl (by omega) hj (fun k hk=>mono k ((i+j) / 2) (by omega) (by omega) hp) h2
     refine⟨c,g1,?_,g3⟩
     rw[Bf,hs];exact g2
    |false=>
     rw[hp,if_neg (by decide)]at hs
     obtain⟨c,g1,g2,g3⟩:=ih ((i+j) / 2-i) (by omega) i ((i+j) / 2) rfl (by omega) (by omega) h1 (fun k hk hkn=>by
      cases hq:p k with
      |false=>rfl
      |true=>rw[mono ((i+j) / 2) k hk hkn hq]at hp;cases hp)
     refine⟨c,g1,?_,g3⟩
     rw[Bf,hs];exact g2
 exact key n 0 n rfl (Nat.zero_le _) (Nat.le_refl _) (fun k hk=>absurd hk (Nat.not_lt_zero _)) (fun k hk hkn=>by omega)
theorem Pl {α:Type}{l:List α}{p:α->Bool}{c:Nat}(hc:c<=l.length)(h1:∀k (hk:k<l.length),k<c->p l[k]=true)(h2:∀k (hk:k<l.length),c<=k->p l[k]=false):l.take c=l.takeWhile p/\l.drop c=l.dropWhile p:=by
 induction l generalizing c with
 |nil=>simp
 |cons a l ih=>
  cases c with
  |zero=>
   have:=h2 0 (by simp) (Nat.le_refl _)
   simp only[List.getElem_cons_zero]at this
   simp[List.takeWhile_cons,List.dropWhile_cons,this]
  |succ c=>
   have h0:=h1 0 (by simp) (Nat.succ_pos _)
   simp only[List.getElem_cons_zero]at h0
   obtain⟨g1,g2⟩:=ih (c:=c) (by simpa using hc) (fun k hk hkc=>by have:=h1 (k+1) (by simpa using hk) (by omega);rwa [List.getElem_cons_succ]at this) (fun k hk hkc=>by have:=h2 (k+1) (by simpa using hk) (by omega);rwa [List.getElem_cons_succ]at this)
   simp[List.takeWhile_cons,List.dropWhile_cons,h0,g1,g2]
end Go.Ab
end
section
namespace Go.Ab
theorem R5 {α:Type}{l:List α}{q:α->Bool}{B:Int×Int×List α×Unit->Option ((Int×Int×List α×Unit) ⊕ (Int×List α×Unit))}
 (hB:∀(i j:Nat) (xs:List α) (hi:i<j) (hj:j<l.length) (h:xs.length=l.length),B ((i:Int),(j:Int),xs,())=some (.inl (if q (xs[j]'(by omega))=true then((i:Int),((j+1:Nat):Int),xs,())else(((i+1:Nat):Int),((j+1:Nat):Int),xs.set i (xs[j]'(by omega)),()))))
 (hE:∀(i:Nat) (xs:List α),xs.length=l.length->i<=l.length->B ((i:Int),((l.length:Nat):Int),xs,())=some (.inr ((i:Int),xs,())))
 {i0:Nat}(h0:i0<l.length)(hq:q l[i0]=true)(hlt:∀k (hk:k<i0),q (l[k]'(by omega))=false):
 ∃(i:Nat) (xs:List α),AE B ((i0:Int),((i0+1:Nat):Int),l,())=some ((i:Int),xs,())/\i<=xs.length/\xs.length=l.length/\xs.take i=l.filter fun x=>!q x:=by
 have key:∀m (i j:Nat) (xs:List α),l.length-j=m->i<j->j<=l.length->xs.length=l.length->xs.take i=(l.take j).filter (fun x=>!q x)->xs.drop j=l.drop j->
  ∃(i':Nat) (xs':List α),AE B ((i:Int),(j:Int),xs,())=some ((i':Int),xs',())/\i'<=xs'.length/\xs'.length=l.length/\xs'.take i'=l.filter fun x=>!q x:=by
  intro m
  induction m with
  |zero=>
   intro i j xs hm hij hj hl h1 h2
   obtain rfl:j=l.length:=by omega
   refine⟨i,xs,?_,by omega,hl,by rw[h1,List.take_length]⟩
   rw[Bf,hE i xs hl (by omega)];rfl
  |succ m ih=>
   intro i j xs hm hij hj hl h1 h2
   have hjl:j<l.length:=by omega
   have e:xs[j]'(by omega)=l[j]:=by
    have h3:(xs.drop j)[0]?=(l.drop j)[0]?:=by rw[h2]
    rw[List.getElem?_drop,List.getElem?_drop,Nat.add_zero,List.getElem?_eq_getElem (by omega),List.getElem?_eq_getElem hjl]at h3
    exact Option.some.inj h3
   have hs:=hB i j xs hij hjl hl
   have hf:(l.take (j+1)).filter (fun x=>!q x)=(l.take j).filter (fun x=>!q x)++(if q l[j]=true then[]else[l[j]]):=by
    rw[List.take_succ_eq_append_getElem hjl,List.filter_append]
    congr 1
    cases hqq:q l[j]<;>simp[hqq]
   have hd:xs.drop (j+1)=l.drop (j+1):=by have h3:=congrArg (List.drop 1) h2;simpa[List.drop_drop,Nat.add_comm]using h3
   cases hqj:q l[j]with
   |true=>
    rw[e,hqj,if_pos rfl]at hs
    obtain⟨i',xs',g1,g2⟩:=ih i (j+1) xs (by omega) (by omega) (by omega) hl (by rw[hf,hqj,if_pos rfl,List.append_nil];exact h1) hd
    refine⟨i',xs',?_,g2⟩
    rw[Bf,hs];exact g1
   |false=>
    rw[e,hqj,if_neg (by decide)]at hs
    obtain⟨i',xs',g1,g2⟩:=ih (i+1) (j+1) (xs.set i l[j]) (by omega) (by omega) (by omega) (by simpa using hl) (by
     rw[hf,hqj,if_neg (by decide),<-h1]
     rw[List.take_succ_eq_append_getElem (by simp;omega),List.getElem_set_self,List.take_set_of_le (by omega)]) (by rw[List.drop_set_of_lt (by omega)];exact hd)
    refine⟨i',xs',?_,g2⟩
    rw[Bf,hs];exact g1
 refine key _ i0 (i0+1) l rfl (by omega) (by omega) rfl ?_ rfl
 rw[List.take_succ_eq_append_getElem h0,List.filter_append]
 have h5:[l[i0]].filter (fun x=>!q x)=[]:=by simp[hq]
 rw[h5,List.append_nil]
 symm
 rw[List.filter_eq_self]
 intro x hx
 obtain⟨k,hk,rfl⟩:=List.getElem_of_mem hx
 rw[List.length_take]at hk
 rw[List.getElem_take]
 simp[hlt k (by omega)]
theorem Ut {α:Type}{z:α}{i:Nat}{xs:List α}(hi:i<=xs.length){τ:Type}(f:List α->Option τ):
 (if(0:Int)<=((i:Nat):Int)/\((i:Nat):Int)<=((xs.length:Nat):Int)/\((xs.length:Nat):Int)<=((xs.length:Nat):Int)then
   (if(0:Int)<=0/\(0:Int)<=((i:Nat):Int)/\((i:Nat):Int)<=(((List.take (0+Int.toNat ((i:Nat):Int)) xs++List.replicate (Int.toNat ((xs.length:Nat):Int)-Int.toNat ((i:Nat):Int)) z++List.drop (0+Int.toNat ((i:Nat):Int)+(Int.toNat ((xs.length:Nat):Int)-Int.toNat ((i:Nat):Int))) xs).length:Nat):Int)then
     f (List.take (Int.toNat ((i:Nat):Int)-Int.toNat 0) (List.take (0+Int.toNat ((i:Nat):Int)) xs++List.replicate (Int.toNat ((xs.length:Nat):Int)-Int.toNat ((i:Nat):Int)) z++List.drop (0+Int.toNat ((i:Nat):Int)+(Int.toNat ((xs.length:Nat):Int)-Int.toNat ((i:Nat):Int))) xs))else none)else none)=f (xs.take i):=by
 have e:(List.take i xs++List.replicate (xs.length-i) z++List.drop (i+(xs.length-i)) xs).take i=xs.take i:=by
  rw[List.append_assoc,List.take_append_of_le_length (by simp;omega),List.take_take,Nat.min_self]
 rw[if_pos (by omega),if_pos (by simp;omega)]
 simp only[Int.toNat_natCast,Nat.zero_add,Int.toNat_zero,Nat.sub_zero,e]
theorem Iz {α:Type}{l:List α}{k:Nat}(hk:k<l.length)(a:α):(l.set k a)[k]?=some a:=by rw[List.getElem?_set,if_pos rfl,if_pos hk]
theorem JV {α:Type}(l:List α)(k:Nat)(a b:α):(l.set k a).set k b=l.set k b:=by simp
end Go.Ab
end
section
namespace Go.Ab
def Hu {α:Type}(q:α->Bool):List α->Bool|[]=>false|x::_=>q x
theorem X1 (o:Option Nat):decide (fx o>=0)=o.isSome:=by
 cases o with
 |none=>rfl
 |some i=>simp[fx]
theorem vP (o:Option Nat):decide (fx o<0)=o.isNone:=by
 cases o with
 |none=>rfl
 |some i=>exact decide_eq_false (by simp[fx])
theorem Um {α:Type}(p:α->Bool)(l out:List α):l.foldl (fun s x=>bif p x then s++[x]else s) out=out++l.filter p:=by
 induction l generalizing out with
 |nil=>simp
 |cons a l ih=>
  rw[List.foldl_cons,ih,List.filter_cons]
  cases p a<;>simp
theorem Nk {α:Type}{l:List α}{p:α->Bool}(hn:l.length<=1048576){B:Int×List α×Unit->Option ((Int×List α×Unit) ⊕ (List α×Unit))}
 (hB:∀i (h:i<l.length) out,out.length<=i->B ((i:Int),out,())=some (.inl (((i+1:Nat):Int),bif p l[i]then out++[l[i]]else out,())))(hend:∀out,B ((l.length:Int),out,())=some (.inr (out,()))):
 AE B (0,[],())=some (l.filter p,()):=by
 have:=kM (B:=B) (l:=l) (st:=fun s i=>((i:Int),s,())) (f:=fun s x=>bif p x then s++[x]else s) (J:=fun i s=>s.length<=i) (s0:=[]) (by simp)
  (fun i h s hs=>⟨hB i h s hs,by cases p l[i]<;>simp<;>omega⟩) (r:=fun s=>(s,())) (fun s _=>hend s) (t0:=(0,[],())) rfl
 rw[this,Um];rfl
theorem Yx {l:List VM}(hl:l.length<=1048576)(id:Int):J2 (l,id,())=some (wkW l id,()):=by
 unfold J2
 rw[Nk (p:=fun m:VM=>!(m.1==id)) hl]
 ·rfl
 ·intro i hi out ho
  have h1:out.length+1<=2199023255552:=by omega
  simp only[FD,Ak hi,Option.bind_some,Am hi (by omega:l.length<9223372036854775808),List.length_append,List.length_cons,List.length_nil,h1,if_true,decide_eq_true (by omega:(i:Int)<(l.length:Int)),cond_true,bne]
  cases l[i].1==id<;>rfl
 ·intro out
  simp[FD]
theorem O4 {l:List VM}(hl:l.length<=1048576)(id:Int):Et (l,id,())=some (US l id,()):=by
 unfold Et
 rw[Nk (p:=fun m:VM=>!(m.2.1==id)) hl]
 ·rfl
 ·intro i hi out ho
  have h1:out.length+1<=2199023255552:=by omega
  simp only[D2,Ak hi,Option.bind_some,Am hi (by omega:l.length<9223372036854775808),List.length_append,List.length_cons,List.length_nil,h1,if_true,decide_eq_true (by omega:(i:Int)<(l.length:Int)),cond_true,bne]
  cases l[i].2.1==id<;>rfl
 ·intro out
  simp[D2]
theorem PR {l:List VM}(hl:l.length<=1048576)(id:Int):FS (l,id,())=some (Xa l id,()):=by
 unfold FS
 rw[Nk (p:=fun m:VM=>!(m.1==id)&&!(m.2.1==id)) hl]
 ·rfl
 ·intro i hi out ho
  have h1:out.length+1<=2199023255552:=by omega
  simp only[DT,Ak hi,Option.bind_some,Am hi (by omega:l.length<9223372036854775808),List.length_append,List.length_cons,List.length_nil,h1,if_true,decide_eq_true (by omega:(i:Int)<(l.length:Int)),cond_true,bne]
  cases l[i].1==id<;>cases l[i].2.1==id<;>rfl
 ·intro out
  simp[DT]
theorem IR {e:EG}{k:Nat}(hk:k<e.2.1.length)(hl:e.2.2.1.length<=1048576)(hw:e.2.2.2.1.length<=1048576)(ce:Bool)(ha:e.2.1[k].2.2.1=1):
 Bg ((k:Int),ce,e.2.2.2.2,e.1,e.2.1,e.2.2.1,e.2.2.2.1,())=some (ce,e.2.2.2.2,e.1,e.2.1.set k (FV e.2.1[k] 3),e.2.2.1,e.2.2.2.1,US e.2.2.1 e.2.1[k].1,Xa e.2.2.2.1 e.2.1[k].1,()):=by
 have h1:(0:Int)<=(k:Int)/\(k:Int)<(e.2.1.length:Int):=by omega
 simp only[Bg,h1,and_self,if_true,Nat.zero_add,Int.toNat_natCast,List.getElem?_eq_getElem hk,Option.bind_some,ha,beq_self_eq_true,cond_true,O4 hl,PR hw,Nat.zero_add,Int.toNat_natCast,FV]
theorem YA {e:EG}{k:Nat}(hk:k<e.2.1.length)(hl:e.2.2.1.length<=1048576)(hw:e.2.2.2.1.length<=1048576)(ce:Bool)(ha:e.2.1[k].2.2.1≠1):
 Bg ((k:Int),ce,e.2.2.2.2,e.1,e.2.1,e.2.2.1,e.2.2.2.1,())=some (ce,e.2.2.2.2,e.1,e.2.1,e.2.2.1,e.2.2.2.1,US e.2.2.1 e.2.1[k].1,Xa e.2.2.2.1 e.2.1[k].1,()):=by
 have h1:(0:Int)<=(k:Int)/\(k:Int)<(e.2.1.length:Int):=by omega
 have h2:(e.2.1[k].2.2.1==1)=false:=by simpa using ha
 simp only[Bg,h1,and_self,if_true,Nat.zero_add,Int.toNat_natCast,List.getElem?_eq_getElem hk,Option.bind_some,h2,cond_false,O4 hl,PR hw]
end Go.Ab
end
section
namespace Go.Ab
theorem Lg {l:List TX}(hl:l.length<=1048576)(t:Int){p q:TX->Bool}(mono:∀i j (hij:i<=j) (hj:j<l.length),p l[j]=true->p (l[i]'(by omega))=true)
 (hc:∀x∈l,∃n:Int,DM (x,t,())=some (n,())/\decide (n<0)=p x/\(n==0)=q x):
 AU (l,t,(),())=some (((l.takeWhile p).length:Int),Hu q (l.dropWhile p),()):=by
 unfold AU
 obtain⟨c,hc1,hc2,hc3,hc4⟩:=Pg (n:=l.length) (p:=fun k=>match l[k]? with|some x=>p x|none=>false)
  (B:=fun v=>Ax (l,t,(),(l.length:Int),()) v _ some)
  (by
    intro i j hij hj h
    have hi:i<l.length:=by omega
    simp only[List.getElem?_eq_getElem hj,List.getElem?_eq_getElem hi]at h ⊢
    exact mono i j hij hj h)
  (by
    intro i j hij hj
    have hm:(i+j) / 2<l.length:=by omega
    obtain⟨n,e1,e2,e3⟩:=hc _ (List.getElem_mem hm)
    unfold Ax
    simp only[LS (i:=i) (j:=j) (by omega),Ak hm,Option.bind_some,List.getElem?_eq_getElem hm,decide_eq_true (by omega:(i:Int)<(j:Int)),cond_true]
    erw [e1]
    simp only[Option.bind_some,e2,Am hm (by omega)]
    cases p l[(i+j) / 2]<;>rfl)
  (by
    intro i hi
    unfold Ax
    simp only[Int.lt_irrefl,decide_false,cond_false])
 erw [hc2]
 obtain⟨t1,t2⟩:=Pl (l:=l) (p:=p) (c:=c) hc1 (fun k hk h=>by have:=hc3 k h;simpa only[List.getElem?_eq_getElem hk]using this) (fun k hk h=>by have:=hc4 k h hk;simpa only[List.getElem?_eq_getElem hk]using this)
 have tl:(l.takeWhile p).length=c:=by rw[<-t1];simp;omega
 rw[<-t2,tl]
 simp only[Option.bind_some]
 by_cases hcl:c<l.length
 ·obtain⟨n,e1,e2,e3⟩:=hc _ (List.getElem_mem hcl)
  simp only[Ak hcl,decide_eq_true (by omega:(c:Int)<(l.length:Int)),cond_true,Option.bind_some]
  erw [e1]
  rw[List.drop_eq_getElem_cons hcl]
  simp only[Option.bind_some,e3,Hu]
 ·rw[List.drop_of_length_le (by omega)]
  simp only[decide_eq_false (by omega:¬(c:Int)<(l.length:Int)),cond_false,Hu]
theorem NS {l:List VM}(hl:l.length<=1048576)(t:Int){p q:VM->Bool}(mono:∀i j (hij:i<=j) (hj:j<l.length),p l[j]=true->p (l[i]'(by omega))=true)
 (hc:∀x∈l,∃n:Int,GI (x,t,())=some (n,())/\decide (n<0)=p x/\(n==0)=q x):
 Bh (l,t,(),())=some (((l.takeWhile p).length:Int),Hu q (l.dropWhile p),()):=by
 unfold Bh
 obtain⟨c,hc1,hc2,hc3,hc4⟩:=Pg (n:=l.length) (p:=fun k=>match l[k]? with|some x=>p x|none=>false)
  (B:=fun v=>AG (l,t,(),(l.length:Int),()) v _ some)
  (by
    intro i j hij hj h
    have hi:i<l.length:=by omega
    simp only[List.getElem?_eq_getElem hj,List.getElem?_eq_getElem hi]at h ⊢
    exact mono i j hij hj h)
  (by
    intro i j hij hj
    have hm:(i+j) / 2<l.length:=by omega
    obtain⟨n,e1,e2,e3⟩:=hc _ (List.getElem_mem hm)
    unfold AG
    simp only[LS (i:=i) (j:=j) (by omega),Ak hm,Option.bind_some,List.getElem?_eq_getElem hm,decide_eq_true (by omega:(i:Int)<(j:Int)),cond_true]
    erw [e1]
    simp only[Option.bind_some,e2,Am hm (by omega)]
    cases p l[(i+j) / 2]<;>rfl)
  (by
    intro i hi
    unfold AG
    simp only[Int.lt_irrefl,decide_false,cond_false])
 erw [hc2]
 obtain⟨t1,t2⟩:=Pl (l:=l) (p:=p) (c:=c) hc1 (fun k hk h=>by have:=hc3 k h;simpa only[List.getElem?_eq_getElem hk]using this) (fun k hk h=>by have:=hc4 k h hk;simpa only[List.getElem?_eq_getElem hk]using this)
 have tl:(l.takeWhile p).length=c:=by rw[<-t1];simp;omega
 rw[<-t2,tl]
 simp only[Option.bind_some]
 by_cases hcl:c<l.length
 ·obtain⟨n,e1,e2,e3⟩:=hc _ (List.getElem_mem hcl)
  simp only[Ak hcl,decide_eq_true (by omega:(c:Int)<(l.length:Int)),cond_true,Option.bind_some]
  erw [e1]
  rw[List.drop_eq_getElem_cons hcl]
  simp only[Option.bind_some,e3,Hu]
 ·rw[List.drop_of_length_le (by omega)]
  simp only[decide_eq_false (by omega:¬(c:Int)<(l.length:Int)),cond_false,Hu]
theorem LG {l:List VM}(hl:l.length<=1048576)(t:Int){p q:VM->Bool}(mono:∀i j (hij:i<=j) (hj:j<l.length),p l[j]=true->p (l[i]'(by omega))=true)
 (hc:∀x∈l,∃n:Int,E5 (x,t,())=some (n,())/\decide (n<0)=p x/\(n==0)=q x):
 AX (l,t,(),())=some (((l.takeWhile p).length:Int),Hu q (l.dropWhile p),()):=by
 unfold AX
 obtain⟨c,hc1,hc2,hc3,hc4⟩:=Pg (n:=l.length) (p:=fun k=>match l[k]? with|some x=>p x|none=>false)
  (B:=fun v=>AA (l,t,(),(l.length:Int),()) v _ some)
  (by
    intro i j hij hj h
    have hi:i<l.length:=by omega
    simp only[List.getElem?_eq_getElem hj,List.getElem?_eq_getElem hi]at h ⊢
    exact mono i j hij hj h)
  (by
    intro i j hij hj
    have hm:(i+j) / 2<l.length:=by omega
    obtain⟨n,e1,e2,e3⟩:=hc _ (List.getElem_mem hm)
    unfold AA
    simp only[LS (i:=i) (j:=j) (by omega),Ak hm,Option.bind_some,List.getElem?_eq_getElem hm,decide_eq_true (by omega:(i:Int)<(j:Int)),cond_true]
    erw [e1]
    simp only[Option.bind_some,e2,Am hm (by omega)]
    cases p l[(i+j) / 2]<;>rfl)
  (by
    intro i hi
    unfold AA
    simp only[Int.lt_irrefl,decide_false,cond_false])
 erw [hc2]
 obtain⟨t1,t2⟩:=Pl (l:=l) (p:=p) (c:=c) hc1 (fun k hk h=>by have:=hc3 k h;simpa only[List.getElem?_eq_getElem hk]using this) (fun k hk h=>by have:=hc4 k h hk;simpa only[List.getElem?_eq_getElem hk]using this)
 have tl:(l.takeWhile p).length=c:=by rw[<-t1];simp;omega
 rw[<-t2,tl]
 simp only[Option.bind_some]
 by_cases hcl:c<l.length
 ·obtain⟨n,e1,e2,e3⟩:=hc _ (List.getElem_mem hcl)
  simp only[Ak hcl,decide_eq_true (by omega:(c:Int)<(l.length:Int)),cond_true,Option.bind_some]
  erw [e1]
  rw[List.drop_eq_getElem_cons hcl]
  simp only[Option.bind_some,e3,Hu]
 ·rw[List.drop_of_length_le (by omega)]
  simp only[decide_eq_false (by omega:¬(c:Int)<(l.length:Int)),cond_false,Hu]
theorem Ko {l:List VM}(hl:l.length<=1048576)(t:Int){p q:VM->Bool}(mono:∀i j (hij:i<=j) (hj:j<l.length),p l[j]=true->p (l[i]'(by omega))=true)
 (hc:∀x∈l,∃n:Int,CV (x,t,())=some (n,())/\decide (n<0)=p x/\(n==0)=q x):
 AN (l,t,(),())=some (((l.takeWhile p).length:Int),Hu q (l.dropWhile p),()):=by
 unfold AN
 obtain⟨c,hc1,hc2,hc3,hc4⟩:=Pg (n:=l.length) (p:=fun k=>match l[k]? with|some x=>p x|none=>false)
  (B:=fun v=>Aq (l,t,(),(l.length:Int),()) v _ some)
  (by
    intro i j hij hj h
    have hi:i<l.length:=by omega
    simp only[List.getElem?_eq_getElem hj,List.getElem?_eq_getElem hi]at h ⊢
    exact mono i j hij hj h)
  (by
    intro i j hij hj
    have hm:(i+j) / 2<l.length:=by omega
    obtain⟨n,e1,e2,e3⟩:=hc _ (List.getElem_mem hm)
    unfold Aq
    simp only[LS (i:=i) (j:=j) (by omega),Ak hm,Option.bind_some,List.getElem?_eq_getElem hm,decide_eq_true (by omega:(i:Int)<(j:Int)),cond_true]
    erw [e1]
    simp only[Option.bind_some,e2,Am hm (by omega)]
    cases p l[(i+j) / 2]<;>rfl)
  (by
    intro i hi
    unfold Aq
    simp only[Int.lt_irrefl,decide_false,cond_false])
 erw [hc2]
 obtain⟨t1,t2⟩:=Pl (l:=l) (p:=p) (c:=c) hc1 (fun k hk h=>by have:=hc3 k h;simpa only[List.getElem?_eq_getElem hk]using this) (fun k hk h=>by have:=hc4 k h hk;simpa only[List.getElem?_eq_getElem hk]using this)
 have tl:(l.takeWhile p).length=c:=by rw[<-t1];simp;omega
 rw[<-t2,tl]
 simp only[Option.bind_some]
 by_cases hcl:c<l.length
 ·obtain⟨n,e1,e2,e3⟩:=hc _ (List.getElem_mem hcl)
  simp only[Ak hcl,decide_eq_true (by omega:(c:Int)<(l.length:Int)),cond_true,Option.bind_some]
  erw [e1]
  rw[List.drop_eq_getElem_cons hcl]
  simp only[Option.bind_some,e3,Hu]
 ·rw[List.drop_of_length_le (by omega)]
  simp only[decide_eq_false (by omega:¬(c:Int)<(l.length:Int)),cond_false,Hu]
theorem Mc {l:List VM}(hl:l.length<=1048576)(t:VM){p q:VM->Bool}(mono:∀i j (hij:i<=j) (hj:j<l.length),p l[j]=true->p (l[i]'(by omega))=true)
 (hc:∀x∈l,∃n:Int,BW (x,t,())=some (n,())/\decide (n<0)=p x/\(n==0)=q x):
 B6 (l,t,(),())=some (((l.takeWhile p).length:Int),Hu q (l.dropWhile p),()):=by
 unfold B6
 obtain⟨c,hc1,hc2,hc3,hc4⟩:=Pg (n:=l.length) (p:=fun k=>match l[k]? with|some x=>p x|none=>false)
  (B:=fun v=>AB (l,(),(l.length:Int),t.1,t.2.1,()) v _ some)
  (by
    intro i j hij hj h
    have hi:i<l.length:=by omega
    simp only[List.getElem?_eq_getElem hj,List.getElem?_eq_getElem hi]at h ⊢
    exact mono i j hij hj h)
  (by
    intro i j hij hj
    have hm:(i+j) / 2<l.length:=by omega
    obtain⟨n,e1,e2,e3⟩:=hc _ (List.getElem_mem hm)
    unfold AB
    simp only[LS (i:=i) (j:=j) (by omega),Ak hm,Option.bind_some,List.getElem?_eq_getElem hm,decide_eq_true (by omega:(i:Int)<(j:Int)),cond_true]
    erw [e1]
    simp only[Option.bind_some,e2,Am hm (by omega)]
    cases p l[(i+j) / 2]<;>rfl)
  (by
    intro i hi
    unfold AB
    simp only[Int.lt_irrefl,decide_false,cond_false])
 erw [hc2]
 obtain⟨t1,t2⟩:=Pl (l:=l) (p:=p) (c:=c) hc1 (fun k hk h=>by have:=hc3 k h;simpa only[List.getElem?_eq_getElem hk]using this) (fun k hk h=>by have:=hc4 k h hk;simpa only[List.getElem?_eq_getElem hk]using this)
 have tl:(l.takeWhile p).length=c:=by rw[<-t1];simp;omega
 rw[<-t2,tl]
 simp only[Option.bind_some]
 by_cases hcl:c<l.length
 ·obtain⟨n,e1,e2,e3⟩:=hc _ (List.getElem_mem hcl)
  simp only[Ak hcl,decide_eq_true (by omega:(c:Int)<(l.length:Int)),cond_true,Option.bind_some]
  erw [e1]
  rw[List.drop_eq_getElem_cons hcl]
  simp only[Option.bind_some,e3,Hu]
 ·rw[List.drop_of_length_le (by omega)]
  simp only[decide_eq_false (by omega:¬(c:Int)<(l.length:Int)),cond_false,Hu]
theorem LF {l:List _}(hl:l.length<=1048576)(c:_){p:_->Bool}(hc:∀x∈l,Dd (x,c)=some (p x,())):BE (l,c,())=some (fx (l.findIdx? p),()):=by
 unfold BE
 refine El hl (p:=p) (fun i h=>?_) ?_
 ·unfold AW
  have e:=hc _ (List.getElem_mem h)
  simp only[Ak h,Option.bind_some]
  rw[decide_eq_true (by omega),Am h (by omega)]
  simp only[cond_true]
  erw [e]
  simp only[Option.bind_some]
  cases p l[i]<;>rfl
 ·unfold AW
  simp only
  rw[decide_eq_false (by omega)];rfl
theorem MK {l:List _}(hl:l.length<=1048576)(c:_){p:_->Bool}(hc:∀x∈l,Hj (x,c)=some (p x,())):BV (l,c,())=some (fx (l.findIdx? p),()):=by
 unfold BV
 refine El hl (p:=p) (fun i h=>?_) ?_
 ·unfold Bb
  have e:=hc _ (List.getElem_mem h)
  simp only[Ak h,Option.bind_some]
  rw[decide_eq_true (by omega),Am h (by omega)]
  simp only[cond_true]
  erw [e]
  simp only[Option.bind_some]
  cases p l[i]<;>rfl
 ·unfold Bb
  simp only
  rw[decide_eq_false (by omega)];rfl
theorem Le {l:List _}(hl:l.length<=1048576)(c:_){p:_->Bool}(hc:∀x∈l,CS (x,c)=some (p x,())):BB (l,c,())=some (fx (l.findIdx? p),()):=by
 unfold BB
 refine El hl (p:=p) (fun i h=>?_) ?_
 ·unfold AQ
  have e:=hc _ (List.getElem_mem h)
  simp only[Ak h,Option.bind_some]
  rw[decide_eq_true (by omega),Am h (by omega)]
  simp only[cond_true]
  erw [e]
  simp only[Option.bind_some]
  cases p l[i]<;>rfl
 ·unfold AQ
  simp only
  rw[decide_eq_false (by omega)];rfl
theorem Ma {l:List _}(hl:l.length<=1048576)(c:_){p:_->Bool}(hc:∀x∈l,DF (x,c)=some (p x,())):BM (l,c,())=some (fx (l.findIdx? p),()):=by
 unfold BM
 refine El hl (p:=p) (fun i h=>?_) ?_
 ·unfold B5
  have e:=hc _ (List.getElem_mem h)
  simp only[Ak h,Option.bind_some]
  rw[decide_eq_true (by omega),Am h (by omega)]
  simp only[cond_true]
  erw [e]
  simp only[Option.bind_some]
  cases p l[i]<;>rfl
 ·unfold B5
  simp only
  rw[decide_eq_false (by omega)];rfl
theorem MJ {l:List _}(hl:l.length<=1048576)(c:_){p:_->Bool}(hc:∀x∈l,Hf (x,c)=some (p x,())):BU (l,c,())=some (fx (l.findIdx? p),()):=by
 unfold BU
 refine El hl (p:=p) (fun i h=>?_) ?_
 ·unfold Ba
  have e:=hc _ (List.getElem_mem h)
  simp only[Ak h,Option.bind_some]
  rw[decide_eq_true (by omega),Am h (by omega)]
  simp only[cond_true]
  erw [e]
  simp only[Option.bind_some]
  cases p l[i]<;>rfl
 ·unfold Ba
  simp only
  rw[decide_eq_false (by omega)];rfl
theorem MI {l:List _}(hl:l.length<=1048576)(c:_){p:_->Bool}(hc:∀x∈l,He (x,c)=some (p x,())):BT (l,c,())=some (fx (l.findIdx? p),()):=by
 unfold BT
 refine El hl (p:=p) (fun i h=>?_) ?_
 ·unfold B9
  have e:=hc _ (List.getElem_mem h)
  simp only[Ak h,Option.bind_some]
  rw[decide_eq_true (by omega),Am h (by omega)]
  simp only[cond_true]
  erw [e]
  simp only[Option.bind_some]
  cases p l[i]<;>rfl
 ·unfold B9
  simp only
  rw[decide_eq_false (by omega)];rfl
theorem Kc {l:List _}(hl:l.length<=1048576)(c:_){p:_->Bool}(hc:∀x∈l,C5 (x,c)=some (p x,())):Bp (l,c,())=some (fx (l.findIdx? p),()):=by
 unfold Bp
 refine El hl (p:=p) (fun i h=>?_) ?_
 ·unfold AM
  have e:=hc _ (List.getElem_mem h)
  simp only[Ak h,Option.bind_some]
  rw[decide_eq_true (by omega),Am h (by omega)]
  simp only[cond_true]
  erw [e]
  simp only[Option.bind_some]
  cases p l[i]<;>rfl
 ·unfold AM
  simp only
  rw[decide_eq_false (by omega)];rfl
theorem Kd {l:List _}(hl:l.length<=1048576)(c:_){p:_->Bool}(hc:∀x∈l,C5 (x,c)=some (p x,())):Bm (l,c,())=some (l.any p,()):=by
 unfold Bm
 have e:=Kc hl c hc
 erw [e]
 simp only[Option.bind_some,X1,List.findIdx?_isSome]
theorem Ld {l:List _}(hl:l.length<=1048576)(c:_){p:_->Bool}(hc:∀x∈l,CR (x,c)=some (p x,())):BA (l,c,())=some (fx (l.findIdx? p),()):=by
 unfold BA
 refine El hl (p:=p) (fun i h=>?_) ?_
 ·unfold AP
  have e:=hc _ (List.getElem_mem h)
  simp only[Ak h,Option.bind_some]
  rw[decide_eq_true (by omega),Am h (by omega)]
  simp only[cond_true]
  erw [e]
  simp only[Option.bind_some]
  cases p l[i]<;>rfl
 ·unfold AP
  simp only
  rw[decide_eq_false (by omega)];rfl
theorem Lf {l:List _}(hl:l.length<=1048576)(c:_){p:_->Bool}(hc:∀x∈l,CR (x,c)=some (p x,())):Bt (l,c,())=some (l.any p,()):=by
 unfold Bt
 have e:=Ld hl c hc
 erw [e]
 simp only[Option.bind_some,X1,List.findIdx?_isSome]
theorem Js {l:List VM}(hl:l.length<=1048576)(id:Int){q:VM->Bool}(hc:∀x:VM,CS (x,some id,())=some (q x,())):
 Cw (l,id,())=some (id,l.filter (fun x=>!q x),()):=by
 unfold Cw
 have e:=Le hl (some id,()) (p:=q) (fun x _=>hc x)
 erw [e]
 simp only[Option.bind_some]
 cases hf:l.findIdx? q with
 |none=>
  have h:=List.findIdx?_eq_none_iff.1 hf
  have:l.filter (fun x=>!q x)=l:=List.filter_eq_self.2 fun x hx=>by simp[h x hx]
  simp only[fx,this]
  rfl
 |some i0=>
  obtain⟨h0,hq,hlt⟩:=List.findIdx?_eq_some_iff_getElem.1 hf
  obtain⟨i,xs,h1,h2,h3,h4⟩:=R5 (l:=l) (q:=q) (B:=fun v=>Be (id,()) v _ some)
   (by
     intro i j xs hi hj h
     have hj':j<xs.length:=by omega
     have hi':i<xs.length:=by omega
     have c1:(0:Int)<=(j:Int)/\(j:Int)<(xs.length:Int):=by omega
     have c2:(0:Int)<=(i:Int)/\(i:Int)<(xs.length:Int):=by omega
     unfold Be
     simp only[decide_eq_true c1.2,cond_true,c1,c2,and_self,if_true,Nat.zero_add,Int.toNat_natCast,List.getElem?_eq_getElem hj',List.getElem?_eq_getElem hi',Option.bind_some]
     erw [hc]
     simp only[Option.bind_some,Am hj' (by omega:xs.length<9223372036854775808),Am hi' (by omega:xs.length<9223372036854775808)]
     cases q xs[j]<;>rfl)
   (by
     intro i xs h hi
     unfold Be
     simp only[h,Int.lt_irrefl,decide_false,cond_false])
   h0 hq (fun k hk=>by simpa using hlt k hk)
  have e0:((i0:Int)==-1)=false:=by rw[beq_eq_false_iff_ne];omega
  simp only[fx,e0,cond_false,Am h0 (by omega)]
  erw [h1]
  simp only[Option.bind_some]
  rw[<-h4]
  exact Ut (z:=(0,0,())) h2 (fun r=>some (id,r,()))
theorem J0 {l:List VM}(hl:l.length<=1048576)(id:Int){q:VM->Bool}(hc:∀x:VM,DF (x,some id,())=some (q x,())):
 Ch (l,id,())=some (id,l.filter (fun x=>!q x),()):=by
 unfold Ch
 have e:=Ma hl (some id,()) (p:=q) (fun x _=>hc x)
 erw [e]
 simp only[Option.bind_some]
 cases hf:l.findIdx? q with
 |none=>
  have h:=List.findIdx?_eq_none_iff.1 hf
  have:l.filter (fun x=>!q x)=l:=List.filter_eq_self.2 fun x hx=>by simp[h x hx]
  simp only[fx,this]
  rfl
 |some i0=>
  obtain⟨h0,hq,hlt⟩:=List.findIdx?_eq_some_iff_getElem.1 hf
  obtain⟨i,xs,h1,h2,h3,h4⟩:=R5 (l:=l) (q:=q) (B:=fun v=>AY (id,()) v _ some)
   (by
     intro i j xs hi hj h
     have hj':j<xs.length:=by omega
     have hi':i<xs.length:=by omega
     have c1:(0:Int)<=(j:Int)/\(j:Int)<(xs.length:Int):=by omega
     have c2:(0:Int)<=(i:Int)/\(i:Int)<(xs.length:Int):=by omega
     unfold AY
     simp only[decide_eq_true c1.2,cond_true,c1,c2,and_self,if_true,Nat.zero_add,Int.toNat_natCast,List.getElem?_eq_getElem hj',List.getElem?_eq_getElem hi',Option.bind_some]
     erw [hc]
     simp only[Option.bind_some,Am hj' (by omega:xs.length<9223372036854775808),Am hi' (by omega:xs.length<9223372036854775808)]
     cases q xs[j]<;>rfl)
   (by
     intro i xs h hi
     unfold AY
     simp only[h,Int.lt_irrefl,decide_false,cond_false])
   h0 hq (fun k hk=>by simpa using hlt k hk)
  have e0:((i0:Int)==-1)=false:=by rw[beq_eq_false_iff_ne];omega
  simp only[fx,e0,cond_false,Am h0 (by omega)]
  erw [h1]
  simp only[Option.bind_some]
  rw[<-h4]
  exact Ut (z:=(0,0,())) h2 (fun r=>some (id,r,()))
theorem Jr {l:List VM}(hl:l.length<=1048576)(o:OPt){q:VM->Bool}(hc:∀x:VM,Dd (x,some o,())=some (q x,())):
 BP (l,o.1,o.2.1,o.2.2.1,o.2.2.2.1,o.2.2.2.2.1,o.2.2.2.2.2.1,())=some (o.1,o.2.1,o.2.2.1,o.2.2.2.1,o.2.2.2.2.1,o.2.2.2.2.2.1,l.filter (fun x=>!q x),()):=by
 unfold BP
 have e:=LF hl (some o,()) (p:=q) (fun x _=>hc x)
 erw [e]
 simp only[Option.bind_some]
 cases hf:l.findIdx? q with
 |none=>
  have h:=List.findIdx?_eq_none_iff.1 hf
  have:l.filter (fun x=>!q x)=l:=List.filter_eq_self.2 fun x hx=>by simp[h x hx]
  simp only[fx,this]
  rfl
 |some i0=>
  obtain⟨h0,hq,hlt⟩:=List.findIdx?_eq_some_iff_getElem.1 hf
  obtain⟨i,xs,h1,h2,h3,h4⟩:=R5 (l:=l) (q:=q) (B:=fun v=>Bd (o.1,o.2.1,o.2.2.1,o.2.2.2.1,o.2.2.2.2.1,o.2.2.2.2.2.1,()) v _ some)
   (by
     intro i j xs hi hj h
     have hj':j<xs.length:=by omega
     have hi':i<xs.length:=by omega
     have c1:(0:Int)<=(j:Int)/\(j:Int)<(xs.length:Int):=by omega
     have c2:(0:Int)<=(i:Int)/\(i:Int)<(xs.length:Int):=by omega
     unfold Bd
     simp only[decide_eq_true c1.2,cond_true,c1,c2,and_self,if_true,Nat.zero_add,Int.toNat_natCast,List.getElem?_eq_getElem hj',List.getElem?_eq_getElem hi',Option.bind_some]
     erw [hc]
     simp only[Option.bind_some,Am hj' (by omega:xs.length<9223372036854775808),Am hi' (by omega:xs.length<9223372036854775808)]
     cases q xs[j]<;>rfl)
   (by
     intro i xs h hi
     unfold Bd
     simp only[h,Int.lt_irrefl,decide_false,cond_false])
   h0 hq (fun k hk=>by simpa using hlt k hk)
  have e0:((i0:Int)==-1)=false:=by rw[beq_eq_false_iff_ne];omega
  simp only[fx,e0,cond_false,Am h0 (by omega)]
  erw [h1]
  simp only[Option.bind_some]
  rw[<-h4]
  exact Ut (z:=(0,0,())) h2 (fun r=>some (o.1,o.2.1,o.2.2.1,o.2.2.2.1,o.2.2.2.2.1,o.2.2.2.2.2.1,r,()))
end Go.Ab
end
section
namespace Go.Ab
theorem Qq {α:Type}{f:α->Int}{l:List α}(h:I7 f l){a:Int}{n:Nat}(hb:∀x∈l,a<=f x/\f x<a+n):l.length<=n:=by
 induction l generalizing a n with
 |nil=>exact Nat.zero_le _
 |cons x l ih=>
  have h1:=List.pairwise_cons.1 h
  have hx:=hb x (List.mem_cons_self)
  have:=ih h1.2 (a:=f x+1) (n:=(a+n-(f x+1)).toNat) (fun y hy=>by
   have:=h1.1 y hy
   have:=hb y (List.mem_cons_of_mem _ hy)
   omega)
  simp only[List.length_cons]
  omega
theorem QV {l:List VM}(h:QW l):l.length<=6:=by
 have:=(KH l).1 h
 exact Qq this.2 (a:=0) (n:=6) (fun x hx=>by have:=Bk.1 (this.1 x hx).1;omega)
theorem OkG.lkLen {e:EG}(H:OkG e):e.2.2.1.length<=6:=Qq H.lkU (a:=0) (n:=6) (fun x hx=>by have:=Bk.1 (H.lkA x hx).1;omega)
theorem OkG.wtLen {e:EG}(H:OkG e):e.2.2.2.1.length<=9:=Qq H.wtU (a:=1) (n:=9) (fun x hx=>by have:=Bk.1 (H.wtA x hx).1;omega)
theorem OkG.small {e:EG}(H:OkG e):SmallE e.1 e.2.1 e.2.2.1 e.2.2.2.1:=by
 have hg:=H.gd
 refine⟨⟨by have:=hg.six;omega,fun l hl=>?_⟩,by have:=H.len;omega,fun t ht=>?_,by have:=H.lkLen;omega,by have:=H.wtLen;omega⟩
 ·have:=(hg.ok l hl).2
  unfold Hm;omega
 ·have h:=(D6 t).1 (H.txA t ht).1
  have h1:=QV h.2.1
  have h2:=h.2.2.2.2.2.2.2.2.2.2
  exact⟨by omega,by omega⟩
theorem Rm {l:List VM}(hl:l.length<=1048576)(id:Int):Gu (l,id,())=some (US l id,()):=by
 unfold Gu US
 simp only[QU hl,Option.bind_some,Js hl id (q:=fun m=>m.2.1==id) (fun x=>by simp[CS])]
theorem Wz {l:List VM}(hl:l.length<=1048576)(id:Int):HS (l,id,())=some (Xa l id,()):=by
 unfold HS Xa
 simp only[OZ hl,Option.bind_some,J0 hl id (q:=fun m=>m.1==id||m.2.1==id) (fun x=>by simp only[DF,Option.bind_some];cases x.1==id<;>rfl)]
 simp only[Bool.not_or]
theorem YE {l:List VM}(hl:l.length<=1048576)(o:OPt):BP (l,o)=some (o.1,o.2.1,o.2.2.1,o.2.2.2.1,o.2.2.2.2.1,o.2.2.2.2.2.1,wkW l o.2.1,()):=
 Jr hl o (q:=fun m=>m.1==o.2.1) (fun x=>by simp[Dd])
theorem RR {s:List (List VV)}{l:List TX}{lk wt:List VM}{k:Nat}(hk:k<l.length)(hl:lk.length<=1048576)(hw:wt.length<=1048576)(ce:Bool)(st:Int):
 DE (k,ce,st,s,l,lk,wt,())=some (ce,st,s,l,lk,wt,US lk l[k].1,Xa wt l[k].1,()):=by
 simp only[DE,List.getElem?_eq_getElem hk,Option.bind_some,Rm hl,Wz hw]
theorem IT {s:List (List VV)}{l:List TX}{lk wt:List VM}{k:Nat}(hk:k<l.length)(hl:lk.length<=1048576)(hw:wt.length<=1048576)(c:Int)(ce:Bool)(st:Int):
 B8 (k,c,ce,st,s,l,lk,wt,())=some (c,ce,st,s,l.set k (FV l[k] 3),lk,wt,US lk l[k].1,Xa wt l[k].1,()):=by
 unfold B8
 simp only[List.getElem?_eq_getElem hk,Option.bind_some]
 have hk':k<(l.set k (FV l[k] 3)).length:=by simpa using hk
 have e:=RR (s:=s) (k:=k) (l:=l.set k (FV l[k] 3)) hk' hl hw ce st
 simp only[FV]at e ⊢
 rw[e]
 simp
theorem Nj {α:Type}(p:α->Bool)(l:List α):l.find? p=(l.findIdx? p).bind (l[·]?):=by
 cases h:l.findIdx? p with
 |none=>exact List.find?_eq_none.2 fun x hx=>by simpa using List.findIdx?_eq_none_iff.1 h x hx
 |some i=>
  obtain⟨h1,h2,h3⟩:=List.findIdx?_eq_some_iff_getElem.1 h
  rw[Option.bind_some,List.getElem?_eq_getElem h1]
  exact List.find?_eq_some_iff_getElem.2 ⟨h2,i,h1,rfl,fun j hj=>by simpa using h3 j hj⟩
theorem v8 (t:TX)(h:smT t)(key:Int):Io ((t.1,t.2.1,t.2.2.1,t.2.2.2.1,t.2.2.2.2.1,t.2.2.2.2.2.1,t.2.2.2.2.2.2.1,t.2.2.2.2.2.2.2.1,t.2.2.2.2.2.2.2.2.1,()),key,())=some (fx (t.2.2.2.2.2.2.2.2.1.findIdx? fun m=>m.1==key),()):=by
 unfold Io
 simp only[MK h.2 (some key,()) (p:=fun m=>m.1==key) (fun x _=>by simp[Hj]),Option.bind_some]
theorem Uh {s:List (List VV)}(h6:s.length=6){key:Int}(hk:inB key 0 5=true):∃(n:Nat) (h:n<s.length),key=(n:Int)/\lAt s key=some s[n]/\s[key.toNat]?=some s[n]:=by
 have:=Bk.1 hk
 obtain⟨n,rfl⟩:=Int.eq_ofNat_of_zero_le this.1
 have hn:n<s.length:=by omega
 exact⟨n,hn,rfl,Ak hn,by simp[hn]⟩
theorem I6 {n:Nat}(h:n<9223372036854775808):IntKind.i64.wrap ((n:Int)-1)=(n:Int)-1:=De (by omega) (by omega)
theorem U1 {s:List (List VV)}(hs:CF s)(h6:s.length=6)(t:TX){key:Int}(hk:inB key 0 5=true):
 Gt ((s,()),(t.1,t.2.1,t.2.2.1,t.2.2.2.1,t.2.2.2.2.1,t.2.2.2.2.2.1,t.2.2.2.2.2.2.1,t.2.2.2.2.2.2.2.1,t.2.2.2.2.2.2.2.2.1,()),key,())=some (match JT s t key with|none=>(0,0,0,0,0,3,())|some v=>(v.1,v.2.1,v.2.2.1,v.2.2.2.1,v.2.2.2.2.1,0,())):=by
 obtain⟨n,hn,e1,e2,e3⟩:=Uh h6 hk
 have hl:Hm s[n]:=hs.2 _ (List.getElem_mem hn)
 unfold Gt JT
 unfold Hm at hl
 simp only[e2,e3,Option.bind_some,vd (hs.2 _ (List.getElem_mem hn)),I6 (by omega:s[n].length<9223372036854775808)]
 generalize hl':s[n]=l at*
 have key:∀i:Int,i<l.length->(bif decide (i<0)then some ((0:Int),(0:Int),(0:Int),(0:Int),(0:Int),(3:Int),())else bif t.2.1==4 then(lAt l i).bind fun v_2=>bif decide (v_2.2.2.1>t.2.2.2.1)then some (0,0,0,0,0,3,())else(lAt l i).bind fun v=>some (v.1,v.2.1,v.2.2.1,v.2.2.2.1,v.2.2.2.2.1,0,())else(lAt l i).bind fun v=>some (v.1,v.2.1,v.2.2.1,v.2.2.2.1,v.2.2.2.2.1,0,()))=some (match(bif decide (i<0)then none else(l[i.toNat]?).bind fun v=>bif t.2.1==4&&decide (v.2.2.1>t.2.2.2.1)then none else some v)with|none=>(0,0,0,0,0,3,())|some v=>(v.1,v.2.1,v.2.2.1,v.2.2.2.1,v.2.2.2.2.1,0,())):=by
  intro i hi
  by_cases h0:i<0
  ·simp[h0]
  ·obtain⟨j,rfl⟩:=Int.eq_ofNat_of_zero_le (by omega:0<=i)
   have hj:j<l.length:=by omega
   simp only[decide_eq_false h0,cond_false,Ak hj,Option.bind_some,Int.toNat_natCast,List.getElem?_eq_getElem hj]
   cases t.2.1==4
   ·simp
   ·simp only[cond_true,Bool.true_and]
    cases decide (l[j].2.2.1>t.2.2.2.1)<;>simp
 cases t.2.1==2
 ·simp only[cond_false];exact key _ (by omega)
 ·simp only[cond_true];exact key _ (Qp _ _ _).2
end Go.Ab
end
section
namespace Go.Ab
theorem A5b (a b:VM):∃n:Int,BW (a,b,())=some (n,())/\decide (n<0)=HU a b/\(n==0)=decide (a=b):=by
 obtain⟨n,e1,e2⟩:=N4 a b
 refine⟨n,e1,?_,?_⟩
 ·by_cases h:Cg a b
  ·rw[LW.2 h];exact decide_eq_true (by by_cases hn:n<0;exact hn;exact absurd h (e2.1 (by omega)))
  ·have h0:HU a b=false:=by cases h1:HU a b with|false=>rfl|true=>exact absurd (LW.1 h1) h
   rw[h0];exact decide_eq_false (by have:=e2.2 h;omega)
 ·unfold BW at e1
  simp only[vj,A6y,Option.bind_some,Option.some.injEq,Prod.mk.injEq,and_true]at e1
  have hab:a=b↔a.1=b.1/\a.2.1=b.2.1:=by
   constructor
   ·rintro rfl;exact⟨rfl,rfl⟩
   ·rintro⟨h1,h2⟩;exact Prod.ext h1 (Prod.ext h2 rfl)
  rw[Bool.eq_iff_iff,beq_iff_eq,decide_eq_true_eq,hab,<-e1]
  by_cases c1:a.1<b.1
  ·simp[c1];omega
  ·by_cases c2:a.1>b.1
   ·simp[c1,c2];omega
   ·have c3:a.1=b.1:=by omega
    by_cases c4:a.2.1<b.2.1
    ·simp[c3,c4];omega
    ·by_cases c5:a.2.1>b.2.1
     ·simp[c3,c4,c5];omega
     ·simp[c3,c4,c5];omega
theorem l7 {l:List VM}(h:l.Pairwise Cg)(m:VM):∀i j (hij:i<=j) (hj:j<l.length),HU l[j] m=true->HU (l[i]'(by omega)) m=true:=by
 intro i j hij hj h1
 rw[LW]at*
 by_cases e:i=j
 ·subst e;exact h1
 ·exact Jq _ _ _ (List.pairwise_iff_getElem.1 h i j (by omega) hj (by omega)) h1
theorem A6z {l:List VM}(hl:l.length<=1048576)(h:l.Pairwise Cg)(m:VM):
 B6 (l,m,(),())=some (((l.takeWhile fun x=>HU x m).length:Int),Hu (fun x=>decide (x=m)) (l.dropWhile fun x=>HU x m),()):=
 Mc hl m (p:=fun x=>HU x m) (q:=fun x=>decide (x=m)) (l7 h m) (fun x _=>A5b x m)
theorem NI {α:Type}{lim:Nat}{l:List α}(hl:l.length+1<=lim)(p:α->Bool)(z:α):PB lim (((l.takeWhile p).length:Int),l,[z],())=some (l.takeWhile p++z::l.dropWhile p,()):=by
 have e:l.takeWhile p++l.dropWhile p=l:=List.takeWhile_append_dropWhile
 generalize l.takeWhile p=a at e ⊢
 generalize l.dropWhile p=b at e ⊢
 subst e
 have h1:a.length+b.length+1<=lim:=by simpa using hl
 simp[PB,h1]
theorem Wr {l:List TX}{k:Nat}(hk:k<l.length)(hr:l[k].2.2.2.2.2.2.2.1.length<=1048576)(hrd:l[k].2.2.2.2.2.2.2.1.Pairwise Cg)(key:Int)(v:VV):
 Dr (k,key,v.1,v.2.1,v.2.2.1,v.2.2.2.1,v.2.2.2.2.1,l,())=some (match MT l[k] key v with|none=>(false,l,())|some t'=>(true,l.set k t',())):=by
 unfold Dr MT
 simp only[List.getElem?_eq_getElem hk,Option.bind_some]
 have e60:(((l[k].2.2.2.2.2.2.2.1.length:Nat):Int)==60)=(l[k].2.2.2.2.2.2.2.1.length==60):=by
  rw[Bool.eq_iff_iff,beq_iff_eq,beq_iff_eq];omega
 rw[e60]
 cases l[k].2.2.2.2.2.2.2.1.length==60
 ·simp only[cond_false]
  erw [A6z hr hrd (key,v.2.2.1,())]
  simp only[Option.bind_some]
  unfold KF Zf
  cases hd:l[k].2.2.2.2.2.2.2.1.dropWhile fun x=>HU x (key,v.2.2.1,())with
  |nil=>
   simp only[Hu,Bool.not_false,cond_true,QT hr,Option.bind_some,CN]
   erw [NI (by omega) _ _]
   simp only[Option.bind_some,hd,Iz hk,JV,List.length_set]
  |cons x r=>
   simp only[Hu]
   by_cases hx:x=(key,v.2.2.1,())
   ·have e:l[k].2.2.2.2.2.2.2.1=l[k].2.2.2.2.2.2.2.1.takeWhile (fun x=>HU x (key,v.2.2.1,()))++(key,v.2.2.1,())::r:=by
     rw[<-hx]
     conv=>lhs;rw[<-List.takeWhile_append_dropWhile (p:=fun x=>HU x (key,v.2.2.1,())) (l:=l[k].2.2.2.2.2.2.2.1),hd]
     rw[hx]
    simp only[hx,decide_true,Bool.not_true,cond_false,if_true,Iz hk,Option.bind_some,JV,List.length_set]
    rw[<-e]
   ·simp only[hx,decide_false,Bool.not_false,cond_true,if_false,QT hr,Option.bind_some,CN]
    erw [NI (by omega) _ _]
    simp only[Option.bind_some,hd,Iz hk,JV,List.length_set]
 ·rfl
end Go.Ab
end
section
namespace Go.Ab
abbrev EO:=Bool×Int×List (List VV)×List TX×List VM×List VM×Unit
def Iv (ce:Bool)(e:EG):EO:=(ce,e.2.2.2.2,e.1,e.2.1,e.2.2.1,e.2.2.2.1,())
theorem Rz (t:TX)(key:Int):Zd t key=match t.2.2.2.2.2.2.2.2.1.findIdx? (fun m=>m.1==key)with
 |none=>none|some i=>(t.2.2.2.2.2.2.2.2.1[i]?).map (·.2.1):=by
 unfold Zd
 rw[Nj]
 cases t.2.2.2.2.2.2.2.2.1.findIdx? (fun m=>m.1==key)<;>rfl
theorem OkG.rdUp {e:EG}(H:OkG e){k:Nat}(hk:k<e.2.1.length):e.2.1[k].2.2.2.2.2.2.2.1.Pairwise Cg:=
 ((N5 _).1 ((D6 _).1 (H.txA _ (List.getElem_mem hk)).1).1).2
theorem OkG.smT {e:EG}(H:OkG e){k:Nat}(hk:k<e.2.1.length):smT e.2.1[k]:=H.small.ft _ (List.getElem_mem hk)
theorem YG {e:EG}(H:OkG e){k:Nat}(hk:k<e.2.1.length){key:Int}(hkey:inB key 0 5=true)(ce:Bool):
 Ga (k,key,Iv ce e)=some ((Fv e k key).1,(Fv e k key).2.1,Iv ce (Fv e k key).2.2):=by
 have hs:=H.small
 have ht:=H.smT hk
 unfold Ga Fv Iv
 simp only[List.getElem?_eq_getElem hk,Option.bind_some,v8 _ ht,X1,Rz]
 cases hf:e.2.1[k].2.2.2.2.2.2.2.2.1.findIdx? (fun m=>m.1==key)with
 |some i=>
  obtain⟨h1,_⟩:=List.findIdx?_eq_some_iff_getElem.1 hf
  have c:(0:Int)<=(i:Int)/\(i:Int)<(e.2.1[k].2.2.2.2.2.2.2.2.1.length:Int):=by omega
  simp only[Option.isSome_some,cond_true,fx,c,and_self,if_true,Nat.zero_add,Int.toNat_natCast,List.getElem?_eq_getElem h1,Option.bind_some,Option.map_some]
 |none=>
  simp only[Option.isSome_none,cond_false,U1 hs.fs H.gd.six _ hkey,Option.bind_some]
  cases JT e.1 e.2.1[k] key with
  |none=>
   simp only[bne,show((3:Int)==0)=false from rfl,Bool.not_false,cond_true,IT hk hs.fk hs.fw,Option.bind_some,Jt,FV]
  |some v=>
   simp only[bne,show((0:Int)==0)=true from rfl,Bool.not_true,cond_false,Wr hk ht.1 (H.rdUp hk),Option.bind_some]
   cases MT e.2.1[k] key v with
   |none=>rfl
   |some t'=>rfl
theorem Ws {k:Nat}{hi:Int}{ce:Bool}(hh:hi<=5):∀(n:Nat) (key:Int) (out:List Int) (e:EG),OkG e->k<e.2.1.length->(∀t,e.2.1[k]?=some t->t.2.2.1=1)->0<=key->key+n=hi+1->out.length<=key.toNat->
 ((AE (fun v=>Co (k,hi,0,0,()) v _ some) (key,ce,e.2.2.2.2,e.1,e.2.1,e.2.2.1,e.2.2.2.1,out,())).bind fun p=>Az p (fun p=>some
   ((p.2.2.2.2.1,p.1,p.2.1,p.2.2.1,p.2.2.2.1,p.2.2.2.2.2.2.1,p.2.2.2.2.2.2.2.1,[],()):Int×Bool×Int×List (List VV)×List TX×List VM×List VM×List Int×Unit)) fun p=>some (0,p.1,p.2.1,p.2.2.1,p.2.2.2.1,p.2.2.2.2.1,p.2.2.2.2.2.1,p.2.2.2.2.2.2.1,()))=
 some ((E4 k n key out e).1,ce,(E4 k n key out e).2.2.2.2.2.2,(E4 k n key out e).2.2.1,(E4 k n key out e).2.2.2.1,(E4 k n key out e).2.2.2.2.1,(E4 k n key out e).2.2.2.2.2.1,(E4 k n key out e).2.1,()):=by
 intro n
 induction n with
 |zero=>
  intro key out e H hk ha h0 hn ho
  rw[Bf]
  have hd:¬key<=hi:=by omega
  simp only[Co,decide_eq_false hd,cond_false,Option.bind_some,Az,E4]
 |succ n ih=>
  intro key out e H hk ha h0 hn ho
  have hkey:inB key 0 5=true:=Bk.2 ⟨h0,by omega⟩
  have hr:=YG H hk hkey ce
  have hs:=H.read (List.getElem?_eq_getElem hk) (ha _ (List.getElem?_eq_getElem hk)) hkey
  unfold Iv at hr
  rw[Bf]
  have hd:key<=hi:=by omega
  simp only[Co,decide_eq_true hd,cond_true,hr,Option.bind_some,E4]
  cases hc:(Fv e k key).2.1==0
  ·simp only[bne,hc,Bool.not_false,cond_true,Option.bind_some,Az,cond_false]
  ·have hc':(Fv e k key).2.1=0:=by simpa using hc
   obtain⟨t',ht1,ht2,ht3⟩:=hs.2.1 hc'
   have hlen:(out++[(Fv e k key).1]).length<=4398046511104:=by
    have:key.toNat<=5:=by omega
    simp;omega
   have hw:IntKind.i64.wrap (key+1)=key+1:=De (by omega) (by omega)
   simp only[bne,hc,Bool.not_true,cond_false,hlen,if_true,Option.bind_some,hw,cond_true]
   exact ih (key+1) (out++[(Fv e k key).1]) (Fv e k key).2.2 hs.1 (by rw[hs.2.2];exact hk) (fun t ht=>by rw[ht1]at ht;obtain rfl:t'=t:=(by simpa using ht);exact ht2) (by omega) (by omega) (by simp;omega)
theorem QP {e:EG}(H:OkG e){k:Nat}(hk:k<e.2.1.length)(ha:e.2.1[k].2.2.1=1){lo hi:Int}(h0:0<=lo)(h1:lo<=hi+1)(h2:hi<=5)(ce:Bool):
 G9 (k,lo,hi,Iv ce e)=some ((E4 k (hi-lo+1).toNat lo [] e).1,ce,(E4 k (hi-lo+1).toNat lo [] e).2.2.2.2.2.2,(E4 k (hi-lo+1).toNat lo [] e).2.2.1,(E4 k (hi-lo+1).toNat lo [] e).2.2.2.1,(E4 k (hi-lo+1).toNat lo [] e).2.2.2.2.1,(E4 k (hi-lo+1).toNat lo [] e).2.2.2.2.2.1,(E4 k (hi-lo+1).toNat lo [] e).2.1,()):=
 Ws h2 (hi-lo+1).toNat lo [] e H hk (fun t ht=>by rw[List.getElem?_eq_getElem hk]at ht;obtain rfl:e.2.1[k]=t:=(by simpa using ht);exact ha) h0 (by omega) (by simp)
end Go.Ab
end
section
namespace Go.Ab
theorem RX {α:Type}[DecidableEq α]:∀(a b:List α),a.Nodup->(∀x∈a,x∈b)->a.length<=b.length
 |[],b,_,_=>Nat.zero_le _
 |x::a,b,hn,hs=>by
  rw[List.nodup_cons]at hn
  have hx:=hs x (List.mem_cons_self ..)
  have hlen:=(List.perm_cons_erase hx).length_eq
  have:=RX a (b.erase x) hn.2 (fun y hy=>(List.mem_erase_of_ne (fun e=>hn.1 (by rw[<-e];exact hy))).2 (hs y (List.mem_cons_of_mem _ hy)))
  simp only[List.length_cons]at hlen ⊢
  omega
theorem A12 (a b:Int):∃n:Int,C0 (a,b,())=some (n,())/\decide (n<0)=decide (a<b)/\(n==0)=(a==b):=by
 refine⟨_,vj a b,?_,?_⟩
 ·by_cases h:a<b
  ·simp[h]
  ·by_cases h2:a>b<;>simp[h,h2]
 ·by_cases h:a<b
  ·simp[h];omega
  ·by_cases h2:a>b
   ·simp[h,h2];omega
   ·have:a=b:=by omega
    simp[this]
theorem Qb {α:Type}{f:α->Int}{l:List α}(h:I7 f l)(t:Int):∀i j (hij:i<=j) (hj:j<l.length),(fun x=>decide (f x<t)) l[j]=true->(fun x=>decide (f x<t)) (l[i]'(by omega))=true:=by
 intro i j hij hj h1
 simp only[decide_eq_true_eq]at*
 by_cases e:i=j
 ·subst e;exact h1
 ·have:f l[i]<f l[j]:=List.pairwise_iff_getElem.1 h i j (by omega) hj (by omega)
  omega
def EM {α:Type}(f:α->Int)(l:List α)(t:Int):Bool:=Hu (fun x=>f x==t) (l.dropWhile fun x=>decide (f x<t))
theorem LD {α:Type}{f:α->Int}{l:List α}{m:α}(h:EM f l (f m)=false):CA f l m=(l.takeWhile fun x=>decide (f x<f m))++m::l.dropWhile fun x=>decide (f x<f m):=by
 unfold EM at h
 unfold CA
 cases hd:l.dropWhile fun x=>decide (f x<f m)with
 |nil=>rfl
 |cons x r=>
  rw[hd]at h
  simp only[Hu,beq_eq_false_iff_ne,ne_eq]at h
  simp only[h,if_false]
theorem LC {α:Type}{f:α->Int}{l:List α}{m:α}(h:EM f l (f m)=true):∃x,l[(l.takeWhile fun x=>decide (f x<f m)).length]?=some x/\f x=f m/\CA f l m=l.set (l.takeWhile fun x=>decide (f x<f m)).length m:=by
 unfold EM at h
 unfold CA
 have e:l.takeWhile (fun x=>decide (f x<f m))++l.dropWhile (fun x=>decide (f x<f m))=l:=List.takeWhile_append_dropWhile
 cases hd:l.dropWhile fun x=>decide (f x<f m)with
 |nil=>rw[hd]at h;cases h
 |cons x r=>
  rw[hd]at h e
  simp only[Hu,beq_iff_eq]at h
  generalize l.takeWhile (fun x=>decide (f x<f m))=a at e ⊢
  subst e
  exact⟨x,by simp,h,by simp[h]⟩
theorem OA {α:Type}{f:α->Int}{l:List α}(hu:I7 f l)(t:Int):EM f l t=true↔∃x∈l,f x=t:=by
 unfold EM
 have e:l.takeWhile (fun x=>decide (f x<t))++l.dropWhile (fun x=>decide (f x<t))=l:=List.takeWhile_append_dropWhile
 have hd:=Nr hu t
 have hud:I7 f (l.dropWhile fun x=>decide (f x<t)):=hu.sublist (List.dropWhile_sublist _)
 have htk:∀y∈(l.takeWhile fun x=>decide (f x<t)),f y<t:=fun y hy=>by
  have:=List.all_takeWhile (l:=l) (p:=fun x=>decide (f x<t))
  have:=List.all_eq_true.1 this y hy
  simpa using this
 have hm:∀x,x∈l↔x∈(l.takeWhile fun x=>decide (f x<t))\/x∈(l.dropWhile fun x=>decide (f x<t)):=fun x=>by rw[<-List.mem_append,e]
 cases hdw:l.dropWhile fun x=>decide (f x<t)with
 |nil=>
  rw[hdw]at hm
  simp only[Hu,Bool.false_eq_true,false_iff]
  rintro⟨x,hx,hxt⟩
  rcases(hm x).1 hx with h|h
  ·have:=htk x h;omega
  ·cases h
 |cons y r=>
  rw[hdw]at hm hud
  simp only[Hu,beq_iff_eq]
  constructor
  ·intro h;exact⟨y,(hm y).2 (.inr (List.mem_cons_self ..)),h⟩
  ·rintro⟨x,hx,hxt⟩
   rcases(hm x).1 hx with h|h
   ·have:=htk x h;omega
   ·have hy:t<=f y:=hd y (by rw[hdw];exact List.mem_cons_self ..)
    rcases List.mem_cons.1 h with rfl|h
    ·exact hxt
    ·have:=(List.pairwise_cons.1 hud).1 x h;omega
theorem Wv {lk:List VM}(hl:lk.length<=1048576)(key:Int):GJ (lk,key,())=some (CO lk key,()):=by
 unfold GJ CO
 simp only[MJ hl (some key,()) (p:=fun m=>m.1==key) (fun x _=>by simp[Hf]),Option.bind_some,vP,Nj]
 cases hf:lk.findIdx? (fun m=>m.1==key)with
 |none=>rfl
 |some i=>
  obtain⟨h1,_⟩:=List.findIdx?_eq_some_iff_getElem.1 hf
  simp only[Option.isNone_some,cond_false,fx,Ak h1,Option.bind_some,List.getElem?_eq_getElem h1]
theorem Wt {wt:List VM}(hl:wt.length<=1048576)(hv:DH (wt,())=some (true,()))(hu:I7 (·.1) wt){a b:Int}(ha:inB a 1 9=true)(hb:inB b 1 9=true)(hab:a≠b):
 GH (wt,a,b,())=some (true,CA (·.1) wt (a,b,()),()):=by
 have hbs:Bh (wt,a,(),())=some (((wt.takeWhile fun x=>decide (x.1<a)).length:Int),EM (fun x:VM=>x.1) wt a,()):=NS hl a (p:=fun x=>decide (x.1<a)) (q:=fun x=>x.1==a) (Qb (f:=fun x:VM=>x.1) hu a) (fun x _=>by
  obtain⟨n,e1,e2,e3⟩:=A12 x.1 a
  exact⟨n,by simp only[GI,e1,Option.bind_some],e2,e3⟩)
 have hab':(a==b)=false:=by simpa using hab
 unfold GH
 simp only[OZ hl,hv,N3,ha,hb,hab',Option.bind_some,Bool.not_true,cond_false]
 erw [hbs]
 simp only[Option.bind_some]
 cases hh:EM (fun x:VM=>x.1) wt a
 ·simp only[Bool.not_false,cond_true,Fw]
  erw [NI (by omega) _ _]
  rw[LD (m:=(a,b,())) hh]
  rfl
 ·obtain⟨x,e1,e2,e3⟩:=LC (m:=(a,b,())) hh
  rw[e3]
  simp only[Bool.not_true,cond_false]
  have hlt:=(List.getElem?_eq_some_iff.1 e1).1
  have c:(0:Int)<=(((wt.takeWhile fun x=>decide (x.1<a)).length:Nat):Int)/\(((wt.takeWhile fun x=>decide (x.1<a)).length:Nat):Int)<((wt.length:Nat):Int):=⟨by omega,by simpa using hlt⟩
  simp only[c,and_self,if_true,Nat.zero_add,Int.toNat_natCast]
  erw [e1]
  simp only[Option.bind_some,show x.1=a from e2]
theorem vf {lk:List VM}(hl:lk.length<=1048576)(hv:Es (lk,())=some (true,()))(hu:I7 (·.1) lk){key id:Int}(hk:inB key 0 5=true)(hi:inB id 1 9=true)(ho:CO lk key=0\/CO lk key=id)(hpos:∀m∈lk,m.2.1≠0):
 Fg (lk,key,id,())=some (true,CA (·.1) lk (key,id,()),()):=by
 have hbs:AX (lk,key,(),())=some (((lk.takeWhile fun x=>decide (x.1<key)).length:Int),EM (fun x:VM=>x.1) lk key,()):=LG hl key (p:=fun x=>decide (x.1<key)) (q:=fun x=>x.1==key) (Qb (f:=fun x:VM=>x.1) hu key) (fun x _=>by
  obtain⟨n,e1,e2,e3⟩:=A12 x.1 key
  exact⟨n,by simp only[E5,e1,Option.bind_some],e2,e3⟩)
 unfold Fg
 simp only[QU hl,hv,N3,OY,hk,hi,Option.bind_some,Bool.not_true,cond_false]
 erw [hbs]
 simp only[Option.bind_some]
 cases hh:EM (fun x:VM=>x.1) lk key
 ·simp only[cond_false,Fx]
  erw [NI (by omega) _ _]
  rw[LD (m:=(key,id,())) hh]
  rfl
 ·obtain⟨x,e1,e2,e3⟩:=LC (m:=(key,id,())) hh
  obtain⟨hlt,e4⟩:=List.getElem?_eq_some_iff.1 e1
  have hx:x∈lk:=by rw[<-e4];exact List.getElem_mem hlt
  have e2':x.1=key:=e2
  have hown:CO lk key=x.2.1:=by
   unfold CO
   cases hf:lk.find? (fun m=>m.1==key)with
   |none=>exact absurd (List.find?_eq_none.1 hf x hx) (by simp[e2'])
   |some y=>
    have h1:=List.find?_some hf
    have h2:=List.mem_of_find?_eq_some hf
    simp only[beq_iff_eq]at h1
    obtain⟨i,hi,rfl⟩:=List.getElem_of_mem h2
    obtain⟨j,hj,rfl⟩:=List.getElem_of_mem hx
    by_cases hij:i=j
    ·subst hij;rfl
    ·rcases Nat.lt_or_gt_of_ne hij with h|h
     ·have:=List.pairwise_iff_getElem.1 hu i j hi hj h;simp only at this;omega
     ·have:=List.pairwise_iff_getElem.1 hu j i hj hi h;simp only at this;omega
  have hxi:x.2.1=id:=by
   rcases ho with h|h
   ·exact absurd (hown.symm.trans h) (hpos x hx)
   ·exact hown.symm.trans h
  have hxe:x=(key,id,()):=Prod.ext e2' (Prod.ext hxi rfl)
  have hse:lk.set (lk.takeWhile fun x=>decide (x.1<key)).length (key,id,())=lk:=by
   apply List.ext_getElem?
   intro i
   rw[List.getElem?_set]
   split
   ·rename_i h
    subst h
    simp only at e1
    simp only[hlt,if_true,e1,hxe]
   ·rfl
  rw[e3]
  simp only[cond_true]
  rw[hse]
  have e5:lAt lk (((lk.takeWhile fun x=>decide (x.1<key)).length:Nat):Int)=some x:=by
   rw[Ak (by simpa using hlt)]
   simpa using e4
  rw[e5]
  simp only[Option.bind_some,hxi,beq_self_eq_true]
end Go.Ab
end
section
namespace Go.Ab
theorem OkG.ltst {e:EG}(H:OkG e){key:Int}(hkey:inB key 0 5=true):∃(n:Nat) (hn:n<e.1.length) (v:VV),key=(n:Int)/\0<e.1[n].length/\e.1[n].length<=50/\e.1[n][e.1[n].length-1]?=some v/\Ew e.1 key=some v/\lAt e.1 key=some e.1[n]/\v∈e.1[n]:=by
 obtain⟨n,hn,e1,e2,e3⟩:=Uh H.gd.six hkey
 have hl:=H.gd.ok _ (List.getElem_mem hn)
 obtain⟨v,hv,_⟩:=((Kr _).1 hl.1).2.2
 have hne:e.1[n]≠[]:=by intro h;rw[h]at hv;cases hv
 have hpos:0<e.1[n].length:=List.length_pos_iff.2 hne
 have hv':e.1[n][e.1[n].length-1]?=some v:=by rw[<-List.getLast?_eq_getElem?];exact hv
 refine⟨n,hn,v,e1,hpos,hl.2,hv',?_,e2,List.mem_of_getElem? hv'⟩
 unfold Ew
 rw[e3];exact hv'
theorem Mb {e:EG}(H:OkG e){key:Int}(hkey:inB key 0 5=true):∃v,DD ((e.1,()),key,())=some (some v,())/\Ew e.1 key=some v:=by
 obtain⟨n,hn,v,e1,e2,e3,e4,e5,e6,e7⟩:=H.ltst hkey
 refine⟨v,?_,e5⟩
 unfold DD
 have h:lAt e.1[n] ((e.1[n].length:Int)-1)=some v:=by
  rw[show((e.1[n].length:Int)-1)=((e.1[n].length-1:Nat):Int) by omega,Ak (by omega)]
  rw[List.getElem?_eq_getElem (by omega)]at e4;exact e4
 simp only[e6,Option.bind_some,I6 (by omega:e.1[n].length<9223372036854775808),h]
theorem Rn {e:EG}(H:OkG e){key:Int}(hkey:inB key 0 5=true):∃(n j:Nat) (l:List VV) (v:VV),BS (key,e.1,())=some (some (n,j),e.1,())/\e.1[n]?=some l/\l[j]?=some v/\Ew e.1 key=some v:=by
 obtain⟨n,hn,v,e1,e2,e3,e4,e5,e6,e7⟩:=H.ltst hkey
 refine⟨n,e.1[n].length-1,e.1[n],v,?_,List.getElem?_eq_getElem hn,e4,e5⟩
 unfold BS
 have c1:(0:Int)<=key/\key<(e.1.length:Int):=by omega
 have c2:(0:Int)<=(e.1[n].length:Int)-1/\(e.1[n].length:Int)-1<(e.1[n].length:Int):=by omega
 have hk:key.toNat=n:=by omega
 have hj:((e.1[n].length:Int)-1).toNat=e.1[n].length-1:=by omega
 simp only[c1,and_self,if_true,hk,Nat.zero_add,List.getElem?_eq_getElem hn,Option.bind_some,I6 (by omega:e.1[n].length<9223372036854775808),c2,hj]
theorem uX {e:EG}(H:OkG e)(t:TX){key:Int}(hkey:inB key 0 5=true):
 EJ ((e.1,()),e.2.2.1,(t.1,t.2.1,t.2.2.1,t.2.2.2.1,t.2.2.2.2.1,t.2.2.2.2.2.1,t.2.2.2.2.2.2.1,t.2.2.2.2.2.2.2.1,t.2.2.2.2.2.2.2.2.1,()),key,())=some (Gc e.1 e.2.2.1 t key,()):=by
 obtain⟨v,h1,h2⟩:=Mb H hkey
 unfold EJ Gc
 simp only[Wv H.small.fk,h1,h2,Option.bind_some,crV,LA,bne]
 generalize (CO e.2.2.1 key==0)=b1
 generalize (CO e.2.2.1 key==t.1)=b2
 generalize (t.2.1==1)=b3
 generalize (t.2.1==2)=b4
 generalize (t.2.1==4)=b5
 generalize decide (v.2.2.1>t.2.2.2.1)=b6
 generalize decide (v.2.2.2.1>t.2.2.2.1)=b7
 cases b1<;>cases b2<;>cases b3<;>cases b4<;>cases b5<;>cases b6<;>cases b7<;>rfl
theorem YO {l:List Int}(hl:l.length<=1048576)(y:Int):Fj (l,y,())=some (decide (y∈l),()):=by
 unfold Fj IJ
 have e:=El (B:=fun v=>CK (l,y,(l.length:Int),()) v _ some) hl (p:=fun z=>y==z) (fun i h=>by
  unfold CK
  simp only[Ak h,Option.bind_some,decide_eq_true (by omega:(i:Int)<(l.length:Int)),cond_true,Am h (by omega)]
  cases y==l[i]<;>rfl) (by
  unfold CK
  simp only[Int.lt_irrefl,decide_false,cond_false])
 erw [e]
 simp only[Option.bind_some,X1,List.findIdx?_isSome]
 congr 2
 rw[Bool.eq_iff_iff]
 simp only[List.any_eq_true,decide_eq_true_eq,beq_iff_eq]
 constructor
 ·rintro⟨x,hx,rfl⟩;exact hx
 ·intro h;exact⟨y,h,rfl⟩
theorem Sa (wt:List VM):∀(n:Nat) (out:List Int) (x:Int),out≠[]->Hy wt n out x≠[]
 |0,out,x,h=>by simpa[Hy]using h
 |n+1,out,x,h=>by
  unfold Hy
  split
  ·exact h
  ·split
   ·simp
   ·exact Sa wt n _ _ (by simp)
theorem OD (wt:List VM):∀(n:Nat) (out:List Int) (x:Int),(Hy wt n out x).length<=out.length+n
 |0,out,x=>by simp[Hy]
 |n+1,out,x=>by
  unfold Hy
  split
  ·omega
  ·split
   ·simp
   ·rename_i y _ _
    have:=OD wt n (out++[y]) y
    simp at this;omega
theorem A02 {out:List Int}(hn:out.Nodup)(h:∀x∈out,inB x 1 9=true):out.length<=9:=by
 refine RX out [1,2,3,4,5,6,7,8,9] hn fun x hx=>?_
 have:=Bk.1 (h x hx)
 simp only[List.mem_cons,List.not_mem_nil,or_false]
 omega
theorem wd {wt:List VM}(hl:wt.length<=1048576)(hw:∀m∈wt,inB m.2.1 1 9=true):∀(n:Nat) (out:List Int) (x:Int),out≠[]->out.getLast?=some x->out.Nodup->(∀y∈out,inB y 1 9=true)->10<=out.length+n->
 ((AE (fun v=>Eh (wt,()) v _ some) (out,())).bind fun p=>Az p (fun p=>some ((p.1,()):List Int×Unit)) fun p=>some (p.2.1,()))=some (Hy wt n out x,()):=by
 intro n
 induction n with
 |zero=>
  intro out x h1 h2 h3 h4 h5
  have:=A02 h3 h4
  omega
 |succ n ih=>
  intro out x h1 h2 h3 h4 h5
  have h9:=A02 h3 h4
  have hpos:0<out.length:=List.length_pos_iff.2 h1
  have hlast:lAt out ((out.length:Int)-1)=some x:=by
   rw[show((out.length:Int)-1)=((out.length-1:Nat):Int) by omega,Ak (by omega)]
   rw[List.getLast?_eq_getElem?,List.getElem?_eq_getElem (by omega)]at h2
   exact h2
  have hix:=MI hl (some out,()) (p:=fun m=>m.1==x) (fun m _=>by simp only[He,Option.bind_some,I6 (by omega:out.length<9223372036854775808),hlast])
  rw[Bf]
  simp only[Eh,hix,Option.bind_some,vP]
  unfold Hy Ul
  rw[Nj]
  cases hf:wt.findIdx? (fun m=>m.1==x)with
  |none=>simp only[Option.isNone_none,cond_true,Option.bind_some,Az,Option.bind_none,Option.map_none]
  |some i=>
   obtain⟨hi,_⟩:=List.findIdx?_eq_some_iff_getElem.1 hf
   have hlen:(out++[wt[i].2.1]).length<=4398046511104:=by simp;omega
   simp only[Option.isNone_some,cond_false,fx,Ak hi,Option.bind_some,YO (by omega:out.length<=1048576),hlen,if_true,List.getElem?_eq_getElem hi,Option.map_some]
   by_cases hm:wt[i].2.1∈out
   ·simp only[hm,decide_true,cond_true,Option.bind_some,Az,if_true]
   ·simp only[hm,decide_false,cond_false,Option.bind_some,if_false]
    refine ih (out++[wt[i].2.1]) wt[i].2.1 (by simp) (by simp) ?_ ?_ (by simp;omega)
    ·rw[List.nodup_append]
     exact⟨h3,by simp,fun a ha b hb=>by rw[List.mem_singleton.1 hb];rintro rfl;exact hm ha⟩
    ·intro y hy
     rcases List.mem_append.1 hy with h|h
     ·exact h4 y h
     ·rw[List.mem_singleton.1 h];exact hw _ (List.getElem_mem hi)
theorem WH {wt:List VM}(h1:∀m∈wt,inB m.1 1 9=true/\inB m.2.1 1 9=true/\m.1≠m.2.1)(h2:I7 (·.1) wt){a b:Int}(ha:inB a 1 9=true)(hb:inB b 1 9=true)(hab:a≠b):ML (CA (·.1) wt (a,b,())):=by
 refine(J8 _).2 ⟨fun m hm=>?_,LB h2 _⟩
 rcases(Ig h2).1 hm with rfl|⟨h,_⟩
 ·exact⟨ha,hb,hab⟩
 ·exact h1 m h
theorem YK {e:EG}(H:OkG e){a b:Int}(ha:inB a 1 9=true)(hb:inB b 1 9=true)(hab:a≠b):G5 (e.2.2.2.1,a,b,())=some (Q0 e.2.2.2.1 a b,()):=by
 have hl:=H.wtLen
 have hw0:ML e.2.2.2.1:=(J8 _).2 ⟨H.wtA,H.wtU⟩
 have hw1:ML (CA (·.1) e.2.2.2.1 (a,b,())):=WH H.wtA H.wtU ha hb hab
 have hpl:(CA (·.1) e.2.2.2.1 (a,b,())).length<=1048576:=by have:=Pq (f:=fun x:VM=>x.1) e.2.2.2.1 (a,b,());omega
 have hs:=Wt (wt:=e.2.2.2.1) (by omega) ((IA (by omega)).trans (by rw[AC hw0])) H.wtU ha hb hab
 have hc:=wd (wt:=CA (·.1) e.2.2.2.1 (a,b,())) hpl (fun m hm=>(((J8 _).1 hw1).1 m hm).2.1) 10 [a] a (by simp) rfl (by simp) (by simpa using ha) (by simp)
 unfold G5 Q0
 simp only[hs,Option.bind_some,Bool.not_true,cond_false]
 unfold JH
 simp only[IA hpl,AC hw1,Bool.not_true,cond_false,N3,ha,Option.bind_some]
 erw [hc]
 simp only[Option.bind_some]
 have h1:=Sa (CA (·.1) e.2.2.2.1 (a,b,())) 10 [a] a (by simp)
 have h2:=OD (CA (·.1) e.2.2.2.1 (a,b,())) 10 [a] a
 generalize Hy (CA (·.1) e.2.2.2.1 (a,b,())) 10 [a] a=c at h1 h2 ⊢
 have hpos:0<c.length:=List.length_pos_iff.2 h1
 simp only[List.length_cons,List.length_nil]at h2
 have c1:(0:Int)<=(c.length:Int)-1/\(c.length:Int)-1<(c.length:Int):=by omega
 have hj:((c.length:Int)-1).toNat=c.length-1:=by omega
 simp only[I6 (by omega:c.length<9223372036854775808),c1,and_self,if_true,Nat.zero_add,hj,List.getLast?_eq_getElem?,List.getElem?_eq_getElem (by omega:c.length-1<c.length),Option.bind_some]
 rfl
end Go.Ab
end
section
namespace Go.Ab
theorem OkG.wrUp {e:EG}(H:OkG e){k:Nat}(hk:k<e.2.1.length):I7 (·.1) e.2.1[k].2.2.2.2.2.2.2.2.1:=
 ((KH _).1 ((D6 _).1 (H.txA _ (List.getElem_mem hk)).1).2.1).2
theorem kz {e:EG}(H:OkG e){k:Nat}(hk:k<e.2.1.length){key:Int}(hkey:inB key 0 5=true)(val:Int):
 BK (k,key,val,e.2.1,e.1,())=some (e.2.1.set k (O3 e.2.1[k] (mx e.2.1[k].2.2.2.2.1 (LA (Ew e.1 key))) (CA (·.1) e.2.1[k].2.2.2.2.2.2.2.2.1 (key,val,()))),e.1,()):=by
 obtain⟨n,j,l,v,h1,h2,h3,h4⟩:=Rn H hkey
 have hw:=(H.smT hk).2
 have hbs:AN (e.2.1[k].2.2.2.2.2.2.2.2.1,key,(),())=some (((e.2.1[k].2.2.2.2.2.2.2.2.1.takeWhile fun x=>decide (x.1<key)).length:Int),EM (fun x:VM=>x.1) e.2.1[k].2.2.2.2.2.2.2.2.1 key,()):=
  Ko hw key (p:=fun x=>decide (x.1<key)) (q:=fun x=>x.1==key) (Qb (f:=fun x:VM=>x.1) (H.wrUp hk) key) (fun x _=>by
   obtain⟨n,e1,e2,e3⟩:=A12 x.1 key
   exact⟨n,by simp only[CV,e1,Option.bind_some],e2,e3⟩)
 unfold BK
 simp only[List.getElem?_eq_getElem hk,Option.bind_some,hbs,RS hw,h1,h4,LA]
 cases hh:EM (fun x:VM=>x.1) e.2.1[k].2.2.2.2.2.2.2.2.1 key
 ·simp only[cond_false,Iz hk,Option.bind_some,Fa]
  erw [NI (by omega) _ _]
  rw[LD (m:=(key,val,())) hh]
  simp only[Option.bind_some,JV,Iz hk,h2,h3,List.length_set,and_self,if_true,Nat.le_refl,(by omega:8<9),O3]
 ·obtain⟨x,e1,e2,e3⟩:=LC (m:=(key,val,())) hh
  rw[e3]
  have hlt:=(List.getElem?_eq_some_iff.1 e1).1
  simp only at e1 hlt e2
  have c:(0:Int)<=(((e.2.1[k].2.2.2.2.2.2.2.2.1.takeWhile fun x=>decide (x.1<key)).length:Nat):Int)/\(((e.2.1[k].2.2.2.2.2.2.2.2.1.takeWhile fun x=>decide (x.1<key)).length:Nat):Int)<((e.2.1[k].2.2.2.2.2.2.2.2.1.length:Nat):Int):=⟨by omega,Int.ofNat_lt.2 hlt⟩
  simp only[cond_true,Iz hk,Option.bind_some,c,and_self,if_true,Nat.zero_add,Int.toNat_natCast,e1,JV,h2,h3,e2,O3,List.length_set]
theorem RA {s:List (List VV)}{lk:List VM}{t:TX}{key:Int}(h:Gc s lk t key=1):CO lk key≠0/\CO lk key≠t.1:=by
 unfold Gc at h
 cases h1:(CO lk key==0)
 ·cases h2:(CO lk key==t.1)
  ·exact⟨by simpa using h1,by simpa using h2⟩
  ·simp only[h1,h2,Bool.not_false,Bool.not_true,Bool.and_false,cond_false,Bool.false_or]at h
   revert h
   cases(t.2.1==2)<;>cases decide (crV (Ew s key)>t.2.2.2.1)<;>cases(t.2.1==4)<;>cases decide (LA (Ew s key)>t.2.2.2.1)<;>simp
 ·simp only[h1,Bool.not_true,Bool.false_and,Bool.and_false,cond_false,Bool.false_or]at h
  revert h
  cases(t.2.1==2)<;>cases decide (crV (Ew s key)>t.2.2.2.1)<;>cases(t.2.1==4)<;>cases decide (LA (Ew s key)>t.2.2.2.1)<;>simp
theorem PI {s:List (List VV)}{lk:List VM}{t:TX}{key:Int}(h:Gc s lk t key=0)(ht:(t.2.1==1||t.2.1==2)=true):CO lk key=0\/CO lk key=t.1:=by
 unfold Gc at h
 cases h1:(CO lk key==0)
 ·cases h2:(CO lk key==t.1)
  ·exfalso
   simp only[h1,h2,Bool.not_false,Bool.and_true,Bool.true_or]at h
   revert h ht
   cases(t.2.1==1)<;>cases(t.2.1==2)<;>simp
  ·exact .inr (by simpa using h2)
 ·exact .inl (by simpa using h1)
theorem WR {e:EG}(H:OkG e){key:Int}(h:CO e.2.2.1 key≠0):inB (CO e.2.2.1 key) 1 9=true:=by
 unfold CO at h ⊢
 cases hf:e.2.2.1.find? (fun m=>m.1==key)with
 |none=>rw[hf]at h;exact absurd rfl h
 |some m=>exact(H.lkA m (List.mem_of_find?_eq_some hf)).2
theorem OkG.idIn {e:EG}(H:OkG e){k:Nat}(hk:k<e.2.1.length):inB e.2.1[k].1 1 9=true:=((D6 _).1 (H.txA _ (List.getElem_mem hk)).1).2.2.1
theorem Wq {e:EG}(H:OkG e){k:Nat}(hk:k<e.2.1.length){key:Int}(hkey:inB key 0 5=true)(val:Int)(ce:Bool):
 Fs (k,key,val,Iv ce e)=some ((LX e k key val).1,Iv ce (LX e k key val).2):=by
 have hs:=H.small
 have hid:=H.idIn hk
 unfold Fs LX Iv
 simp only[List.getElem?_eq_getElem hk,Option.bind_some,uX H _ hkey,Wv hs.fk]
 cases hc:(Gc e.1 e.2.2.1 e.2.1[k] key==1)
 ·simp only[cond_false]
  cases hc0:(Gc e.1 e.2.2.1 e.2.1[k] key==0)
  ·simp only[bne,hc0,Bool.not_false,cond_true,IT hk hs.fk hs.fw,Option.bind_some,cond_false,Jt,FV]
  ·have hc0':Gc e.1 e.2.2.1 e.2.1[k] key=0:=by simpa using hc0
   simp only[bne,hc0,Bool.not_true,cond_false,cond_true,kz H hk hkey,Option.bind_some]
   have htl:G6 (e.2.1[k].2.1,())=some (e.2.1[k].2.1==1||e.2.1[k].2.1==2,()):=by
    unfold G6
    cases e.2.1[k].2.1==1<;>rfl
   simp only[htl,Option.bind_some]
   cases ht:(e.2.1[k].2.1==1||e.2.1[k].2.1==2)
   ·simp only[cond_false]
   ·simp only[cond_true,vf (lk:=e.2.2.1) hs.fk ((Mt hs.fk).trans (by rw[AC ((N6 _).2 ⟨H.lkA,H.lkU⟩)])) H.lkU hkey hid (PI hc0' ht) (fun m hm=>by have:=Bk.1 (H.lkA m hm).2;omega),Option.bind_some]
 ·have hc':Gc e.1 e.2.2.1 e.2.1[k] key=1:=by simpa using hc
  obtain⟨n0,n1⟩:=RA hc'
  have ho:=WR H n0
  have hab:e.2.1[k].1≠CO e.2.2.1 key:=fun h=>n1 h.symm
  simp only[cond_true,YK H hid ho hab,Option.bind_some]
  cases Q0 e.2.2.2.1 e.2.1[k].1 (CO e.2.2.1 key)
  ·simp only[cond_false,Wt hs.fw ((IA hs.fw).trans (by rw[AC ((J8 _).2 ⟨H.wtA,H.wtU⟩)])) H.wtU hid ho hab,Option.bind_some,hc']
  ·simp only[cond_true,IT hk hs.fk hs.fw,Option.bind_some,Jt,FV]
end Go.Ab
end
section
namespace Go.Ab
abbrev tup (t:TX):TX:=(t.1,t.2.1,t.2.2.1,t.2.2.2.1,t.2.2.2.2.1,t.2.2.2.2.2.1,t.2.2.2.2.2.2.1,t.2.2.2.2.2.2.2.1,t.2.2.2.2.2.2.2.2.1,())
theorem OkG.rdIn {e:EG}(H:OkG e){k:Nat}(hk:k<e.2.1.length):NT e.2.1[k].2.2.2.2.2.2.2.1:=((D6 _).1 (H.txA _ (List.getElem_mem hk)).1).1
theorem OkG.wrIn {e:EG}(H:OkG e){k:Nat}(hk:k<e.2.1.length):∀m∈e.2.1[k].2.2.2.2.2.2.2.2.1,inB m.1 0 5=true:=fun m hm=>
 (((KH _).1 ((D6 _).1 (H.txA _ (List.getElem_mem hk)).1).2.1).1 m hm).1
theorem uZ {e:EG}(H:OkG e){k:Nat}(hk:k<e.2.1.length):Ei ((e.1,()),tup e.2.1[k],())=some (rlP e.1 e.2.1[k],()):=by
 have hsm:=H.smT hk
 have hwr:=H.wrIn hk
 unfold Ei rlP
 simp only
 generalize hr:e.2.1[k].2.2.2.2.2.2.2.1=rd at*
 generalize hw:e.2.1[k].2.2.2.2.2.2.2.2.1=wr at*
 have hr1:rd.length<=1048576:=by have:=(H.smT hk).1;rw[hr]at this;exact this
 have hw1:wr.length<=1048576:=by have:=(H.smT hk).2;rw[hw]at this;exact this
 refine Gi (l:=rd) (f:=fun n m=>mx n m.2.1) (X:=fun n=>(AE (fun v=>BL (wr,(wr.length:Int),e.1,()) v _ some) (n,0,())).bind fun p=>some (p.1,())) 0 (fun i h n=>?_) (fun n=>⟨(n,()),?_,rfl⟩) ?_
 ·unfold Cj
  simp only[Ak h,Option.bind_some]
  rw[decide_eq_true (by omega),Am h (by omega)];rfl
 ·unfold Cj
  simp only
  rw[decide_eq_false (by omega)];rfl
 ·refine Gi (l:=wr) (f:=fun n m=>mx n (LA (Ew e.1 m.1))) (X:=fun n=>some (n,())) _ (fun i h n=>?_) (fun n=>⟨(n,()),?_,rfl⟩) rfl
  ·obtain⟨v,h1,h2⟩:=Mb H (hwr _ (List.getElem_mem h))
   unfold BL
   simp only[Ak h,Option.bind_some,h1,h2,LA]
   rw[decide_eq_true (by omega),Am h (by omega)];rfl
  ·unfold BL
   simp only
   rw[decide_eq_false (by omega)];rfl
theorem RQ {e:EG}(H:OkG e){k:Nat}(hk:k<e.2.1.length)(ha:e.2.1[k].2.2.1=1)(st:Int):Ey ((e.1,()),tup e.2.1[k],st,())=some (loP e.1 e.2.1[k],hiP e.1 e.2.1[k] st,()):=by
 unfold Ey
 simp only[uZ H hk,v6 H.small.fs H.gd.six _ (H.smT hk) (H.rdIn hk) ((H.txA _ (List.getElem_mem hk)).2.2.2 ha),Option.bind_some,loP,hiP]
theorem YI {e:EG}(H:OkG e){k:Nat}(hk:k<e.2.1.length):Ez ((e.1,()),tup e.2.1[k],())=some (Ni e.1 e.2.1[k],()):=by
 unfold Ez Ni
 have hc:∀x∈e.2.1[k].2.2.2.2.2.2.2.2.1,CR (x,some (e.1,()),())=some ((match e.1[x.1.toNat]? with|some l=>decide (l.length>=50)|none=>false),()):=fun x hx=>by
  obtain⟨n,hn,e1,e2,e3⟩:=Uh H.gd.six (H.wrIn hk x hx)
  have h50:=(H.gd.ok _ (List.getElem_mem hn)).2
  unfold CR
  simp only[Option.bind_some,e2,e3]
  congr 2
  rw[Bool.eq_iff_iff,beq_iff_eq,decide_eq_true_eq];omega
 simp only[Lf (H.smT hk).2 (some (e.1,()),()) hc,Option.bind_some]<;>rfl
theorem va {e:EG}(H:OkG e){k:Nat}(hk:k<e.2.1.length):Ej ((e.1,()),tup e.2.1[k],())=some (Mp e.1 e.2.1[k],()):=by
 unfold Ej Mp
 have hc:∀x∈e.2.1[k].2.2.2.2.2.2.2.2.1,C5 (x,some (e.1,()),some (tup e.2.1[k]),())=some (decide (crV (Ew e.1 x.1)>e.2.1[k].2.2.2.1),()):=fun x hx=>by
  obtain⟨v,h1,h2⟩:=Mb H (H.wrIn hk x hx)
  unfold C5
  simp only[Option.bind_some,h1,h2,crV]
 simp only[Kd (H.smT hk).2 (some (e.1,()),some (tup e.2.1[k]),()) hc,Option.bind_some]
 cases e.2.1[k].2.2.2.2.2.2.2.2.1.any fun x=>decide (crV (Ew e.1 x.1)>e.2.1[k].2.2.2.1)<;>cases e.2.1[k].2.1==2<;>cases e.2.1[k].2.1==4<;>rfl
theorem zR {s:List (List VV)}{n:Nat}(h:stOK s n)(hn:n<=1000){m:VM}(hm:inB m.1 0 5=true)(hx:Hk s m)(st:Int):
 ∃(a j:Nat) (l:List VV) (v:VV),Gr (m.1,m.2.1,s,())=some (some (a,j),s,())/\s[a]?=some l/\l[j]?=some v/\Mx st s m=s.set a (l.set j (Rh st v)):=by
 obtain⟨k,hk,hlt,l,e1,e2,e3,hl⟩:=K3 h.1 hm
 obtain⟨l',j,x1,x2⟩:=hx
 rw[e3]at x1;obtain rfl:l=l':=(by simpa using x1)
 have hj:=PD x2
 have hsm:=(h.small hn).2 _ hl
 refine⟨k,j,l,l[j],?_,e1,List.getElem?_eq_getElem hj,?_⟩
 ·unfold Gr
  have c1:(0:Int)<=m.1/\m.1<(s.length:Int):=by omega
  have hkn:m.1.toNat=k:=by omega
  have hjlt:¬((j:Int)<0):=by omega
  have c2:(0:Int)<=(j:Int)/\(j:Int)<(l.length:Int):=by omega
  simp only[c1,and_self,if_true,hkn,Nat.zero_add,e1,Option.bind_some,QQ hsm,x2,fx,decide_eq_false hjlt,cond_false,c2,Int.toNat_natCast]
 ·unfold Mx
  have hkn:m.1.toNat=k:=by omega
  simp only[e3,x2,List.getElem?_eq_getElem hj,hkn]
theorem A5a {s:List (List VV)}{n:Nat}(h:stOK s n)(hn:n<=1000){m:VM}(hm:inB m.1 0 5=true):
 ∃(a:Nat) (l:List VV) (v:VV),m.1=(a:Int)/\a<s.length/\BS (m.1,s,())=some (some (a,l.length-1),s,())/\s[a]?=some l/\l[l.length-1]?=some v/\l.length<=50+n/\Jo s m=some l:=by
 obtain⟨k,hk,hlt,l,e1,e2,e3,hl⟩:=K3 h.1 hm
 have h5:=h.2 l hl
 refine⟨k,l,l[l.length-1],hk,hlt,?_,e1,List.getElem?_eq_getElem (by omega),h5.2,e3⟩
 unfold BS
 have c1:(0:Int)<=m.1/\m.1<(s.length:Int):=by omega
 have c2:(0:Int)<=(l.length:Int)-1/\(l.length:Int)-1<(l.length:Int):=by omega
 have hkn:m.1.toNat=k:=by omega
 have hj:((l.length:Int)-1).toNat=l.length-1:=by omega
 simp only[c1,and_self,if_true,hkn,Nat.zero_add,e1,Option.bind_some,I6 (by omega:l.length<9223372036854775808),c2,hj]
theorem Ro {e:EG}(H:OkG e){k:Nat}(hk:k<e.2.1.length)(ha:e.2.1[k].2.2.1=1)(st:Int)(ce:Bool)(st':Int):
 DL (k,st,ce,st',e.1,e.2.1,e.2.2.1,e.2.2.2.1,())=some (ce,st',P8 e.1 e.2.1[k] st (hiP e.1 e.2.1[k] st),e.2.1.set k (Ms e.2.1[k] (loP e.1 e.2.1[k]) (hiP e.1 e.2.1[k] st) st),e.2.2.1,e.2.2.2.1,()):=by
 have hsm:=H.smT hk
 have hwr:=H.wrIn hk
 have hrd:=H.rdIn hk
 have hx:=(H.txA _ (List.getElem_mem hk)).2.2.2 ha
 have hwl:=QV ((D6 _).1 (H.txA _ (List.getElem_mem hk)).1).2.1
 unfold DL P8
 simp only[List.getElem?_eq_getElem hk,Option.bind_some,RQ H hk ha,Iz hk,JV,List.length_set,ge_iff_le,Ms]
 generalize loP e.1 e.2.1[k]=lo
 generalize hiP e.1 e.2.1[k] st=hi
 have hk':∀t:TX,k<(e.2.1.set k t).length:=fun t=>by simpa using hk
 obtain⟨f1,f2⟩:=Mm (l:=e.2.1[k].2.2.2.2.2.2.2.1) (f:=Mx st) (Inv:=fun s i=>stOK s 0/\∀m∈e.2.1[k].2.2.2.2.2.2.2.1,Hk s m) (n0:=e.1)
  (B:=fun v=>Cb (k,st,k,(e.2.1[k].2.2.2.2.2.2.2.1.length:Int),ce,st',e.2.1.set k (e.2.1[k].1,e.2.1[k].2.1,2,e.2.1[k].2.2.2.1,lo,hi,st,e.2.1[k].2.2.2.2.2.2.2.1,e.2.1[k].2.2.2.2.2.2.2.2.1,()),e.2.2.1,e.2.2.2.1,()) v _ some)
  (fun i h s hI=>by
    obtain⟨_,hm,_⟩:=hrd i h
    obtain⟨a,j,l,v,h1,h2,h3,h4⟩:=zR hI.1 (by omega) hm (hI.2 _ (List.getElem_mem h)) st
    have c:(0:Int)<=(i:Int)/\(i:Int)<(e.2.1[k].2.2.2.2.2.2.2.1.length:Int):=by omega
    unfold Cb
    simp only[decide_eq_true c.2,decide_true,cond_true,Iz hk,Option.bind_some,c,and_self,if_true,Nat.zero_add,Int.toNat_natCast,List.getElem?_eq_getElem h,h1,h2,h3,Am h (by have:=hsm.1;omega),h4,Rh])
  (fun i h s hI=>⟨RE st hI.1,fun m hm=>PE st (hI.2 m hm)⟩)
  ⟨H.st.stOK,hx⟩
  (fun s=>by
    unfold Cb
    simp only[Int.lt_irrefl,decide_false,cond_false])
 erw [f1]
 simp only[Option.bind_some,Iz hk]
 obtain⟨g1,g2⟩:=Mm (l:=e.2.1[k].2.2.2.2.2.2.2.2.1) (f:=OH st e.2.1[k].1 hi) (Inv:=fun s i=>stOK s i) (n0:=e.2.1[k].2.2.2.2.2.2.2.1.foldl (Mx st) e.1)
  (B:=fun v=>Ca (k,st,k,(e.2.1[k].2.2.2.2.2.2.2.2.1.length:Int),ce,st',e.2.1.set k (e.2.1[k].1,e.2.1[k].2.1,2,e.2.1[k].2.2.2.1,lo,hi,st,e.2.1[k].2.2.2.2.2.2.2.1,e.2.1[k].2.2.2.2.2.2.2.2.1,()),e.2.2.1,e.2.2.2.1,()) v _ some)
  (fun i h s hI=>by
    obtain⟨a,l,v,h0,h5,h1,h2,h3,h4,h6⟩:=A5a hI (by omega) (hwr _ (List.getElem_mem h))
    have c:(0:Int)<=(i:Int)/\(i:Int)<(e.2.1[k].2.2.2.2.2.2.2.2.1.length:Int):=by omega
    have c3:(0:Int)<=(a:Int)/\(a:Int)<(s.length:Int):=by omega
    have c4:l.length+1<=879609302220:=by omega
    rw[h0]at h1
    unfold Ca OH
    simp only[decide_eq_true c.2,decide_true,cond_true,Iz hk,Option.bind_some,c,and_self,if_true,Nat.zero_add,Int.toNat_natCast,List.getElem?_eq_getElem h,h0,h1,h2,h3,h6,Am h (by have:=hsm.2;omega),ln,List.length_set,c3.1,c3.2,true_and,Iz h5,JV,List.length_append,List.length_cons,List.length_nil,c4,Nat.le_refl,Nat.zero_lt_one])
  (fun i h s hI=>RD st _ hi hI)
  f2.1
  (fun s=>by
    unfold Ca
    simp only[Int.lt_irrefl,decide_false,cond_false])
 erw [g1]
 rfl
end Go.Ab
end
section
namespace Go.Ab
theorem U0 {e:EG}(H:OkG e){k:Nat}(hk:k<e.2.1.length)(ha:e.2.1[k].2.2.1=1)(ce:Bool):
 EL (k,Iv ce e)=some ((Ip ce e k).1,Iv ce (Ip ce e k).2):=by
 have hs:=H.small
 have hst0:=H.stamp0
 have hst1:=H.stamp
 have hkset:∀t,k<(e.2.1.set k t).length:=fun t=>by simpa using hk
 unfold EL Ip Iv
 simp only[List.getElem?_eq_getElem hk,Option.bind_some,va H hk,bne]
 cases hc:(Mp e.1 e.2.1[k]==0)
 ·simp only[Bool.not_false,cond_true,IT hk hs.fk hs.fw,Option.bind_some,Jt,FV]
 ·simp only[Bool.not_true,cond_false]
  cases h9:(e.2.2.2.2==999)
  ·have hw:IntKind.i64.wrap (e.2.2.2.2+1)=e.2.2.2.2+1:=De (by omega) (by omega)
   simp only[cond_false,hw,RQ H hk ha,Option.bind_some,YI H hk,Ro H hk ha,IT hk hs.fk hs.fw,RR (hkset _) hs.fk hs.fw]
   cases ce
   ·simp only[cond_false,Bool.false_and,Bool.false_or]
    cases Ni e.1 e.2.1[k]
    ·simp[Jt,Ms]
    ·simp only[cond_true,Jt,FV,Option.bind_some]
   ·simp only[cond_true,Bool.true_and]
    cases decide (loP e.1 e.2.1[k]>=hiP e.1 e.2.1[k] (e.2.2.2.2+1))
    ·simp only[cond_false,Bool.false_or]
     cases Ni e.1 e.2.1[k]
     ·simp[Jt,Ms]
     ·simp only[cond_true,Jt,FV,Option.bind_some]
    ·simp only[cond_true,Bool.true_or,Jt,FV,Option.bind_some]
  ·simp only[cond_true]
theorem WL {id sc st:Int}(hid:inB id 1 9=true)(hsc:inB sc 1 4=true)(hst:inB st 0 999=true):LH (Mu id sc st)=true:=by
 rw[D6]
 refine⟨fun i hi=>absurd hi (Nat.not_lt_zero _),fun i hi=>absurd hi (Nat.not_lt_zero _),hid,hsc,hst,by show inB 1 1 3=true;decide,by show inB 0 0 999=true;decide,by show inB 1000 1 1000=true;decide,?_,by show inB 0 0 999=true;decide,Nat.zero_le _⟩
 show(1:Int)=2↔(0:Int)>0
 omega
theorem Xh {e:EG}(H:OkG e)(id:Int):(e.2.1.any fun t=>t.1==id)=EM (fun t:TX=>t.1) e.2.1 id:=by
 rw[Bool.eq_iff_iff,OA H.txU,List.any_eq_true]
 simp only[beq_iff_eq]
theorem WA {e:EG}(H:OkG e){id sc:Int}(hid:inB id 1 9=true)(hsc:inB sc 1 4=true)(a b c d:Int)(ce:Bool):
 Ft (a,id,sc,b,c,d,Iv ce e)=some ((KV e id sc).1,ce,(KV e id sc).2.2.2.2.2,(KV e id sc).2.1,(KV e id sc).2.2.2.1,(KV e id sc).2.2.2.2.1,(KV e id sc).2.2.1,()):=by
 have hs:=H.small
 have hst:inB e.2.2.2.2 0 999=true:=Bk.2 ⟨H.stamp0,H.stamp⟩
 have hT:okT id sc 1 e.2.2.2.2 0 1000 0 [] []=true:=WL hid hsc hst
 have hbs:AU (e.2.1,id,(),())=some (((e.2.1.takeWhile fun x=>decide (x.1<id)).length:Int),EM (fun x:TX=>x.1) e.2.1 id,()):=
  Lg hs.fl id (p:=fun x=>decide (x.1<id)) (q:=fun x=>x.1==id) (Qb (f:=fun x:TX=>x.1) H.txU id) (fun x _=>by
   obtain⟨n,e1,e2,e3⟩:=A12 x.1 id
   exact⟨n,by simp only[DM,e1,Option.bind_some],e2,e3⟩)
 have h6:((e.2.1.length:Int)==6)=(e.2.1.length==6):=by rw[Bool.eq_iff_iff,beq_iff_eq,beq_iff_eq];omega
 unfold Ft KV Iv
 simp only[hbs,Option.bind_some,Xh H,h6]
 cases hh:EM (fun x:TX=>x.1) e.2.1 id
 ·simp only[cond_false,Bool.false_or]
  cases h7:(e.2.1.length==6)
  ·have hn:Fo (id,sc,e.2.2.2.2,())=some (id,sc,1,e.2.2.2.2,0,1000,0,true,()):=by
    unfold Fo
    simp only[jq (rd:=[]) (wr:=[]) (Nat.zero_le _) (Nat.zero_le _),hT,Option.bind_some,Bool.not_true,cond_false]
   simp only[cond_false,hn,Option.bind_some,Dn]
   erw [NI (by have:=hs.fl;omega) _ _]
   rw[LD (m:=Mu id sc e.2.2.2.2) hh]
   rfl
  ·simp only[cond_true]
 ·simp only[cond_true,Bool.true_or]
theorem w8 {e:EG}(H:OkG e)(id:Int):(DY e.2.1 id=true/\∃(k:Nat) (hk:k<e.2.1.length),e.2.1.findIdx? (fun t=>t.1==id)=some k/\e.2.1[k].2.2.1=1/\e.2.1[k].1=id)\/DY e.2.1 id=false:=by
 cases h:DY e.2.1 id with
 |false=>exact .inr rfl
 |true=>
  left
  refine⟨rfl,?_⟩
  obtain⟨t,ht,h1,h2⟩:=(K5 H.txU id).1 h
  obtain⟨k,hk,rfl⟩:=List.getElem_of_mem ht
  exact⟨k,hk,by rw[<-h1];exact jI H.txU hk,h2,h1⟩
def YS (ce:Bool)(r:Int×List Int×EG):Int×Bool×Int×List (List VV)×List TX×List VM×List VM×List Int×Unit:=
 (r.1,ce,r.2.2.2.2.2.2,r.2.2.1,r.2.2.2.1,r.2.2.2.2.1,r.2.2.2.2.2.1,r.2.1,())
theorem QX (o:OPt):MM o=true↔inB o.1 1 6=true/\inB o.2.1 1 9=true/\(bif o.1==1 then inB o.2.2.1 1 4 else o.2.2.1==0)=true/\(bif o.1==2||o.1==3||o.1==4 then inB o.2.2.2.1 0 5 else o.2.2.2.1==0)=true/\(bif o.1==4 then inB o.2.2.2.2.1 o.2.2.2.1 5 else o.2.2.2.2.1==0)=true/\(bif o.1==3 then inB o.2.2.2.2.2.1 (-1) 99 else o.2.2.2.2.2.1==0)=true:=by
 unfold MM
 simp only[Bool.and_eq_true,and_assoc]
theorem YF {e:EG}(H:OkG e){o:OPt}(ho:MM o=true)(ce:Bool):
 G8 (o.1,o.2.1,o.2.2.1,o.2.2.2.1,o.2.2.2.2.1,o.2.2.2.2.2.1,Iv ce e)=some (YS ce (O1 ce e o)):=by
 have hs:=H.small
 obtain⟨o1,o2,o3,o4,o5,o6⟩:=(QX o).1 ho
 unfold G8 O1
 cases h1:(o.1==1)
 ·simp only[cond_false]
  have hact:=w8 H o.2.1
  rcases hact with⟨ha,k,hk,hf,h2,h3⟩|ha
  ·have hw:=H.wake o.2.1
   have hc:(0:Int)<=(k:Int)/\(k:Int)<(e.2.1.length:Int):=by omega
   have hwk:=YE (l:=e.2.2.2.1) hs.fw o
   simp only[Iv,NB hs.fl,ha,Bool.not_true,cond_false,cond_true,Wx hs.fl,hf,fx,Option.bind_some,hc,and_self,if_true,OZ hs.fw,Nat.zero_add,Int.toNat_natCast]
   erw [hwk]
   simp only[Option.bind_some]
   have hE:∀{e':EG},(ce,e'.2.2.2.2,e'.1,e'.2.1,e'.2.2.1,e'.2.2.2.1,())=Iv ce e':=rfl
   have kR:=QP hw (k:=k) hk h2 (lo:=o.2.2.2.1) (hi:=o.2.2.2.1) (ce:=ce)
   have kS:=QP hw (k:=k) hk h2 (lo:=o.2.2.2.1) (hi:=o.2.2.2.2.1) (ce:=ce)
   have kW:=fun h=>Wq hw (k:=k) hk (key:=o.2.2.2.1) h o.2.2.2.2.2.1 ce
   have kC:=U0 hw (k:=k) hk h2 ce
   simp only[Iv]at kR kS kW kC
   cases h4:(o.1==2)
   ·simp only[cond_false]
    cases h5:(o.1==4)
    ·simp only[cond_false]
     cases h6:(o.1==3)
     ·simp only[cond_false]
      cases h7:(o.1==5)
      ·simp only[cond_false,IT (wt:=wkW e.2.2.2.1 o.2.1) hk hs.fk hw.small.fw,Option.bind_some,List.getElem?_eq_getElem hk,YS,Jt,FV]
      ·simp only[cond_true]
       erw [kC]
       simp only[Option.bind_some,YS]
     ·simp only[h6,Bool.or_true,Bool.true_or,cond_true]at o4
      simp only[cond_true]
      erw [kW o4]
      simp only[Option.bind_some,YS]
    ·simp only[h5,Bool.or_true,cond_true]at o4 o5
     rw[Bk]at o4 o5
     simp only[cond_true]
     erw [kS o4.1 (by omega) o5.2]
     simp only[Option.bind_some,YS]
   ·simp only[h4,Bool.true_or,cond_true]at o4
    rw[Bk]at o4
    simp only[cond_true]
    erw [kR o4.1 (by omega) o4.2]
    have hn:(o.2.2.2.1-o.2.2.2.1+1).toNat=1:=by omega
    simp only[Option.bind_some,YS,hn]
  ·simp only[Iv,NB hs.fl,ha,Bool.not_false,cond_true,Option.bind_some,cond_false]
   cases e.2.1.findIdx? fun t=>t.1==o.2.1<;>rfl
 ·simp only[h1,cond_true]at o3
  simp only[cond_true,Iv]
  have hb:=WA H o2 o3 o.1 o.2.2.2.1 o.2.2.2.2.1 o.2.2.2.2.2.1 ce
  simp only[Iv]at hb
  rw[hb]
  rfl
end Go.Ab
end
section
namespace Go.Ab
theorem A7f (d:Int):(0==d)=(d==0):=by rw[Bool.eq_iff_iff,beq_iff_eq,beq_iff_eq];exact⟨fun h=>h.symm,fun h=>h.symm⟩
theorem A2p (a:Int):a=1\/a=2\/a=3\/a=4\/a=5\/a=6\/((a==1)=false/\(a==2)=false/\(a==3)=false/\(a==4)=false/\(a==5)=false/\(a==6)=false/\inB a 1 6=false):=by
 by_cases h1:a=1
 ·exact .inl h1
 by_cases h2:a=2
 ·exact .inr (.inl h2)
 by_cases h3:a=3
 ·exact .inr (.inr (.inl h3))
 by_cases h4:a=4
 ·exact .inr (.inr (.inr (.inl h4)))
 by_cases h5:a=5
 ·exact .inr (.inr (.inr (.inr (.inl h5))))
 by_cases h6:a=6
 ·exact .inr (.inr (.inr (.inr (.inr (.inl h6)))))
 refine .inr (.inr (.inr (.inr (.inr (.inr ⟨by simpa using h1,by simpa using h2,by simpa using h3,by simpa using h4,by simpa using h5,by simpa using h6,?_⟩)))))
 cases h:inB a 1 6 with
 |false=>rfl
 |true=>have:=Bk.1 h;omega
theorem YD (x:Int):FM (x,())=some (inB x 1 4,()):=by simp[FM,J6]
theorem v7 (o:OPt):Im (o,())=some (MM o,()):=by
 obtain⟨a,b,c,d,f,g,u⟩:=o
 unfold Im MM
 simp only[YD,J6,N3,OY,Pu,Option.bind_some]
 generalize hb:inB b 1 9=b'
 generalize hd:inB d 0 5=d'
 generalize hg:inB g (-1) 99=g'
 generalize hf:inB f d 5=f'
 generalize hc:inB c 1 4=c'
 generalize (c==0)=c0
 generalize (d==0)=d0
 generalize (f==0)=f0
 generalize (g==0)=g0
 rcases A2p a with rfl|rfl|rfl|rfl|rfl|rfl|⟨h1,h2,h3,h4,h5,h6,h7⟩
 ·simp only[show inB 1 1 6=true from rfl,show((1:Int)==1)=true from rfl,show((1:Int)==2)=false from rfl,show((1:Int)==3)=false from rfl,show((1:Int)==4)=false from rfl,cond_true,cond_false,Bool.or_false]
  cases b'<;>cases c'<;>cases d0<;>cases f0<;>cases g0<;>rfl
 ·simp only[show inB 2 1 6=true from rfl,show((2:Int)==1)=false from rfl,show((2:Int)==2)=true from rfl,show((2:Int)==3)=false from rfl,show((2:Int)==4)=false from rfl,cond_true,cond_false,Bool.or_false]
  cases b'<;>cases c0<;>cases d'<;>cases f0<;>cases g0<;>rfl
 ·simp only[show inB 3 1 6=true from rfl,show((3:Int)==1)=false from rfl,show((3:Int)==2)=false from rfl,show((3:Int)==3)=true from rfl,show((3:Int)==4)=false from rfl,cond_true,cond_false,Bool.or_false]
  cases b'<;>cases c0<;>cases d'<;>cases f0<;>cases g'<;>rfl
 ·simp only[show inB 4 1 6=true from rfl,show((4:Int)==1)=false from rfl,show((4:Int)==2)=false from rfl,show((4:Int)==3)=false from rfl,show((4:Int)==4)=true from rfl,cond_true,cond_false,Bool.or_false]
  cases b'<;>cases c0<;>cases d'<;>cases f'<;>cases g0<;>rfl
 ·simp only[show inB 5 1 6=true from rfl,show((5:Int)==1)=false from rfl,show((5:Int)==2)=false from rfl,show((5:Int)==3)=false from rfl,show((5:Int)==4)=false from rfl,cond_true,cond_false,Bool.or_false]
  cases b'<;>cases c0<;>cases d0<;>cases f0<;>cases g0<;>rfl
 ·simp only[show inB 6 1 6=true from rfl,show((6:Int)==1)=false from rfl,show((6:Int)==2)=false from rfl,show((6:Int)==3)=false from rfl,show((6:Int)==4)=false from rfl,cond_true,cond_false,Bool.or_false]
  cases b'<;>cases c0<;>cases d0<;>cases f0<;>cases g0<;>rfl
 ·simp only[h1,h2,h3,h4,h7,cond_true,cond_false,Bool.false_and]
theorem uR (o:OPt):Ic (o,())=some (MM o,()):=by
 obtain⟨a,b,c,d,f,g,u⟩:=o
 unfold Ic MM
 simp only[Eu,Option.bind_some,beq_self_eq_true,Bool.true_and,Bool.and_true,A7f]
 have hd0:(d==0)=true->inB d 0 5=true:=fun h=>by rw[beq_iff_eq]at h;subst h;rfl
 have hg0:(g==0)=true->inB g (-1) 99=true:=fun h=>by rw[beq_iff_eq]at h;subst h;rfl
 generalize hb:inB b 1 9=b'
 generalize hd:inB d 0 5=d' at hd0
 generalize hg:inB g (-1) 99=g' at hg0
 generalize hf:inB f d 5=f'
 generalize hc:inB c 1 4=c'
 generalize (c==0)=c0
 generalize (d==0)=d0 at hd0
 generalize (f==0)=f0
 generalize (g==0)=g0 at hg0
 rcases A2p a with rfl|rfl|rfl|rfl|rfl|rfl|⟨h1,h2,h3,h4,h5,h6,h7⟩
 all_goals first
  |(simp only[h1,h2,h3,h4,h5,h6,h7,cond_true,cond_false,Bool.false_and];done)
  |(clear hb hd hg hf hc
    cases b'<;>cases c0<;>cases c'<;>cases d0<;>cases d'<;>cases f0<;>cases f'<;>cases g0<;>cases g'<;>first|rfl|(exact absurd (hd0 rfl) (by decide))|(exact absurd (hg0 rfl) (by decide)))
theorem uY {e:EG}(hs:SmallE e.1 e.2.1 e.2.2.1 e.2.2.2.1)(ce:Bool)(o:OPt):
 Ek ((ce,(e.1,()),e.2.1,e.2.2.1,e.2.2.2.1,e.2.2.2.2,()),o,())=bif okE e.1 e.2.1 e.2.2.1 e.2.2.2.1 e.2.2.2.2&&MM o then(let r:=O1 ce e o;some (ce,r.2.2.2.2.2.2,r.1,r.2.2.1,r.2.2.2.1,r.2.2.2.2.1,r.2.2.2.2.2.1,r.2.1,()))else some (ce,e.2.2.2.2,6,e.1,e.2.1,e.2.2.1,e.2.2.2.1,[],()):=by
 unfold Ek
 have hop:=v7 o
 simp only[Wy hs,zP hs,Option.bind_some]
 cases hE:okE e.1 e.2.1 e.2.2.1 e.2.2.2.1 e.2.2.2.2
 ·simp only[Bool.not_false,cond_true,Bool.false_and,cond_false]
 ·simp only[Bool.not_true,cond_false,Bool.true_and]
  erw [hop]
  simp only[Option.bind_some]
  cases ho:MM o
  ·simp only[Bool.not_false,cond_true,cond_false]
  ·simp only[Bool.not_true,cond_false,cond_true]
   have hst:=YF ((U7 e).1 hE) ho ce
   simp only[Iv]at hst
   erw [hst]
   rfl
end Go.Ab
end
section
namespace Go.Ab
theorem slA {α:Type}{l:List α}{i:Nat}(h:i<=l.length):IZ l 0 (i:Int)=some (l.take i):=by
 unfold IZ
 rw[if_pos ⟨Int.le_refl _,by omega,by omega⟩]
 simp
theorem slB {α:Type}{l:List α}{i:Nat}(h:i<=l.length):IZ l (i:Int) ((l.length:Nat):Int)=some (l.drop i):=by
 unfold IZ
 rw[if_pos ⟨by omega,by omega,by omega⟩]
 simp only[Int.toNat_natCast]
 rw[List.take_of_length_le (by simp)]
theorem A6a {α:Type}{l:List α}{i:Nat}:CX l (some (0,Int.toNat (i:Int)-Int.toNat 0))=l.take i:=by simp[CX]
theorem A69 {α:Type}{l:List α}{i:Nat}:CX l (some (0+Int.toNat (i:Int),Int.toNat ((l.length:Nat):Int)-Int.toNat (i:Int)))=l.drop i:=by
 simp only[CX,Int.toNat_natCast,Nat.zero_add]
 exact List.take_of_length_le (by simp)
theorem ll {α:Type}{l:List α}{p:α->Bool}:∀{i:Nat} (h:i<l.length),(∀j (hj:j<l.length),j<i->p l[j]=true)->p l[i]=false->(l.takeWhile p).length=i:=by
 induction l with
 |nil=>intro i h;exact absurd h (Nat.not_lt_zero _)
 |cons a l ih=>
  intro i h h1 h2
  cases i with
  |zero=>
   have h2':p a=false:=h2
   simp[List.takeWhile_cons,h2']
  |succ i=>
   have h0:p a=true:=h1 0 (by simp) (by omega)
   rw[List.takeWhile_cons,h0]
   simp only[if_true,List.length_cons]
   rw[ih (i:=i) (by simpa using h) (fun j hj hji=>h1 (j+1) (by simp;omega) (by omega)) h2]
theorem N1 {α τ:Type}{l:List α}{p:α->Bool}(hn:l.length<=1048576){B:Int×Unit->Option ((Int×Unit) ⊕ ((Int×Unit) ⊕ (Int×Unit)))}
 (hB:∀i (h:i<l.length),B ((i:Int),())=some (bif p l[i]then .inl (((i+1:Nat):Int),())else .inr (.inl ((i:Int),()))))(hE:B ((l.length:Int),())=some (.inr (.inr ((l.length:Int),()))))(F:Int×Unit->Option τ):
 ((AE B (0,())).bind fun q=>Az q (fun q=>F q) fun q=>F q)=F ((((l.takeWhile p).length:Nat):Int),()):=by
 have key:∀m i:Nat,i+m=l.length->(∀j (hj:j<l.length),j<i->p l[j]=true)->((AE B ((i:Int),())).bind fun q=>Az q (fun q=>F q) fun q=>F q)=F ((((l.takeWhile p).length:Nat):Int),()):=by
  intro m
  induction m with
  |zero=>
   intro i hi hp
   have:l.takeWhile p=l:=by
    rw[<-(Pl (l:=l) (p:=p) (c:=l.length) (Nat.le_refl _) (fun k hk h=>hp k hk (by omega)) (fun k hk h=>by omega)).1,List.take_length]
   obtain rfl:i=l.length:=by omega
   rw[Bf,hE,this];rfl
  |succ m ih=>
   intro i hi hp
   have h:i<l.length:=by omega
   rw[Bf,hB i h]
   cases hq:p l[i]
   ·simp only[cond_false,Option.bind_some]
    rw[ll h hp hq];rfl
   ·simp only[cond_true,Option.bind_some]
    exact ih (i+1) (by omega) (fun j hj h2=>by
     by_cases e:j=i
     ·subst e;exact hq
     ·exact hp j hj (by omega))
 exact key l.length 0 (by omega) (by intro j hj h;omega)
theorem Qc {α:Type}{l:List α}{p:α->Bool}:l.take (l.takeWhile p).length=l.takeWhile p/\l.drop (l.takeWhile p).length=l.dropWhile p:=by
 have e:l.takeWhile p++l.dropWhile p=l:=List.takeWhile_append_dropWhile
 generalize l.takeWhile p=a at e ⊢
 generalize l.dropWhile p=b at e ⊢
 subst e
 simp
theorem UB {α:Type}{l:List α}{p:α->Bool}:(l.takeWhile p).length<=l.length:=by
 have e:=congrArg List.length (List.takeWhile_append_dropWhile (p:=p) (l:=l))
 rw[List.length_append]at e;omega
theorem QJ {lk:List VM}(hl:lk.length<=1048576)(key:Int):ER (lk,key,())=some (CO lk key,()):=by
 unfold ER CO
 have e:=Mk (B:=fun v=>Dl (lk,key,()) v _ some) (l:=lk) (fun i=>((i:Int),())) (fun m=>m.1==key) (fd:=fun i=>.inl (match lk[i]? with|some m=>m.2.1|none=>0,())) (no:=.inr ()) (fun i h=>by
  unfold Dl
  simp only[Ak h,Option.bind_some,decide_eq_true (by omega:(i:Int)<(lk.length:Int)),cond_true,Am h (by omega),List.getElem?_eq_getElem h]
  cases lk[i].1==key<;>rfl) (by
  unfold Dl
  simp only[Int.lt_irrefl,decide_false,cond_false]) (t0:=(0,())) rfl
 erw [e]
 rw[Nj]
 cases hf:lk.findIdx? (fun m=>m.1==key)with
 |none=>rfl
 |some i=>
  obtain⟨h1,_⟩:=List.findIdx?_eq_some_iff_getElem.1 hf
  simp only[Option.bind_some,Az,List.getElem?_eq_getElem h1]
theorem kt {wt:List VM}(hl:wt.length<=1048576)(x:Int):JN (wt,x,())=some ((Ul wt x).getD 0,()):=by
 unfold JN Ul
 have e:=Mk (B:=fun v=>F8 (wt,x,()) v _ some) (l:=wt) (fun i=>((i:Int),())) (fun m=>m.1==x) (fd:=fun i=>.inl (match wt[i]? with|some m=>m.2.1|none=>0,())) (no:=.inr ()) (fun i h=>by
  unfold F8
  simp only[Ak h,Option.bind_some,decide_eq_true (by omega:(i:Int)<(wt.length:Int)),cond_true,Am h (by omega),List.getElem?_eq_getElem h]
  cases wt[i].1==x<;>rfl) (by
  unfold F8
  simp only[Int.lt_irrefl,decide_false,cond_false]) (t0:=(0,())) rfl
 erw [e]
 rw[Nj]
 cases hf:wt.findIdx? (fun m=>m.1==x)with
 |none=>rfl
 |some i=>
  obtain⟨h1,_⟩:=List.findIdx?_eq_some_iff_getElem.1 hf
  simp only[Option.bind_some,Az,List.getElem?_eq_getElem h1,Option.map_some,Option.getD_some]
theorem jB {α:Type}{f:α->Int}{l:List α}{t:Int}(h:(l.takeWhile fun x=>decide (f x<t)).length<l.length):EM f l t=(f l[(l.takeWhile fun x=>decide (f x<t)).length]==t):=by
 unfold EM Hu
 have e:=(Qc (l:=l) (p:=fun x=>decide (f x<t))).2
 rw[List.drop_eq_getElem_cons h]at e
 rw[<-e]
theorem X0 {α:Type}{f:α->Int}{l:List α}{t:Int}(h:¬(l.takeWhile fun x=>decide (f x<t)).length<l.length):EM f l t=false:=by
 unfold EM Hu
 have e:=(Qc (l:=l) (p:=fun x=>decide (f x<t))).2
 rw[List.drop_of_length_le (by omega)]at e
 rw[<-e]
theorem OU {α:Type}{f:α->Int}{l:List α}{m:α}{c:Nat}(hc:(l.takeWhile fun x=>decide (f x<f m)).length=c):
 CA f l m=bif EM f l (f m)then l.take c++[m]++l.drop (c+1)else l.take c++[m]++l.drop c:=by
 obtain⟨e1,e2⟩:=Qc (l:=l) (p:=fun x=>decide (f x<f m))
 rw[hc]at e1 e2
 cases hh:EM f l (f m)
 ·rw[LD hh,<-e1,<-e2];simp
 ·obtain⟨x,h1,h2,h3⟩:=LC hh
  rw[h3,hc]
  rw[hc]at h1
  obtain⟨h4,_⟩:=List.getElem?_eq_some_iff.1 h1
  rw[List.set_eq_take_append_cons_drop,if_pos h4];simp
theorem Wj {wt:List VM}(hl:wt.length<=1048576)(hv:ML wt){a b:Int}(ha:inB a 1 9=true)(hb:inB b 1 9=true)(hab:a≠b):
 HV (wt,a,b,())=some (true,CA (·.1) wt (a,b,()),()):=by
 have hab':(a==b)=false:=by simpa using hab
 unfold HV
 simp only[Ka hl,AC hv,Eu,ha,hb,hab',Option.bind_some,Bool.not_true,cond_false]
 refine(N1 (l:=wt) (p:=fun x=>decide (x.1<a)) hl (fun i h=>?_) ?_ _).trans ?_
 ·unfold FF
  simp only[Ak h,Option.bind_some,decide_eq_true (by omega:(i:Int)<(wt.length:Int)),cond_true,Am h (by omega)]
  cases decide (wt[i].1<a)<;>rfl
 ·unfold FF
  simp only[Int.lt_irrefl,decide_false,cond_false]
 ·have hle:=UB (l:=wt) (p:=fun x=>decide (x.1<a))
  generalize hc:(wt.takeWhile fun x=>decide (x.1<a)).length=c at hle
  rw[OU (m:=(a,b,())) hc]
  have q1:(wt.take c).length<=2199023255552:=by simp;omega
  have q2:(wt.take c++[(a,b,())]).length<=2199023255552:=by simp;omega
  have q3:(wt.take c++[(a,b,())]++wt.drop c).length<=2199023255552:=by simp;omega
  have q4:(wt.take c++[(a,b,())]++wt.drop (c+1)).length<=2199023255552:=by simp;omega
  simp only[slA hle,Option.bind_some,q1,q2,if_true]
  by_cases hlt:c<wt.length
  ·have hh:=jB (f:=fun x:VM=>x.1) (l:=wt) (t:=a) (by rw[hc];exact hlt)
   simp only[hc]at hh
   simp only[decide_eq_true (by omega:(c:Int)<(wt.length:Int)),cond_true,Ak hlt,Option.bind_some,Am hlt (by omega),slB hle,slB (by omega:c+1<=wt.length),q3,q4,if_true,hh]
   cases wt[c].1==a<;>rfl
  ·have hh:=X0 (f:=fun x:VM=>x.1) (l:=wt) (t:=a) (by rw[hc];exact hlt)
   simp only[decide_eq_false (by omega:¬(c:Int)<(wt.length:Int)),cond_false,slB hle,Option.bind_some,q3,if_true,hh]
end Go.Ab
end
