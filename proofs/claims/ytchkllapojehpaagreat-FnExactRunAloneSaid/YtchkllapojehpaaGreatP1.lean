import Derived.Test.YtchkllapojehpaaGreatSp3
set_option linter.all false
section
namespace Go.Ab
abbrev VM:=Int×Int×Unit
abbrev VV:=Int×Int×Int×Int×Int×Unit
def mk2 (k:Int):VM:=(k,k+1,())
def mk5 (k:Int):VV:=(k,k+1,k+2,k+3,k+4,())
def mkL {α:Type}(f:Int->α)(c:Int)(k:Int):Nat->List α
 |0=>[]
 |n+1=>f k::mkL f c (k+c) n
theorem AK {α:Type}(f:Int->α)(c k:Int)(n:Nat):(mkL f c k n).length=n:=by
 induction n generalizing k with
 |zero=>rfl
 |succ n ih=>simp[mkL,ih]
theorem Oq {α:Type}(f:Int->α)(c k:Int)(n i:Nat)(h:i<n):(mkL f c k n)[i]?=some (f (k+c*i)):=by
 induction n generalizing k i with
 |zero=>omega
 |succ n ih=>
  cases i with
  |zero=>simp[mkL]
  |succ i=>
   simp only[mkL,List.getElem?_cons_succ]
   rw[ih (k+c) i (by omega)]
   congr 2
   push_cast
   rw[Int.mul_add,Int.mul_one];omega
theorem zg {α:Type}(f:Int->α)(c k:Int)(n:Nat):mkL f c k (n+1)=mkL f c k n++[f (k+c*n)]:=by
 induction n generalizing k with
 |zero=>simp[mkL]
 |succ n ih=>
  rw[mkL,ih (k+c),mkL]
  simp only[List.cons_append]
  congr 4
  push_cast
  rw[Int.mul_add,Int.mul_one];omega
def mkd {α:Type}(f:Int->α)(c k:Int)(row:List α)(j:Nat):List α:=mkL f c k j++row.drop j
theorem Lb {α:Type}(f:Int->α)(c k:Int)(row:List α):mkd f c k row 0=row:=by simp[mkd,mkL]
theorem Jg {α:Type}(f:Int->α)(c k:Int)(row:List α)(j:Nat)(h:j<=row.length):(mkd f c k row j).length=row.length:=by
 simp[mkd,AK];omega
theorem MO {α:Type}(f:Int->α)(c k:Int)(row:List α):mkd f c k row row.length=mkL f c k row.length:=by simp[mkd]
theorem MN {α:Type}(f:Int->α)(c k:Int)(row:List α)(j:Nat)(h:j<row.length):(mkd f c k row j)[j]?=some row[j]:=by
 unfold mkd
 rw[List.getElem?_append_right (by rw[AK];omega)]
 simp[AK,h]
theorem MM {α:Type}(f:Int->α)(c k:Int)(row:List α)(j:Nat)(h:j<row.length):(mkd f c k row j).set j (f (k+c*j))=mkd f c k row (j+1):=by
 unfold mkd
 rw[zg,List.set_append_right _ _ (by rw[AK];omega),AK,Nat.sub_self]
 rw[show row.drop j=row[j]::row.drop (j+1)from List.drop_eq_getElem_cons h,List.set_cons_zero]
 simp
theorem wr1 {k:Int}(h0:0<=k)(h:k<9223372036854775807):IntKind.wrap IntKind.i64 (k+1)=k+1:=CQ (by omega) (by omega)
theorem HU {σ ρ:Type}{B:σ->Option (σ ⊕ ρ)}{s0:σ}{r:ρ}(n:Nat)(st:Nat->σ)(h0:s0=st 0)(hstep:∀i,i<n->B (st i)=some (.inl (st (i+1))))(hend:B (st n)=some (.inr r)):Ay B s0=some r:=by
 subst h0;exact A64 st hstep hend
theorem RF (xss:List (List VV))(i:Nat)(hi:i<xss.length)(k:Int)(h0:0<=k)(hk:k+5*xss[i].length<9223372036854775000):
 FB (i,k,xss,())=some (k+5*xss[i].length,xss.set i (mkL mk5 5 k xss[i].length),()):=by
 unfold FB
 simp only
 generalize hrow:xss[i]=row at*
 have key:∀j:Nat,(xss.set i (mkd mk5 5 k row j))[i]?=some (mkd mk5 5 k row j):=fun j=>by simp[hi]
 rw[HU (r:=(k+5*row.length,xss.set i (mkL mk5 5 k row.length),())) row.length (fun j=>(k+5*(j:Int),(j:Int),xss.set i (mkd mk5 5 k row j),()))]
 ·rfl
 ·simp only[Lb,<-hrow];simp
 ·intro j hj
  unfold CF
  have hl:=Jg mk5 5 k row j (by omega)
  have hg:=MN mk5 5 k row j hj
  have hs:=MM mk5 5 k row j hj
  simp only[key,Option.bind_some,hl]
  rw[decide_eq_true (by omega),if_pos (by omega)]
  simp only[cond_true,Option.bind_some,Nat.zero_add,Int.toNat_natCast,hg,List.set_set,List.length_set,List.getElem?_set_self,hi,hl,hj]
  rw[wr1 (k:=k+5*(j:Int)) (by omega) (by omega),wr1 (k:=k+5*(j:Int)+1) (by omega) (by omega),wr1 (k:=k+5*(j:Int)+1+1) (by omega) (by omega),wr1 (k:=k+5*(j:Int)+1+1+1) (by omega) (by omega),wr1 (k:=k+5*(j:Int)+1+1+1+1) (by omega) (by omega),wr1 (k:=(j:Int)) (by omega) (by omega)]
  have e1:k+5*(j:Int)+1+1+1+1+1=k+5*((j+1:Nat):Int):=by push_cast;omega
  have e2:(k+5*(j:Int),k+5*(j:Int)+1,k+5*(j:Int)+1+1,k+5*(j:Int)+1+1+1,k+5*(j:Int)+1+1+1+1,())=mk5 (k+5*(j:Int)):=by simp[mk5];omega
  rw[e1,e2,hs]
  simp[hj]
 ·unfold CF
  simp only[key,Option.bind_some,MO,AK]
  have key2:(xss.set i (mkL mk5 5 k row.length))[i]?=some (mkL mk5 5 k row.length):=by simp[hi]
  simp only[key2,Option.bind_some,AK]
  rw[decide_eq_false (by omega)]
  rfl
theorem CL {σ ρ τ:Type}{B:σ->Option (σ ⊕ ρ)}{s0:σ}{k:ρ->Option τ}{q:Option τ}(n:Nat)(st:Nat->σ)(h0:s0=st 0)(hstep:∀i,i<n->B (st i)=some (.inl (st (i+1))))(hend:∃r,B (st n)=some (.inr r)/\k r=q):(Ay B s0).bind k=q:=by
 obtain⟨r,h1,h2⟩:=hend
 rw[HU n st h0 hstep h1];exact h2
def Ph:Int->List (List VV)->List (List VV)
 |_,[]=>[]
 |k,r::rs=>mkL mk5 5 k r.length::Ph (k+5*r.length) rs
def Fi:Int->List (List VV)->Int
 |k,[]=>k
 |k,r::rs=>Fi (k+5*r.length) rs
theorem PZ (k:Int)(xss:List (List VV)):k<=Fi k xss:=by
 induction xss generalizing k with
 |nil=>exact Int.le_refl k
 |cons r rs ih=>have:=ih (k+5*r.length);simp only[Fi];omega
theorem QV (xss:List (List VV))(k:Int)(h0:0<=k)(hk:Fi k xss<9223372036854775000)(hl:xss.length<9223372036854775000):ET (k,xss,())=some (Fi k xss,Ph k xss,()):=by
 unfold ET
 simp only
 have key:∀(rs pre:List (List VV)) (k:Int),0<=k->Fi k rs<9223372036854775000->pre.length+rs.length<9223372036854775000->
  Ay (fun v=>BA () v _ some) (k,(pre.length:Int),pre++rs,())=some (Fi k rs,pre++Ph k rs,()):=by
  intro rs
  induction rs with
  |nil=>
   intro pre k h0 hk hl
   rw[B6]
   unfold BA
   simp only[List.append_nil]
   rw[decide_eq_false (by omega)]
   simp[Fi,Ph]
  |cons r rs ih=>
   intro pre k h0 hk hl
   have hge:=PZ (k+5*r.length) rs
   simp only[Fi]at hk
   simp only[List.length_cons]at hl
   have hi:pre.length<(pre++r::rs).length:=by simp
   have hget:(pre++r::rs)[pre.length]=r:=by simp
   have hm:=RF (pre++r::rs) pre.length hi k h0 (by rw[hget];omega)
   rw[hget]at hm
   have hset:(pre++r::rs).set pre.length (mkL mk5 5 k r.length)=(pre++[mkL mk5 5 k r.length])++rs:=by simp
   have hB:BA () (k,(pre.length:Int),pre++r::rs,()) _ some=some (.inl (k+5*r.length,(pre.length:Int)+1,(pre++[mkL mk5 5 k r.length])++rs,())):=by
    unfold BA
    simp only[List.length_append,List.length_cons]
    rw[decide_eq_true (by omega),if_pos (by omega)]
    have hge2:(pre++r::rs)[pre.length]?=some r:=by simp
    simp only[cond_true,Nat.zero_add,Int.toNat_natCast,hge2,Option.bind_some,hm]
    rw[wr1 (by omega) (by omega),hset]
   rw[B6,hB]
   have:=ih (pre++[mkL mk5 5 k r.length]) (k+5*r.length) (by omega) hk (by simp;omega)
   simp only[List.length_append,List.length_cons,List.length_nil,Nat.zero_add,Int.natCast_add]at this
   rw[show((1:Nat):Int)=1 from rfl]at this
   simp only[Option.bind_some]
   rw[this]
   simp[Fi,Ph]
 have:=key xss [] k h0 hk (by simpa using hl)
 simp only[List.length_nil,List.nil_append,Int.natCast_zero]at this
 rw[this];rfl
end Go.Ab
end
section
namespace Go.Ab
theorem Cy {ρ τ:Type}{B:Int×Unit->Option ((Int×Unit) ⊕ ρ)}{k:ρ->Option τ}{n:Nat}{c:Nat->Prop}{X no:Option τ}
 (hB:∀i,i<n->(c i->B ((i:Int),())=some (.inl (((i+1:Nat):Int),())))/\(¬c i->∃r,B ((i:Int),())=some (.inr r)/\k r=no))
 (hend:∃r,B ((n:Int),())=some (.inr r)/\k r=X):
 (Ay B (0,())).bind k=bif dec (∀i,i<n->c i)then X else no:=by
 have key:∀m i:Nat,i+m=n->(Ay B ((i:Int),())).bind k=bif dec (∀j,i<=j->j<n->c j)then X else no:=by
  intro m
  induction m with
  |zero=>
   intro i hi
   obtain rfl:i=n:=by omega
   obtain⟨r,h1,h2⟩:=hend
   rw[B6,h1,AD (fun j h1 h2=>by omega)];exact h2
  |succ m ih=>
   intro i hi
   by_cases hc:c i
   ·rw[B6,(hB i (by omega)).1 hc]
    simp only[Option.bind_some]
    rw[ih (i+1) (by omega)]
    congr 1
    apply Ka
    constructor
    ·intro h j h1 h2
     by_cases e:j=i
     ·rw[e];exact hc
     ·exact h j (by omega) h2
    ·intro h j h1 h2;exact h j (by omega) h2
   ·obtain⟨r,h1,h2⟩:=(hB i (by omega)).2 hc
    rw[B6,h1,Bl (fun h=>hc (h i (Nat.le_refl _) (by omega)))];exact h2
 have:=key n 0 (by omega)
 simp only[Int.natCast_zero,Nat.zero_le,true_implies]at this
 exact this
theorem Gw {σ α ρ τ:Type}{l:List α}{f:σ->α->σ}{B:σ×Int×Unit->Option ((σ×Int×Unit) ⊕ ρ)}{k:ρ->Option τ}{X:σ->Option τ}{q:Option τ}(n0:σ)(hB:∀(i:Nat) (h:i<l.length) (n:σ),B (n,(i:Int),())=some (.inl (f n l[i],((i+1:Nat):Int),())))
 (hend:∀n,∃r,B (n,(l.length:Int),())=some (.inr r)/\k r=X n)(hq:X (l.foldl f n0)=q):(Ay B (n0,0,())).bind k=q:=by
 have key:∀m i:Nat,i+m=l.length->∀n,(Ay B (n,(i:Int),())).bind k=X ((l.drop i).foldl f n):=by
  intro m
  induction m with
  |zero=>
   intro i hi n
   obtain rfl:i=l.length:=by omega
   obtain⟨r,h1,h2⟩:=hend n
   rw[B6,h1];simpa using h2
  |succ m ih=>
   intro i hi n
   have h:i<l.length:=by omega
   rw[B6,hB i h,List.drop_eq_getElem_cons h]
   simp only[Option.bind_some]
   rw[ih (i+1) (by omega)];rfl
 have:=key l.length 0 (by omega) n0
 simpa[hq]using this
def HM (a:List VV):Prop:=a.length<=1048576
def CJ (a:List (List VV)):Prop:=a.length<=1048576/\∀e∈a,HM e
theorem Ed (x lo hi:Int):Am (x,lo,hi,())=some (inB x lo hi,()):=by
 unfold Am inB
 by_cases h:lo<=x<;>simp[h]
theorem IZ (x lo hi:Int):BB (x,lo,hi,())=some (inB x lo hi,()):=by
 unfold BB inB
 by_cases h:lo<=x<;>simp[h]
theorem PJ (x:Int):E8 (x,())=some (inB x 0 5,()):=by simp[E8,IZ]
theorem NM (x:Int):BG (x,())=some (inB x 1 9,()):=by simp[BG,IZ]
theorem Qg (x:Int):GV (x,())=some (inB x (-1) 99,()):=by simp[GV,IZ]
def okV (v:VV):Bool:=inB v.2.1 (-1) 99&&inB v.2.2.1 0 999&&inB v.2.2.2.1 v.2.2.1 999&&inB v.2.2.2.2.1 1 1000&&(bif v.2.2.1==0 then(bif v.1==0 then v.2.1==-1 else false)else inB v.1 1 9)
theorem mL (v:VV):DQ (v,())=some (okV v,()):=by
 unfold DQ okV
 simp only[Ed,Option.bind_some]
 cases inB v.2.1 (-1) 99<;>cases inB v.2.2.1 0 999<;>cases inB v.2.2.2.1 v.2.2.1 999<;>cases inB v.2.2.2.2.1 1 1000<;>cases(v.2.2.1==0:Bool)<;>cases(v.1==0:Bool)<;>simp
theorem A5t (v:VV):FF (v,())=some (okV v,()):=by
 unfold FF okV
 simp only[IZ,Qg,NM,Option.bind_some]
 cases inB v.2.1 (-1) 99<;>cases inB v.2.2.1 0 999<;>cases inB v.2.2.2.1 v.2.2.1 999<;>cases inB v.2.2.2.2.1 1 1000<;>cases(v.2.2.1==0:Bool)<;>cases(v.1==0:Bool)<;>simp
theorem ay {v:VV}(h:okV v=true):v.2.2.1<=v.2.2.2.1:=by
 unfold okV at h
 simp only[Bool.and_eq_true]at h
 have:=h.1.1.2
 unfold inB at this
 simp only[Bool.and_eq_true,decide_eq_true_eq]at this
 exact this.1
def okP (v w:VV):Prop:=v.2.2.1<w.2.2.1/\v.2.2.2.2.1<=w.2.2.1
def aA (l:List VV)(i:Nat):Prop:=∃h:i<l.length,okV l[i]=true/\∀h2:i+1<l.length,okP l[i] l[i+1]
def zd (l:List VV)(i:Nat):Prop:=∃h:i<l.length,okV l[i]=true/\∀h2:0<i,okP (l[i-1]'(by omega)) l[i]
theorem Y5 (l:List VV):(∀i,i<l.length->aA l i)↔∀i,i<l.length->zd l i:=by
 constructor
 ·intro H i h
  obtain⟨_,h1,_⟩:=H i h
  refine⟨h,h1,fun h2=>?_⟩
  obtain⟨_,_,h4⟩:=H (i-1) (by omega)
  have:=h4 (by omega)
  simpa[show i-1+1=i by omega]using this
 ·intro H i h
  obtain⟨_,h1,_⟩:=H i h
  refine⟨h,h1,fun h2=>?_⟩
  obtain⟨_,_,h4⟩:=H (i+1) h2
  exact h4 (by omega)
def Vr (l:List VV):Option (Bool×Unit):=bif decide (((l.length:Nat):Int)>0)then(lAt l (IntKind.i64.wrap (((l.length:Nat):Int)-1))).bind fun e=>some ((e.2.2.2.2.1==1000),())else some (false,())
theorem yK {l:List VV}(hl:HM l):CN (l,())=bif dec (∀i,i<l.length->aA l i)then Vr l else some (false,()):=by
 unfold HM at hl
 unfold CN
 refine Cy (n:=l.length) (c:=aA l) (fun i hi=>?_) ⟨.inr (.inr (.inr ())),?_,rfl⟩
 ·unfold Da
  simp only[Aj hi,Option.bind_some,mL]
  rw[decide_eq_true (by omega)]
  simp only[cond_true,Option.bind_some]
  cases hv:okV l[i]with
  |false=>
   refine⟨fun⟨_,h,_⟩=>?_,fun _=>⟨.inl (),rfl,rfl⟩⟩
   rw[hv]at h;cases h
  |true=>
   simp only[Bool.not_true,cond_false]
   rw[Ak hi (by omega)]
   by_cases h2:i+1<l.length
   ·rw[decide_eq_true (by omega),Aj h2]
    simp only[cond_true,Option.bind_some]
    by_cases p1:l[i].2.2.1>=l[i+1].2.2.1
    ·rw[decide_eq_true p1]
     refine⟨fun⟨_,_,h⟩=>?_,fun _=>⟨.inr (.inl ()),rfl,rfl⟩⟩
     exact(Int.not_lt.2 p1 (h h2).1).elim
    ·rw[decide_eq_false p1]
     simp only[cond_false]
     by_cases p2:l[i].2.2.2.2.1>l[i+1].2.2.1
     ·rw[decide_eq_true p2]
      refine⟨fun⟨_,_,h⟩=>?_,fun _=>⟨.inr (.inr (.inl ())),rfl,rfl⟩⟩
      exact(Int.not_le.2 p2 (h h2).2).elim
     ·rw[decide_eq_false p2]
      refine⟨fun _=>rfl,fun h=>absurd ⟨hi,hv,fun _=>⟨Int.not_le.1 p1,Int.not_lt.1 p2⟩⟩ h⟩
   ·rw[decide_eq_false (by omega)]
    refine⟨fun _=>rfl,fun h=>absurd ⟨hi,hv,fun h3=>absurd h3 h2⟩ h⟩
 ·unfold Da
  simp only
  rw[decide_eq_false (by omega)];rfl
theorem yV {l:List VV}(hl:HM l):EL (l,())=bif dec (∀i,i<l.length->aA l i)then Vr l else some (false,()):=by
 unfold HM at hl
 rw[Ka (Y5 l)]
 unfold EL
 refine Cy (n:=l.length) (c:=zd l) (fun i hi=>?_) ⟨.inr (.inr (.inr ())),?_,rfl⟩
 ·unfold Di
  simp only[Aj hi,Option.bind_some,A5t]
  rw[decide_eq_true (by omega)]
  simp only[cond_true,Option.bind_some]
  cases hv:okV l[i]with
  |false=>
   refine⟨fun⟨_,h,_⟩=>?_,fun _=>⟨_,rfl,rfl⟩⟩
   rw[hv]at h;cases h
  |true=>
   simp only[Bool.not_true,cond_false]
   rw[Ak hi (by omega)]
   by_cases h2:0<i
   ·have hlt:i-1<l.length:=by omega
    rw[decide_eq_true (show(i:Int)>0 by omega),show IntKind.i64.wrap ((i:Int)-1)=((i-1:Nat):Int)from by rw[CQ (by omega) (by omega)];omega,Aj hlt]
    simp only[cond_true,Option.bind_some]
    by_cases p1:l[i-1].2.2.1>=l[i].2.2.1
    ·rw[decide_eq_true p1]
     refine⟨fun⟨_,_,h⟩=>?_,fun _=>⟨_,rfl,rfl⟩⟩
     exact(Int.not_lt.2 p1 (h h2).1).elim
    ·rw[decide_eq_false p1]
     simp only[cond_false]
     by_cases p2:l[i-1].2.2.2.2.1>l[i].2.2.1
     ·rw[decide_eq_true p2]
      refine⟨fun⟨_,_,h⟩=>?_,fun _=>⟨_,rfl,rfl⟩⟩
      exact(Int.not_le.2 p2 (h h2).2).elim
     ·rw[decide_eq_false p2]
      refine⟨fun _=>rfl,fun h=>absurd ⟨hi,hv,fun _=>⟨Int.not_le.1 p1,Int.not_lt.1 p2⟩⟩ h⟩
   ·rw[decide_eq_false (show ¬(i:Int)>0 by omega)]
    refine⟨fun _=>rfl,fun h=>absurd ⟨hi,hv,fun h3=>absurd h3 h2⟩ h⟩
 ·unfold Di
  simp only
  rw[decide_eq_false (by omega)];rfl
def LO (l:List VV):Prop:=(∀i,i<l.length->aA l i)/\∃h:0<l.length,(l[l.length-1]'(by omega)).2.2.2.2.1=1000
theorem mO {l:List VV}(hl:HM l):(bif dec (∀i,i<l.length->aA l i)then Vr l else some (false,()))=some (dec (LO l),()):=by
 unfold HM at hl
 by_cases h:∀i,i<l.length->aA l i
 ·rw[AD h]
  unfold Vr
  simp only[cond_true]
  by_cases h0:0<l.length
  ·have hlt:l.length-1<l.length:=by omega
   rw[decide_eq_true (by omega),show IntKind.i64.wrap (((l.length:Nat):Int)-1)=((l.length-1:Nat):Int)from by rw[CQ (by omega) (by omega)];omega,Aj hlt]
   simp only[cond_true,Option.bind_some,aH]
   rw[zI]
   congr 2
   apply Ka
   exact⟨fun e=>⟨h,h0,e⟩,fun⟨_,_,e⟩=>e⟩
  ·rw[decide_eq_false (show ¬((l.length:Nat):Int)>0 by omega),Bl (fun⟨_,h1,_⟩=>h0 h1)];rfl
 ·rw[Bl h,Bl (fun h1=>h h1.1)];rfl
theorem V9 {l:List VV}(hl:HM l):CN (l,())=some (dec (LO l),()):=(yK hl).trans (mO hl)
theorem A5w {l:List VV}(hl:HM l):EL (l,())=some (dec (LO l),()):=(yV hl).trans (mO hl)
def Mg (s:List (List VV)):Prop:=s.length=6/\∀c∈s,LO c/\c.length<=50
theorem MH {s:List (List VV)}(hs:CJ s):Bs ((s,()),())=some (dec (Mg s),()):=by
 have hn:=hs.1
 have e:Bs ((s,()),())=bif dec (∀i,i<s.length->(∃h:i<s.length,LO s[i]/\s[i].length<=50))then some ((((s.length:Nat):Int)==6),())else some (false,()):=by
  unfold Bs
  refine Cy (n:=s.length) (fun i hi=>?_) ⟨.inr (.inr (.inr (.inr ()))),?_,rfl⟩
  ·unfold D9
   have hsm:=hs.2 _ (List.getElem_mem hi)
   simp only[Aj hi,Option.bind_some,V9 hsm]
   rw[decide_eq_true (by omega)]
   simp only[cond_true]
   by_cases hc:LO s[i]
   ·have h0:0<s[i].length:=hc.2.1
    rw[AD hc,Ak hi (by omega),show lAt s[i] 0=some s[i][0]from Aj h0]
    simp only[Bool.not_true,cond_false,Option.bind_some]
    by_cases hl:s[i].length<=50
    ·refine⟨fun _=>?_,fun h=>absurd ⟨hi,hc,hl⟩ h⟩
     rw[decide_eq_false (show ¬((s[i].length:Nat):Int)>50 by omega)]
     cases decide ((s[i][0]).2.2.1>0)<;>rfl
    ·refine⟨fun⟨_,_,h⟩=>absurd h hl,fun _=>?_⟩
     rw[decide_eq_true (show((s[i].length:Nat):Int)>50 by omega)]
     cases decide ((s[i][0]).2.2.1>0)
     ·exact⟨.inr (.inr (.inr (.inl ()))),rfl,rfl⟩
     ·exact⟨.inr (.inl ()),rfl,rfl⟩
   ·rw[Bl hc]
    exact⟨fun⟨_,h,_⟩=>absurd h hc,fun _=>⟨.inl (),rfl,rfl⟩⟩
  ·unfold D9
   simp only
   rw[decide_eq_false (by omega)];rfl
 rw[e]
 by_cases h:∀i,i<s.length->(∃h:i<s.length,LO s[i]/\s[i].length<=50)
 ·rw[AD h,aH,zI]
  simp only[cond_true]
  congr 2
  apply Ka
  constructor
  ·intro e
   refine⟨by omega,fun c hc=>?_⟩
   obtain⟨i,hi,rfl⟩:=List.getElem_of_mem hc
   exact(h i hi).2
  ·rintro⟨e,_⟩;omega
 ·rw[Bl h,Bl (fun h1:Mg s=>h fun i hi=>⟨hi,h1.2 _ (List.getElem_mem hi)⟩)];rfl
theorem yw {l:List VV}(hl:HM l):FG (l,())=some (dec (¬(LO l/\l.length<=50)),()):=by
 unfold FG
 simp only[A5w hl,Option.bind_some]
 by_cases h:LO l
 ·by_cases h2:l.length<=50
  ·rw[AD h,decide_eq_false (show ¬((l.length:Nat):Int)>50 by omega),Bl (fun hh=>hh ⟨h,h2⟩)];rfl
  ·rw[AD h,decide_eq_true (show((l.length:Nat):Int)>50 by omega),AD (fun hh=>h2 hh.2)];rfl
 ·rw[Bl h,AD (fun hh=>h hh.1)];rfl
theorem Mq {α ρ:Type}{l:List α}{p:α->Prop}(hn:l.length<=1048576){B:Int×Unit->Option ((Int×Unit) ⊕ ((Int×Unit) ⊕ Unit))}
 (hB:∀i (h:i<l.length),B ((i:Int),())=some (bif dec (p l[i])then .inr (.inl ((i:Int),()))else .inl (((i+1:Nat):Int),())))(hend:B ((l.length:Int),())=some (.inr (.inr ()))):
 ∃n:Int,((Ay B (0,())).bind fun q=>Au q (fun q=>some (q.1,())) fun _=>some (-1,()))=some (n,())/\((∃i:Nat,∃h:i<l.length,n=(i:Int)/\p l[i]/\∀j (hj:j<i),¬p (l[j]'(by omega)))\/(n=-1/\∀x∈l,¬p x)):=by
 have key:∀m i:Nat,i+m=l.length->(∀j (hj:j<l.length),j<i->¬p l[j])->∃n:Int,((Ay B ((i:Int),())).bind fun q=>Au q (fun q=>some (q.1,())) fun _=>some (-1,()))=some (n,())/\((∃i:Nat,∃h:i<l.length,n=(i:Int)/\p l[i]/\∀j (hj:j<i),¬p (l[j]'(by omega)))\/(n=-1/\∀x∈l,¬p x)):=by
  intro m
  induction m with
  |zero=>
   intro i hi hno
   obtain rfl:i=l.length:=by omega
   rw[B6,hend]
   refine⟨-1,rfl,.inr ⟨rfl,fun x hx=>?_⟩⟩
   obtain⟨j,hj,rfl⟩:=List.getElem_of_mem hx
   exact hno j hj hj
  |succ m ih=>
   intro i hi hno
   have hlt:i<l.length:=by omega
   rw[B6,hB i hlt]
   by_cases hp:p l[i]
   ·rw[AD hp]
    exact⟨(i:Int),rfl,.inl ⟨i,hlt,rfl,hp,fun j hj=>hno j (by omega) hj⟩⟩
   ·rw[Bl hp]
    refine ih (i+1) (by omega) fun j hj h=>?_
    by_cases e:j=i
    ·subst e;exact hp
    ·exact hno j hj (by omega)
 exact key l.length 0 (by omega) (fun j hj h=>by omega)
theorem A5u {s:List (List VV)}(hs:CJ s):GJ ((s,()),())=some (dec (Mg s),()):=by
 have hn:=hs.1
 unfold GJ C9 Cs
 obtain⟨n,e,h⟩:=Mq (ρ:=Unit) (l:=s) (p:=fun c=>¬(LO c/\c.length<=50)) hn (B:=fun v=>AJ (s,(),((s.length:Nat):Int),()) v _ some) (fun i hi=>by
  unfold AJ
  simp only[Aj hi,Option.bind_some,yw (hs.2 _ (List.getElem_mem hi))]
  rw[decide_eq_true (by omega),Ak hi (by omega)]
  simp only[cond_true]
  cases dec (¬(LO s[i]/\s[i].length<=50))<;>rfl) (by
  unfold AJ
  simp only
  rw[decide_eq_false (by omega)];rfl)
 simp only[e,Option.bind_some,aH]
 by_cases h6:s.length=6
 ·rw[decide_eq_true (show((s.length:Nat):Int)=6 by omega)]
  simp only[cond_true]
  congr 2
  rcases h with⟨i,hi,rfl,hp,_⟩|⟨rfl,hp⟩
  ·rw[decide_eq_true (by omega),Bl (fun hh:Mg s=>hp (hh.2 _ (List.getElem_mem hi)))];rfl
  ·rw[decide_eq_false (by omega),AD (show Mg s from⟨h6,fun c hc=>Classical.not_not.1 (hp c hc)⟩)];rfl
 ·rw[decide_eq_false (by omega),Bl (fun hh:Mg s=>h6 hh.1)];rfl
end Go.Ab
end
section
namespace Go.Ab
def JO (n:Int)(l:List VV):Int:=l.foldl (fun n v=>mx n v.2.2.2.1) n
theorem aj {s:List (List VV)}(hs:CJ s):EW ((s,()),())=some (s.foldl JO 0,()):=by
 have hn:=hs.1
 unfold EW
 refine Gw (l:=s) (f:=JO) (X:=fun n=>some (n,())) 0 (fun i h n=>?_) (fun n=>⟨(n,()),?_,rfl⟩) rfl
 ·unfold Cw
  have hsm:s[i].length<=1048576:=hs.2 _ (List.getElem_mem h)
  simp only[Aj h,Option.bind_some]
  rw[decide_eq_true (by omega),Ak h (by omega)]
  simp only[cond_true]
  refine Gw (l:=s[i]) (f:=fun n v=>mx n v.2.2.2.1) (X:=fun n=>some (.inl (n,((i+1:Nat):Int),()))) n (fun j hj n=>?_) (fun n=>⟨(n,()),?_,rfl⟩) rfl
  ·unfold Cv
   simp only[Aj hj,Option.bind_some]
   rw[decide_eq_true (by omega),Ak hj (by omega)];rfl
  ·unfold Cv
   simp only
   rw[decide_eq_false (by omega)];rfl
 ·unfold Cw
  simp only
  rw[decide_eq_false (by omega)];rfl
theorem T2 {α σ:Type}{f g:σ->α->σ}:(l:List α)->(∀x∈l,∀n,f n x=g n x)->∀n,l.foldl f n=l.foldl g n
 |[],_,_=>rfl
 |x::l,h,n=>by
  simp only[List.foldl_cons]
  rw[h x (by simp)]
  exact T2 l (fun y hy=>h y (by simp[hy])) _
theorem Ad7 {n a b:Int}(h:a<=b):mx (mx n a) b=mx n b:=by
 unfold mx;repeat' split
 all_goals omega
theorem Rz {s:List (List VV)}(hs:CJ s)(hok:Mg s):GP ((s,()),())=some (s.foldl JO 0,()):=by
 have hn:=hs.1
 unfold GP
 refine Gw (l:=s) (f:=JO) (X:=fun n=>some (n,())) 0 (fun i h n=>?_) (fun n=>⟨.inr (n,()),?_,rfl⟩) rfl
 ·unfold Ej
  have hsm:s[i].length<=1048576:=hs.2 _ (List.getElem_mem h)
  simp only[MH hs,AD hok,Option.bind_some]
  rw[decide_eq_true (by omega),Ak h (by omega)]
  simp only[cond_true]
  have hc:=(hok.2 _ (List.getElem_mem h)).1
  refine Gw (l:=s[i]) (f:=fun n v=>mx (mx n v.2.2.1) v.2.2.2.1) (X:=fun n=>some (.inl (n,((i+1:Nat):Int),()))) n (fun j hj n=>?_) (fun n=>⟨(n,()),?_,rfl⟩) ?_
  ·unfold Ei
   simp only[Aj h,Aj hj,Option.bind_some]
   rw[decide_eq_true (by omega),Ak hj (by omega)];rfl
  ·unfold Ei
   simp only[Aj h,Option.bind_some]
   rw[decide_eq_false (by omega)];rfl
  ·rw[T2 (g:=fun n (v:VV)=>mx n v.2.2.2.1) s[i] (fun v hv n=>?_) n]
   ·rfl
   ·obtain⟨k,hk,rfl⟩:=List.getElem_of_mem hv
    obtain⟨_,h1,_⟩:=hc.1 k hk
    exact Ad7 (ay h1)
 ·unfold Ej
  simp only
  rw[decide_eq_false (by omega)];rfl
noncomputable def vA (l:List VV)(stamp:Int):Nat->Int
 |0=>-1
 |k+1=>bif dec (∃h:k<l.length,l[k].2.2.1<=stamp)then(k:Int)else vA l stamp k
theorem Rf (l:List VV)(stamp:Int):∀k,-1<=vA l stamp k/\vA l stamp k<k
 |0=>by simp[vA]
 |k+1=>by
  have:=Rf l stamp k
  unfold vA
  cases dec (∃h:k<l.length,l[k].2.2.1<=stamp)<;>simp<;>omega
theorem yL {l:List VV}(hl:HM l)(hok:LO l)(stamp:Int):IB (l,stamp,())=some (vA l stamp l.length,()):=by
 have hl':l.length<=1048576:=hl
 unfold IB
 refine CL l.length (fun i=>(vA l stamp i,(i:Int),())) rfl (fun i hi=>?_) ⟨.inr (vA l stamp l.length,()),?_,rfl⟩
 ·unfold Eh
  simp only[V9 hl,AD hok,Aj hi,Option.bind_some]
  rw[decide_eq_true (by omega),Ak hi (by omega)]
  simp only[cond_true]
  by_cases h:l[i].2.2.1<=stamp
  ·rw[decide_eq_true h]
   simp only[cond_true,vA]
   rw[AD ⟨hi,h⟩];rfl
  ·rw[decide_eq_false h]
   simp only[cond_false,vA]
   rw[Bl fun⟨_,h2⟩=>h h2];rfl
 ·unfold Eh
  simp only
  rw[decide_eq_false (by omega)];rfl
theorem yW {l:List VV}(hl:HM l)(stamp:Int):IP (l,stamp,())=some (vA l stamp l.length,()):=by
 have hl':l.length<=1048576:=hl
 unfold IP
 have key:∀k:Nat,k<=l.length->((Ay (fun v=>CW (l,stamp,()) v _ some) ((k:Int)-1,())).bind fun p=>Au p (fun p=>some (p.1,())) fun p=>some (p.1,()))=some (vA l stamp k,()):=by
  intro k
  induction k with
  |zero=>
   intro _
   rw[B6];unfold CW
   rfl
  |succ k ih=>
   intro hk
   have hlt:k<l.length:=by omega
   rw[B6]
   have hB:CW (l,stamp,()) (((k+1:Nat):Int)-1,()) _ some=some (bif decide (l[k].2.2.1<=stamp)then .inr (.inl ((k:Int),()))else .inl ((k:Int)-1,())):=by
    unfold CW
    simp only[show((k+1:Nat):Int)-1=(k:Int) by omega,Aj hlt,Option.bind_some]
    rw[decide_eq_true (show(k:Int)>=0 by omega),CQ (by omega) (by omega)]
    by_cases h:l[k].2.2.1<=stamp
    ·rw[decide_eq_false (show ¬l[k].2.2.1>stamp from Int.not_lt.2 h),decide_eq_true h];rfl
    ·rw[decide_eq_true (show l[k].2.2.1>stamp from Int.not_le.1 h),decide_eq_false h];rfl
   rw[hB]
   by_cases h:l[k].2.2.1<=stamp
   ·rw[decide_eq_true h]
    simp only[cond_true,Option.bind_some,vA]
    rw[AD ⟨hlt,h⟩];rfl
   ·rw[decide_eq_false h]
    simp only[cond_false,Option.bind_some,vA]
    rw[Bl fun⟨_,h2⟩=>h h2];exact ih (by omega)
 simp only
 rw[CQ (by omega) (by omega)]
 exact key l.length (Nat.le_refl _)
end Go.Ab
end
section
namespace Go.Ab
theorem Iw {α:Type}{a:List α}{z:α}(ha:a.length<=1048576){B:Int×List α×Unit->Option ((Int×List α×Unit) ⊕ (List α×Unit))}
 (hB:∀(i:Nat) (h:i<a.length) (out:List α),out.length=a.length->B ((i:Int),out,())=some (.inl (((i+1:Nat):Int),out.set i a[i],())))(hend:∀out,B ((a.length:Int),out,())=some (.inr (out,()))):
 ((Ay B (0,List.replicate a.length z,())).bind fun p=>some (p.1,()))=some (a,()):=by
 rw[HU (r:=(a,())) a.length (fun i=>((i:Int),a.take i++List.replicate (a.length-i) z,()))]
 ·rfl
 ·simp
 ·intro i hi
  rw[hB i hi _ (by simp;omega)]
  congr 3
  congr 1
  apply List.ext_getElem
  ·simp;omega
  ·intro j h1 h2
   simp at h1 h2
   rw[List.getElem_set]
   by_cases he:i=j
   ·subst he
    simp only[if_true]
    rw[List.getElem_append_left (by simp;omega)]
    simp
   ·rw[if_neg he]
    by_cases hlt:j<i
    ·rw[List.getElem_append_left (by simp;omega),List.getElem_append_left (by simp;omega)];simp
    ·rw[List.getElem_append_right (by simp;omega),List.getElem_append_right (by simp;omega)];simp
 ·simp[hend]
theorem VP {α:Type}{Small:α->Prop}{F:α->Int->Option (Int×Unit)}{a:List α}(ha:a.length<=maxLen)(hF:∀e∈a,∀l,0<=l->l<=1048576->Lr (Small e) (F e l)){B:Int×Int×Unit->Option ((Int×Int×Unit) ⊕ ((Int×Unit) ⊕ (Int×Unit)))}
 (hB:∀l i:Int,B (l,i,())=bif decide (i<((a.length:Nat):Int))then(lAt a i).bind fun e=>(F e l).bind fun r=>bif decide (r.1<0)then some (.inr (.inl (r.1,())))else some (.inl (r.1,IntKind.i64.wrap (i+1),()))else some (.inr (.inr (l,())))){l:Int}(h0:0<=l)(h1:l<=1048576):
 Lr (a.length<=1048576/\∀e∈a,Small e) (bif decide (IntKind.i64.wrap (l-((a.length:Nat):Int))<0)then some (-1,())else(Ay B (IntKind.i64.wrap (l-((a.length:Nat):Int)),0,())).bind fun q=>Au q (fun _=>some (-1,())) fun b=>some (b.1,())):=by
 unfold maxLen at ha
 rw[CQ (by omega) (by omega)]
 by_cases h:l-(a.length:Int)<0
 ·rw[decide_eq_true h];exact⟨_,rfl,.inl (by omega)⟩
 rw[decide_eq_false h]
 have key:∀k i:Nat,i+k=a.length->∀l:Int,0<=l->l<=1048576->∃p,Ay B (l,(i:Int),())=some p/\((∃n,p=.inl n)\/∃n,p=.inr (n,())/\0<=n/\n<=1048576/\∀e∈a.drop i,Small e):=by
  intro k
  induction k with
  |zero=>
   intro i hi l h0 h1
   rw[B6,hB,decide_eq_false (by omega)]
   exact⟨_,rfl,.inr ⟨l,rfl,h0,h1,fun e he=>by rw[List.drop_eq_nil_iff.2 (by omega)]at he;cases he⟩⟩
  |succ k ih=>
   intro i hi l h0 h1
   have hlt:i<a.length:=by omega
   rw[B6,hB,decide_eq_true (by omega),Aj hlt]
   obtain⟨n,e1,h2⟩:=hF a[i] (List.getElem_mem hlt) l h0 h1
   simp only[cond_true,Option.bind_some,e1]
   rcases h2 with h2|⟨h2,h3,h4⟩
   ·rw[decide_eq_true h2];exact⟨_,rfl,.inl ⟨(n,()),rfl⟩⟩
   ·rw[decide_eq_false (show ¬n<0 by omega),Ak hlt (by omega)]
    obtain⟨p,e2,h5⟩:=ih (i+1) (by omega) n h2 h3
    refine⟨p,e2,h5.imp id ?_⟩
    rintro⟨m,rfl,h6,h7,h8⟩
    refine⟨m,rfl,h6,h7,fun e he=>?_⟩
    rw[List.drop_eq_getElem_cons hlt]at he
    rcases List.mem_cons.1 he with rfl|he
    ·exact h4
    ·exact h8 e he
 obtain⟨p,e1,h2⟩:=key a.length 0 (by omega) (l-a.length) (by omega) (by omega)
 simp only[Int.natCast_zero]at e1
 have e1':Ay B (l-(a.length:Int),0,())=some p:=e1
 rw[cond_false,e1']
 rcases h2 with⟨n,rfl⟩|⟨n,rfl,h3,h4,h5⟩
 ·exact⟨_,rfl,.inl (by omega)⟩
 ·exact⟨_,rfl,.inr ⟨h3,h4,by omega,by simpa using h5⟩⟩
theorem V5 (a:List VV)(ha:a.length<=1048576):Ib (a,())=some (a,()):=by
 unfold Ib
 simp only
 rw[if_pos (by omega),Int.toNat_natCast]
 refine Iw ha (fun i h out ho=>?_) fun out=>?_
 ·unfold E3
  simp only[Aj h,Option.bind_some,K6]
  rw[decide_eq_true (by omega),if_pos (by omega),Ak h (by omega)]
  simp[ho,h]
 ·unfold E3
  simp only
  rw[decide_eq_false (by omega)];rfl
theorem V6 {a:List VV}{l:Int}(ha:a.length<=maxLen)(h0:0<=l)(h1:l<=1048576):Lr (a.length<=1048576) (Ic (a,l,())):=Oc ha h0 h1
theorem Sc (a:List (List VV))(ha:CJ a):Ho (a,())=some (a,()):=by
 have hn:=ha.1
 unfold Ho
 simp only
 rw[if_pos (by omega),Int.toNat_natCast]
 refine Iw hn (fun i h out ho=>?_) fun out=>?_
 ·unfold DC
  simp only[Aj h,Option.bind_some,V5 _ (ha.2 _ (List.getElem_mem h))]
  rw[decide_eq_true (by omega),if_pos (by omega),Ak h (by omega)]
  simp[ho,h]
 ·unfold DC
  simp only
  rw[decide_eq_false (by omega)];rfl
theorem Se {a:List (List VV)}{l:Int}(ha:a.length<=maxLen)(hb:∀e∈a,e.length<=maxLen)(h0:0<=l)(h1:l<=1048576):Lr (CJ a) (Jh (a,l,())):=
 VP (Small:=HM) (F:=fun e l=>Ic (e,l,())) ha (fun e he l h0 h1=>V6 (hb e he) h0 h1) (fun l i=>rfl) h0 h1
theorem nC {a:List (List VV)}{l:Int}(ha:a.length<=maxLen)(hb:∀e∈a,e.length<=maxLen)(h0:0<=l)(h1:l<=1048576):Lr (CJ a) (Lg ((a,()),l,())):=Rh (Se ha hb h0 h1)
theorem nz (a:List (List VV))(ha:CJ a):JD ((a,()),())=some (a,()):=by
 simp[JD,Sc a ha]
theorem n9 {a:List (List VV)}:∀(k:Int),(∀e∈a,e.length<=1048576)->Fi k a<=k+5242880*a.length:=by
 induction a with
 |nil=>intro k _;simp[Fi]
 |cons r rs ih=>
  intro k h
  have h1:=ih (k+5*r.length) (fun e he=>h e (List.mem_cons_of_mem _ he))
  have h2:=h r (List.mem_cons_self ..)
  simp only[Fi,List.length_cons]
  push_cast
  omega
def YJ (a:List (List VV)):Prop:=a.length<9223372036854775000/\Fi 1 a<9223372036854775000
theorem CJ.small {a:List (List VV)}(h:CJ a):YJ a:=by
 have h1:=n9 1 h.2
 have h2:=h.1
 exact⟨by omega,by omega⟩
theorem XZ (v:VV):IO (v,v,())=some (true,()):=by
 simp[IO]
theorem Vg (a:List VV)(ha:a.length<9223372036854775000):Ig (a,a,())=some (true,()):=by
 unfold Ig
 simp only[bne_self_eq_false,cond_false]
 refine CL a.length (fun j=>((j:Int),())) rfl (fun j hj=>?_) ⟨.inr (),?_,rfl⟩
 ·unfold E6
  simp only[Aj hj,Option.bind_some,XZ]
  rw[decide_eq_true (by omega),wr1 (by omega) (by omega)]
  rfl
 ·unfold E6
  simp only
  rw[decide_eq_false (by omega)]
  rfl
theorem Sj (a:List (List VV))(ha:a.length<9223372036854775000)(hb:∀r∈a,r.length<9223372036854775000):Hw (a,a,())=some (true,()):=by
 unfold Hw
 simp only[bne_self_eq_false,cond_false]
 refine CL a.length (fun j=>((j:Int),())) rfl (fun j hj=>?_) ⟨.inr (),?_,rfl⟩
 ·unfold DG
  simp only[Aj hj,Option.bind_some,Vg _ (hb _ (List.getElem_mem hj))]
  rw[decide_eq_true (by omega),wr1 (by omega) (by omega)]
  rfl
 ·unfold DG
  simp only
  rw[decide_eq_false (by omega)]
  rfl
theorem zH {a:List (List VV)}{r:List VV}(h:r∈a)(k:Int):k+5*r.length<=Fi k a:=by
 induction a generalizing k with
 |nil=>cases h
 |cons s rs ih=>
  simp only[Fi]
  rcases List.mem_cons.1 h with rfl|h
  ·exact PZ _ _
  ·have:=ih h (k+5*s.length);omega
theorem YJ.row {a:List (List VV)}(h:YJ a):∀r∈a,r.length<9223372036854775000:=fun r hr=>by
 have:=zH hr 1;have:=h.2;omega
theorem Vh (v:VM):Ih (v,v,())=some (true,()):=by
 simp[Ih]
theorem Sk (a:List VM)(ha:a.length<9223372036854775000):Hx (a,a,())=some (true,()):=by
 unfold Hx
 simp only[bne_self_eq_false,cond_false]
 refine CL a.length (fun j=>((j:Int),())) rfl (fun j hj=>?_) ⟨.inr (),?_,rfl⟩
 ·unfold DH
  simp only[Aj hj,Option.bind_some,Vh]
  rw[decide_eq_true (by omega),wr1 (by omega) (by omega)]
  rfl
 ·unfold DH
  simp only
  rw[decide_eq_false (by omega)]
  rfl
theorem QX (n:Nat)(k:Int)(h0:0<=k)(hk:k+2*n<9223372036854775000):Gg (mkL mk2 2 k n,k,())=some (k+2*n,()):=by
 unfold Gg
 simp only
 refine CL n (fun j=>(k+2*(j:Int),(j:Int),())) (by simp) (fun j hj=>?_) ⟨.inr (.inr (k+2*n,())),?_,rfl⟩
 ·unfold CX
  have hg:lAt (mkL mk2 2 k n) (j:Int)=some (mk2 (k+2*(j:Int))):=by
   rw[Aj (by rw[AK];exact hj)]
   have:=Oq mk2 2 k n j hj
   rw[List.getElem?_eq_getElem (by rw[AK];exact hj)]at this
   exact this
  simp only[AK,hg,Option.bind_some]
  rw[decide_eq_true (by omega)]
  rw[wr1 (k:=k+2*(j:Int)) (by omega) (by omega),wr1 (k:=k+2*(j:Int)+1) (by omega) (by omega),wr1 (k:=(j:Int)) (by omega) (by omega)]
  simp only[mk2,cond_true]
  have e0:(k+2*(j:Int) != k+2*(j:Int))=false:=by first|simp|(rw[bne_eq_false_iff_eq];omega)
  have e1:(k+2*(j:Int)+1 != k+2*(j:Int)+1)=false:=by first|simp|(rw[bne_eq_false_iff_eq];omega)
  simp only[e0,e1,cond_false]
  congr 3
  ·push_cast;omega
 ·unfold CX
  simp only[AK]
  rw[decide_eq_false (by omega)]
  rfl
theorem nQ (v:VM):JK (v,v,())=some (true,()):=by
 simp[JK]
theorem aq (a:List VM)(ha:a.length<9223372036854775000):Ja (a,a,())=some (true,()):=by
 unfold Ja
 simp only[bne_self_eq_false,cond_false]
 refine CL a.length (fun j=>((j:Int),())) rfl (fun j hj=>?_) ⟨.inr (),?_,rfl⟩
 ·unfold Fc
  simp only[Aj hj,Option.bind_some,nQ]
  rw[decide_eq_true (by omega),wr1 (by omega) (by omega)]
  rfl
 ·unfold Fc
  simp only
  rw[decide_eq_false (by omega)]
  rfl
theorem Ve (n:Nat)(k:Int)(h0:0<=k)(hk:k+2*n<9223372036854775000):Ie (mkL mk2 2 k n,k,())=some (k+2*n,()):=by
 unfold Ie
 simp only
 refine CL n (fun j=>(k+2*(j:Int),(j:Int),())) (by simp) (fun j hj=>?_) ⟨.inr (.inr (k+2*n,())),?_,rfl⟩
 ·unfold E5
  have hg:lAt (mkL mk2 2 k n) (j:Int)=some (mk2 (k+2*(j:Int))):=by
   rw[Aj (by rw[AK];exact hj)]
   have:=Oq mk2 2 k n j hj
   rw[List.getElem?_eq_getElem (by rw[AK];exact hj)]at this
   exact this
  simp only[AK,hg,Option.bind_some]
  rw[decide_eq_true (by omega)]
  rw[wr1 (k:=k+2*(j:Int)) (by omega) (by omega),wr1 (k:=k+2*(j:Int)+1) (by omega) (by omega),wr1 (k:=(j:Int)) (by omega) (by omega)]
  simp only[mk2,cond_true]
  have e0:(k+2*(j:Int) != k+2*(j:Int))=false:=by first|simp|(rw[bne_eq_false_iff_eq];omega)
  have e1:(k+2*(j:Int)+1 != k+2*(j:Int)+1)=false:=by first|simp|(rw[bne_eq_false_iff_eq];omega)
  simp only[e0,e1,cond_false]
  congr 3
  ·push_cast;omega
 ·unfold E5
  simp only[AK]
  rw[decide_eq_false (by omega)]
  rfl
end Go.Ab
end
section
namespace Go.Ab
theorem RI (n:Nat)(k:Int)(h0:0<=k)(hk:k+5*n<9223372036854775000):GE (mkL mk5 5 k n,k,())=some (k+5*n,()):=by
 unfold GE
 simp only
 refine CL n (fun j=>(k+5*(j:Int),(j:Int),())) (by simp) (fun j hj=>?_) ⟨.inr (.inr (.inr (.inr (.inr (k+5*n,()))))),?_,rfl⟩
 ·unfold De
  have hg:lAt (mkL mk5 5 k n) (j:Int)=some (mk5 (k+5*(j:Int))):=by
   rw[Aj (by rw[AK];exact hj)]
   have:=Oq mk5 5 k n j hj
   rw[List.getElem?_eq_getElem (by rw[AK];exact hj)]at this
   exact this
  simp only[AK,hg,Option.bind_some]
  rw[decide_eq_true (by omega)]
  rw[wr1 (k:=k+5*(j:Int)) (by omega) (by omega),wr1 (k:=k+5*(j:Int)+1) (by omega) (by omega),wr1 (k:=k+5*(j:Int)+1+1) (by omega) (by omega),wr1 (k:=k+5*(j:Int)+1+1+1) (by omega) (by omega),wr1 (k:=k+5*(j:Int)+1+1+1+1) (by omega) (by omega),wr1 (k:=(j:Int)) (by omega) (by omega)]
  simp only[mk5,cond_true]
  have e0:(k+5*(j:Int) != k+5*(j:Int))=false:=by simp
  have e1:(k+5*(j:Int)+1 != k+5*(j:Int)+1)=false:=by simp
  have e2:(k+5*(j:Int)+2 != k+5*(j:Int)+1+1)=false:=by rw[bne_eq_false_iff_eq];omega
  have e3:(k+5*(j:Int)+3 != k+5*(j:Int)+1+1+1)=false:=by rw[bne_eq_false_iff_eq];omega
  have e4:(k+5*(j:Int)+4 != k+5*(j:Int)+1+1+1+1)=false:=by rw[bne_eq_false_iff_eq];omega
  simp only[e0,e1,e2,e3,e4,cond_false]
  congr 3
  ·push_cast;omega
 ·unfold De
  simp only[AK]
  rw[decide_eq_false (by omega)]
  rfl
theorem QW (xss:List (List VV))(k:Int)(h0:0<=k)(hk:Fi k xss<9223372036854775000)(hl:xss.length<9223372036854775000):Gf (Ph k xss,k,())=some (Fi k xss,()):=by
 unfold Gf
 simp only
 have key:∀(rs pre:List (List VV)) (k:Int),0<=k->Fi k rs<9223372036854775000->pre.length+rs.length<9223372036854775000->
  Ay (fun v=>BS (pre++Ph k rs,()) v _ some) (k,(pre.length:Int),())=some (.inr (Fi k rs,())):=by
  intro rs
  induction rs with
  |nil=>
   intro pre k h0 hk hl
   rw[B6]
   unfold BS
   simp only[Ph,List.append_nil]
   rw[decide_eq_false (by omega)]
   simp[Fi]
  |cons r rs ih=>
   intro pre k h0 hk hl
   have hge:=PZ (k+5*r.length) rs
   simp only[Fi]at hk
   simp only[List.length_cons]at hl
   rw[B6]
   simp only[Ph]
   have:=ih (pre++[mkL mk5 5 k r.length]) (k+5*r.length) (by omega) hk (by simp;omega)
   simp only[List.length_append,List.length_cons,List.length_nil,Nat.zero_add,Int.natCast_add,List.append_assoc,List.singleton_append]at this
   rw[show((1:Nat):Int)=1 from rfl]at this
   simp only[Fi]
   rw[<-this]
   have hB:BS (pre++mkL mk5 5 k r.length::Ph (k+5*r.length) rs,()) (k,(pre.length:Int),()) _ some=some (.inl (k+5*r.length,(pre.length:Int)+1,())):=by
    unfold BS
    have hg:lAt (pre++mkL mk5 5 k r.length::Ph (k+5*r.length) rs) (pre.length:Int)=some (mkL mk5 5 k r.length):=by
     rw[Aj (by simp)];simp
    simp only[hg,Option.bind_some,RI r.length k h0 (by omega)]
    rw[decide_eq_true (by simp;omega),decide_eq_false (by omega),wr1 (by omega) (by omega)]
    rfl
   rw[hB];rfl
 have:=key xss [] k h0 hk (by simpa using hl)
 simp only[List.length_nil,List.nil_append,Int.natCast_zero]at this
 rw[this];rfl
end Go.Ab
end
section
namespace Go.Ab
def Cg (a b:VM):Prop:=a.1<b.1\/(a.1=b.1/\a.2.1<b.2.1)
instance (a b:VM):Decidable (Cg a b):=by unfold Cg;infer_instance
theorem Y0 (a b:VM):HP ((a.1,a.2.1,()),(b.1,b.2.1,()),())=some (decide (Cg a b),()):=by
 unfold HP Cg
 by_cases h1:a.1<b.1
 ·simp[h1]
 ·by_cases h2:a.1=b.1
  ·simp[h2]
  ·have h3:(a.1==b.1)=false:=by simpa using h2
   simp[h1,h2,h3]
theorem z7 (a b:Int):C1 (a,b,())=some (if a<b then-1 else if a>b then 1 else 0,()):=by
 unfold C1 Jb
 by_cases h1:a<b
 ·simp[h1]
 ·by_cases h2:a>b<;>simp[h1,h2]
theorem Ad4 (a b:Int):KY ([a,b],())=some (if a≠0 then a else b,()):=by
 unfold KY
 have l0:lAt [a,b] 0=some a:=rfl
 have l1:lAt [a,b] 1=some b:=rfl
 have w0:IntKind.i64.wrap ((0:Int)+1)=1:=wr1 (by omega) (by omega)
 have w1:IntKind.i64.wrap ((1:Int)+1)=2:=wr1 (by omega) (by omega)
 have B0:Dm (0,[a,b],2,()) (0,()) ((Int×Unit) ⊕ ((Int×Unit) ⊕ Unit)) some=some (bif a != 0 then .inr (.inl (a,()))else .inl (1,())):=by
  unfold Dm
  simp only[l0,Option.bind_some,w0]
  cases(a != 0:Bool)<;>rfl
 have B1:Dm (0,[a,b],2,()) (1,()) ((Int×Unit) ⊕ ((Int×Unit) ⊕ Unit)) some=some (bif b != 0 then .inr (.inl (b,()))else .inl (2,())):=by
  unfold Dm
  simp only[l1,Option.bind_some,w1]
  cases(b != 0:Bool)<;>rfl
 have B2:Dm (0,[a,b],2,()) (2,()) ((Int×Unit) ⊕ ((Int×Unit) ⊕ Unit)) some=some (.inr (.inr ())):=by
  unfold Dm
  rfl
 have e:(((List.length [a,b]:Nat):Int))=2:=rfl
 simp only[e]
 rw[B6,B0]
 by_cases ha:a=0
 ·subst ha
  simp only[bne_self_eq_false,cond_false,Option.bind_some]
  rw[B6,B1]
  by_cases hb:b=0
  ·subst hb
   simp only[bne_self_eq_false,cond_false,Option.bind_some]
   rw[B6,B2];rfl
  ·have:(b != 0)=true:=by simpa using hb
   rw[this];simp[Au]
 ·have:(a != 0)=true:=by simpa using ha
  rw[this];simp[Au,ha]
theorem NN (a b:VM):∃n:Int,BX ((a.1,a.2.1,()),(b.1,b.2.1,()),())=some (n,())/\(n>=0↔¬Cg a b):=by
 unfold BX
 simp only[z7,Ad4,Option.bind_some]
 refine⟨_,rfl,?_⟩
 unfold Cg
 by_cases h1:a.1<b.1
 ·simp[h1]
 ·by_cases h2:a.1>b.1
  ·simp[h1,h2];omega
  ·have h3:a.1=b.1:=by omega
   simp[h3]
   by_cases h4:a.2.1<b.2.1
   ·simp[h4]
   ·by_cases h5:a.2.1>b.2.1<;>simp[h4,h5]<;>omega
def A03 (l:List VM)(i:Nat):Prop:=∃h:i<l.length,inB l[i].1 0 5=true/\inB l[i].2.1 0 999=true/\∀h2:0<i,Cg (l[i-1]'(by omega)) l[i]
def zX (l:List VM)(i:Nat):Prop:=∃h:i<l.length,inB l[i].1 0 5=true/\inB l[i].2.1 (-1) 99=true/\∀h2:0<i,(l[i-1]'(by omega)).1<l[i].1
def OF (l:List VM):Prop:=∀i,i<l.length->A03 l i
def RN (l:List VM):Prop:=∀i,i<l.length->zX l i
theorem XO {l:List VM}(hl:l.length<=1048576):DL (l,())=some (dec (OF l)&&decide (l.length<=60),()):=by
 have e:DL (l,())=bif dec (OF l)then some (decide (((l.length:Nat):Int)<=60),())else some (false,()):=by
  unfold DL
  refine Cy (n:=l.length) (c:=A03 l) (fun i hi=>?_) ⟨.inr (.inr (.inr ())),?_,rfl⟩
  ·unfold Fd
   simp only[Aj hi,Option.bind_some,PJ,IZ]
   rw[decide_eq_true (by omega)]
   simp only[cond_true]
   cases h1:inB l[i].1 0 5 with
   |false=>exact⟨fun⟨_,h,_⟩=>(by rw[h1]at h;cases h),fun _=>⟨.inl _,rfl,rfl⟩⟩
   |true=>
    simp only[Bool.not_true,cond_false]
    cases h2:inB l[i].2.1 0 999 with
    |false=>exact⟨fun⟨_,_,h,_⟩=>(by rw[h2]at h;cases h),fun _=>⟨.inr (.inl _),rfl,rfl⟩⟩
    |true=>
     simp only[Bool.not_true,cond_false]
     rw[Ak hi (by omega)]
     by_cases h3:0<i
     ·have hlt:i-1<l.length:=by omega
      rw[decide_eq_true (show(i:Int)>0 by omega),show IntKind.i64.wrap ((i:Int)-1)=((i-1:Nat):Int)from by rw[CQ (by omega) (by omega)];omega,Aj hlt]
      obtain⟨n,e1,e2⟩:=NN l[i-1] l[i]
      simp only[cond_true,Option.bind_some,e1]
      by_cases hb:Cg l[i-1] l[i]
      ·rw[decide_eq_false (fun h=>e2.1 h hb)]
       exact⟨fun _=>rfl,fun h=>absurd ⟨hi,h1,h2,fun _=>hb⟩ h⟩
      ·rw[decide_eq_true (e2.2 hb)]
       exact⟨fun⟨_,_,_,h⟩=>absurd (h h3) hb,fun _=>⟨.inr (.inr (.inl _)),rfl,rfl⟩⟩
     ·rw[decide_eq_false (show ¬(i:Int)>0 by omega)]
      exact⟨fun _=>rfl,fun h=>absurd ⟨hi,h1,h2,fun h=>absurd h h3⟩ h⟩
  ·unfold Fd
   simp only
   rw[decide_eq_false (by omega)];rfl
 rw[e]
 have d:decide (((l.length:Nat):Int)<=60)=decide (l.length<=60):=decide_eq_decide.2 (by omega)
 rw[d]
 cases dec (OF l)<;>simp
theorem Vb {l:List VM}(hl:l.length<=1048576):Df (l,())=some (dec (RN l),()):=by
 have e:Df (l,())=bif dec (RN l)then some (true,())else some (false,()):=by
  unfold Df
  refine Cy (n:=l.length) (c:=zX l) (fun i hi=>?_) ⟨.inr (.inr (.inr ())),?_,rfl⟩
  ·unfold Er
   simp only[Aj hi,Option.bind_some,PJ,Qg]
   rw[decide_eq_true (by omega)]
   simp only[cond_true]
   cases h1:inB l[i].1 0 5 with
   |false=>exact⟨fun⟨_,h,_⟩=>(by rw[h1]at h;cases h),fun _=>⟨.inl _,rfl,rfl⟩⟩
   |true=>
    simp only[Bool.not_true,cond_false]
    cases h2:inB l[i].2.1 (-1) 99 with
    |false=>exact⟨fun⟨_,_,h,_⟩=>(by rw[h2]at h;cases h),fun _=>⟨.inr (.inl _),rfl,rfl⟩⟩
    |true=>
     simp only[Bool.not_true,cond_false]
     rw[Ak hi (by omega)]
     by_cases h3:0<i
     ·have hlt:i-1<l.length:=by omega
      rw[decide_eq_true (show(i:Int)>0 by omega),show IntKind.i64.wrap ((i:Int)-1)=((i-1:Nat):Int)from by rw[CQ (by omega) (by omega)];omega,Aj hlt]
      simp only[cond_true,Option.bind_some]
      by_cases hb:l[i-1].1<l[i].1
      ·rw[decide_eq_false (by omega)]
       exact⟨fun _=>rfl,fun h=>absurd ⟨hi,h1,h2,fun _=>hb⟩ h⟩
      ·rw[decide_eq_true (by omega)]
       exact⟨fun⟨_,_,_,h⟩=>absurd (h h3) hb,fun _=>⟨.inr (.inr (.inl _)),rfl,rfl⟩⟩
     ·rw[decide_eq_false (show ¬(i:Int)>0 by omega)]
      exact⟨fun _=>rfl,fun h=>absurd ⟨hi,h1,h2,fun h=>absurd h h3⟩ h⟩
  ·unfold Er
   simp only
   rw[decide_eq_false (by omega)];rfl
 rw[e]
 cases dec (RN l)<;>rfl
noncomputable def okT (id sc st be lo hi co:Int)(rd wr:List VM):Bool:=
 dec (OF rd)&&dec (RN wr)&&inB id 1 9&&inB sc 1 4&&inB be 0 999&&inB st 1 3&&inB lo 0 999&&inB hi 1 1000&&((st==2)==decide (co>0))&&inB co 0 999&&decide (rd.length<=60)
theorem Ra {id sc st be lo hi co:Int}{rd wr:List VM}(hr:rd.length<=1048576)(hw:wr.length<=1048576):AO ((id,sc,st,be,lo,hi,co,rd,wr,()),())=some (okT id sc st be lo hi co rd wr,()):=by
 unfold AO
 simp only
 refine(Cy (n:=rd.length) (c:=A03 rd) (no:=some (false,())) (X:=bif dec (RN wr)then some (inB id 1 9&&inB sc 1 4&&inB be 0 999&&inB st 1 3&&inB lo 0 999&&inB hi 1 1000&&((st==2)==decide (co>0))&&inB co 0 999&&decide (rd.length<=60),())else some (false,())) (fun i hi'=>?_) ⟨.inr (.inr (.inr ())),?_,?_⟩).trans ?_
 ·unfold C0
  simp only[Aj hi',Option.bind_some,Ed]
  rw[decide_eq_true (by omega)]
  simp only[cond_true]
  cases h1:inB rd[i].1 0 5 with
  |false=>exact⟨fun⟨_,h,_⟩=>(by rw[h1]at h;cases h),fun _=>⟨.inl _,rfl,rfl⟩⟩
  |true=>
   simp only[Bool.not_true,cond_false]
   cases h2:inB rd[i].2.1 0 999 with
   |false=>exact⟨fun⟨_,_,h,_⟩=>(by rw[h2]at h;cases h),fun _=>⟨.inr (.inl _),rfl,rfl⟩⟩
   |true=>
    simp only[Bool.not_true,cond_false]
    rw[Ak hi' (by omega)]
    by_cases h3:0<i
    ·have hlt:i-1<rd.length:=by omega
     rw[decide_eq_true (show(i:Int)>0 by omega),show IntKind.i64.wrap ((i:Int)-1)=((i-1:Nat):Int)from by rw[CQ (by omega) (by omega)];omega,Aj hlt]
     simp only[cond_true,Option.bind_some,Y0]
     by_cases hb:Cg rd[i-1] rd[i]
     ·rw[decide_eq_true hb]
      exact⟨fun _=>rfl,fun h=>absurd ⟨hi',h1,h2,fun _=>hb⟩ h⟩
     ·rw[decide_eq_false hb]
      exact⟨fun⟨_,_,_,h⟩=>absurd (h h3) hb,fun _=>⟨.inr (.inr (.inl _)),rfl,rfl⟩⟩
    ·rw[decide_eq_false (show ¬(i:Int)>0 by omega)]
     exact⟨fun _=>rfl,fun h=>absurd ⟨hi',h1,h2,fun h=>absurd h h3⟩ h⟩
 ·unfold C0
  simp only
  rw[decide_eq_false (by omega)];rfl
 ·refine Cy (n:=wr.length) (c:=zX wr) (fun i hi'=>?_) ⟨.inr (.inr (.inr ())),?_,?_⟩
  ·unfold BZ
   simp only[Aj hi',Option.bind_some,Ed]
   rw[decide_eq_true (by omega)]
   simp only[cond_true]
   cases h1:inB wr[i].1 0 5 with
   |false=>exact⟨fun⟨_,h,_⟩=>(by rw[h1]at h;cases h),fun _=>⟨.inl _,rfl,rfl⟩⟩
   |true=>
    simp only[Bool.not_true,cond_false]
    cases h2:inB wr[i].2.1 (-1) 99 with
    |false=>exact⟨fun⟨_,_,h,_⟩=>(by rw[h2]at h;cases h),fun _=>⟨.inr (.inl _),rfl,rfl⟩⟩
    |true=>
     simp only[Bool.not_true,cond_false]
     rw[Ak hi' (by omega)]
     by_cases h3:0<i
     ·have hlt:i-1<wr.length:=by omega
      rw[decide_eq_true (show(i:Int)>0 by omega),show IntKind.i64.wrap ((i:Int)-1)=((i-1:Nat):Int)from by rw[CQ (by omega) (by omega)];omega,Aj hlt]
      simp only[cond_true,Option.bind_some]
      by_cases hb:wr[i-1].1<wr[i].1
      ·rw[decide_eq_false (by omega)]
       exact⟨fun _=>rfl,fun h=>absurd ⟨hi',h1,h2,fun _=>hb⟩ h⟩
      ·rw[decide_eq_true (by omega)]
       exact⟨fun⟨_,_,_,h⟩=>absurd (h h3) hb,fun _=>⟨.inr (.inr (.inl _)),rfl,rfl⟩⟩
     ·rw[decide_eq_false (show ¬(i:Int)>0 by omega)]
      exact⟨fun _=>rfl,fun h=>absurd ⟨hi',h1,h2,fun h=>absurd h h3⟩ h⟩
  ·unfold BZ
   simp only
   rw[decide_eq_false (by omega)];rfl
  ·simp only[Au,Ed,Option.bind_some]
   have d:decide (((rd.length:Nat):Int)<=60)=decide (rd.length<=60):=decide_eq_decide.2 (by omega)
   rw[d]
   cases inB id 1 9<;>cases inB sc 1 4<;>cases inB be 0 999<;>cases inB st 1 3<;>cases inB lo 0 999<;>cases inB hi 1 1000<;>cases((st==2)==decide (co>0):Bool)<;>cases inB co 0 999<;>rfl
 ·unfold okT
  show(bif dec (OF rd)then _ else _)=_
  cases dec (OF rd)<;>cases dec (RN wr)<;>simp
end Go.Ab
end
section
namespace Go.Ab
theorem Q3 {α:Type}{a:List α}(ha:a.length<=1048576){B:Int×List α×Unit->Option ((Int×List α×Unit) ⊕ (List α×Unit))}
 (hB:∀(i:Nat) (h:i<a.length) (out:List α),out.length=i->B ((i:Int),out,())=some (.inl (((i+1:Nat):Int),out++[a[i]],())))(hend:∀out,B ((a.length:Int),out,())=some (.inr (out,()))):
 ((Ay B (0,[],())).bind fun p=>some (p.1,()))=some (a,()):=by
 rw[HU (r:=(a,())) a.length (fun i=>((i:Int),a.take i,()))]
 ·rfl
 ·simp
 ·intro i hi
  rw[hB i hi _ (by simp;omega)]
  have e:a.take i++[a[i]]=a.take (i+1):=by rw[List.take_append_getElem hi]
  rw[e]
 ·simp[hend]
theorem RD {s:List (List VV)}(hs:CJ s):IY ((s,()),())=some (s,()):=by
 have hn:=hs.1
 unfold IY
 refine Q3 hn (fun i h out ho=>?_) fun out=>?_
 ·have hsm:s[i].length<=1048576:=hs.2 _ (List.getElem_mem h)
  unfold GL LF
  simp only[Aj h,Option.bind_some]
  rw[decide_eq_true (by omega),if_pos (by omega)]
  simp only[cond_true,Option.bind_some,List.length_append,List.length_cons,List.length_nil]
  rw[if_pos (by omega),Ak h (by omega)]
 ·unfold GL
  simp only
  rw[decide_eq_false (by omega)];rfl
theorem A5z {l:List VV}(hl:l.length<=1048576):Dk (l,())=some (l,()):=by
 unfold Dk
 simp only
 rw[if_pos (by omega)]
 cases l with
 |nil=>exact Mu _
 |cons a l=>rfl
theorem an {s:List (List VV)}(hs:CJ s):GG ((s,()),())=some (s,()):=by
 have hn:=hs.1
 unfold GG
 refine Q3 hn (fun i h out ho=>?_) fun out=>?_
 ·have hsm:s[i].length<=1048576:=hs.2 _ (List.getElem_mem h)
  unfold Dh
  simp only[Aj h,Option.bind_some,A5z hsm,List.length_append,List.length_cons,List.length_nil]
  rw[decide_eq_true (by omega),if_pos (by omega),Ak h (by omega)]
  rfl
 ·unfold Dh
  simp only
  rw[decide_eq_false (by omega)];rfl
theorem yx {id sc st be lo hi co:Int}{rd wr:List VM}(hr:rd.length<=1048576)(hw:wr.length<=1048576):EZ ((id,sc,st,be,lo,hi,co,rd,wr,()),())=some (id,sc,st,be,lo,hi,co,rd,wr,()):=by
 unfold EZ
 simp only
 rw[if_pos (by omega),if_pos (by omega)]
def fvI (l:List VV)(c:Int):Option Nat:=(l.map (fun v=>v.2.2.1)).findIdx? (fun x=>x==c)
def fx:Option Nat->Int|some i=>(i:Int)|none=>-1
theorem zJ (b:Bool):dec (b=true)=b:=by
 cases b
 ·exact Bl (by simp)
 ·exact AD rfl
theorem Ey {α:Type}{l:List α}{p:α->Bool}(hn:l.length<=1048576){B:Int×Unit->Option ((Int×Unit) ⊕ ((Int×Unit) ⊕ Unit))}
 (hB:∀i (h:i<l.length),B ((i:Int),())=some (bif p l[i]then .inr (.inl ((i:Int),()))else .inl (((i+1:Nat):Int),())))(hend:B ((l.length:Int),())=some (.inr (.inr ()))):
 ((Ay B (0,())).bind fun q=>Au q (fun q=>some (q.1,())) fun _=>some (-1,()))=some (fx (l.findIdx? p),()):=by
 obtain⟨n,e,h⟩:=Mq (ρ:=Unit) (l:=l) (p:=fun x=>p x=true) hn (B:=B) (fun i h=>by rw[hB i h,zJ]) hend
 rw[e]
 rcases h with⟨i,hi,rfl,hp,hq⟩|⟨rfl,hq⟩
 ·have:l.findIdx? p=some i:=List.findIdx?_eq_some_iff_getElem.2 ⟨hi,hp,fun j hj=>by simpa using hq j hj⟩
  rw[this];rfl
 ·have:l.findIdx? p=none:=List.findIdx?_eq_none_iff.2 fun x hx=>by simpa using hq x hx
  rw[this];rfl
theorem RB {l:List VV}(hl:l.length<=1048576)(c:Int):DY (l,c,())=some (fx (fvI l c),()):=by
 unfold DY fvI
 rw[List.findIdx?_map]
 refine Ey hl (fun i h=>?_) ?_
 ·unfold DB
  simp only[Aj h,Option.bind_some]
  rw[decide_eq_true (by omega),Ak h (by omega)]
  simp only[cond_true,Function.comp]
  cases(l[i].2.2.1==c:Bool)<;>rfl
 ·unfold DB
  simp only
  rw[decide_eq_false (by omega)];rfl
theorem RH {l:List VV}(hl:l.length<=1048576)(c:Int):Ft (l,c,())=some (fx (fvI l c),()):=by
 unfold Ft CA fvI
 rw[List.findIdx?_map]
 have:=Ey hl (p:=(fun x=>x==c)∘fun v:VV=>v.2.2.1) (B:=fun v=>AL (l,(some c,()),((l.length:Nat):Int),()) v _ some) (fun i h=>by
  unfold AL Iu
  simp only[Aj h,Option.bind_some]
  rw[decide_eq_true (by omega),Ak h (by omega)]
  simp only[cond_true,Function.comp]
  cases(l[i].2.2.1==c:Bool)<;>rfl) (by
  unfold AL
  simp only
  rw[decide_eq_false (by omega)];rfl)
 simp only[this,Option.bind_some]
theorem Qr {l:List VV}{c:Int}{j:Nat}(h:fvI l c=some j):j<l.length:=by
 unfold fvI at h
 obtain⟨h1,_⟩:=List.findIdx?_eq_some_iff_getElem.1 h
 simpa using h1
theorem aG (o:Option Nat):decide (fx o<0)=o.isNone:=by
 cases o with
 |none=>rfl
 |some i=>exact decide_eq_false (by simp only[fx];omega)
def JS (s:List (List VV))(m:VM):Option (List VV):=s[m.1.toNat]?
def HJ (s:List (List VV))(m:VM):Prop:=∃l j,JS s m=some l/\fvI l m.2.1=some j
theorem Kv {s:List (List VV)}{m:VM}(h6:s.length=6)(hm:inB m.1 0 5=true):∃k:Nat,m.1=(k:Int)/\k<s.length/\∃l,s[k]?=some l/\lAt s m.1=some l/\JS s m=some l/\l∈s:=by
 unfold inB at hm
 simp only[Bool.and_eq_true,decide_eq_true_eq]at hm
 obtain⟨k,hk⟩:=Int.eq_ofNat_of_zero_le hm.1
 have hlt:k<s.length:=by omega
 refine⟨k,hk,hlt,s[k],by simp[hlt],by rw[hk];exact Aj hlt,?_,List.getElem_mem hlt⟩
 unfold JS
 rw[hk];simp[hlt]
theorem RC {s:List (List VV)}(hs:CJ s)(hok:Mg s){id sc st be lo hi co:Int}{rd wr:List VM}(hr:rd.length<=1048576)(hw:wr.length<=1048576)(hT:okT id sc st be lo hi co rd wr=true)(hrd:OF rd):
 Dq ((s,()),(id,sc,st,be,lo,hi,co,rd,wr,()),())=some (dec (∀m∈rd,HJ s m),()):=by
 unfold Dq
 simp only[MH hs,AD hok,Ra hr hw,hT,Option.bind_some,Bool.not_true,cond_false]
 refine(Cy (n:=rd.length) (c:=fun i=>∃h:i<rd.length,HJ s rd[i]) (X:=some (true,())) (no:=some (false,())) (fun i hi'=>?_) ⟨.inr (),?_,rfl⟩).trans ?_
 ·obtain⟨_,h1,_⟩:=hrd i hi'
  obtain⟨k,hk,hlt,l,e1,e2,e3,hm⟩:=Kv hok.1 h1
  unfold DW
  simp only[Aj hi',Option.bind_some,e2,RB (hs.2 _ hm),aG]
  rw[decide_eq_true (by omega),Ak hi' (by omega)]
  simp only[cond_true]
  cases hf:fvI l rd[i].2.1 with
  |none=>
   refine⟨fun⟨_,l',j,h2,h3⟩=>?_,fun _=>⟨.inl (),rfl,rfl⟩⟩
   rw[e3]at h2;obtain rfl:l=l':=by simpa using h2
   rw[hf]at h3;cases h3
  |some j=>exact⟨fun _=>rfl,fun h=>absurd ⟨hi',l,j,e3,hf⟩ h⟩
 ·unfold DW
  simp only
  rw[decide_eq_false (by omega)];rfl
 ·rw[Ka (q:=∀m∈rd,HJ s m)]
  ·cases dec (∀m∈rd,HJ s m)<;>rfl
  ·constructor
   ·intro h m hm
    obtain⟨i,hi',rfl⟩:=List.getElem_of_mem hm
    exact(h i hi').2
   ·intro h i hi';exact⟨hi',h _ (List.getElem_mem hi')⟩
theorem al {s:List (List VV)}(hs:CJ s)(h6:s.length=6){m:VM}(hm:inB m.1 0 5=true):∃o:Option VV,Dx ((s,()),(m.1,m.2.1,()),())=some (o,())/\(o.isNone=false↔HJ s m):=by
 obtain⟨k,hk,hlt,l,e1,e2,e3,hl⟩:=Kv h6 hm
 unfold Dx
 simp only[e2,Option.bind_some,RH (hs.2 _ hl),aG]
 cases hf:fvI l m.2.1 with
 |none=>
  refine⟨none,rfl,by simp,fun⟨l',j,h2,h3⟩=>?_⟩
  rw[e3]at h2;obtain rfl:l=l':=by simpa using h2
  rw[hf]at h3;cases h3
 |some j=>
  have hj:=Qr hf
  refine⟨some l[j],?_,fun _=>⟨l,j,e3,hf⟩,fun _=>rfl⟩
  simp only[Option.isNone_some,cond_false,fx]
  rw[Aj hj];rfl
theorem yT {s:List (List VV)}(hs:CJ s)(h6:s.length=6){rd:List VM}(hr:rd.length<=1048576)(hrd:OF rd):
 Dg ((s,()),rd,())=some (dec (∀m∈rd,HJ s m),()):=by
 unfold Dg BI C2
 obtain⟨n,e,h⟩:=Mq (ρ:=Unit) (l:=rd) (p:=fun m=>¬HJ s m) hr (B:=fun v=>AE (rd,(some (s,()),()),((rd.length:Nat):Int),()) v _ some) (fun i hi=>by
  obtain⟨_,h1,_⟩:=hrd i hi
  obtain⟨o,e1,e2⟩:=al hs h6 h1
  unfold AE FR
  simp only[Aj hi,Option.bind_some,e1]
  rw[decide_eq_true (by omega),Ak hi (by omega)]
  simp only[cond_true]
  cases ho:o.isNone with
  |true=>rw[AD (fun hh=>by rw[e2.2 hh]at ho;cases ho)];rfl
  |false=>rw[Bl (fun hh=>hh (e2.1 ho))];rfl) (by
  unfold AE
  simp only
  rw[decide_eq_false (by omega)];rfl)
 simp only[e,Option.bind_some]
 rcases h with⟨i,hi,rfl,hp,_⟩|⟨rfl,hp⟩
 ·rw[decide_eq_true (by omega),Bl (fun hh=>hp (hh _ (List.getElem_mem hi)))];rfl
 ·rw[decide_eq_false (by omega),AD (fun m hm=>Classical.not_not.1 (hp m hm))];rfl
end Go.Ab
end
section
namespace Go.Ab
theorem MY {σ α:Type}{l:List α}{f:σ->α->σ}{Inv:σ->Nat->Prop}{n0:σ}{B:Int×σ×Unit->Option ((Int×σ×Unit) ⊕ (σ×Unit))}
 (hB:∀(i:Nat) (h:i<l.length) (n:σ),Inv n i->B ((i:Int),n,())=some (.inl (((i+1:Nat):Int),f n l[i],())))(hI:∀(i:Nat) (h:i<l.length) n,Inv n i->Inv (f n l[i]) (i+1))(h0:Inv n0 0)
 (hend:∀n,B ((l.length:Int),n,())=some (.inr (n,()))):Ay B (0,n0,())=some (l.foldl f n0,())/\Inv (l.foldl f n0) l.length:=by
 have key:∀m i:Nat,i+m=l.length->∀n,Inv n i->Ay B ((i:Int),n,())=some ((l.drop i).foldl f n,())/\Inv ((l.drop i).foldl f n) l.length:=by
  intro m
  induction m with
  |zero=>
   intro i hi n hn
   obtain rfl:i=l.length:=by omega
   rw[B6,hend];simpa using hn
  |succ m ih=>
   intro i hi n hn
   have h:i<l.length:=by omega
   rw[B6,hB i h n hn,List.drop_eq_getElem_cons h]
   simp only[Option.bind_some]
   exact ih (i+1) (by omega) _ (hI i h n hn)
 simpa using key l.length 0 (by omega) n0 h0
def Sb (st:Int)(v:VV):VV:=(v.1,v.2.1,v.2.2.1,mx v.2.2.2.1 st,v.2.2.2.2.1,())
def N8 (st:Int)(s:List (List VV))(m:VM):List (List VV):=match JS s m with
 |some l=>match fvI l m.2.1 with
  |some j=>match l[j]? with
   |some v=>s.set m.1.toNat (l.set j (Sb st v))
   |none=>s
  |none=>s
 |none=>s
def oE (hi:Int)(v:VV):VV:=(v.1,v.2.1,v.2.2.1,v.2.2.2.1,hi,())
def Pv (st id hi:Int)(s:List (List VV))(m:VM):List (List VV):=match JS s m with
 |some l=>match l[l.length-1]? with
  |some v=>s.set m.1.toNat (l.set (l.length-1) (oE hi v)++[(id,m.2.1,st,st,1000,())])
  |none=>s
 |none=>s
def stOK (s:List (List VV))(n:Nat):Prop:=s.length=6/\∀l∈s,0<l.length/\l.length<=50+n
theorem stOK.set {s:List (List VV)}{n k:Nat}{l:List VV}(h:stOK s n){n':Nat}(hn:n<=n')(h0:0<l.length)(h1:l.length<=50+n'):stOK (s.set k l) n':=by
 refine⟨by simpa using h.1,fun x hx=>?_⟩
 rcases List.mem_or_eq_of_mem_set hx with h2|rfl
 ·have:=h.2 x h2;omega
 ·exact⟨h0,h1⟩
theorem stOK.small {s:List (List VV)}{n:Nat}(h:stOK s n)(hn:n<=1000):CJ s:=
 ⟨by have:=h.1;omega,fun l hl=>by have:=h.2 l hl;unfold HM;omega⟩
theorem A74 {l:List VV}{j:Nat}{v:VV}(c:Int)(h:l[j]?=some v)(st:Int):fvI (l.set j (Sb st v)) c=fvI l c:=by
 have e:(l.set j (Sb st v)).map (fun v=>v.2.2.1)=l.map (fun v=>v.2.2.1):=by
  rw[List.map_set]
  obtain⟨hlt,h2⟩:=List.getElem?_eq_some_iff.1 h
  apply List.ext_getElem
  ·simp
  ·intro i h3 h4
   rw[List.getElem_set]
   split
   ·rename_i e;subst e;simp[h2,Sb]
   ·rfl
 unfold fvI
 rw[e]
theorem Qs {s:List (List VV)}{m x:VM}(st:Int)(hx:HJ s x):HJ (N8 st s m) x:=by
 unfold N8
 split
 ·rename_i l hl
  split
  ·rename_i j hj
   split
   ·rename_i v hv
    obtain⟨l',j',h1,h2⟩:=hx
    unfold HJ JS at*
    by_cases e:m.1.toNat=x.1.toNat
    ·rw[<-e,hl]at h1
     obtain rfl:l=l':=by simpa using h1
     refine⟨l.set j (Sb st v),j',?_,by rw[A74 _ hv];exact h2⟩
     rw[<-e]
     have:=(List.getElem?_eq_some_iff.1 hl).1
     simp[this]
    ·exact⟨l',j',by rw[List.getElem?_set_ne e];exact h1,h2⟩
   ·exact hx
  ·exact hx
 ·exact hx
theorem Sz {s:List (List VV)}{n:Nat}{m:VM}(st:Int)(h:stOK s n):stOK (N8 st s m) n:=by
 unfold N8
 split
 ·rename_i l hl
  have hm:=h.2 l (List.mem_of_getElem? hl)
  split
  ·split
   ·exact h.set (Nat.le_refl _) (by simpa using hm.1) (by simpa using hm.2)
   ·exact h
  ·exact h
 ·exact h
theorem Sy {s:List (List VV)}{n:Nat}{m:VM}(st id hi:Int)(h:stOK s n):stOK (Pv st id hi s m) (n+1):=by
 unfold Pv
 split
 ·rename_i l hl
  have hm:=h.2 l (List.mem_of_getElem? hl)
  split
  ·exact h.set (Nat.le_succ _) (by simp) (by simp;omega)
  ·exact⟨h.1,fun x hx=>by have:=h.2 x hx;omega⟩
 ·exact⟨h.1,fun x hx=>by have:=h.2 x hx;omega⟩
theorem Mg.stOK {s:List (List VV)}(h:Mg s):stOK s 0:=⟨h.1,fun l hl=>⟨(h.2 l hl).1.2.1,by have:=(h.2 l hl).2;omega⟩⟩
end Go.Ab
end
section
namespace Go.Ab
theorem Sd (a:List VM)(ha:a.length<=1048576):Hq (a,())=some (a,()):=by
 unfold Hq
 simp only
 rw[if_pos (by omega),Int.toNat_natCast]
 refine Iw ha (fun i h out ho=>?_) fun out=>?_
 ·unfold DD
  simp only[Aj h,Option.bind_some,JF]
  rw[decide_eq_true (by omega),if_pos (by omega),Ak h (by omega)]
  simp[ho,h]
 ·unfold DD
  simp only
  rw[decide_eq_false (by omega)];rfl
theorem ZR (a:List VM)(ha:a.length<=1048576):J8 (a,())=some (a,()):=by
 unfold J8
 simp only
 rw[if_pos (by omega),Int.toNat_natCast]
 refine Iw ha (fun i h out ho=>?_) fun out=>?_
 ·unfold Fa
  simp only[Aj h,Option.bind_some,Ld]
  rw[decide_eq_true (by omega),if_pos (by omega),Ak h (by omega)]
  simp[ho,h]
 ·unfold Fa
  simp only
  rw[decide_eq_false (by omega)];rfl
theorem Sf {a:List VM}{l:Int}(ha:a.length<=maxLen)(h0:0<=l)(h1:l<=1048576):Lr (a.length<=1048576) (Ji (a,l,())):=Oc ha h0 h1
theorem ZS {a:List VM}{l:Int}(ha:a.length<=maxLen)(h0:0<=l)(h1:l<=1048576):Lr (a.length<=1048576) (KG (a,l,())):=Oc ha h0 h1
theorem nS {c:List (List VV)}(h:CJ c):JM ((c,()),(c,()),())=some (true,()):=by
 have hh:=h.small
 simp[JM,Sj c hh.1 hh.row]
theorem XH {c:List (List VV)}(h:CJ c):Ht (1,c,())=some (Fi 1 c,Ph 1 c,()):=by
 have hh:=h.small
 simp[Ht,QV c 1 (by omega) hh.2 hh.1]
theorem XW {c:List (List VV)}(h:CJ c):IL ((Ph 1 c,()),1,())=some (Fi 1 c,()):=by
 have hh:=h.small
 have:=PZ 1 c
 have e:decide (Fi 1 c<0)=false:=decide_eq_false (by omega)
 simp only[IL,QW c 1 (by omega) hh.2 hh.1,Option.bind_some,e,cond_false]
theorem aJ {c:List (List VV)}(h:CJ c):1<=Fi 1 c/\Fi 1 c<=1000000000000000000:=by
 have h1:=n9 1 h.2
 have h2:=h.1
 have h3:=PZ 1 c
 omega
end Go.Ab
end
section
namespace Go.Ab
end Go.Ab
end
section
namespace Go.Ab
def A63 (l:List VM)(i:Nat):Prop:=∃h:i<l.length,inB l[i].1 0 5=true/\inB l[i].2.1 1 9=true/\∀h2:0<i,(l[i-1]'(by omega)).1<l[i].1
def QZ (l:List VM):Prop:=∀i,i<l.length->A63 l i
def zW (l:List VM)(i:Nat):Prop:=∃h:i<l.length,inB l[i].1 1 9=true/\inB l[i].2.1 1 9=true/\l[i].1≠l[i].2.1/\∀h2:0<i,(l[i-1]'(by omega)).1<l[i].1
def Np (l:List VM):Prop:=∀i,i<l.length->zW l i
theorem N4 {l:List VM}(hl:l.length<=1048576):EE (l,())=some (dec (QZ l),()):=by
 have e:EE (l,())=bif dec (QZ l)then some (true,())else some (false,()):=by
  unfold EE
  refine Cy (n:=l.length) (c:=A63 l) (fun i hi=>?_) ⟨.inr (.inr (.inr ())),?_,rfl⟩
  ·unfold Fh
   simp only[Aj hi,Option.bind_some,PJ,NM]
   rw[decide_eq_true (by omega)]
   simp only[cond_true]
   cases h1:inB l[i].1 0 5 with
   |false=>exact⟨fun⟨_,h,_⟩=>(by rw[h1]at h;cases h),fun _=>⟨_,rfl,rfl⟩⟩
   |true=>
    simp only[Bool.not_true,cond_false]
    cases h2:inB l[i].2.1 1 9 with
    |false=>exact⟨fun⟨_,_,h,_⟩=>(by rw[h2]at h;cases h),fun _=>⟨_,rfl,rfl⟩⟩
    |true=>
    simp only[Bool.not_true,cond_false]
    rw[Ak hi (by omega)]
    by_cases h3:0<i
    ·have hlt:i-1<l.length:=by omega
     rw[decide_eq_true (show(i:Int)>0 by omega),show IntKind.i64.wrap ((i:Int)-1)=((i-1:Nat):Int)from by rw[CQ (by omega) (by omega)];omega,Aj hlt]
     simp only[cond_true,Option.bind_some]
     by_cases hb:l[i-1].1<l[i].1
     ·rw[decide_eq_false (by omega)]
      exact⟨fun _=>rfl,fun h=>absurd ⟨hi,h1,h2,fun _=>hb⟩ h⟩
     ·rw[decide_eq_true (by omega)]
      exact⟨fun⟨_,_,_,h⟩=>absurd (h h3) hb,fun _=>⟨_,rfl,rfl⟩⟩
    ·rw[decide_eq_false (show ¬(i:Int)>0 by omega)]
     exact⟨fun _=>rfl,fun h=>absurd ⟨hi,h1,h2,fun h=>absurd h h3⟩ h⟩
  ·unfold Fh
   simp only
   rw[decide_eq_false (by omega)];rfl
 rw[e]
 cases dec (QZ l)<;>rfl
theorem KD {l:List VM}(hl:l.length<=1048576):EA (l,())=some (dec (QZ l),()):=by
 have e:EA (l,())=bif dec (QZ l)then some (true,())else some (false,()):=by
  unfold EA
  refine Cy (n:=l.length) (c:=A63 l) (fun i hi=>?_) ⟨.inr (.inr (.inr ())),?_,rfl⟩
  ·unfold F8
   simp only[Aj hi,Option.bind_some,Ed]
   rw[decide_eq_true (by omega)]
   simp only[cond_true]
   cases h1:inB l[i].1 0 5 with
   |false=>exact⟨fun⟨_,h,_⟩=>(by rw[h1]at h;cases h),fun _=>⟨_,rfl,rfl⟩⟩
   |true=>
    simp only[Bool.not_true,cond_false]
    cases h2:inB l[i].2.1 1 9 with
    |false=>exact⟨fun⟨_,_,h,_⟩=>(by rw[h2]at h;cases h),fun _=>⟨_,rfl,rfl⟩⟩
    |true=>
    simp only[Bool.not_true,cond_false]
    rw[Ak hi (by omega)]
    by_cases h3:0<i
    ·have hlt:i-1<l.length:=by omega
     rw[decide_eq_true (show(i:Int)>0 by omega),show IntKind.i64.wrap ((i:Int)-1)=((i-1:Nat):Int)from by rw[CQ (by omega) (by omega)];omega,Aj hlt]
     simp only[cond_true,Option.bind_some]
     by_cases hb:l[i-1].1<l[i].1
     ·rw[decide_eq_false (by omega)]
      exact⟨fun _=>rfl,fun h=>absurd ⟨hi,h1,h2,fun _=>hb⟩ h⟩
     ·rw[decide_eq_true (by omega)]
      exact⟨fun⟨_,_,_,h⟩=>absurd (h h3) hb,fun _=>⟨_,rfl,rfl⟩⟩
    ·rw[decide_eq_false (show ¬(i:Int)>0 by omega)]
     exact⟨fun _=>rfl,fun h=>absurd ⟨hi,h1,h2,fun h=>absurd h h3⟩ h⟩
  ·unfold F8
   simp only
   rw[decide_eq_false (by omega)];rfl
 rw[e]
 cases dec (QZ l)<;>rfl
theorem J7 {l:List VM}(hl:l.length<=1048576):DM (l,())=some (dec (Np l),()):=by
 have e:DM (l,())=bif dec (Np l)then some (true,())else some (false,()):=by
  unfold DM
  refine Cy (n:=l.length) (c:=zW l) (fun i hi=>?_) ⟨.inr (.inr (.inr (.inr ()))),?_,rfl⟩
  ·unfold Fg
   simp only[Aj hi,Option.bind_some,NM]
   rw[decide_eq_true (by omega)]
   simp only[cond_true]
   cases h1:inB l[i].1 1 9 with
   |false=>exact⟨fun⟨_,h,_⟩=>(by rw[h1]at h;cases h),fun _=>⟨_,rfl,rfl⟩⟩
   |true=>
    simp only[Bool.not_true,cond_false]
    cases h2:inB l[i].2.1 1 9 with
    |false=>exact⟨fun⟨_,_,h,_⟩=>(by rw[h2]at h;cases h),fun _=>⟨_,rfl,rfl⟩⟩
    |true=>
    simp only[Bool.not_true,cond_false]
    by_cases hq:l[i].1=l[i].2.1
    ·rw[show(l[i].1==l[i].2.1)=true from by simpa using hq]
     exact⟨fun⟨_,_,_,h,_⟩=>absurd hq h,fun _=>⟨_,rfl,rfl⟩⟩
    rw[show(l[i].1==l[i].2.1)=false from by simpa using hq]
    simp only[cond_false]
    rw[Ak hi (by omega)]
    by_cases h3:0<i
    ·have hlt:i-1<l.length:=by omega
     rw[decide_eq_true (show(i:Int)>0 by omega),show IntKind.i64.wrap ((i:Int)-1)=((i-1:Nat):Int)from by rw[CQ (by omega) (by omega)];omega,Aj hlt]
     simp only[cond_true,Option.bind_some]
     by_cases hb:l[i-1].1<l[i].1
     ·rw[decide_eq_false (by omega)]
      exact⟨fun _=>rfl,fun h=>absurd ⟨hi,h1,h2,hq,fun _=>hb⟩ h⟩
     ·rw[decide_eq_true (by omega)]
      exact⟨fun⟨_,_,_,_,h⟩=>absurd (h h3) hb,fun _=>⟨_,rfl,rfl⟩⟩
    ·rw[decide_eq_false (show ¬(i:Int)>0 by omega)]
     exact⟨fun _=>rfl,fun h=>absurd ⟨hi,h1,h2,hq,fun h=>absurd h h3⟩ h⟩
  ·unfold Fg
   simp only
   rw[decide_eq_false (by omega)];rfl
 rw[e]
 cases dec (Np l)<;>rfl
theorem KC {l:List VM}(hl:l.length<=1048576):Ez (l,())=some (dec (Np l),()):=by
 have e:Ez (l,())=bif dec (Np l)then some (true,())else some (false,()):=by
  unfold Ez
  refine Cy (n:=l.length) (c:=zW l) (fun i hi=>?_) ⟨.inr (.inr (.inr (.inr ()))),?_,rfl⟩
  ·unfold F7
   simp only[Aj hi,Option.bind_some,Ed]
   rw[decide_eq_true (by omega)]
   simp only[cond_true]
   cases h1:inB l[i].1 1 9 with
   |false=>exact⟨fun⟨_,h,_⟩=>(by rw[h1]at h;cases h),fun _=>⟨_,rfl,rfl⟩⟩
   |true=>
    simp only[Bool.not_true,cond_false]
    cases h2:inB l[i].2.1 1 9 with
    |false=>exact⟨fun⟨_,_,h,_⟩=>(by rw[h2]at h;cases h),fun _=>⟨_,rfl,rfl⟩⟩
    |true=>
    simp only[Bool.not_true,cond_false]
    by_cases hq:l[i].1=l[i].2.1
    ·rw[show(l[i].1==l[i].2.1)=true from by simpa using hq]
     exact⟨fun⟨_,_,_,h,_⟩=>absurd hq h,fun _=>⟨_,rfl,rfl⟩⟩
    rw[show(l[i].1==l[i].2.1)=false from by simpa using hq]
    simp only[cond_false]
    rw[Ak hi (by omega)]
    by_cases h3:0<i
    ·have hlt:i-1<l.length:=by omega
     rw[decide_eq_true (show(i:Int)>0 by omega),show IntKind.i64.wrap ((i:Int)-1)=((i-1:Nat):Int)from by rw[CQ (by omega) (by omega)];omega,Aj hlt]
     simp only[cond_true,Option.bind_some]
     by_cases hb:l[i-1].1<l[i].1
     ·rw[decide_eq_false (by omega)]
      exact⟨fun _=>rfl,fun h=>absurd ⟨hi,h1,h2,hq,fun _=>hb⟩ h⟩
     ·rw[decide_eq_true (by omega)]
      exact⟨fun⟨_,_,_,_,h⟩=>absurd (h h3) hb,fun _=>⟨_,rfl,rfl⟩⟩
    ·rw[decide_eq_false (show ¬(i:Int)>0 by omega)]
     exact⟨fun _=>rfl,fun h=>absurd ⟨hi,h1,h2,hq,fun h=>absurd h h3⟩ h⟩
  ·unfold F7
   simp only
   rw[decide_eq_false (by omega)];rfl
 rw[e]
 cases dec (Np l)<;>rfl
abbrev TX:=Int×Int×Int×Int×Int×Int×Int×List VM×List VM×Unit
noncomputable def Mf (t:TX):Bool:=okT t.1 t.2.1 t.2.2.1 t.2.2.2.1 t.2.2.2.2.1 t.2.2.2.2.2.1 t.2.2.2.2.2.2.1 t.2.2.2.2.2.2.2.1 t.2.2.2.2.2.2.2.2.1
def smT (t:TX):Prop:=t.2.2.2.2.2.2.2.1.length<=1048576/\t.2.2.2.2.2.2.2.2.1.length<=1048576
theorem mN {id sc st be lo hi co:Int}{rd wr:List VM}(hr:rd.length<=1048576)(hw:wr.length<=1048576):CM ((id,sc,st,be,lo,hi,co,rd,wr,()),())=some (okT id sc st be lo hi co rd wr,()):=by
 unfold CM G3 Ln
 simp only[NM,IZ,XO hr,Vb hw,Option.bind_some]
 unfold okT
 have e1:∀n:Int,inB n 1 999=(inB n 0 999&&decide (n>0)):=fun n=>by
  unfold inB
  rw[Bool.eq_iff_iff]
  simp only[Bool.and_eq_true,decide_eq_true_eq]
  omega
 have e2:(co==0)=(inB co 0 999&&!decide (co>0)):=by
  unfold inB
  rw[Bool.eq_iff_iff]
  simp only[beq_iff_eq,Bool.and_eq_true,decide_eq_true_eq,Bool.not_eq_true',decide_eq_false_iff_not]
  omega
 simp only[e1,e2,bne]
 cases inB id 1 9<;>cases inB sc 1 4<;>cases inB be 0 999<;>cases inB st 1 3<;>cases inB lo 0 999<;>cases inB hi 1 1000<;>cases(st==2:Bool)<;>cases inB co 0 999<;>cases decide (co>0)<;>cases dec (OF rd)<;>cases decide (rd.length<=60)<;>cases dec (RN wr)<;>rfl
theorem az {id sc st be lo hi co:Int}{rd wr:List VM}(h:okT id sc st be lo hi co rd wr=true):OF rd:=by
 unfold okT at h
 simp only[Bool.and_eq_true]at h
 by_cases h2:OF rd
 ·exact h2
 ·have:=h.1.1.1.1.1.1.1.1.1.1
  rw[Bl h2]at this;cases this
def A00 (s:List (List VV))(stamp:Int)(l:List TX)(i:Nat):Prop:=∃h:i<l.length,Mf l[i]=true/\(∀h2:0<i,(l[i-1]'(by omega)).1<l[i].1)/\l[i].2.2.2.1<=stamp/\l[i].2.2.2.2.2.2.1<=stamp/\(l[i].2.2.1=1->∀m∈l[i].2.2.2.2.2.2.2.1,HJ s m)
def PL (s:List (List VV))(stamp:Int)(l:List TX):Prop:=∀i,i<l.length->A00 s stamp l i
section
variable {s:List (List VV)}(hs:CJ s)(hok:Mg s){l:List TX}(hl:l.length<=1048576)(hsm:∀t∈l,smT t)
include hs hok hl hsm
theorem nM (ce:Bool)(lk wt:List VM)(stamp:Int):C3 ((ce,(s,()),l,lk,wt,stamp,()),())=some (dec (PL s stamp l)&&decide (l.length<=6),()):=by
 have e:C3 ((ce,(s,()),l,lk,wt,stamp,()),())=bif dec (PL s stamp l)then some (decide (((l.length:Nat):Int)<=6),())else some (false,()):=by
  unfold C3
  refine Cy (n:=l.length) (c:=A00 s stamp l) (fun i hi=>?_) ⟨.inr (.inr (.inr (.inr (.inr (.inr (.inr (.inr ()))))))),?_,rfl⟩
  ·have hm:=hsm _ (List.getElem_mem hi)
   unfold Bw
   simp only[Aj hi,Option.bind_some,mN hm.1 hm.2]
   rw[decide_eq_true (by omega)]
   simp only[cond_true]
   cases h1:Mf l[i]with
   |false=>
    have h1':=h1
    unfold Mf at h1'
    rw[h1']
    exact⟨fun⟨_,h,_⟩=>(by rw[h1]at h;cases h),fun _=>⟨_,rfl,rfl⟩⟩
   |true=>
    have h1':=h1
    unfold Mf at h1'
    rw[h1']
    simp only[Bool.not_true,cond_false,yT hs hok.1 hm.1 (az h1'),Option.bind_some]
    rw[Ak hi (by omega)]
    by_cases h3:0<i
    ·have hlt:i-1<l.length:=by omega
     rw[decide_eq_true (show(i:Int)>0 by omega),show IntKind.i64.wrap ((i:Int)-1)=((i-1:Nat):Int)from by rw[CQ (by omega) (by omega)];omega,Aj hlt]
     simp only[cond_true,Option.bind_some]
     by_cases hb:l[i-1].1<l[i].1
     case neg=>
      rw[decide_eq_true (by omega)]
      exact⟨fun⟨_,_,h,_⟩=>absurd (h h3) hb,fun _=>⟨_,rfl,rfl⟩⟩
     rw[decide_eq_false (by omega)]
     simp only[cond_false]
     by_cases q1:l[i].2.2.2.1<=stamp
     case neg=>
      rw[decide_eq_true (by omega)]
      exact⟨fun⟨_,_,_,h,_⟩=>absurd h q1,fun _=>⟨_,rfl,rfl⟩⟩
     rw[decide_eq_false (by omega)]
     simp only[cond_false]
     by_cases q2:l[i].2.2.2.2.2.2.1<=stamp
     case neg=>
      rw[decide_eq_true (by omega)]
      exact⟨fun⟨_,_,_,_,h,_⟩=>absurd h q2,fun _=>⟨_,rfl,rfl⟩⟩
     rw[decide_eq_false (by omega)]
     simp only[cond_false]
     by_cases q3:l[i].2.2.1=1
     ·rw[show(l[i].2.2.1==1)=true from by simpa using q3]
      simp only[cond_true]
      by_cases q4:∀m∈l[i].2.2.2.2.2.2.2.1,HJ s m
      ·rw[AD q4]
       exact⟨fun _=>rfl,fun h=>absurd ⟨hi,h1,fun _=>hb,q1,q2,fun _=>q4⟩ h⟩
      ·rw[Bl q4]
       exact⟨fun⟨_,_,_,_,_,h⟩=>absurd (h q3) q4,fun _=>⟨_,rfl,rfl⟩⟩
     ·rw[show(l[i].2.2.1==1)=false from by simpa using q3]
      exact⟨fun _=>rfl,fun h=>absurd ⟨hi,h1,fun _=>hb,q1,q2,fun h=>absurd h q3⟩ h⟩
    ·rw[decide_eq_false (show ¬(i:Int)>0 by omega)]
     simp only[cond_false]
     by_cases q1:l[i].2.2.2.1<=stamp
     case neg=>
      rw[decide_eq_true (by omega)]
      exact⟨fun⟨_,_,_,h,_⟩=>absurd h q1,fun _=>⟨_,rfl,rfl⟩⟩
     rw[decide_eq_false (by omega)]
     simp only[cond_false]
     by_cases q2:l[i].2.2.2.2.2.2.1<=stamp
     case neg=>
      rw[decide_eq_true (by omega)]
      exact⟨fun⟨_,_,_,_,h,_⟩=>absurd h q2,fun _=>⟨_,rfl,rfl⟩⟩
     rw[decide_eq_false (by omega)]
     simp only[cond_false]
     by_cases q3:l[i].2.2.1=1
     ·rw[show(l[i].2.2.1==1)=true from by simpa using q3]
      simp only[cond_true]
      by_cases q4:∀m∈l[i].2.2.2.2.2.2.2.1,HJ s m
      ·rw[AD q4]
       exact⟨fun _=>rfl,fun h=>absurd ⟨hi,h1,fun h=>absurd h h3,q1,q2,fun _=>q4⟩ h⟩
      ·rw[Bl q4]
       exact⟨fun⟨_,_,_,_,_,h⟩=>absurd (h q3) q4,fun _=>⟨_,rfl,rfl⟩⟩
     ·rw[show(l[i].2.2.1==1)=false from by simpa using q3]
      exact⟨fun _=>rfl,fun h=>absurd ⟨hi,h1,fun h=>absurd h h3,q1,q2,fun h=>absurd h q3⟩ h⟩
  ·unfold Bw
   simp only
   rw[decide_eq_false (by omega)];rfl
 rw[e]
 have d:decide (((l.length:Nat):Int)<=6)=decide (l.length<=6):=decide_eq_decide.2 (by omega)
 rw[d]
 cases dec (PL s stamp l)<;>rfl
end
end Go.Ab
end
section
namespace Go.Ab
section
variable {s:List (List VV)}(hs:CJ s)(hok:Mg s){l:List TX}(hl:l.length<=1048576)(hsm:∀t∈l,smT t)
include hs hok hl hsm
theorem nF (ce:Bool)(lk wt:List VM)(stamp:Int){τ:Type}(X no:Option τ):((Ay (fun v=>Cm (ce,s,l,lk,wt,stamp,()) v _ some) (0,())).bind fun p=>Au p (fun p=>no) fun p=>Au p (fun p=>no) fun p=>Au p (fun p=>no) fun p=>Au p (fun p=>no) fun p=>Au p (fun p=>no) fun p=>Au p (fun p=>no) fun p=>Au p (fun p=>no) fun p=>Au p (fun p=>no) fun p=>X)=bif dec (PL s stamp l)then X else no:=by
 refine Cy (n:=l.length) (c:=A00 s stamp l) (fun i hi=>?_) ⟨.inr (.inr (.inr (.inr (.inr (.inr (.inr (.inr ()))))))),?_,rfl⟩
 ·have hm:=hsm _ (List.getElem_mem hi)
  unfold Cm
  simp only[Aj hi,Option.bind_some,Ra hm.1 hm.2]
  rw[decide_eq_true (by omega)]
  simp only[cond_true]
  cases h1:Mf l[i]with
  |false=>
   have h1':=h1
   unfold Mf at h1'
   rw[h1']
   exact⟨fun⟨_,h,_⟩=>(by rw[h1]at h;cases h),fun _=>⟨_,rfl,rfl⟩⟩
  |true=>
   have h1':=h1
   unfold Mf at h1'
   rw[h1']
   simp only[Bool.not_true,cond_false,RC hs hok hm.1 hm.2 h1' (az h1'),Option.bind_some]
   rw[Ak hi (by omega)]
   by_cases h3:0<i
   ·have hlt:i-1<l.length:=by omega
    rw[decide_eq_true (show(i:Int)>0 by omega),show IntKind.i64.wrap ((i:Int)-1)=((i-1:Nat):Int)from by rw[CQ (by omega) (by omega)];omega,Aj hlt]
    simp only[cond_true,Option.bind_some]
    by_cases hb:l[i-1].1<l[i].1
    case neg=>
     rw[decide_eq_true (by omega)]
     exact⟨fun⟨_,_,h,_⟩=>absurd (h h3) hb,fun _=>⟨_,rfl,rfl⟩⟩
    rw[decide_eq_false (by omega)]
    simp only[cond_false]
    by_cases q1:l[i].2.2.2.1<=stamp
    case neg=>
     rw[decide_eq_true (by omega)]
     exact⟨fun⟨_,_,_,h,_⟩=>absurd h q1,fun _=>⟨_,rfl,rfl⟩⟩
    rw[decide_eq_false (by omega)]
    simp only[cond_false]
    by_cases q2:l[i].2.2.2.2.2.2.1<=stamp
    case neg=>
     rw[decide_eq_true (by omega)]
     exact⟨fun⟨_,_,_,_,h,_⟩=>absurd h q2,fun _=>⟨_,rfl,rfl⟩⟩
    rw[decide_eq_false (by omega)]
    simp only[cond_false]
    by_cases q3:l[i].2.2.1=1
    ·rw[show(l[i].2.2.1==1)=true from by simpa using q3]
     simp only[cond_true]
     by_cases q4:∀m∈l[i].2.2.2.2.2.2.2.1,HJ s m
     ·rw[AD q4]
      exact⟨fun _=>rfl,fun h=>absurd ⟨hi,h1,fun _=>hb,q1,q2,fun _=>q4⟩ h⟩
     ·rw[Bl q4]
      exact⟨fun⟨_,_,_,_,_,h⟩=>absurd (h q3) q4,fun _=>⟨_,rfl,rfl⟩⟩
    ·rw[show(l[i].2.2.1==1)=false from by simpa using q3]
     exact⟨fun _=>rfl,fun h=>absurd ⟨hi,h1,fun _=>hb,q1,q2,fun h=>absurd h q3⟩ h⟩
   ·rw[decide_eq_false (show ¬(i:Int)>0 by omega)]
    simp only[cond_false]
    by_cases q1:l[i].2.2.2.1<=stamp
    case neg=>
     rw[decide_eq_true (by omega)]
     exact⟨fun⟨_,_,_,h,_⟩=>absurd h q1,fun _=>⟨_,rfl,rfl⟩⟩
    rw[decide_eq_false (by omega)]
    simp only[cond_false]
    by_cases q2:l[i].2.2.2.2.2.2.1<=stamp
    case neg=>
     rw[decide_eq_true (by omega)]
     exact⟨fun⟨_,_,_,_,h,_⟩=>absurd h q2,fun _=>⟨_,rfl,rfl⟩⟩
    rw[decide_eq_false (by omega)]
    simp only[cond_false]
    by_cases q3:l[i].2.2.1=1
    ·rw[show(l[i].2.2.1==1)=true from by simpa using q3]
     simp only[cond_true]
     by_cases q4:∀m∈l[i].2.2.2.2.2.2.2.1,HJ s m
     ·rw[AD q4]
      exact⟨fun _=>rfl,fun h=>absurd ⟨hi,h1,fun h=>absurd h h3,q1,q2,fun _=>q4⟩ h⟩
     ·rw[Bl q4]
      exact⟨fun⟨_,_,_,_,_,h⟩=>absurd (h q3) q4,fun _=>⟨_,rfl,rfl⟩⟩
    ·rw[show(l[i].2.2.1==1)=false from by simpa using q3]
     exact⟨fun _=>rfl,fun h=>absurd ⟨hi,h1,fun h=>absurd h h3,q1,q2,fun h=>absurd h q3⟩ h⟩
 ·unfold Cm
  simp only
  rw[decide_eq_false (by omega)];rfl
end
def E7 (l:List TX)(id:Int):Bool:=match l.findIdx? (fun t=>t.1==id)with
 |some i=>match l[i]? with
  |some t=>t.2.2.1==1
  |none=>false
 |none=>false
theorem XF {s:List (List VV)}{l:List TX}(hl:l.length<=1048576)(ce:Bool)(lk wt:List VM)(stamp id:Int):Ds ((ce,(s,()),l,lk,wt,stamp,()),id,())=some (fx (l.findIdx? (fun t=>t.1==id)),()):=by
 unfold Ds
 refine Ey hl (fun i h=>?_) ?_
 ·unfold Ct
  simp only[Aj h,Option.bind_some]
  rw[decide_eq_true (by omega),Ak h (by omega)]
  simp only[cond_true]
  cases(l[i].1==id:Bool)<;>rfl
 ·unfold Ct
  simp only
  rw[decide_eq_false (by omega)];rfl
theorem XR {s:List (List VV)}{l:List TX}(hl:l.length<=1048576)(ce:Bool)(lk wt:List VM)(stamp id:Int):Dy ((ce,(s,()),l,lk,wt,stamp,()),id,())=some (fx (l.findIdx? (fun t=>t.1==id)),()):=by
 unfold Dy C8
 have:=Ey hl (p:=fun t:TX=>t.1==id) (B:=fun v=>AF (l,(some id,()),((l.length:Nat):Int),()) v _ some) (fun i h=>by
  unfold AF Gv
  simp only[Aj h,Option.bind_some]
  rw[decide_eq_true (by omega),Ak h (by omega)]
  simp only[cond_true]
  cases(l[i].1==id:Bool)<;>rfl) (by
  unfold AF
  simp only
  rw[decide_eq_false (by omega)];rfl)
 simp only[this,Option.bind_some]
theorem YG (l:List TX)(id:Int):(bif decide (fx (l.findIdx? (fun t=>t.1==id))>=0)then(lAt l (fx (l.findIdx? (fun t=>t.1==id)))).bind fun v=>some (v.2.2.1==1,())else some (false,()))=some (E7 l id,()):=by
 unfold E7
 cases h:l.findIdx? (fun t=>t.1==id)with
 |none=>rfl
 |some i=>
  obtain⟨hi,_⟩:=List.findIdx?_eq_some_iff_getElem.1 h
  have e1:decide (fx (some i)>=0)=true:=decide_eq_true (by simp only[fx];omega)
  have e2:lAt l (fx (some i))=some l[i]:=Aj hi
  rw[e1,e2]
  simp[hi]
theorem SK {s:List (List VV)}{l:List TX}(hl:l.length<=1048576)(ce:Bool)(lk wt:List VM)(stamp id:Int):F0 ((ce,(s,()),l,lk,wt,stamp,()),id,())=some (E7 l id,()):=by
 unfold F0
 simp only[XF hl,Option.bind_some]
 exact YG l id
theorem Om {s:List (List VV)}{l:List TX}(hl:l.length<=1048576)(ce:Bool)(lk wt:List VM)(stamp id:Int):Cc ((ce,(s,()),l,lk,wt,stamp,()),id,())=some (E7 l id,()):=by
 unfold Cc
 simp only[XR hl,Option.bind_some]
 exact YG l id
section
variable {s:List (List VV)}{l:List TX}(hl:l.length<=1048576)
include hl
theorem nG (ce:Bool)(lk wt:List VM)(hk:lk.length<=1048576)(stamp:Int){τ:Type}(X no:Option τ):((Ay (fun v=>C7 (ce,s,l,lk,wt,stamp,()) v _ some) (0,())).bind fun p=>Au p (fun p=>no) fun p=>X)=bif dec (∀m∈lk,E7 l m.2.1=true)then X else no:=by
 refine(Cy (n:=lk.length) (c:=fun i=>∃h:i<lk.length,E7 l lk[i].2.1=true) (X:=X) (no:=no) (fun i hi=>?_) ⟨.inr (),?_,rfl⟩).trans ?_
 ·unfold C7
  simp only[Aj hi,Option.bind_some,SK hl]
  rw[decide_eq_true (by omega),Ak hi (by omega)]
  cases h:E7 l lk[i].2.1 with
  |true=>exact⟨fun _=>rfl,fun hh=>absurd ⟨hi,h⟩ hh⟩
  |false=>exact⟨fun⟨_,hh⟩=>(by rw[h]at hh;cases hh),fun _=>⟨_,rfl,rfl⟩⟩
 ·unfold C7
  simp only
  rw[decide_eq_false (by omega)];rfl
 ·rw[Ka (q:=∀m∈lk,E7 l m.2.1=true)]
  constructor
  ·intro h m hm
   obtain⟨i,hi',rfl⟩:=List.getElem_of_mem hm
   exact(h i hi').2
  ·intro h i hi';exact⟨hi',h _ (List.getElem_mem hi')⟩
theorem nE (ce:Bool)(lk wt:List VM)(hk:wt.length<=1048576)(stamp:Int){τ:Type}(X no:Option τ):((Ay (fun v=>C6 (ce,s,l,lk,wt,stamp,()) v _ some) (0,())).bind fun p=>Au p (fun p=>no) fun p=>Au p (fun p=>no) fun p=>X)=bif dec (∀m∈wt,E7 l m.1=true/\E7 l m.2.1=true)then X else no:=by
 refine(Cy (n:=wt.length) (c:=fun i=>∃h:i<wt.length,E7 l wt[i].1=true/\E7 l wt[i].2.1=true) (X:=X) (no:=no) (fun i hi=>?_) ⟨.inr (.inr ()),?_,rfl⟩).trans ?_
 ·unfold C6
  simp only[Aj hi,Option.bind_some,SK hl]
  rw[decide_eq_true (by omega),Ak hi (by omega)]
  cases h:E7 l wt[i].1 with
  |false=>exact⟨fun⟨_,hh,_⟩=>(by rw[h]at hh;cases hh),fun _=>⟨_,rfl,rfl⟩⟩
  |true=>
   cases h':E7 l wt[i].2.1 with
   |true=>exact⟨fun _=>rfl,fun hh=>absurd ⟨hi,h,h'⟩ hh⟩
   |false=>exact⟨fun⟨_,_,hh⟩=>(by rw[h']at hh;cases hh),fun _=>⟨_,rfl,rfl⟩⟩
 ·unfold C6
  simp only
  rw[decide_eq_false (by omega)];rfl
 ·rw[Ka (q:=∀m∈wt,E7 l m.1=true/\E7 l m.2.1=true)]
  constructor
  ·intro h m hm
   obtain⟨i,hi',rfl⟩:=List.getElem_of_mem hm
   exact(h i hi').2
  ·intro h i hi';exact⟨hi',h _ (List.getElem_mem hi')⟩
theorem nO (ce:Bool)(lk wt:List VM)(hk:lk.length<=1048576)(stamp:Int):Br (lk,(some (ce,(s,()),l,lk,wt,stamp,()),()),())=some (!dec (∀m∈lk,E7 l m.2.1=true),()):=by
 unfold Br Co
 obtain⟨n,e,h⟩:=Mq (ρ:=Unit) (l:=lk) (p:=fun m=>¬E7 l m.2.1=true) hk (B:=fun v=>AI (lk,(some (ce,(s,()),l,lk,wt,stamp,()),()),((lk.length:Nat):Int),()) v _ some) (fun i hi=>by
  unfold AI HF
  simp only[Aj hi,Option.bind_some,Om hl]
  rw[decide_eq_true (by omega),Ak hi (by omega)]
  cases ho:E7 l lk[i].2.1 with
  |true=>rw[Bl (fun hh=>hh rfl)];rfl
  |false=>rw[AD (by simp)];rfl) (by
  unfold AI
  simp only
  rw[decide_eq_false (by omega)];rfl)
 simp only[e,Option.bind_some]
 rcases h with⟨i,hi,rfl,hp,_⟩|⟨rfl,hp⟩
 ·rw[decide_eq_true (by omega),Bl (fun hh=>hp (hh _ (List.getElem_mem hi)))];rfl
 ·rw[decide_eq_false (by omega),AD (fun m hm=>Classical.not_not.1 (hp m hm))];rfl
theorem nL (ce:Bool)(lk wt:List VM)(hk:wt.length<=1048576)(stamp:Int):Bq (wt,(some (ce,(s,()),l,lk,wt,stamp,()),()),())=some (!dec (∀m∈wt,E7 l m.1=true/\E7 l m.2.1=true),()):=by
 unfold Bq Cn
 obtain⟨n,e,h⟩:=Mq (ρ:=Unit) (l:=wt) (p:=fun m=>¬(E7 l m.1=true/\E7 l m.2.1=true)) hk (B:=fun v=>AH (wt,(some (ce,(s,()),l,lk,wt,stamp,()),()),((wt.length:Nat):Int),()) v _ some) (fun i hi=>by
  unfold AH HD
  simp only[Aj hi,Option.bind_some,Om hl]
  rw[decide_eq_true (by omega),Ak hi (by omega)]
  cases ho:E7 l wt[i].1 with
  |false=>rw[AD (by simp)];rfl
  |true=>
   cases ho':E7 l wt[i].2.1 with
   |true=>rw[Bl (fun hh=>hh ⟨rfl,rfl⟩)];rfl
   |false=>rw[AD (by simp)];rfl) (by
  unfold AH
  simp only
  rw[decide_eq_false (by omega)];rfl)
 simp only[e,Option.bind_some]
 rcases h with⟨i,hi,rfl,hp,_⟩|⟨rfl,hp⟩
 ·rw[decide_eq_true (by omega),Bl (fun hh=>hp (hh _ (List.getElem_mem hi)))];rfl
 ·rw[decide_eq_false (by omega),AD (fun m hm=>Classical.not_not.1 (hp m hm))];rfl
end
noncomputable def okE (s:List (List VV))(l:List TX)(lk wt:List VM)(stamp:Int):Bool:=
 dec (Mg s)&&dec (QZ lk)&&dec (Np wt)&&inB stamp (s.foldl JO 0) 999&&dec (PL s stamp l)&&decide (l.length<=6)&&dec (∀m∈lk,E7 l m.2.1=true)&&dec (∀m∈wt,E7 l m.1=true/\E7 l m.2.1=true)
structure SmallE (s:List (List VV))(l:List TX)(lk wt:List VM):Prop where
 fs:CJ s
 fl:l.length<=1048576
 ft:∀t∈l,smT t
 fk:lk.length<=1048576
 fw:wt.length<=1048576
theorem A5v {s:List (List VV)}{l:List TX}{lk wt:List VM}(h:SmallE s l lk wt)(ce:Bool)(stamp:Int):Gl ((ce,(s,()),l,lk,wt,stamp,()),())=some (okE s l lk wt stamp,()):=by
 unfold Gl okE
 simp only[A5u h.fs,N4 h.fk,J7 h.fw,aj h.fs,IZ,nO h.fl _ _ _ h.fk,nL h.fl _ _ _ h.fw,Option.bind_some]
 by_cases h1:Mg s
 case neg=>rw[Bl h1];rfl
 rw[AD h1,nM h.fs h1 h.fl h.ft]
 simp only[Option.bind_some]
 cases dec (QZ lk)<;>cases dec (Np wt)<;>cases inB stamp (s.foldl JO 0) 999<;>cases dec (PL s stamp l)<;>cases decide (l.length<=6)<;>cases dec (∀m∈lk,E7 l m.2.1=true)<;>cases dec (∀m∈wt,E7 l m.1=true/\E7 l m.2.1=true)<;>rfl
theorem mM {s:List (List VV)}{l:List TX}{lk wt:List VM}(h:SmallE s l lk wt)(ce:Bool)(stamp:Int):Ea ((ce,(s,()),l,lk,wt,stamp,()),())=some (okE s l lk wt stamp,()):=by
 unfold Ea okE
 simp only[MH h.fs,KD h.fk,KC h.fw,Ed,Option.bind_some]
 by_cases h1:Mg s
 case neg=>rw[Bl h1];rfl
 rw[AD h1]
 simp only[Rz h.fs h1,Ed,Option.bind_some,nF h.fs h1 h.fl h.ft,nG h.fl _ _ _ h.fk,nE h.fl _ _ _ h.fw]
 have d:decide (((l.length:Nat):Int)>6)=!decide (l.length<=6):=by
  rw[Bool.eq_iff_iff]
  simp only[decide_eq_true_eq,Bool.not_eq_true',decide_eq_false_iff_not]
  omega
 rw[d]
 cases dec (QZ lk)<;>cases dec (Np wt)<;>cases inB stamp (s.foldl JO 0) 999<;>cases dec (PL s stamp l)<;>cases decide (l.length<=6)<;>cases dec (∀m∈lk,E7 l m.2.1=true)<;>cases dec (∀m∈wt,E7 l m.1=true/\E7 l m.2.1=true)<;>rfl
end Go.Ab
end
section
namespace Go.Ab
theorem nA (a:List VM)(ha:a.length<=1048576):JG (a,())=some (a,()):=by
 unfold JG
 simp only
 rw[if_pos (by omega),Int.toNat_natCast]
 refine Iw ha (fun i h out ho=>?_) fun out=>?_
 ·unfold FZ
  simp only[Aj h,Option.bind_some,LR]
  rw[decide_eq_true (by omega),if_pos (by omega),Ak h (by omega)]
  simp[ho,h]
 ·unfold FZ
  simp only
  rw[decide_eq_false (by omega)];rfl
theorem ny (a:List VM)(ha:a.length<=1048576):JC (a,())=some (a,()):=by
 unfold JC
 simp only
 rw[if_pos (by omega),Int.toNat_natCast]
 refine Iw ha (fun i h out ho=>?_) fun out=>?_
 ·unfold FY
  simp only[Aj h,Option.bind_some,LQ]
  rw[decide_eq_true (by omega),if_pos (by omega),Ak h (by omega)]
  simp[ho,h]
 ·unfold FY
  simp only
  rw[decide_eq_false (by omega)];rfl
theorem nD {a:List VM}{l:Int}(ha:a.length<=maxLen)(h0:0<=l)(h1:l<=1048576):Lr (a.length<=1048576) (JJ (a,l,())):=Oc ha h0 h1
theorem nB {a:List VM}{l:Int}(ha:a.length<=maxLen)(h0:0<=l)(h1:l<=1048576):Lr (a.length<=1048576) (JH (a,l,())):=Oc ha h0 h1
theorem z5 (v:VM):Kh (v,v,())=some (true,()):=by
 simp[Kh]
theorem nU (a:List VM)(ha:a.length<9223372036854775000):JN (a,a,())=some (true,()):=by
 unfold JN
 simp only[bne_self_eq_false,cond_false]
 refine CL a.length (fun j=>((j:Int),())) rfl (fun j hj=>?_) ⟨.inr (),?_,rfl⟩
 ·unfold G2
  simp only[Aj hj,Option.bind_some,z5]
  rw[decide_eq_true (by omega),wr1 (by omega) (by omega)]
  rfl
 ·unfold G2
  simp only
  rw[decide_eq_false (by omega)]
  rfl
theorem yY (v:VM):Kf (v,v,())=some (true,()):=by
 simp[Kf]
theorem nR (a:List VM)(ha:a.length<9223372036854775000):JL (a,a,())=some (true,()):=by
 unfold JL
 simp only[bne_self_eq_false,cond_false]
 refine CL a.length (fun j=>((j:Int),())) rfl (fun j hj=>?_) ⟨.inr (),?_,rfl⟩
 ·unfold G0
  simp only[Aj hj,Option.bind_some,yY]
  rw[decide_eq_true (by omega),wr1 (by omega) (by omega)]
  rfl
 ·unfold G0
  simp only
  rw[decide_eq_false (by omega)]
  rfl
theorem QU {t:TX}{l:Int}(h1:t.2.2.2.2.2.2.2.1.length<=maxLen)(h2:t.2.2.2.2.2.2.2.2.1.length<=maxLen)(h0:0<=l)(hl:l<=1048576):Lr (smT t) (Ge (t,l,())):=
 R2 (Sf h1 h0 hl) fun n h0 h1=>Rh (ZS h2 h0 h1)
theorem Qf {a:List TX}{l:Int}(ha:a.length<=maxLen)(hb:∀t∈a,t.2.2.2.2.2.2.2.1.length<=maxLen/\t.2.2.2.2.2.2.2.2.1.length<=maxLen)(h0:0<=l)(h1:l<=1048576):Lr (a.length<=1048576/\∀t∈a,smT t) (FA (a,l,())):=
 VP (Small:=smT) (F:=fun e l=>Ge (e,l,())) ha (fun e he l h0 h1=>QU (hb e he).1 (hb e he).2 h0 h1) (fun l i=>rfl) h0 h1
theorem ZT {ce:Bool}{s:List (List VV)}{t:List TX}{lk wt:List VM}{stamp l:Int}(hs:s.length<=maxLen)(hss:∀e∈s,e.length<=maxLen)(ha:t.length<=maxLen)(hb:∀x∈t,x.2.2.2.2.2.2.2.1.length<=maxLen/\x.2.2.2.2.2.2.2.2.1.length<=maxLen)(hk:lk.length<=maxLen)(hw:wt.length<=maxLen)(h0:0<=l)(h1:l<=1048576):
 Lr (SmallE s t lk wt) (KH ((ce,(s,()),t,lk,wt,stamp,()),l,())):=by
 have:=R2 (B:=((t.length<=1048576/\∀x∈t,smT x)/\(lk.length<=1048576/\wt.length<=1048576))) (nC hs hss h0 h1) (G:=fun v=>(FA (t,v.1,())).bind fun v=>bif decide (v.1<0)then some (-1,())else(JJ (lk,v.1,())).bind fun v=>bif decide (v.1<0)then some (-1,())else(JH (wt,v.1,())).bind fun v=>bif decide (v.1<0)then some (-1,())else some (v.1,())) fun n h0 h1=>
  R2 (Qf ha hb h0 h1) fun n h0 h1=>R2 (nD hk h0 h1) fun n h0 h1=>Rh (nB hw h0 h1)
 exact this.mono fun⟨q1,⟨q2,q3⟩,q4,q5⟩=>⟨q1,q2,q3,q4,q5⟩
theorem QT (t:TX)(h:smT t):Gd ((t.1,t.2.1,t.2.2.1,t.2.2.2.1,t.2.2.2.2.1,t.2.2.2.2.2.1,t.2.2.2.2.2.2.1,t.2.2.2.2.2.2.2.1,t.2.2.2.2.2.2.2.2.1,()),())=some t:=by
 simp[Gd,Sd _ h.1,ZR _ h.2]
theorem Qe (a:List TX)(ha:a.length<=1048576)(hb:∀t∈a,smT t):Fz (a,())=some (a,()):=by
 unfold Fz
 simp only
 rw[if_pos (by omega),Int.toNat_natCast]
 refine Iw ha (fun i h out ho=>?_) fun out=>?_
 ·unfold CE
  simp only[Aj h,Option.bind_some,QT _ (hb _ (List.getElem_mem h))]
  rw[decide_eq_true (by omega),if_pos (by omega),Ak h (by omega)]
  simp[ho,h]
 ·unfold CE
  simp only
  rw[decide_eq_false (by omega)];rfl
theorem QY (t:TX)(h:smT t):Gi ((t.1,t.2.1,t.2.2.1,t.2.2.2.1,t.2.2.2.2.1,t.2.2.2.2.2.1,t.2.2.2.2.2.2.1,t.2.2.2.2.2.2.2.1,t.2.2.2.2.2.2.2.2.1,()),(t.1,t.2.1,t.2.2.1,t.2.2.2.1,t.2.2.2.2.1,t.2.2.2.2.2.1,t.2.2.2.2.2.2.1,t.2.2.2.2.2.2.2.1,t.2.2.2.2.2.2.2.2.1,()),())=some (true,()):=by
 have h1:=h.1
 have h2:=h.2
 simp[Gi,Sk _ (show t.2.2.2.2.2.2.2.1.length<9223372036854775000 by omega),aq _ (show t.2.2.2.2.2.2.2.2.1.length<9223372036854775000 by omega)]
theorem Qh (a:List TX)(ha:a.length<=1048576)(hb:∀t∈a,smT t):FC (a,a,())=some (true,()):=by
 unfold FC
 simp only[bne_self_eq_false,cond_false]
 refine CL a.length (fun j=>((j:Int),())) rfl (fun j hj=>?_) ⟨.inr (),?_,rfl⟩
 ·unfold CG
  simp only[Aj hj,Option.bind_some,QY _ (hb _ (List.getElem_mem hj))]
  rw[decide_eq_true (by omega),wr1 (by omega) (by omega)]
  rfl
 ·unfold CG
  simp only
  rw[decide_eq_false (by omega)]
  rfl
theorem Rx {ce:Bool}{s:List (List VV)}{t:List TX}{lk wt:List VM}{stamp:Int}(h:SmallE s t lk wt):EC ((ce,(s,()),t,lk,wt,stamp,()),())=some (ce,stamp,s,t,lk,wt,()):=by
 simp[EC,nz s h.fs,Qe t h.fl h.ft,nA lk h.fk,ny wt h.fw]
theorem RJ {ce:Bool}{s:List (List VV)}{t:List TX}{lk wt:List VM}{stamp:Int}(h:SmallE s t lk wt):ED ((ce,(s,()),t,lk,wt,stamp,()),(ce,(s,()),t,lk,wt,stamp,()),())=some (true,()):=by
 have h1:=h.fk
 have h2:=h.fw
 simp[ED,nS h.fs,Qh t h.fl h.ft,nU lk (by omega),nR wt (by omega)]
end Go.Ab
end
section
namespace Go.Ab
theorem RL {l:List VM}(hl:l.length<=1048576):Ci (l,())=some (l,()):=by
 unfold Ci
 simp only
 rw[if_pos (by omega)]
 cases l with
 |nil=>exact Mu _
 |cons a l=>rfl
theorem PK {l:List VM}(hl:l.length<=1048576):BJ (l,())=some (l,()):=by
 unfold BJ
 simp only
 rw[if_pos (by omega)]
 cases l with
 |nil=>exact Mu _
 |cons a l=>rfl
theorem RK {l:List VM}(hl:l.length<=1048576):Ce (l,())=some (l,()):=by
 unfold Ce
 simp only
 rw[if_pos (by omega)]
 cases l with
 |nil=>exact Mu _
 |cons a l=>rfl
theorem SN {l:List VM}(hl:l.length<=1048576):CK (l,())=some (l,()):=by
 unfold CK
 simp only
 rw[if_pos (by omega)]
 cases l with
 |nil=>exact Mu _
 |cons a l=>rfl
theorem ZQ (t:TX)(h:smT t):DP ((t.1,t.2.1,t.2.2.1,t.2.2.2.1,t.2.2.2.2.1,t.2.2.2.2.2.1,t.2.2.2.2.2.2.1,t.2.2.2.2.2.2.2.1,t.2.2.2.2.2.2.2.2.1,()),())=some t:=by
 simp[DP,RK h.1,SN h.2]
theorem XS {ce:Bool}{s:List (List VV)}{t:List TX}{lk wt:List VM}{stamp:Int}(h:SmallE s t lk wt):Gq ((ce,(s,()),t,lk,wt,stamp,()),())=some (ce,stamp,s,t,lk,wt,()):=by
 have hl:=h.fl
 unfold Gq
 simp only[an h.fs,RL h.fk,PK h.fw,Option.bind_some]
 rw[HU (r:=(t,())) t.length (fun i=>((i:Int),t.take i,()))]
 ·rfl
 ·simp
 ·intro i hi
  unfold D0
  simp only[Aj hi,Option.bind_some,ZQ _ (h.ft _ (List.getElem_mem hi)),List.length_append,List.length_cons,List.length_nil,List.length_take]
  rw[decide_eq_true (by omega),if_pos (by omega),Ak hi (by omega)]
  have e:t.take i++[t[i]]=t.take (i+1):=by rw[List.take_append_getElem hi]
  simp only[cond_true]
  rw[<-e]
 ·unfold D0
  simp only[List.take_length]
  rw[decide_eq_false (by omega)];rfl
theorem Ol (t:TX)(h:smT t):EZ ((t.1,t.2.1,t.2.2.1,t.2.2.2.1,t.2.2.2.2.1,t.2.2.2.2.2.1,t.2.2.2.2.2.2.1,t.2.2.2.2.2.2.2.1,t.2.2.2.2.2.2.2.2.1,()),())=some t:=yx h.1 h.2
theorem QF {ce:Bool}{s:List (List VV)}{t:List TX}{lk wt:List VM}{stamp:Int}(h:SmallE s t lk wt):Il ((ce,(s,()),t,lk,wt,stamp,()),())=some (ce,stamp,s,t,lk,wt,()):=by
 have hl:=h.fl
 have hk:=h.fk
 have hw:=h.fw
 unfold Il GO
 simp only[RD h.fs]
 rw[if_pos (show lk.length<=2199023255552 by omega)]
 simp only[Option.bind_some]
 rw[if_pos (show wt.length<=2199023255552 by omega)]
 rw[HU (r:=(t,())) t.length (fun i=>((i:Int),t.take i,()))]
 ·rfl
 ·simp
 ·intro i hi
  unfold FV
  simp only[Aj hi,Option.bind_some,Ol _ (h.ft _ (List.getElem_mem hi)),List.length_append,List.length_cons,List.length_nil,List.length_take]
  rw[decide_eq_true (by omega),if_pos (by omega),Ak hi (by omega)]
  have e:t.take i++[t[i]]=t.take (i+1):=by rw[List.take_append_getElem hi]
  simp only[cond_true]
  rw[<-e]
 ·unfold FV
  simp only[List.take_length]
  rw[decide_eq_false (by omega)];rfl
def OO (s:List (List VV))(m:VM):Int:=match JS s m with
 |some l=>match fvI l m.2.1 with
  |some j=>match l[j]? with
   |some v=>v.2.2.2.2.1
   |none=>0
  |none=>0
 |none=>0
def rfH (s:List (List VV))(rd:List VM):Int:=rd.foldl (fun n m=>mn n (OO s m)) 1000
theorem XQ {s:List (List VV)}(hs:CJ s)(h6:s.length=6){m:VM}(hm:inB m.1 0 5=true)(hx:HJ s m):∃v:VV,Dx ((s,()),(m.1,m.2.1,()),())=some (some v,())/\v.2.2.2.2.1=OO s m:=by
 obtain⟨k,hk,hlt,l,e1,e2,e3,hl⟩:=Kv h6 hm
 obtain⟨l',j,x1,x2⟩:=hx
 rw[e3]at x1;obtain rfl:l=l':=by simpa using x1
 have hj:=Qr x2
 refine⟨l[j],?_,?_⟩
 ·unfold Dx
  simp only[e2,Option.bind_some,RH (hs.2 _ hl),aG,x2,Option.isNone_some,cond_false,fx]
  rw[Aj hj];rfl
 ·unfold OO
  simp[e3,x2,hj]
theorem yP {s:List (List VV)}(hs:CJ s)(h6:s.length=6)(t:TX)(ht:smT t)(hrd:OF t.2.2.2.2.2.2.2.1)(hx:∀m∈t.2.2.2.2.2.2.2.1,HJ s m):E9 ((s,()),(t.1,t.2.1,t.2.2.1,t.2.2.2.1,t.2.2.2.2.1,t.2.2.2.2.2.1,t.2.2.2.2.2.2.1,t.2.2.2.2.2.2.2.1,t.2.2.2.2.2.2.2.2.1,()),())=some (rfH s t.2.2.2.2.2.2.2.1,()):=by
 have hl:=ht.1
 unfold E9
 simp only
 generalize t.2.2.2.2.2.2.2.1=rd at*
 refine Gw (l:=rd) (f:=fun n m=>mn n (OO s m)) (X:=fun n=>some (n,())) 1000 (fun i h n=>?_) (fun n=>⟨(n,()),?_,rfl⟩) rfl
 ·obtain⟨_,h1,_⟩:=hrd i h
  obtain⟨v,e1,e2⟩:=XQ hs h6 h1 (hx _ (List.getElem_mem h))
  unfold C4
  simp only[Aj h,Option.bind_some,e1,e2]
  rw[decide_eq_true (by omega),Ak h (by omega)];rfl
 ·unfold C4
  simp only
  rw[decide_eq_false (by omega)];rfl
theorem yE {s:List (List VV)}(hs:CJ s)(hok:Mg s)(t:TX)(ht:smT t)(hT:Mf t=true)(hx:∀m∈t.2.2.2.2.2.2.2.1,HJ s m):Hf ((s,()),(t.1,t.2.1,t.2.2.1,t.2.2.2.1,t.2.2.2.2.1,t.2.2.2.2.2.1,t.2.2.2.2.2.2.1,t.2.2.2.2.2.2.2.1,t.2.2.2.2.2.2.2.2.1,()),())=some (rfH s t.2.2.2.2.2.2.2.1,()):=by
 have hl:=ht.1
 have hrd:=az hT
 unfold Hf
 simp only[RC hs hok ht.1 ht.2 hT hrd,AD hx,Option.bind_some,Bool.not_true,cond_false]
 generalize t.2.2.2.2.2.2.2.1=rd at*
 refine Gw (l:=rd) (f:=fun n m=>mn n (OO s m)) (X:=fun n=>some (n,())) 1000 (fun i h n=>?_) (fun n=>⟨(n,()),?_,rfl⟩) rfl
 ·obtain⟨_,h1,_⟩:=hrd i h
  obtain⟨k,hk,hlt,l,e1,e2,e3,hm⟩:=Kv hok.1 h1
  obtain⟨l',j,x1,x2⟩:=hx _ (List.getElem_mem h)
  rw[e3]at x1;obtain rfl:l=l':=by simpa using x1
  have hj:=Qr x2
  have e4:lAt l (fx (some j))=some l[j]:=Aj hj
  unfold DA
  simp only[Aj h,Option.bind_some,e2,RB (hs.2 _ hm),x2,e4]
  rw[decide_eq_true (by omega),Ak h (by omega)]
  simp[OO,e3,x2,hj]
 ·unfold DA
  simp only
  rw[decide_eq_false (by omega)];rfl
end Go.Ab
end
section
namespace Go.Ab
end Go.Ab
end
section
namespace Go.Ab
end Go.Ab
end
section
namespace Go.Ab
def QC (t:TX)(r:List VM):TX:=(t.1,t.2.1,t.2.2.1,t.2.2.2.1,t.2.2.2.2.1,t.2.2.2.2.2.1,t.2.2.2.2.2.2.1,r,t.2.2.2.2.2.2.2.2.1,())
def QB (t:TX)(r:List VM):TX:=(t.1,t.2.1,t.2.2.1,t.2.2.2.1,t.2.2.2.2.1,t.2.2.2.2.2.1,t.2.2.2.2.2.2.1,t.2.2.2.2.2.2.2.1,r,())
theorem PH (ts:List TX)(i:Nat)(hi:i<ts.length)(k:Int)(h0:0<=k)(hk:k+2*ts[i].2.2.2.2.2.2.2.1.length<9223372036854775000):
 EU (i,k,ts,())=some (k+2*ts[i].2.2.2.2.2.2.2.1.length,ts.set i (QC ts[i] (mkL mk2 2 k ts[i].2.2.2.2.2.2.2.1.length)),()):=by
 unfold EU
 simp only
 have hset0:ts.set i (QC ts[i] ts[i].2.2.2.2.2.2.2.1)=ts:=by
  have:QC ts[i] ts[i].2.2.2.2.2.2.2.1=ts[i]:=rfl
  rw[this];simp
 generalize htt:ts[i]=t at*
 have key:∀x:TX,(ts.set i x)[i]?=some x:=fun x=>by simp[hi]
 rw[HU (r:=(k+2*t.2.2.2.2.2.2.2.1.length,ts.set i (QC t (mkL mk2 2 k t.2.2.2.2.2.2.2.1.length)),())) t.2.2.2.2.2.2.2.1.length (fun j=>(k+2*(j:Int),(j:Int),ts.set i (QC t (mkd mk2 2 k t.2.2.2.2.2.2.2.1 j)),()))]
 ·rfl
 ·simp only[Lb,hset0];simp
 ·intro j hj
  have hl:=Jg mk2 2 k t.2.2.2.2.2.2.2.1 j (by omega)
  have hg:=MN mk2 2 k t.2.2.2.2.2.2.2.1 j hj
  have hs:=MM mk2 2 k t.2.2.2.2.2.2.2.1 j hj
  have c1:(0:Int)<=(j:Int)/\(j:Int)<((t.2.2.2.2.2.2.2.1.length:Nat):Int):=by omega
  unfold Cu
  simp only[key,Option.bind_some,QC,hl,if_pos c1,Nat.zero_add,Int.toNat_natCast,hg,List.set_set,List.length_set,List.getElem?_set_self,hj]
  rw[decide_eq_true (by omega),wr1 (k:=k+2*(j:Int)) (by omega) (by omega),wr1 (k:=k+2*(j:Int)+1) (by omega) (by omega),wr1 (k:=(j:Int)) (by omega) (by omega)]
  have e1:k+2*(j:Int)+1+1=k+2*((j+1:Nat):Int):=by push_cast;omega
  have e2:(k+2*(j:Int),k+2*(j:Int)+1,())=mk2 (k+2*(j:Int)):=by simp[mk2]
  rw[e1,e2,hs]
  simp[hj]
 ·unfold Cu
  simp only[key,Option.bind_some,QC,MO,AK]
  rw[decide_eq_false (by omega)]
  rfl
theorem RE (ts:List TX)(i:Nat)(hi:i<ts.length)(k:Int)(h0:0<=k)(hk:k+2*ts[i].2.2.2.2.2.2.2.2.1.length<9223372036854775000):
 GD (i,k,ts,())=some (k+2*ts[i].2.2.2.2.2.2.2.2.1.length,ts.set i (QB ts[i] (mkL mk2 2 k ts[i].2.2.2.2.2.2.2.2.1.length)),()):=by
 unfold GD
 simp only
 have hset0:ts.set i (QB ts[i] ts[i].2.2.2.2.2.2.2.2.1)=ts:=by
  have:QB ts[i] ts[i].2.2.2.2.2.2.2.2.1=ts[i]:=rfl
  rw[this];simp
 generalize htt:ts[i]=t at*
 have key:∀x:TX,(ts.set i x)[i]?=some x:=fun x=>by simp[hi]
 rw[HU (r:=(k+2*t.2.2.2.2.2.2.2.2.1.length,ts.set i (QB t (mkL mk2 2 k t.2.2.2.2.2.2.2.2.1.length)),())) t.2.2.2.2.2.2.2.2.1.length (fun j=>(k+2*(j:Int),(j:Int),ts.set i (QB t (mkd mk2 2 k t.2.2.2.2.2.2.2.2.1 j)),()))]
 ·rfl
 ·simp only[Lb,hset0];simp
 ·intro j hj
  have hl:=Jg mk2 2 k t.2.2.2.2.2.2.2.2.1 j (by omega)
  have hg:=MN mk2 2 k t.2.2.2.2.2.2.2.2.1 j hj
  have hs:=MM mk2 2 k t.2.2.2.2.2.2.2.2.1 j hj
  have c1:(0:Int)<=(j:Int)/\(j:Int)<((t.2.2.2.2.2.2.2.2.1.length:Nat):Int):=by omega
  unfold Dd
  simp only[key,Option.bind_some,QB,hl,if_pos c1,Nat.zero_add,Int.toNat_natCast,hg,List.set_set,List.length_set,List.getElem?_set_self,hj]
  rw[decide_eq_true (by omega),wr1 (k:=k+2*(j:Int)) (by omega) (by omega),wr1 (k:=k+2*(j:Int)+1) (by omega) (by omega),wr1 (k:=(j:Int)) (by omega) (by omega)]
  have e1:k+2*(j:Int)+1+1=k+2*((j+1:Nat):Int):=by push_cast;omega
  have e2:(k+2*(j:Int),k+2*(j:Int)+1,())=mk2 (k+2*(j:Int)):=by simp[mk2]
  rw[e1,e2,hs]
  simp[hj]
 ·unfold Dd
  simp only[key,Option.bind_some,QB,MO,AK]
  rw[decide_eq_false (by omega)]
  rfl
theorem XJ (row:List VM)(k:Int)(h0:0<=k)(hk:k+2*row.length<9223372036854775000):
 Hv (k,row,())=some (k+2*row.length,mkL mk2 2 k row.length,()):=by
 unfold Hv
 simp only
 rw[HU (r:=(k+2*row.length,mkL mk2 2 k row.length,())) row.length (fun j=>(k+2*(j:Int),(j:Int),mkd mk2 2 k row j,()))]
 ·rfl
 ·simp only[Lb];simp
 ·intro j hj
  unfold DF
  have hl:=Jg mk2 2 k row j (by omega)
  have hg:=MN mk2 2 k row j hj
  have hs:=MM mk2 2 k row j hj
  simp only[hl]
  rw[decide_eq_true (by omega),if_pos (by omega)]
  simp only[cond_true,Option.bind_some,Nat.zero_add,Int.toNat_natCast,hg,List.set_set,List.length_set,List.getElem?_set_self,hl,hj]
  rw[wr1 (k:=k+2*(j:Int)) (by omega) (by omega),wr1 (k:=k+2*(j:Int)+1) (by omega) (by omega),wr1 (k:=(j:Int)) (by omega) (by omega)]
  have e1:k+2*(j:Int)+1+1=k+2*((j+1:Nat):Int):=by push_cast;omega
  have e2:(k+2*(j:Int),k+2*(j:Int)+1,())=mk2 (k+2*(j:Int)):=by simp[mk2]
  rw[e1,e2,hs]
  simp[hj]
 ·unfold DF
  simp only[MO,AK]
  rw[decide_eq_false (by omega)]
  rfl
theorem XY (n:Nat)(k:Int)(h0:0<=k)(hk:k+2*n<9223372036854775000):IM (mkL mk2 2 k n,k,())=some (k+2*n,()):=by
 unfold IM
 simp only
 refine CL n (fun j=>(k+2*(j:Int),(j:Int),())) (by simp) (fun j hj=>?_) ⟨.inr (.inr (k+2*n,())),?_,rfl⟩
 ·unfold Ep
  have hg:lAt (mkL mk2 2 k n) (j:Int)=some (mk2 (k+2*(j:Int))):=by
   rw[Aj (by rw[AK];exact hj)]
   have:=Oq mk2 2 k n j hj
   rw[List.getElem?_eq_getElem (by rw[AK];exact hj)]at this
   exact this
  simp only[AK,hg,Option.bind_some]
  rw[decide_eq_true (by omega)]
  rw[wr1 (k:=k+2*(j:Int)) (by omega) (by omega),wr1 (k:=k+2*(j:Int)+1) (by omega) (by omega),wr1 (k:=(j:Int)) (by omega) (by omega)]
  simp only[mk2,cond_true]
  have e0:(k+2*(j:Int) != k+2*(j:Int))=false:=by first|simp|(rw[bne_eq_false_iff_eq];omega)
  have e1:(k+2*(j:Int)+1 != k+2*(j:Int)+1)=false:=by first|simp|(rw[bne_eq_false_iff_eq];omega)
  simp only[e0,e1,cond_false]
  congr 3
  ·push_cast;omega
 ·unfold Ep
  simp only[AK]
  rw[decide_eq_false (by omega)]
  rfl
theorem XG (row:List VM)(k:Int)(h0:0<=k)(hk:k+2*row.length<9223372036854775000):
 Hs (k,row,())=some (k+2*row.length,mkL mk2 2 k row.length,()):=by
 unfold Hs
 simp only
 rw[HU (r:=(k+2*row.length,mkL mk2 2 k row.length,())) row.length (fun j=>(k+2*(j:Int),(j:Int),mkd mk2 2 k row j,()))]
 ·rfl
 ·simp only[Lb];simp
 ·intro j hj
  unfold DE
  have hl:=Jg mk2 2 k row j (by omega)
  have hg:=MN mk2 2 k row j hj
  have hs:=MM mk2 2 k row j hj
  simp only[hl]
  rw[decide_eq_true (by omega),if_pos (by omega)]
  simp only[cond_true,Option.bind_some,Nat.zero_add,Int.toNat_natCast,hg,List.set_set,List.length_set,List.getElem?_set_self,hl,hj]
  rw[wr1 (k:=k+2*(j:Int)) (by omega) (by omega),wr1 (k:=k+2*(j:Int)+1) (by omega) (by omega),wr1 (k:=(j:Int)) (by omega) (by omega)]
  have e1:k+2*(j:Int)+1+1=k+2*((j+1:Nat):Int):=by push_cast;omega
  have e2:(k+2*(j:Int),k+2*(j:Int)+1,())=mk2 (k+2*(j:Int)):=by simp[mk2]
  rw[e1,e2,hs]
  simp[hj]
 ·unfold DE
  simp only[MO,AK]
  rw[decide_eq_false (by omega)]
  rfl
theorem XV (n:Nat)(k:Int)(h0:0<=k)(hk:k+2*n<9223372036854775000):IK (mkL mk2 2 k n,k,())=some (k+2*n,()):=by
 unfold IK
 simp only
 refine CL n (fun j=>(k+2*(j:Int),(j:Int),())) (by simp) (fun j hj=>?_) ⟨.inr (.inr (k+2*n,())),?_,rfl⟩
 ·unfold En
  have hg:lAt (mkL mk2 2 k n) (j:Int)=some (mk2 (k+2*(j:Int))):=by
   rw[Aj (by rw[AK];exact hj)]
   have:=Oq mk2 2 k n j hj
   rw[List.getElem?_eq_getElem (by rw[AK];exact hj)]at this
   exact this
  simp only[AK,hg,Option.bind_some]
  rw[decide_eq_true (by omega)]
  rw[wr1 (k:=k+2*(j:Int)) (by omega) (by omega),wr1 (k:=k+2*(j:Int)+1) (by omega) (by omega),wr1 (k:=(j:Int)) (by omega) (by omega)]
  simp only[mk2,cond_true]
  have e0:(k+2*(j:Int) != k+2*(j:Int))=false:=by first|simp|(rw[bne_eq_false_iff_eq];omega)
  have e1:(k+2*(j:Int)+1 != k+2*(j:Int)+1)=false:=by first|simp|(rw[bne_eq_false_iff_eq];omega)
  simp only[e0,e1,cond_false]
  congr 3
  ·push_cast;omega
 ·unfold En
  simp only[AK]
  rw[decide_eq_false (by omega)]
  rfl
def mkT (k:Int)(t:TX):TX:=(k,k+1,k+2,k+3,k+4,k+5,k+6,mkL mk2 2 (k+7) t.2.2.2.2.2.2.2.1.length,mkL mk2 2 (k+7+2*t.2.2.2.2.2.2.2.1.length) t.2.2.2.2.2.2.2.2.1.length,())
def enT (k:Int)(t:TX):Int:=k+7+2*t.2.2.2.2.2.2.2.1.length+2*t.2.2.2.2.2.2.2.2.1.length
def Ql:Int->List TX->List TX
 |_,[]=>[]
 |k,t::ts=>mkT k t::Ql (enT k t) ts
def J2:Int->List TX->Int
 |k,[]=>k
 |k,t::ts=>J2 (enT k t) ts
theorem aI (k:Int)(t:TX):k<=enT k t:=by unfold enT;omega
theorem VC (k:Int)(ts:List TX):k<=J2 k ts:=by
 induction ts generalizing k with
 |nil=>exact Int.le_refl k
 |cons t ts ih=>have:=ih (enT k t);have:=aI k t;simp only[J2];omega
theorem A77 {a:List TX}:∀(k:Int),(∀t∈a,smT t)->J2 k a<=k+4194311*a.length:=by
 induction a with
 |nil=>intro k _;simp[J2]
 |cons r rs ih=>
  intro k h
  have h1:=ih (enT k r) (fun e he=>h e (List.mem_cons_of_mem _ he))
  have h2:=h r (List.mem_cons_self ..)
  unfold smT at h2
  unfold enT at h1
  simp only[J2,List.length_cons]
  unfold enT
  push_cast
  omega
theorem Pf (ts:List TX)(k:Int)(h0:0<=k)(hk:J2 k ts<9223372036854775000)(hl:ts.length<9223372036854775000):DN (k,ts,())=some (J2 k ts,Ql k ts,()):=by
 unfold DN
 simp only
 have key:∀(rs pre:List TX) (k:Int),0<=k->J2 k rs<9223372036854775000->pre.length+rs.length<9223372036854775000->
  Ay (fun v=>Bn () v _ some) (k,(pre.length:Int),pre++rs,())=some (J2 k rs,pre++Ql k rs,()):=by
  intro rs
  induction rs with
  |nil=>
   intro pre k h0 hk hl
   rw[B6]
   unfold Bn
   simp only[List.append_nil]
   rw[decide_eq_false (by omega)]
   simp[J2,Ql]
  |cons t rs ih=>
   intro pre k h0 hk hl
   have hge:=VC (enT k t) rs
   simp only[J2]at hk
   have hge2:enT k t<9223372036854775000:=by omega
   unfold enT at hge2
   simp only[List.length_cons]at hl
   have hi:pre.length<(pre++t::rs).length:=by simp
   have hget:(pre++t::rs)[pre.length]?=some t:=by simp
   have keyS:∀x:TX,((pre++t::rs).set pre.length x)[pre.length]?=some x:=fun x=>by simp
   have c1:(0:Int)<=(pre.length:Int)/\(pre.length:Int)<(((pre++t::rs).length:Nat):Int):=by simp;omega
   have hR:=PH ((pre++t::rs).set pre.length (k,k+1,k+2,k+3,k+4,k+5,k+6,t.2.2.2.2.2.2.2.1,t.2.2.2.2.2.2.2.2.1,())) pre.length (by simp) (k+7) (by omega) (by simp;omega)
   simp only[List.getElem_set_self,QC,List.set_set]at hR
   have hW:=RE ((pre++t::rs).set pre.length (k,k+1,k+2,k+3,k+4,k+5,k+6,mkL mk2 2 (k+7) t.2.2.2.2.2.2.2.1.length,t.2.2.2.2.2.2.2.2.1,())) pre.length (by simp) (k+7+2*t.2.2.2.2.2.2.2.1.length) (by omega) (by simp;omega)
   simp only[List.getElem_set_self,QB,List.set_set]at hW
   have hset:(pre++t::rs).set pre.length (mkT k t)=(pre++[mkT k t])++rs:=by simp
   have hB:Bn () (k,(pre.length:Int),pre++t::rs,()) _ some=some (.inl (enT k t,(pre.length:Int)+1,(pre++[mkT k t])++rs,())):=by
    unfold Bn
    simp only[List.length_set,if_pos c1,Nat.zero_add,Int.toNat_natCast,hget,Option.bind_some,keyS,List.set_set]
    rw[decide_eq_true c1.2,wr1 (k:=k) (by omega) (by omega),wr1 (k:=k+1) (by omega) (by omega),wr1 (k:=k+1+1) (by omega) (by omega),wr1 (k:=k+1+1+1) (by omega) (by omega),wr1 (k:=k+1+1+1+1) (by omega) (by omega),wr1 (k:=k+1+1+1+1+1) (by omega) (by omega),wr1 (k:=k+1+1+1+1+1+1) (by omega) (by omega),wr1 (k:=(pre.length:Int)) (by omega) (by omega)]
    have a2:k+1+1=k+2:=by omega
    have a3:k+2+1=k+3:=by omega
    have a4:k+3+1=k+4:=by omega
    have a5:k+4+1=k+5:=by omega
    have a6:k+5+1=k+6:=by omega
    have a7:k+6+1=k+7:=by omega
    simp only[a2,a3,a4,a5,a6,a7,hR,Option.bind_some,keyS,List.length_set,if_pos c1,hW,cond_true]
    rw[<-hset]
    rfl
   rw[B6,hB]
   have:=ih (pre++[mkT k t]) (enT k t) (by have:=aI k t;omega) hk (by simp;omega)
   simp only[List.length_append,List.length_cons,List.length_nil,Nat.zero_add,Int.natCast_add]at this
   rw[show((1:Nat):Int)=1 from rfl]at this
   simp only[Option.bind_some]
   rw[this]
   simp[J2,Ql]
 have:=key ts [] k h0 hk (by simpa using hl)
 simp only[List.length_nil,List.nil_append,Int.natCast_zero]at this
 rw[this];rfl
theorem Pg (ts:List TX)(k:Int)(h0:0<=k)(hk:J2 k ts<9223372036854775000)(hl:ts.length<9223372036854775000):Eo (Ql k ts,k,())=some (J2 k ts,()):=by
 unfold Eo
 simp only
 have key:∀(rs pre:List TX) (k:Int),0<=k->J2 k rs<9223372036854775000->pre.length+rs.length<9223372036854775000->
  Ay (fun v=>Bv (pre++Ql k rs,()) v _ some) (k,(pre.length:Int),())=some (.inr (.inr (.inr (.inr (.inr (.inr (.inr (.inr (.inr (J2 k rs,())))))))))):=by
  intro rs
  induction rs with
  |nil=>
   intro pre k h0 hk hl
   rw[B6]
   unfold Bv
   simp only[Ql,List.append_nil]
   rw[decide_eq_false (by omega)]
   simp[J2]
  |cons t rs ih=>
   intro pre k h0 hk hl
   have hge:=VC (enT k t) rs
   simp only[J2]at hk
   have hge2:enT k t<9223372036854775000:=by omega
   unfold enT at hge2
   simp only[List.length_cons]at hl
   rw[B6]
   simp only[Ql]
   have:=ih (pre++[mkT k t]) (enT k t) (by have:=aI k t;omega) hk (by simp;omega)
   simp only[List.length_append,List.length_cons,List.length_nil,Nat.zero_add,Int.natCast_add,List.append_assoc,List.singleton_append]at this
   rw[show((1:Nat):Int)=1 from rfl]at this
   simp only[J2]
   rw[<-this]
   have hB:Bv (pre++mkT k t::Ql (enT k t) rs,()) (k,(pre.length:Int),()) _ some=some (.inl (enT k t,(pre.length:Int)+1,())):=by
    unfold Bv
    have hg:lAt (pre++mkT k t::Ql (enT k t) rs) (pre.length:Int)=some (mkT k t):=by
     rw[Aj (by simp)];simp
    simp only[hg,Option.bind_some]
    rw[decide_eq_true (by simp;omega),wr1 (k:=k) (by omega) (by omega),wr1 (k:=k+1) (by omega) (by omega),wr1 (k:=k+1+1) (by omega) (by omega),wr1 (k:=k+1+1+1) (by omega) (by omega),wr1 (k:=k+1+1+1+1) (by omega) (by omega),wr1 (k:=k+1+1+1+1+1) (by omega) (by omega),wr1 (k:=k+1+1+1+1+1+1) (by omega) (by omega),wr1 (k:=(pre.length:Int)) (by omega) (by omega)]
    have a2:k+1+1=k+2:=by omega
    have a3:k+2+1=k+3:=by omega
    have a4:k+3+1=k+4:=by omega
    have a5:k+4+1=k+5:=by omega
    have a6:k+5+1=k+6:=by omega
    have a7:k+6+1=k+7:=by omega
    simp only[a2,a3,a4,a5,a6,a7,mkT,bne_self_eq_false,cond_true,cond_false,QX t.2.2.2.2.2.2.2.1.length (k+7) (by omega) (by omega),Option.bind_some]
    rw[decide_eq_false (by omega)]
    simp only[cond_false,Ve t.2.2.2.2.2.2.2.2.1.length (k+7+2*(t.2.2.2.2.2.2.2.1.length:Int)) (by omega) (by omega),Option.bind_some]
    rw[decide_eq_false (by omega)]
    rfl
   rw[hB];rfl
 have:=key ts [] k h0 hk (by simpa using hl)
 simp only[List.length_nil,List.nil_append,Int.natCast_zero]at this
 rw[this];rfl
def enE (s:List (List VV))(l:List TX)(lk wt:List VM):Int:=J2 (Fi 1 s) l+2*lk.length+2*wt.length
section
variable {ce:Bool}{s:List (List VV)}{l:List TX}{lk wt:List VM}{stamp:Int}(h:SmallE s l lk wt)
include h
theorem Ow:1<=Fi 1 s/\Fi 1 s<=J2 (Fi 1 s) l/\J2 (Fi 1 s) l<=2000000000000000000/\J2 (Fi 1 s) l<=enE s l lk wt/\enE s l lk wt<=3000000000000000000:=by
 have b1:=aJ h.fs
 have b2:=VC (Fi 1 s) l
 have b3:=A77 (Fi 1 s) h.ft
 have b4:=h.fl
 have b5:=h.fk
 have b6:=h.fw
 unfold enE
 omega
theorem PI:EH (ce,stamp,1,s,l,lk,wt,())=some (enE s l lk wt,Ph 1 s,Ql (Fi 1 s) l,mkL mk2 2 (J2 (Fi 1 s) l) lk.length,mkL mk2 2 (J2 (Fi 1 s) l+2*lk.length) wt.length,()):=by
 obtain⟨b1,b2,b3,b4,b5⟩:=Ow h
 have c4:=h.fl
 have c5:=h.fk
 have c6:=h.fw
 unfold EH
 simp only[XH h.fs,Option.bind_some,Pf l (Fi 1 s) (by omega) (by omega) (by omega),XJ lk (J2 (Fi 1 s) l) (by omega) (by omega),XG wt (J2 (Fi 1 s) l+2*lk.length) (by omega) (by omega)]
 rfl
theorem Vf:Gh ((ce,(Ph 1 s,()),Ql (Fi 1 s) l,mkL mk2 2 (J2 (Fi 1 s) l) lk.length,mkL mk2 2 (J2 (Fi 1 s) l+2*lk.length) wt.length,stamp,()),1,())=some (enE s l lk wt,()):=by
 obtain⟨b1,b2,b3,b4,b5⟩:=Ow h
 have c4:=h.fl
 have c5:=h.fk
 have c6:=h.fw
 unfold Gh
 simp only[XW h.fs,Option.bind_some]
 rw[decide_eq_false (by omega)]
 simp only[cond_false,Pg l (Fi 1 s) (by omega) (by omega) (by omega),Option.bind_some]
 rw[decide_eq_false (by omega)]
 simp only[cond_false,XY lk.length (J2 (Fi 1 s) l) (by omega) (by omega),Option.bind_some]
 rw[decide_eq_false (by omega)]
 simp only[cond_false,XV wt.length (J2 (Fi 1 s) l+2*lk.length) (by omega) (by omega),Option.bind_some]
 rw[decide_eq_false (by omega)]
 rfl
end
end Go.Ab
end
section
namespace Go.Ab
end Go.Ab
end
section
namespace Go.Ab
end Go.Ab
end
section
namespace Go.Ab
theorem o0 {α σ τ ρ:Type}{B:τ->Option (τ ⊕ ρ)}{l:List α}(st:σ->Nat->τ)(f:σ->α->σ)(J:Nat->σ->Prop){s0:σ}(h0:J 0 s0)
 (hB:∀i (h:i<l.length) s,J i s->B (st s i)=some (.inl (st (f s l[i]) (i+1)))/\J (i+1) (f s l[i])){r:σ->ρ}(hend:∀s,J l.length s->B (st s l.length)=some (.inr (r s))){t0:τ}(ht:t0=st s0 0):Ay B t0=some (r (l.foldl f s0)):=by
 subst ht
 have key:∀m i:Nat,i+m=l.length->∀s,J i s->Ay B (st s i)=some (r ((l.drop i).foldl f s)):=by
  intro m
  induction m with
  |zero=>
   intro i hi s hs
   obtain rfl:i=l.length:=by omega
   rw[B6,hend s hs];simp
  |succ m ih=>
   intro i hi s hs
   have h:i<l.length:=by omega
   obtain⟨h1,h2⟩:=hB i h s hs
   rw[B6,h1,List.drop_eq_getElem_cons h]
   simp only[Option.bind_some]
   rw[ih (i+1) (by omega) _ h2];rfl
 have:=key l.length 0 (by omega) s0 h0
 simpa using this
theorem MW {α τ ρ:Type}{B:τ->Option (τ ⊕ ρ)}{l:List α}(st:Nat->τ)(p:α->Bool){fd:Nat->ρ}{no:ρ}
 (hB:∀i (h:i<l.length),B (st i)=some (if p l[i]=true then .inr (fd i)else .inl (st (i+1))))(hend:B (st l.length)=some (.inr no)){t0:τ}(ht:t0=st 0):
 Ay B t0=some (match l.findIdx? p with|some i=>fd i|none=>no):=by
 subst ht
 have key:∀m i:Nat,i+m=l.length->Ay B (st i)=some (match(l.drop i).findIdx? p with|some j=>fd (i+j)|none=>no):=by
  intro m
  induction m with
  |zero=>
   intro i hi
   obtain rfl:i=l.length:=by omega
   rw[B6,hend];simp
  |succ m ih=>
   intro i hi
   have h:i<l.length:=by omega
   rw[B6,hB i h,List.drop_eq_getElem_cons h,List.findIdx?_cons]
   by_cases hp:p l[i]=true
   ·simp[hp]
   ·simp only[hp,if_false,Option.bind_some,Bool.false_eq_true]
    rw[ih (i+1) (by omega)]
    cases(l.drop (i+1)).findIdx? p with
    |none=>rfl
    |some j=>simp only[Option.map_some];congr 2;omega
 have:=key l.length 0 (by omega)
 simpa using this
end Go.Ab
end
section
namespace Go.Ab
theorem Ox {α:Type}{R:α->α->Prop}(ht:∀a b c,R a b->R b c->R a c){P:α->Prop}(l:List α):
 (∀i,i<l.length->∃h:i<l.length,P l[i]/\∀h2:0<i,R (l[i-1]'(by omega)) l[i])↔(∀x∈l,P x)/\l.Pairwise R:=by
 constructor
 ·intro h
  refine⟨fun x hx=>?_,?_⟩
  ·obtain⟨i,hi,rfl⟩:=List.getElem_of_mem hx
   exact(h i hi).2.1
  ·rw[List.pairwise_iff_getElem]
   intro i j hi hj hij
   induction j with
   |zero=>omega
   |succ j ih=>
    have h1:=(h (j+1) hj).2.2 (by omega)
    simp only[Nat.add_sub_cancel]at h1
    by_cases e:i=j
    ·subst e;exact h1
    ·exact ht _ _ _ (ih (by omega) (by omega)) h1
 ·rintro⟨h1,h2⟩ i hi
  refine⟨hi,h1 _ (List.getElem_mem hi),fun h0=>?_⟩
  exact List.pairwise_iff_getElem.1 h2 (i-1) i (by omega) hi (by omega)
abbrev Iy {α:Type}(f:α->Int)(l:List α):Prop:=l.Pairwise fun a b=>f a<f b
def CC {α:Type}(f:α->Int)(l:List α)(m:α):List α:=
 (l.takeWhile fun x=>decide (f x<f m))++m::(match l.dropWhile fun x=>decide (f x<f m)with|[]=>[]|x::r=>if f x=f m then r else x::r)
theorem Ob {α:Type}{f:α->Int}:∀{l:List α} (h:Iy f l) (n:Int),∀x∈l.dropWhile (fun x=>decide (f x<n)),n<=f x
 |[],_,_,x,hx=>by simp at hx
 |a::l,h,n,x,hx=>by
  have h1:=List.pairwise_cons.1 h
  simp only[List.dropWhile_cons]at hx
  split at hx
  ·exact Ob h1.2 n x hx
  ·rename_i hn
   simp only[decide_eq_true_eq]at hn
   rcases List.mem_cons.1 hx with rfl|hx
   ·omega
   ·have:=h1.1 x hx;omega
theorem IH {α:Type}{f:α->Int}{l:List α}(h:Iy f l){m x:α}:x∈CC f l m↔x=m\/(x∈l/\f x≠f m):=by
 have hd:=Ob h (f m)
 have hu:Iy f (l.dropWhile fun x=>decide (f x<f m)):=h.sublist (List.dropWhile_sublist _)
 have hl:x∈l↔x∈(l.takeWhile fun x=>decide (f x<f m))\/x∈(l.dropWhile fun x=>decide (f x<f m)):=by
  rw[<-List.mem_append,List.takeWhile_append_dropWhile]
 have htk:∀y∈(l.takeWhile fun x=>decide (f x<f m)),f y<f m:=fun y hy=>by
  have:=List.all_takeWhile (l:=l) (p:=fun x=>decide (f x<f m))
  have:=List.all_eq_true.1 this y hy
  simpa using this
 unfold CC
 cases hb:(l.dropWhile fun x=>decide (f x<f m))with
 |nil=>
  rw[hb]at hl
  simp only[List.mem_append,List.mem_cons,List.not_mem_nil,or_false]at hl ⊢
  rw[hl]
  constructor
  ·rintro(h1|h1)
   ·exact .inr ⟨h1,by have:=htk x h1;omega⟩
   ·exact .inl h1
  ·rintro(h1|⟨h1,_⟩)
   ·exact .inr h1
   ·exact .inl h1
 |cons y r=>
  rw[hb]at hl hd hu
  have hyr:=List.pairwise_cons.1 hu
  have hy:=hd y (List.mem_cons_self)
  simp only
  by_cases e:f y=f m
  ·rw[if_pos e]
   simp only[List.mem_append,List.mem_cons]at hl ⊢
   rw[hl]
   constructor
   ·rintro(h1|h1|h1)
    ·exact .inr ⟨.inl h1,by have:=htk x h1;omega⟩
    ·exact .inl h1
    ·exact .inr ⟨.inr (.inr h1),by have:=hyr.1 x h1;omega⟩
   ·rintro(h1|⟨h1|h1|h1,h2⟩)
    ·exact .inr (.inl h1)
    ·exact .inl h1
    ·subst h1;exact absurd e h2
    ·exact .inr (.inr h1)
  ·rw[if_neg e]
   simp only[List.mem_append,List.mem_cons]at hl ⊢
   rw[hl]
   constructor
   ·rintro(h1|h1|h1|h1)
    ·exact .inr ⟨.inl h1,by have:=htk x h1;omega⟩
    ·exact .inl h1
    ·subst h1;exact .inr ⟨.inr (.inl rfl),e⟩
    ·exact .inr ⟨.inr (.inr h1),by have:=hyr.1 x h1;omega⟩
   ·rintro(h1|⟨h1|h1|h1,h2⟩)
    ·exact .inr (.inl h1)
    ·exact .inl h1
    ·exact .inr (.inr (.inl h1))
    ·exact .inr (.inr (.inr h1))
theorem M9 {α:Type}{f:α->Int}{l:List α}(h:Iy f l)(m:α):Iy f (CC f l m):=by
 have hd:=Ob h (f m)
 have hu:Iy f (l.dropWhile fun x=>decide (f x<f m)):=h.sublist (List.dropWhile_sublist _)
 have ht:Iy f (l.takeWhile fun x=>decide (f x<f m)):=h.sublist (List.takeWhile_sublist _)
 have htk:∀y∈(l.takeWhile fun x=>decide (f x<f m)),f y<f m:=fun y hy=>by
  have:=List.all_takeWhile (l:=l) (p:=fun x=>decide (f x<f m))
  have:=List.all_eq_true.1 this y hy
  simpa using this
 unfold CC
 have key:∀r:List α,Iy f r->(∀x∈r,f m<f x)->Iy f ((l.takeWhile fun x=>decide (f x<f m))++m::r):=by
  intro r hr h1
  refine List.pairwise_append.2 ⟨ht,List.pairwise_cons.2 ⟨h1,hr⟩,fun a ha b hb=>?_⟩
  have h2:=htk a ha
  rcases List.mem_cons.1 hb with rfl|hb
  ·exact h2
  ·have:=h1 b hb;omega
 cases hb:(l.dropWhile fun x=>decide (f x<f m))with
 |nil=>exact key [] .nil (by simp)
 |cons y r=>
  rw[hb]at hd hu
  have hyr:=List.pairwise_cons.1 hu
  have hy:=hd y (List.mem_cons_self)
  simp only
  by_cases e:f y=f m
  ·rw[if_pos e];exact key r hyr.2 fun x hx=>by have:=hyr.1 x hx;omega
  ·rw[if_neg e]
   refine key _ hu fun x hx=>?_
   have h0:f m<f y:=by omega
   rcases List.mem_cons.1 hx with rfl|hx
   ·exact h0
   ·have:=hyr.1 x hx;omega
theorem Qc {α:Type}{f:α->Int}(l:List α)(m:α):(CC f l m).length<=l.length+1:=by
 have e:=congrArg List.length (List.takeWhile_append_dropWhile (p:=fun x=>decide (f x<f m)) (l:=l))
 rw[List.length_append]at e
 unfold CC
 split
 ·rename_i h1;simp only[List.length_append,List.length_cons,List.length_nil];omega
 ·rename_i y r h1
  rw[h1]at e
  simp only[List.length_cons]at e
  split<;>simp only[List.length_append,List.length_cons]<;>omega
theorem NP (l:List VM):QZ l↔(∀x∈l,inB x.1 0 5=true/\inB x.2.1 1 9=true)/\Iy (·.1) l:=by
 unfold QZ A63
 refine Iff.trans ?_ (Ox (R:=fun a b:VM=>a.1<b.1) (P:=fun x=>inB x.1 0 5=true/\inB x.2.1 1 9=true) (fun a b c h1 h2=>Int.lt_trans h1 h2) l)
 simp only[and_assoc]
theorem JA (l:List VM):Np l↔(∀x∈l,inB x.1 1 9=true/\inB x.2.1 1 9=true/\x.1≠x.2.1)/\Iy (·.1) l:=by
 unfold Np zW
 refine Iff.trans ?_ (Ox (R:=fun a b:VM=>a.1<b.1) (P:=fun x=>inB x.1 1 9=true/\inB x.2.1 1 9=true/\x.1≠x.2.1) (fun a b c h1 h2=>Int.lt_trans h1 h2) l)
 simp only[and_assoc]
theorem La (l:List VM):RN l↔(∀x∈l,inB x.1 0 5=true/\inB x.2.1 (-1) 99=true)/\Iy (·.1) l:=by
 unfold RN zX
 refine Iff.trans ?_ (Ox (R:=fun a b:VM=>a.1<b.1) (P:=fun x=>inB x.1 0 5=true/\inB x.2.1 (-1) 99=true) (fun a b c h1 h2=>Int.lt_trans h1 h2) l)
 simp only[and_assoc]
theorem JU (a b c:VM)(h1:Cg a b)(h2:Cg b c):Cg a c:=by unfold Cg at*;omega
theorem NO (l:List VM):OF l↔(∀x∈l,inB x.1 0 5=true/\inB x.2.1 0 999=true)/\l.Pairwise Cg:=by
 unfold OF A03
 rw[<-Ox JU]
 simp only[and_assoc]
theorem SQ (s:List (List VV))(stamp:Int)(l:List TX):PL s stamp l↔(∀t∈l,Mf t=true/\t.2.2.2.1<=stamp/\t.2.2.2.2.2.2.1<=stamp/\(t.2.2.1=1->∀m∈t.2.2.2.2.2.2.2.1,HJ s m))/\Iy (·.1) l:=by
 unfold PL A00
 refine Iff.trans ?_ (Ox (R:=fun a b:TX=>a.1<b.1) (P:=fun t=>Mf t=true/\t.2.2.2.1<=stamp/\t.2.2.2.2.2.2.1<=stamp/\(t.2.2.1=1->∀m∈t.2.2.2.2.2.2.2.1,HJ s m)) (fun a b c h1 h2=>Int.lt_trans h1 h2) l)
 constructor
 ·intro h i hi
  obtain⟨h0,h1,h2,h3,h4,h5⟩:=h i hi
  exact⟨h0,⟨h1,h3,h4,h5⟩,h2⟩
 ·intro h i hi
  obtain⟨h0,⟨h1,h3,h4,h5⟩,h2⟩:=h i hi
  exact⟨h0,h1,h2,h3,h4,h5⟩
theorem n8 {l:List TX}(h:Iy (·.1) l){k:Nat}(hk:k<l.length):l.findIdx? (fun t=>t.1==l[k].1)=some k:=by
 rw[List.findIdx?_eq_some_iff_getElem]
 refine⟨hk,by simp,fun j hj=>?_⟩
 have:l[j].1<l[k].1:=List.pairwise_iff_getElem.1 h j k (by omega) hk hj
 simp;omega
theorem Kx {l:List TX}(h:Iy (·.1) l)(id:Int):E7 l id=true↔∃t∈l,t.1=id/\t.2.2.1=1:=by
 unfold E7
 constructor
 ·intro h1
  split at h1
  ·rename_i i hi
   split at h1
   ·rename_i t ht
    obtain⟨h2,h3,_⟩:=List.findIdx?_eq_some_iff_getElem.1 hi
    rw[List.getElem?_eq_getElem h2]at ht
    obtain rfl:l[i]=t:=by simpa using ht
    exact⟨_,List.getElem_mem h2,by simpa using h3,by simpa using h1⟩
   ·cases h1
  ·cases h1
 ·rintro⟨t,ht,rfl,h2⟩
  obtain⟨k,hk,rfl⟩:=List.getElem_of_mem ht
  rw[n8 h hk]
  simp[List.getElem?_eq_getElem hk,h2]
end Go.Ab
end
section
namespace Go.Ab
noncomputable section
def G9 (t:TX)(n:Int):TX:=(t.1,t.2.1,n,t.2.2.2.1,t.2.2.2.2.1,t.2.2.2.2.2.1,t.2.2.2.2.2.2.1,t.2.2.2.2.2.2.2.1,t.2.2.2.2.2.2.2.2.1,())
def aX (t:TX)(lo hi:Int)(rd:List VM):TX:=(t.1,t.2.1,t.2.2.1,t.2.2.2.1,lo,hi,t.2.2.2.2.2.2.1,rd,t.2.2.2.2.2.2.2.2.1,())
def OQ (t:TX)(lo:Int)(wr:List VM):TX:=(t.1,t.2.1,t.2.2.1,t.2.2.2.1,lo,t.2.2.2.2.2.1,t.2.2.2.2.2.2.1,t.2.2.2.2.2.2.2.1,wr,())
def N3 (t:TX)(lo hi co:Int):TX:=(t.1,t.2.1,2,t.2.2.2.1,lo,hi,co,t.2.2.2.2.2.2.2.1,t.2.2.2.2.2.2.2.2.1,())
def N5 (id sc be:Int):TX:=(id,sc,1,be,0,1000,0,[],[],())
abbrev EG:=List (List VV)×List TX×List VM×List VM×Int
def W6 (lk:List VM)(id:Int):List VM:=lk.filter fun m=>!(m.2.1==id)
def Yx (wt:List VM)(id:Int):List VM:=wt.filter fun m=>!(m.1==id)&&!(m.2.1==id)
def wkW (wt:List VM)(id:Int):List VM:=wt.filter fun m=>!(m.1==id)
def JX (e:EG)(k:Nat)(t:TX):EG:=(e.1,e.2.1.set k t,W6 e.2.2.1 t.1,Yx e.2.2.2.1 t.1,e.2.2.2.2)
def CU (lk:List VM)(key:Int):Int:=match lk.find? fun m=>m.1==key with|some m=>m.2.1|none=>0
def aV (t:TX)(key:Int):Option Int:=(t.2.2.2.2.2.2.2.2.1.find? fun m=>m.1==key).map (·.2.1)
def EI (s:List (List VV))(key:Int):Option VV:=(s[key.toNat]?).bind fun l=>l[l.length-1]?
def crV (o:Option VV):Int:=match o with|some v=>v.2.2.1|none=>0
def M8 (o:Option VV):Int:=match o with|some v=>v.2.2.2.1|none=>0
def Kk (s:List (List VV))(t:TX)(key:Int):Option VV:=
 (s[key.toNat]?).bind fun l=>
   let i:Int:=bif t.2.1==2 then vA l t.2.2.2.1 l.length else(l.length:Int)-1
   bif decide (i<0)then none else(l[i.toNat]?).bind fun v=>bif t.2.1==4&&decide (v.2.2.1>t.2.2.2.1)then none else some v
def Ik (a b:VM):Bool:=dec (Cg a b)
def L8 (rd:List VM)(m:VM):List VM:=
 (rd.takeWhile fun x=>Ik x m)++m::(match rd.dropWhile fun x=>Ik x m with|[]=>[]|x::r=>if x=m then r else x::r)
def NA (t:TX)(key:Int)(v:VV):Option TX:=
 bif t.2.2.2.2.2.2.2.1.length==60 then none else some (aX t (mx t.2.2.2.2.1 v.2.2.1) (mn t.2.2.2.2.2.1 v.2.2.2.2.1) (L8 t.2.2.2.2.2.2.2.1 (key,v.2.2.1,())))
def FL (e:EG)(k:Nat)(key:Int):Int×Int×EG:=match e.2.1[k]? with
 |none=>(0,6,e)
 |some t=>match aV t key with
  |some x=>(x,0,e)
  |none=>match Kk e.1 t key with
   |none=>(0,3,JX e k (G9 t 3))
   |some v=>match NA t key v with
    |none=>(0,6,e)
    |some t'=>(v.2.1,0,(e.1,e.2.1.set k t',e.2.2))
def Eb (k:Nat):Nat->Int->List Int->EG->Int×List Int×EG
 |0,_,out,e=>(0,out,e)
 |n+1,key,out,e=>let r:=FL e k key
  bif r.2.1==0 then Eb k n (key+1) (out++[r.1]) r.2.2 else(r.2.1,[],r.2.2)
def Gr (s:List (List VV))(lk:List VM)(t:TX)(key:Int):Int:=
 let o:=CU lk key
 let f:=!(o==0)&&!(o==t.1)
 bif t.2.1==1&&f then 1
 else bif t.2.1==2&&(f||decide (crV (EI s key)>t.2.2.2.1))then 2
 else bif t.2.1==4&&decide (M8 (EI s key)>t.2.2.2.1)then 3 else 0
def Vw (wt:List VM)(id:Int):Option Int:=(wt.find? fun m=>m.1==id).map (·.2.1)
def I3 (wt:List VM):Nat->List Int->Int->List Int
 |0,out,_=>out
 |n+1,out,x=>match Vw wt x with
  |none=>out
  |some y=>if y∈out then out++[y]else I3 wt n (out++[y]) y
def QP (wt:List VM)(id o:Int):Bool:=(I3 (CC (·.1) wt (id,o,())) 10 [id] id).getLast?==some id
def Mw (e:EG)(k:Nat)(key val:Int):Int×EG:=match e.2.1[k]? with
 |none=>(6,e)
 |some t=>
  let c:=Gr e.1 e.2.2.1 t key
  bif c==1 then(bif QP e.2.2.2.1 t.1 (CU e.2.2.1 key)then(4,JX e k (G9 t 3))else(1,e.1,e.2.1,e.2.2.1,CC (·.1) e.2.2.2.1 (t.1,CU e.2.2.1 key,()),e.2.2.2.2))
  else bif c==0 then(0,e.1,e.2.1.set k (OQ t (mx t.2.2.2.2.1 (M8 (EI e.1 key))) (CC (·.1) t.2.2.2.2.2.2.2.2.1 (key,val,()))),(bif t.2.1==1||t.2.1==2 then CC (·.1) e.2.2.1 (key,t.1,())else e.2.2.1),e.2.2.2.1,e.2.2.2.2)
  else(c,JX e k (G9 t 3))
def N0 (s:List (List VV))(t:TX):Int:=
 bif t.2.2.2.2.2.2.2.2.1.any fun m=>decide (crV (EI s m.1)>t.2.2.2.1)then(bif t.2.1==2 then 2 else bif t.2.1==4 then 3 else 0)else 0
def rlP (s:List (List VV))(t:TX):Int:=t.2.2.2.2.2.2.2.2.1.foldl (fun n m=>mx n (M8 (EI s m.1))) (t.2.2.2.2.2.2.2.1.foldl (fun n m=>mx n m.2.1) 0)
def loP (s:List (List VV))(t:TX):Int:=mx t.2.2.2.2.1 (rlP s t)
def hiP (s:List (List VV))(t:TX)(stamp:Int):Int:=mn (mn t.2.2.2.2.2.1 (rfH s t.2.2.2.2.2.2.2.1)) stamp
def O3 (s:List (List VV))(t:TX):Bool:=t.2.2.2.2.2.2.2.2.1.any fun m=>match s[m.1.toNat]? with|some l=>decide (l.length>=50)|none=>false
def PU (s:List (List VV))(t:TX)(stamp hi:Int):List (List VV):=t.2.2.2.2.2.2.2.2.1.foldl (Pv stamp t.1 hi) (t.2.2.2.2.2.2.2.1.foldl (N8 stamp) s)
def IU (ce:Bool)(e:EG)(k:Nat):Int×EG:=match e.2.1[k]? with
 |none=>(6,e)
 |some t=>
  let c:=N0 e.1 t
  bif !(c==0)then(c,JX e k (G9 t 3))
  else bif e.2.2.2.2==999 then(6,e)
  else
   let st:=e.2.2.2.2+1
   bif (ce&&decide (loP e.1 t>=hiP e.1 t st))||O3 e.1 t then(5,JX e k (G9 t 3))
   else(0,JX (PU e.1 t st (hiP e.1 t st),e.2.1,e.2.2.1,e.2.2.2.1,st) k (N3 t (loP e.1 t) (hiP e.1 t st) st))
def Lq (e:EG)(id sc:Int):Int×EG:=
 bif (e.2.1.any fun t=>t.1==id)||e.2.1.length==6 then(6,e)else(0,e.1,CC (·.1) e.2.1 (N5 id sc e.2.2.2.2),e.2.2)
abbrev OPt:=Int×Int×Int×Int×Int×Int×Unit
def NC (ce:Bool)(e:EG)(o:OPt):Int×List Int×EG:=
 bif o.1==1 then(let r:=Lq e o.2.1 o.2.2.1;(r.1,[],r.2))
 else match e.2.1.findIdx? fun t=>t.1==o.2.1 with
  |none=>(6,[],e)
  |some k=>bif E7 e.2.1 o.2.1 then
    (let e':EG:=(e.1,e.2.1,e.2.2.1,wkW e.2.2.2.1 o.2.1,e.2.2.2.2)
    bif o.1==2 then Eb k 1 o.2.2.2.1 [] e'
    else bif o.1==4 then Eb k (o.2.2.2.2.1-o.2.2.2.1+1).toNat o.2.2.2.1 [] e'
    else bif o.1==3 then(let r:=Mw e' k o.2.2.2.1 o.2.2.2.2.2.1;(r.1,[],r.2))
    else bif o.1==5 then(let r:=IU ce e' k;(r.1,[],r.2))
    else match e.2.1[k]? with
     |some t=>(0,[],JX e' k (G9 t 3))
     |none=>(6,[],e'))
   else(6,[],e)
def Mh (o:OPt):Bool:=
 inB o.1 1 6&&inB o.2.1 1 9&&(bif o.1==1 then inB o.2.2.1 1 4 else o.2.2.1==0)&&(bif o.1==2||o.1==3||o.1==4 then inB o.2.2.2.1 0 5 else o.2.2.2.1==0)&&(bif o.1==4 then inB o.2.2.2.2.1 o.2.2.2.1 5 else o.2.2.2.2.1==0)&&(bif o.1==3 then inB o.2.2.2.2.2.1 (-1) 99 else o.2.2.2.2.2.1==0)
structure OkG (e:EG):Prop where
 st:Mg e.1
 last:e.1.foldl JO 0<=e.2.2.2.2
 stamp:e.2.2.2.2<=999
 lkA:∀m∈e.2.2.1,inB m.1 0 5=true/\inB m.2.1 1 9=true
 lkU:Iy (·.1) e.2.2.1
 wtA:∀m∈e.2.2.2.1,inB m.1 1 9=true/\inB m.2.1 1 9=true/\m.1≠m.2.1
 wtU:Iy (·.1) e.2.2.2.1
 txA:∀t∈e.2.1,Mf t=true/\t.2.2.2.1<=e.2.2.2.2/\t.2.2.2.2.2.2.1<=e.2.2.2.2/\(t.2.2.1=1->∀m∈t.2.2.2.2.2.2.2.1,HJ e.1 m)
 txU:Iy (·.1) e.2.1
 len:e.2.1.length<=6
 lkO:∀m∈e.2.2.1,E7 e.2.1 m.2.1=true
 wtO:∀m∈e.2.2.2.1,E7 e.2.1 m.1=true/\E7 e.2.1 m.2.1=true
theorem LX {p:Prop}(h:dec p=true):p:=by
 by_cases e:p
 ·exact e
 ·rw[Bl e]at h;cases h
theorem PN (e:EG):okE e.1 e.2.1 e.2.2.1 e.2.2.2.1 e.2.2.2.2=true↔OkG e:=by
 unfold okE inB
 simp only[Bool.and_eq_true,decide_eq_true_eq]
 constructor
 ·rintro⟨⟨⟨⟨⟨⟨⟨h1,h2⟩,h3⟩,h4⟩,h5⟩,h6⟩,h7⟩,h8⟩
  have a2:=(NP _).1 (LX h2)
  have a3:=(JA _).1 (LX h3)
  have a5:=(SQ _ _ _).1 (LX h5)
  exact⟨LX h1,h4.1,h4.2,a2.1,a2.2,a3.1,a3.2,a5.1,a5.2,h6,LX h7,LX h8⟩
 ·rintro⟨h1,h2,h3,h4,h5,h6,h7,h8,h9,h10,h11,h12⟩
  exact⟨⟨⟨⟨⟨⟨⟨AD h1,AD ((NP _).2 ⟨h4,h5⟩)⟩,AD ((JA _).2 ⟨h6,h7⟩)⟩,h2,h3⟩,AD ((SQ _ _ _).2 ⟨h8,h9⟩)⟩,h10⟩,AD h11⟩,AD h12⟩
end
end Go.Ab
end
section
namespace Go.Ab
theorem Bh {x a b:Int}:inB x a b=true↔a<=x/\x<=b:=by unfold inB;simp
theorem zf {a b n:Int}:mx a b<=n↔a<=n/\b<=n:=by unfold mx;split<;>omega
theorem zm {a b n:Int}:n<=mn a b↔n<=a/\n<=b:=by unfold mn;split<;>omega
theorem nX (a b c:VV)(h1:okP a b)(h2:okP b c):okP a c:=by unfold okP at*;omega
theorem KR (l:List VV):LO l↔(∀v∈l,okV v=true)/\l.Pairwise okP/\∃v,l.getLast?=some v/\v.2.2.2.2.1=1000:=by
 unfold LO
 rw[Y5]
 have h1:=Ox (R:=okP) (P:=fun v=>okV v=true) nX l
 have h2:(∀i,i<l.length->zd l i)↔(∀x∈l,okV x=true)/\l.Pairwise okP:=h1
 rw[h2,and_assoc]
 have h3:(∃h:0<l.length,(l[l.length-1]'(by omega)).2.2.2.2.1=1000)↔∃v,l.getLast?=some v/\v.2.2.2.2.1=1000:=by
  constructor
  ·rintro⟨h,e⟩
   exact⟨_,by rw[List.getLast?_eq_getElem?,List.getElem?_eq_getElem (by omega)],e⟩
  ·rintro⟨v,e1,e2⟩
   rw[List.getLast?_eq_getElem?]at e1
   obtain⟨h,e3⟩:=List.getElem?_eq_some_iff.1 e1
   exact⟨by omega,by rw[e3];exact e2⟩
 rw[h3]
theorem ML (v:VV):okV v=true↔inB v.2.1 (-1) 99=true/\inB v.2.2.1 0 999=true/\inB v.2.2.2.1 v.2.2.1 999=true/\inB v.2.2.2.2.1 1 1000=true/\(bif v.2.2.1==0 then(bif v.1==0 then v.2.1==-1 else false)else inB v.1 1 9)=true:=by
 unfold okV
 simp only[Bool.and_eq_true,and_assoc]
theorem mem_set {α:Type}{l:List α}{k:Nat}{t x:α}(h:x∈l.set k t):x=t\/∃j,∃hj:j<l.length,j≠k/\x=l[j]:=by
 obtain⟨j,hj,rfl⟩:=List.getElem_of_mem h
 rw[List.length_set]at hj
 rw[List.getElem_set]
 by_cases e:k=j
 ·rw[if_pos e];exact .inl rfl
 ·rw[if_neg e];exact .inr ⟨j,hj,fun h=>e h.symm,rfl⟩
theorem ZM {α:Type}{R:α->α->Prop}{l:List α}{k:Nat}(hk:k<l.length){t:α}(h:l.Pairwise R)(h1:∀x,R x l[k]->R x t)(h2:∀x,R l[k] x->R t x):(l.set k t).Pairwise R:=by
 rw[List.pairwise_iff_getElem]at h ⊢
 intro i j hi hj hij
 rw[List.length_set]at hi hj
 rw[List.getElem_set,List.getElem_set]
 have h3:=h i j hi hj hij
 by_cases e1:k=i
 ·subst e1;rw[if_pos rfl,if_neg (by omega)];exact h2 _ h3
 ·rw[if_neg e1]
  by_cases e2:k=j
  ·subst e2;rw[if_pos rfl];exact h1 _ h3
  ·rw[if_neg e2];exact h3
theorem Abj {l:List VV}{j:Nat}{v:VV}(h:LO l)(hj:l[j]?=some v){st:Int}(hs:st<=999):LO (l.set j (Sb st v)):=by
 obtain⟨hjl,rfl⟩:=List.getElem?_eq_some_iff.1 hj
 rw[KR]at h ⊢
 obtain⟨h1,h2,w,h3,h4⟩:=h
 refine⟨fun x hx=>?_,ZM hjl h2 (fun x hx=>hx) (fun x hx=>hx),?_⟩
 ·rcases mem_set hx with rfl|⟨i,hi,_,rfl⟩
  ·have:=h1 _ (List.getElem_mem hjl)
   rw[ML]at this ⊢
   obtain⟨a1,a2,a3,a4,a5⟩:=this
   refine⟨a1,a2,?_,a4,a5⟩
   rw[Bh]at a3 ⊢
   show l[j].2.2.1<=mx l[j].2.2.2.1 st/\mx l[j].2.2.2.1 st<=999
   unfold mx;split<;>omega
  ·exact h1 _ (List.getElem_mem hi)
 ·rw[List.getLast?_eq_getElem?,List.length_set,List.getElem?_set]
  rw[List.getLast?_eq_getElem?]at h3
  by_cases e:j=l.length-1
  ·rw[if_pos e,if_pos (by omega)]
   refine⟨_,rfl,?_⟩
   subst e
   rw[List.getElem?_eq_getElem (by omega)]at h3
   obtain rfl:=Option.some.inj h3
   exact h4
  ·rw[if_neg e];exact⟨w,h3,h4⟩
theorem Abi {l:List VV}{v:VV}(h:LO l)(hl:l[l.length-1]?=some v){st hi id val:Int}(hs:1<=st/\st<=999)(hh:1<=hi/\hi<=st)(hid:inB id 1 9=true)(hval:inB val (-1) 99=true)(hc:∀x∈l,x.2.2.1<st):
 LO (l.set (l.length-1) (oE hi v)++[(id,val,st,st,1000,())]):=by
 obtain⟨hjl,rfl⟩:=List.getElem?_eq_some_iff.1 hl
 rw[KR]at h ⊢
 obtain⟨h1,h2,w,h3,h4⟩:=h
 have hpos:0<l.length:=by omega
 refine⟨fun x hx=>?_,?_,_,by rw[List.getLast?_append];rfl,rfl⟩
 ·rcases List.mem_append.1 hx with hx|hx
  ·rcases mem_set hx with rfl|⟨i,hi,_,rfl⟩
   ·have:=h1 _ (List.getElem_mem hjl)
    rw[ML]at this ⊢
    obtain⟨a1,a2,a3,a4,a5⟩:=this
    exact⟨a1,a2,a3,by rw[Bh];show 1<=hi/\hi<=1000;omega,a5⟩
   ·exact h1 _ (List.getElem_mem hi)
  ·obtain rfl:=by simpa using hx
   rw[ML]
   refine⟨hval,by rw[Bh];show 0<=st/\st<=999;omega,by rw[Bh];show st<=st/\st<=999;omega,by rw[Bh];show(1:Int)<=1000/\(1000:Int)<=1000;omega,?_⟩
   show(bif st==0 then _ else inB id 1 9)=true
   rw[show(st==0)=false by simp;omega]
   exact hid
 ·rw[List.pairwise_append]
  refine⟨?_,List.pairwise_singleton _ _,fun a ha b hb=>?_⟩
  ·
   rw[List.pairwise_iff_getElem]at h2 ⊢
   intro i j hi hj hij
   rw[List.length_set]at hi hj
   rw[List.getElem_set,List.getElem_set,if_neg (by omega)]
   have h5:=h2 i j hi hj hij
   by_cases e:l.length-1=j
   ·subst e;rw[if_pos rfl];exact h5
   ·rw[if_neg e];exact h5
  ·obtain rfl:=by simpa using hb
   rcases mem_set ha with rfl|⟨i,hi',hne,rfl⟩
   ·exact⟨show l[l.length-1].2.2.1<st from hc _ (List.getElem_mem hjl),hh.2⟩
   ·have h6:okP l[i] (l[l.length-1]'(by omega)):=List.pairwise_iff_getElem.1 h2 i (l.length-1) hi' (by omega) (by omega)
    have h7:=hc _ (List.getElem_mem hi')
    have h8:=hc _ (List.getElem_mem hjl)
    exact⟨h7,by have:=h6.2;show l[i].2.2.2.2.1<=st;omega⟩
theorem Ye {n:Int}:∀(l:List VV) (a:Int),JO a l<=n↔a<=n/\∀v∈l,v.2.2.2.1<=n
 |[],a=>by simp[JO]
 |v::l,a=>by
  show JO (mx a v.2.2.2.1) l<=n↔_
  rw[Ye l,zf]
  simp[and_assoc]
theorem PQ {n:Int}:∀(s:List (List VV)) (a:Int),s.foldl JO a<=n↔a<=n/\∀l∈s,∀v∈l,v.2.2.2.1<=n
 |[],a=>by simp
 |l::s,a=>by
  rw[List.foldl_cons,PQ s,Ye]
  simp[and_assoc]
structure GdS (s:List (List VV))(n:Int):Prop where
 six:s.length=6
 ok:∀l∈s,LO l/\l.length<=50
 rd:∀l∈s,∀v∈l,v.2.2.2.1<=n
theorem GdS.of {s:List (List VV)}{n:Int}(h:Mg s)(hn:s.foldl JO 0<=n):GdS s n:=⟨h.1,h.2,((PQ s 0).1 hn).2⟩
theorem GdS.last {s:List (List VV)}{n:Int}(h:GdS s n)(h0:0<=n):Mg s/\s.foldl JO 0<=n:=⟨⟨h.six,h.ok⟩,(PQ s 0).2 ⟨h0,h.rd⟩⟩
theorem GdS.set {s:List (List VV)}{n:Int}(h:GdS s n){k:Nat}{l:List VV}(h1:LO l)(h2:l.length<=50)(h3:∀v∈l,v.2.2.2.1<=n):GdS (s.set k l) n:=by
 refine⟨by simpa using h.six,fun x hx=>?_,fun x hx=>?_⟩
 ·rcases List.mem_or_eq_of_mem_set hx with h4|rfl
  ·exact h.ok x h4
  ·exact⟨h1,h2⟩
 ·rcases List.mem_or_eq_of_mem_set hx with h4|rfl
  ·exact h.rd x h4
  ·exact h3
theorem S0 {s:List (List VV)}{m x:VM}{l:List VV}:JS (s.set m.1.toNat l) x=if m.1.toNat=x.1.toNat then(JS s m).map fun _=>l else JS s x:=by
 unfold JS
 rw[List.getElem?_set]
 by_cases e:m.1.toNat=x.1.toNat
 ·rw[if_pos e,if_pos e]
  by_cases e2:m.1.toNat<s.length
  ·rw[if_pos e2,List.getElem?_eq_getElem e2];rfl
  ·rw[if_neg e2,List.getElem?_eq_none (by omega)];rfl
 ·rw[if_neg e,if_neg e]
theorem A78 {l:List VV}{j:Nat}{v:VV}(hj:l[j]?=some v){v':VV}(e:v'.2.2.1=v.2.2.1):(l.set j v').map (fun v=>v.2.2.1)=l.map fun v=>v.2.2.1:=by
 obtain⟨hjl,rfl⟩:=List.getElem?_eq_some_iff.1 hj
 apply List.ext_getElem (by simp)
 intro i h1 h2
 simp only[List.length_map,List.length_set]at h1 h2
 simp only[List.getElem_map,List.getElem_set]
 split
 ·rename_i h;subst h;exact e
 ·rfl
theorem A6c {s:List (List VV)}{n st:Int}(h:GdS s n)(hn:n<=st)(hs:st<=999)(m:VM):GdS (N8 st s m) st/\∀x,(JS (N8 st s m) x).map (List.map fun v:VV=>v.2.2.1)=(JS s x).map (List.map fun v:VV=>v.2.2.1):=by
 have h':GdS s st:=⟨h.six,h.ok,fun l hl v hv=>Int.le_trans (h.rd l hl v hv) hn⟩
 unfold N8
 cases hc:JS s m with
 |none=>exact⟨h',fun x=>rfl⟩
 |some l=>
  have hl:l∈s:=List.mem_of_getElem? hc
  simp only
  cases hf:fvI l m.2.1 with
  |none=>exact⟨h',fun x=>rfl⟩
  |some j=>
   simp only
   cases hj:l[j]? with
   |none=>exact⟨h',fun x=>rfl⟩
   |some v=>
    simp only
    refine⟨h'.set (Abj (h.ok l hl).1 hj hs) (by simpa using(h.ok l hl).2) (fun x hx=>?_),fun x=>?_⟩
    ·rcases List.mem_or_eq_of_mem_set hx with h4|rfl
     ·exact h'.rd l hl x h4
     ·have:=h'.rd l hl v (List.mem_of_getElem? hj)
      show mx _ st<=st
      rw[zf];exact⟨this,Int.le_refl _⟩
    ·rw[S0]
     split
     ·rename_i e
      have:JS s x=some l:=by rw[<-hc];unfold JS;rw[e]
      rw[this,hc]
      simp only[Option.map_some]
      rw[A78 (v':=Sb st v) hj rfl]
     ·rfl
theorem zz {n st:Int}(hn:n<=st)(hs:st<=999):∀(rd:List VM) {s:List (List VV)},GdS s n->(GdS (rd.foldl (N8 st) s) st)/\∀x,(JS (rd.foldl (N8 st) s) x).map (List.map fun v:VV=>v.2.2.1)=(JS s x).map (List.map fun v:VV=>v.2.2.1)
 |[],s,h=>⟨⟨h.six,h.ok,fun l hl v hv=>Int.le_trans (h.rd l hl v hv) hn⟩,fun x=>rfl⟩
 |m::rd,s,h=>by
  obtain⟨h1,h2⟩:=A6c h hn hs m
  obtain⟨h3,h4⟩:=zz (Int.le_refl st) hs rd h1
  exact⟨h3,fun x=>(h4 x).trans (h2 x)⟩
theorem A6b {s:List (List VV)}{st id hi:Int}(h:GdS s st)(hs:1<=st/\st<=999)(hh:1<=hi/\hi<=st)(hid:inB id 1 9=true){m:VM}(hv:inB m.2.1 (-1) 99=true)(hf:∀l,JS s m=some l->l.length<50/\∀v∈l,v.2.2.1<st):
 GdS (Pv st id hi s m) st/\(∀x:VM,m.1.toNat≠x.1.toNat->JS (Pv st id hi s m) x=JS s x):=by
 unfold Pv
 cases hc:JS s m with
 |none=>exact⟨h,fun x _=>rfl⟩
 |some l=>
  have hl:l∈s:=List.mem_of_getElem? hc
  obtain⟨g1,g2⟩:=hf l hc
  simp only
  cases hj:l[l.length-1]? with
  |none=>exact⟨h,fun x _=>rfl⟩
  |some v=>
   simp only
   refine⟨h.set (Abi (h.ok l hl).1 hj hs hh hid hv g2) (by simp;omega) (fun x hx=>?_),fun x hx=>?_⟩
   ·rcases List.mem_append.1 hx with hx|hx
    ·rcases List.mem_or_eq_of_mem_set hx with h4|rfl
     ·exact h.rd l hl x h4
     ·exact h.rd l hl v (List.mem_of_getElem? hj)
    ·obtain rfl:=by simpa using hx
     exact Int.le_refl _
   ·rw[S0,if_neg hx]
theorem zy {st id hi:Int}(hs:1<=st/\st<=999)(hh:1<=hi/\hi<=st)(hid:inB id 1 9=true):∀(wr:List VM) {s:List (List VV)},GdS s st->(∀m∈wr,0<=m.1/\inB m.2.1 (-1) 99=true)->Iy (·.1) wr->(∀m∈wr,∀l,JS s m=some l->l.length<50/\∀v∈l,v.2.2.1<st)->GdS (wr.foldl (Pv st id hi) s) st
 |[],s,h,_,_,_=>h
 |m::wr,s,h,hv,hu,hf=>by
  obtain⟨h1,h2⟩:=A6b h hs hh hid (hv m List.mem_cons_self).2 (hf m List.mem_cons_self)
  have hp:=List.pairwise_cons.1 hu
  refine zy hs hh hid wr h1 (fun x hx=>hv x (List.mem_cons_of_mem _ hx)) hp.2 (fun x hx l hl=>?_)
  have h3:m.1<x.1:=hp.1 x hx
  have h4:=(hv m List.mem_cons_self).1
  have h5:=(hv x (List.mem_cons_of_mem _ hx)).1
  rw[h2 x (by omega)]at hl
  exact hf x (List.mem_cons_of_mem _ hx) l hl
theorem Yp {l:List VV}{c:Int}:(∃j,fvI l c=some j)↔∃v∈l,v.2.2.1=c:=by
 unfold fvI
 rw[<-Option.isSome_iff_exists,List.findIdx?_isSome]
 simp
theorem Yu {s:List (List VV)}{m:VM}:HJ s m↔∃l,JS s m=some l/\∃v∈l,v.2.2.1=m.2.1:=by
 unfold HJ
 constructor
 ·rintro⟨l,j,h1,h2⟩;exact⟨l,h1,Yp.1 ⟨j,h2⟩⟩
 ·rintro⟨l,h1,h2⟩;obtain⟨j,h3⟩:=Yp.2 h2;exact⟨l,j,h1,h3⟩
theorem oc {s:List (List VV)}{m x:VM}(st id hi:Int)(hx:HJ s x):HJ (Pv st id hi s m) x:=by
 rw[Yu]at hx ⊢
 obtain⟨l,h1,v,h2,h3⟩:=hx
 unfold Pv
 cases hc:JS s m with
 |none=>exact⟨l,h1,v,h2,h3⟩
 |some r=>
  simp only
  cases hj:r[r.length-1]? with
  |none=>exact⟨l,h1,v,h2,h3⟩
  |some w=>
   simp only
   rw[S0]
   split
   ·rename_i e
    have:JS s x=some r:=by rw[<-hc];unfold JS;rw[e]
    rw[this]at h1
    obtain rfl:r=l:=by simpa using h1
    rw[hc]
    refine⟨_,rfl,?_⟩
    obtain⟨i,hi',rfl⟩:=List.getElem_of_mem h2
    obtain⟨hl,rfl⟩:=List.getElem?_eq_some_iff.1 hj
    by_cases e2:r.length-1=i
    ·subst e2
     refine⟨oE hi _,?_,h3⟩
     rw[List.mem_append];left
     exact List.mem_set hl _
    ·refine⟨r[i],?_,h3⟩
     rw[List.mem_append];left
     rw[List.mem_iff_getElem]
     exact⟨i,by simpa using hi',by rw[List.getElem_set,if_neg e2]⟩
   ·exact⟨l,h1,v,h2,h3⟩
theorem od {s:List (List VV)}{t:TX}{st hi:Int}{x:VM}(hx:HJ s x):HJ (PU s t st hi) x:=by
 unfold PU
 have h1:∀(rd:List VM) (s:List (List VV)),HJ s x->HJ (rd.foldl (N8 st) s) x:=by
  intro rd
  induction rd with
  |nil=>intro s h;exact h
  |cons m rd ih=>intro s h;exact ih _ (Qs st h)
 have h2:∀(wr:List VM) (s:List (List VV)),HJ s x->HJ (wr.foldl (Pv st t.1 hi) s) x:=by
  intro wr
  induction wr with
  |nil=>intro s h;exact h
  |cons m wr ih=>intro s h;exact ih _ (oc st t.1 hi h)
 exact h2 _ _ (h1 _ _ hx)
end Go.Ab
end
section
namespace Go.Ab
theorem Dc (t:TX):Mf t=true↔OF t.2.2.2.2.2.2.2.1/\RN t.2.2.2.2.2.2.2.2.1/\inB t.1 1 9=true/\inB t.2.1 1 4=true/\inB t.2.2.2.1 0 999=true/\inB t.2.2.1 1 3=true/\inB t.2.2.2.2.1 0 999=true/\inB t.2.2.2.2.2.1 1 1000=true/\(t.2.2.1=2↔t.2.2.2.2.2.2.1>0)/\inB t.2.2.2.2.2.2.1 0 999=true/\t.2.2.2.2.2.2.2.1.length<=60:=by
 unfold Mf okT
 simp only[Bool.and_eq_true,decide_eq_true_eq,and_assoc]
 have e:∀(a b:Prop) [Decidable b] (x:Bool),(x=true↔a)->(((x==decide b)=true)↔(a↔b)):=by
  intro a b _ x hx
  cases x<;>by_cases hb:b<;>simp[hb]at hx ⊢<;>exact hx
 rw[e (t.2.2.1=2) (t.2.2.2.2.2.2.1>0) (t.2.2.1==2) (by simp)]
 constructor
 ·rintro⟨h1,h2,h3⟩;exact⟨LX h1,LX h2,h3⟩
 ·rintro⟨h1,h2,h3⟩;exact⟨AD h1,AD h2,h3⟩
section
variable {e:EG}(H:OkG e)
include H
theorem OkG.stamp0:0<=e.2.2.2.2:=Int.le_trans ((PQ e.1 0).1 (Int.le_refl _)).1 H.last
theorem OkG.gd:GdS e.1 e.2.2.2.2:=GdS.of H.st H.last
theorem ni {k:Nat}(hk:k<e.2.1.length){t':TX}(ht:t'.1=e.2.1[k].1)(id:Int):E7 (e.2.1.set k t') id=true↔(id≠t'.1/\E7 e.2.1 id=true)\/(id=t'.1/\t'.2.2.1=1):=by
 have hu:Iy (·.1) (e.2.1.set k t'):=ZM hk H.txU (fun x h=>by show x.1<t'.1;rw[ht];exact h) (fun x h=>by show t'.1<x.1;rw[ht];exact h)
 rw[Kx hu,Kx H.txU]
 constructor
 ·rintro⟨t,h1,rfl,h2⟩
  rcases mem_set h1 with rfl|⟨j,hj,hne,rfl⟩
  ·exact .inr ⟨rfl,h2⟩
  ·refine .inl ⟨fun he=>?_,_,List.getElem_mem hj,rfl,h2⟩
   rw[ht]at he
   rcases Nat.lt_or_gt_of_ne hne with h3|h3
   ·have:e.2.1[j].1<e.2.1[k].1:=List.pairwise_iff_getElem.1 H.txU j k hj hk h3;omega
   ·have:e.2.1[k].1<e.2.1[j].1:=List.pairwise_iff_getElem.1 H.txU k j hk hj h3;omega
 ·rintro(⟨h1,t,h2,rfl,h3⟩|⟨rfl,h2⟩)
  ·obtain⟨j,hj,rfl⟩:=List.getElem_of_mem h2
   have hne:k≠j:=fun he=>by subst he;exact h1 ht.symm
   refine⟨e.2.1[j],?_,rfl,h3⟩
   rw[List.mem_iff_getElem]
   exact⟨j,by simpa using hj,by rw[List.getElem_set,if_neg hne]⟩
  ·exact⟨t',List.mem_set hk _,rfl,h2⟩
theorem aW {k:Nat}(hk:k<e.2.1.length){t':TX}(ht:t'.1=e.2.1[k].1):Iy (·.1) (e.2.1.set k t'):=
 ZM hk H.txU (fun x h=>by show x.1<t'.1;rw[ht];exact h) (fun x h=>by show t'.1<x.1;rw[ht];exact h)
theorem OkG.ends {k:Nat}(hk:k<e.2.1.length){t':TX}(ht:t'.1=e.2.1[k].1){s':List (List VV)}{stamp':Int}(hs:Mg s')(hl:s'.foldl JO 0<=stamp')(hst:e.2.2.2.2<=stamp'/\stamp'<=999)(hx:∀m,HJ e.1 m->HJ s' m)
 (ok:Mf t'=true)(hbe:t'.2.2.2.1<=stamp')(hco:t'.2.2.2.2.2.2.1<=stamp')(hna:t'.2.2.1≠1):OkG (JX (s',e.2.1,e.2.2.1,e.2.2.2.1,stamp') k t'):=by
 have hact:=ni H hk ht
 refine⟨hs,hl,hst.2,fun m hm=>H.lkA m ((List.mem_filter.1 hm).1),H.lkU.filter _,fun m hm=>H.wtA m ((List.mem_filter.1 hm).1),H.wtU.filter _,fun t h=>?_,aW H hk ht,by show(e.2.1.set k t').length<=6;simpa using H.len,fun m hm=>?_,fun m hm=>?_⟩
 ·rcases mem_set h with rfl|⟨j,hj,_,rfl⟩
  ·exact⟨ok,hbe,hco,fun h=>absurd h hna⟩
  ·obtain⟨h1,h2,h3,h4⟩:=H.txA _ (List.getElem_mem hj)
   exact⟨h1,Int.le_trans h2 hst.1,Int.le_trans h3 hst.1,fun h m hm=>hx m (h4 h m hm)⟩
 ·obtain⟨h1,h2⟩:=List.mem_filter.1 hm
  have h3:¬m.2.1=t'.1:=by simpa using h2
  exact(hact _).2 (.inl ⟨h3,H.lkO m h1⟩)
 ·obtain⟨h1,h2⟩:=List.mem_filter.1 hm
  have h3:¬m.1=t'.1/\¬m.2.1=t'.1:=by simpa using h2
  exact⟨(hact _).2 (.inl ⟨h3.1,(H.wtO m h1).1⟩),(hact _).2 (.inl ⟨h3.2,(H.wtO m h1).2⟩)⟩
theorem OkG.goes {k:Nat}(hk:k<e.2.1.length){t':TX}(ht:t'.1=e.2.1[k].1)(hact0:e.2.1[k].2.2.1=1)(hact1:t'.2.2.1=1)(ok:Mf t'=true)(hbe:t'.2.2.2.1<=e.2.2.2.2)(hco:t'.2.2.2.2.2.2.1<=e.2.2.2.2)(hx:∀m∈t'.2.2.2.2.2.2.2.1,HJ e.1 m)
 {lk:List VM}(hlA:∀m∈lk,inB m.1 0 5=true/\inB m.2.1 1 9=true)(hlU:Iy (·.1) lk)(hlO:∀m∈lk,E7 e.2.1 m.2.1=true):OkG (e.1,e.2.1.set k t',lk,e.2.2.2.1,e.2.2.2.2):=by
 have hact:=ni H hk ht
 have hk1:E7 e.2.1 t'.1=true:=(Kx H.txU _).2 ⟨_,List.getElem_mem hk,ht.symm,hact0⟩
 have hall:∀id,E7 e.2.1 id=true->E7 (e.2.1.set k t') id=true:=fun id h=>(hact id).2 (by
  by_cases e1:id=t'.1
  ·exact .inr ⟨e1,hact1⟩
  ·exact .inl ⟨e1,h⟩)
 refine⟨H.st,H.last,H.stamp,hlA,hlU,H.wtA,H.wtU,fun t h=>?_,aW H hk ht,by show(e.2.1.set k t').length<=6;simpa using H.len,fun m hm=>hall _ (hlO m hm),fun m hm=>⟨hall _ (H.wtO m hm).1,hall _ (H.wtO m hm).2⟩⟩
 rcases mem_set h with rfl|⟨j,hj,_,rfl⟩
 ·exact⟨ok,hbe,hco,fun _=>hx⟩
 ·exact H.txA _ (List.getElem_mem hj)
theorem OkG.aborts {k:Nat}{t:TX}(hk:e.2.1[k]?=some t)(ha:t.2.2.1=1):OkG (JX e k (G9 t 3)):=by
 obtain⟨hk2,rfl⟩:∃h:k<e.2.1.length,e.2.1[k]=t:=List.getElem?_eq_some_iff.1 hk
 obtain⟨h1,h2,h3,h4⟩:=H.txA _ (List.getElem_mem hk2)
 refine OkG.ends H hk2 (t':=G9 e.2.1[k] 3) rfl H.st H.last ⟨Int.le_refl _,H.stamp⟩ (fun m h=>h) ?_ h2 h3 (by show(3:Int)≠1;decide)
 rw[Dc]at h1 ⊢
 obtain⟨a1,a2,a3,a4,a5,a6,a7,a8,a9,a10,a11⟩:=h1
 refine⟨a1,a2,a3,a4,a5,by show inB 3 1 3=true;decide,a7,a8,?_,a10,a11⟩
 show(3:Int)=2↔_
 rw[ha]at a9
 constructor
 ·intro h;omega
 ·intro h;have:=a9.2 h;omega
end
theorem Mv {a b:VM}:Ik a b=true↔Cg a b:=by unfold Ik;exact⟨LX,AD⟩
theorem A5p {rd:List VM}(h:rd.Pairwise Cg)(m:VM):∀x∈rd.dropWhile (fun x=>Ik x m),¬Cg x m:=by
 induction rd with
 |nil=>simp
 |cons a rd ih=>
  have hp:=List.pairwise_cons.1 h
  intro x hx
  rw[List.dropWhile_cons]at hx
  split at hx
  ·exact ih hp.2 x hx
  ·rename_i hn
   rw[Mv]at hn
   rcases List.mem_cons.1 hx with rfl|hx
   ·exact hn
   ·intro hb;exact hn (JU _ _ _ (hp.1 x hx) hb)
theorem aN (a b:VM):Cg a b\/a=b\/Cg b a:=by
 obtain⟨a1,a2,a3⟩:=a;obtain⟨b1,b2,b3⟩:=b
 unfold Cg
 simp only[Prod.mk.injEq,and_true]
 omega
theorem SI {rd:List VM}{m x:VM}(hx:x∈L8 rd m):x=m\/x∈rd:=by
 unfold L8 at hx
 have hl:∀y,y∈(rd.takeWhile fun x=>Ik x m)\/y∈(rd.dropWhile fun x=>Ik x m)->y∈rd:=fun y hy=>by
  rw[<-List.mem_append,List.takeWhile_append_dropWhile]at hy;exact hy
 rw[List.mem_append,List.mem_cons]at hx
 rcases hx with hx|hx|hx
 ·exact .inr (hl x (.inl hx))
 ·exact .inl hx
 ·split at hx
  ·cases hx
  ·rename_i y r hd
   right
   apply hl;right;rw[hd]
   split at hx
   ·exact List.mem_cons_of_mem _ hx
   ·exact hx
theorem yr {rd:List VM}(h:rd.Pairwise Cg)(m:VM):(L8 rd m).Pairwise Cg:=by
 have hd:=A5p h m
 have hu:(rd.dropWhile fun x=>Ik x m).Pairwise Cg:=h.sublist (List.dropWhile_sublist _)
 have ht:(rd.takeWhile fun x=>Ik x m).Pairwise Cg:=h.sublist (List.takeWhile_sublist _)
 have htk:∀y∈(rd.takeWhile fun x=>Ik x m),Cg y m:=fun y hy=>by
  have h1:=List.all_takeWhile (l:=rd) (p:=fun x=>Ik x m)
  exact Mv.1 (List.all_eq_true.1 h1 y hy)
 unfold L8
 have key:∀r:List VM,r.Pairwise Cg->(∀x∈r,Cg m x)->((rd.takeWhile fun x=>Ik x m)++m::r).Pairwise Cg:=by
  intro r hr h1
  refine List.pairwise_append.2 ⟨ht,List.pairwise_cons.2 ⟨h1,hr⟩,fun a ha b hb=>?_⟩
  have h2:=htk a ha
  rcases List.mem_cons.1 hb with rfl|hb
  ·exact h2
  ·exact JU _ _ _ h2 (h1 b hb)
 cases hb:(rd.dropWhile fun x=>Ik x m)with
 |nil=>exact key [] .nil (by simp)
 |cons y r=>
  rw[hb]at hd hu
  have hyr:=List.pairwise_cons.1 hu
  have hy:=hd y (List.mem_cons_self)
  simp only
  by_cases e:y=m
  ·rw[if_pos e];exact key r hyr.2 fun x hx=>by rw[<-e];exact hyr.1 x hx
  ·rw[if_neg e]
   have h0:Cg m y:=by
    rcases aN y m with h1|h1|h1
    ·exact absurd h1 hy
    ·exact absurd h1 e
    ·exact h1
   refine key _ hu fun x hx=>?_
   rcases List.mem_cons.1 hx with rfl|hx
   ·exact h0
   ·exact JU _ _ _ h0 (hyr.1 x hx)
theorem nx (rd:List VM)(m:VM):(L8 rd m).length<=rd.length+1:=by
 have e:=congrArg List.length (List.takeWhile_append_dropWhile (p:=fun x=>Ik x m) (l:=rd))
 rw[List.length_append]at e
 unfold L8
 split
 ·rename_i h1;simp only[List.length_append,List.length_cons,List.length_nil];omega
 ·rename_i y r h1
  rw[h1]at e
  simp only[List.length_cons]at e
  split<;>simp only[List.length_append,List.length_cons]<;>omega
theorem QQ {s:List (List VV)}{t:TX}{key:Int}{v:VV}(h:Kk s t key=some v):∃l,s[key.toNat]?=some l/\v∈l:=by
 unfold Kk at h
 obtain⟨l,h1,h2⟩:=Option.bind_eq_some_iff.1 h
 refine⟨l,h1,?_⟩
 simp only at h2
 cases hd:decide ((bif t.2.1==2 then vA l t.2.2.2.1 l.length else(l.length:Int)-1)<0)with
 |true=>rw[hd]at h2;cases h2
 |false=>
  rw[hd]at h2
  obtain⟨w,h3,h4⟩:=Option.bind_eq_some_iff.1 h2
  cases h5:(t.2.1==4&&decide (w.2.2.1>t.2.2.2.1))with
  |true=>rw[h5]at h4;cases h4
  |false=>
   rw[h5]at h4
   obtain rfl:=Option.some.inj h4
   exact List.mem_of_getElem? h3
section
variable {e:EG}(H:OkG e){k:Nat}{t:TX}(hk:e.2.1[k]?=some t)(ha:t.2.2.1=1)
include H
theorem OkG.wake (id:Int):OkG (e.1,e.2.1,e.2.2.1,wkW e.2.2.2.1 id,e.2.2.2.2):=
 ⟨H.st,H.last,H.stamp,H.lkA,H.lkU,fun m hm=>H.wtA m ((List.mem_filter.1 hm).1),H.wtU.filter _,H.txA,H.txU,H.len,H.lkO,fun m hm=>H.wtO m ((List.mem_filter.1 hm).1)⟩
include hk ha
theorem OkG.read {key:Int}(hkey:inB key 0 5=true):OkG (FL e k key).2.2/\((FL e k key).2.1=0->∃t',(FL e k key).2.2.2.1[k]?=some t'/\t'.2.2.1=1/\t'.1=t.1)/\(FL e k key).2.2.2.1.length=e.2.1.length:=by
 unfold FL
 rw[hk]
 simp only
 cases hw:aV t key with
 |some x=>exact⟨H,fun _=>⟨t,hk,ha,rfl⟩,rfl⟩
 |none=>
  simp only
  cases hc:Kk e.1 t key with
  |none=>exact⟨H.aborts hk ha,fun h=>by exact absurd h (by show ¬((3:Int)=0);decide),by show(e.2.1.set k _).length=_;simp⟩
  |some v=>
   simp only
   unfold NA
   cases hl:(t.2.2.2.2.2.2.2.1.length==60)with
   |true=>exact⟨H,fun h=>by exact absurd h (by show ¬((6:Int)=0);decide),rfl⟩
   |false=>
    simp only[cond_false]
    obtain⟨hk2,rfl⟩:=List.getElem?_eq_some_iff.1 hk
    obtain⟨h1,h2,h3,h4⟩:=H.txA _ (List.getElem_mem hk2)
    obtain⟨l,q1,q2⟩:=QQ hc
    have hlm:l∈e.1:=List.mem_of_getElem? q1
    have hv:=((KR l).1 (H.st.2 l hlm).1).1 v q2
    rw[ML]at hv
    obtain⟨v1,v2,v3,v4,v5⟩:=hv
    rw[Bh]at v2 v3 v4
    rw[Dc]at h1
    obtain⟨a1,a2,a3,a4,a5,a6,a7,a8,a9,a10,a11⟩:=h1
    rw[Bh]at a7 a8
    refine⟨OkG.goes H hk2 (t':=aX e.2.1[k] (mx e.2.1[k].2.2.2.2.1 v.2.2.1) (mn e.2.1[k].2.2.2.2.2.1 v.2.2.2.2.1) (L8 e.2.1[k].2.2.2.2.2.2.2.1 (key,v.2.2.1,()))) rfl ha ha ?_ h2 h3 (fun m hm=>?_) H.lkA H.lkU H.lkO,fun _=>⟨aX e.2.1[k] (mx e.2.1[k].2.2.2.2.1 v.2.2.1) (mn e.2.1[k].2.2.2.2.2.1 v.2.2.2.2.1) (L8 e.2.1[k].2.2.2.2.2.2.2.1 (key,v.2.2.1,())),by rw[List.getElem?_set,if_pos rfl,if_pos hk2],ha,rfl⟩,by simp⟩
    ·rw[Dc]
     rw[NO]at a1
     refine⟨(NO _).2 ⟨fun x hx=>?_,yr a1.2 _⟩,a2,a3,a4,a5,a6,?_,?_,a9,a10,?_⟩
     ·rcases SI hx with rfl|hx
      ·exact⟨hkey,by rw[Bh];exact v2⟩
      ·exact a1.1 x hx
     ·rw[Bh];show 0<=mx _ _/\mx _ _<=999
      unfold mx;split<;>omega
     ·rw[Bh];show 1<=mn _ _/\mn _ _<=1000
      unfold mn;split<;>omega
     ·have:=nx e.2.1[k].2.2.2.2.2.2.2.1 (key,v.2.2.1,())
      have h60:¬e.2.1[k].2.2.2.2.2.2.2.1.length=60:=by simpa using hl
      show(L8 _ _).length<=60
      omega
    ·rcases SI hm with rfl|hm
     ·rw[Yu];exact⟨l,q1,v,q2,rfl⟩
     ·exact h4 ha m hm
end
theorem OkG.scan {k:Nat}:∀(n:Nat) {key:Int} {out:List Int} {e:EG} {t:TX},OkG e->e.2.1[k]?=some t->t.2.2.1=1->0<=key->key+n<=6->OkG (Eb k n key out e).2.2
 |0,key,out,e,t,H,_,_,_,_=>H
 |n+1,key,out,e,t,H,hk,ha,h0,h1=>by
  obtain⟨g1,g2,g3⟩:=H.read hk ha (key:=key) (by rw[Bh];omega)
  unfold Eb
  simp only
  cases hc:((FL e k key).2.1==0)with
  |false=>exact g1
  |true=>
   obtain⟨t',q1,q2,_⟩:=g2 (by simpa using hc)
   exact OkG.scan n g1 q1 q2 (by omega) (by omega)
section
variable {e:EG}(H:OkG e){k:Nat}{t:TX}(hk:e.2.1[k]?=some t)(ha:t.2.2.1=1)
include H hk ha
theorem OkG.getV {key:Int}(hkey:inB key 0 5=true):∃l v,e.1[key.toNat]?=some l/\l∈e.1/\EI e.1 key=some v/\v∈l/\okV v=true:=by
 rw[Bh]at hkey
 have h6:=H.st.1
 have hlt:key.toNat<e.1.length:=by omega
 have hl:e.1[key.toNat]∈e.1:=List.getElem_mem hlt
 have hok:=(KR _).1 (H.st.2 _ hl).1
 obtain⟨w,h1,h2⟩:=hok.2.2
 refine⟨e.1[key.toNat],w,List.getElem?_eq_getElem hlt,hl,?_,List.mem_of_getLast? h1,hok.1 w (List.mem_of_getLast? h1)⟩
 unfold EI
 rw[List.getElem?_eq_getElem hlt]
 simpa[List.getLast?_eq_getElem?]using h1
theorem OkG.write {key val:Int}(hkey:inB key 0 5=true)(hval:inB val (-1) 99=true):OkG (Mw e k key val).2:=by
 unfold Mw
 rw[hk]
 simp only
 have hk1:E7 e.2.1 t.1=true:=(Kx H.txU _).2 ⟨_,List.mem_of_getElem? hk,rfl,ha⟩
 cases hc:(Gr e.1 e.2.2.1 t key==1)with
 |true=>
  simp only[cond_true]
  cases hd:QP e.2.2.2.1 t.1 (CU e.2.2.1 key)with
  |true=>exact H.aborts hk ha
  |false=>
   simp only[cond_false]
   have hf:∃m∈e.2.2.1,m.2.1=CU e.2.2.1 key/\m.2.1≠t.1:=by
    have h1:Gr e.1 e.2.2.1 t key=1:=by simpa using hc
    unfold Gr at h1
    simp only at h1
    have h2:(!(CU e.2.2.1 key==0)&&!(CU e.2.2.1 key==t.1))=true:=by
     cases hx:(!(CU e.2.2.1 key==0)&&!(CU e.2.2.1 key==t.1))with
     |true=>rfl
     |false=>
      rw[hx]at h1
      simp only[Bool.and_false,cond_false,Bool.false_or]at h1
      exfalso
      revert h1
      cases(t.2.1==2&&decide (crV (EI e.1 key)>t.2.2.2.1))<;>cases(t.2.1==4&&decide (M8 (EI e.1 key)>t.2.2.2.1))<;>simp
    simp only[Bool.and_eq_true,Bool.not_eq_true',beq_eq_false_iff_ne]at h2
    unfold CU at h2 ⊢
    cases hfd:e.2.2.1.find? (fun m=>m.1==key)with
    |none=>rw[hfd]at h2;exact absurd rfl h2.1
    |some m=>rw[hfd]at h2;exact⟨m,List.mem_of_find?_eq_some hfd,rfl,h2.2⟩
   obtain⟨m,hm,hme,hne⟩:=hf
   have hmb:=H.lkA m hm
   have hma:=H.lkO m hm
   have htok:=(Dc _).1 (H.txA t (List.mem_of_getElem? hk)).1
   refine⟨H.st,H.last,H.stamp,H.lkA,H.lkU,fun x hx=>?_,M9 H.wtU _,H.txA,H.txU,H.len,H.lkO,fun x hx=>?_⟩
   ·rcases(IH H.wtU).1 hx with rfl|⟨hx,_⟩
    ·exact⟨htok.2.2.1,by rw[<-hme];exact hmb.2,by show t.1≠CU _ _;rw[<-hme];exact Ne.symm hne⟩
    ·exact H.wtA x hx
   ·rcases(IH H.wtU).1 hx with rfl|⟨hx,_⟩
    ·exact⟨hk1,by rw[<-hme];exact hma⟩
    ·exact H.wtO x hx
 |false=>
  simp only[cond_false]
  cases hc0:(Gr e.1 e.2.2.1 t key==0)with
  |false=>exact H.aborts hk ha
  |true=>
   simp only[cond_true]
   obtain⟨l,v,q1,q2,q3,q4,q5⟩:=H.getV hk ha hkey
   obtain⟨hk2,rfl⟩:∃h:k<e.2.1.length,e.2.1[k]=t:=List.getElem?_eq_some_iff.1 hk
   obtain⟨h1,h2,h3,h4⟩:=H.txA _ (List.getElem_mem hk2)
   rw[Dc]at h1
   obtain⟨a1,a2,a3,a4,a5,a6,a7,a8,a9,a10,a11⟩:=h1
   rw[ML]at q5
   obtain⟨v1,v2,v3,v4,v5⟩:=q5
   rw[Bh]at v2 v3 a7
   have hrd:M8 (EI e.1 key)=v.2.2.2.1:=by rw[q3];rfl
   have htx:Mf (OQ e.2.1[k] (mx e.2.1[k].2.2.2.2.1 (M8 (EI e.1 key))) (CC (·.1) e.2.1[k].2.2.2.2.2.2.2.2.1 (key,val,())))=true:=by
    rw[Dc]
    rw[La]at a2
    refine⟨a1,(La _).2 ⟨fun x hx=>?_,M9 a2.2 _⟩,a3,a4,a5,a6,?_,a8,a9,a10,a11⟩
    ·rcases(IH a2.2).1 hx with rfl|⟨hx,_⟩
     ·exact⟨hkey,hval⟩
     ·exact a2.1 x hx
    ·rw[Bh];show 0<=mx _ _/\mx _ _<=999
     rw[hrd];unfold mx;split<;>omega
   refine OkG.goes H hk2 (t':=OQ e.2.1[k] (mx e.2.1[k].2.2.2.2.1 (M8 (EI e.1 key))) (CC (·.1) e.2.1[k].2.2.2.2.2.2.2.2.1 (key,val,()))) rfl ha ha htx h2 h3 (h4 ha) (fun m hm=>?_) ?_ (fun m hm=>?_)
   ·cases hb:(e.2.1[k].2.1==1||e.2.1[k].2.1==2)with
    |false=>rw[hb]at hm;exact H.lkA m hm
    |true=>
     rw[hb]at hm
     rcases(IH H.lkU).1 hm with rfl|⟨hm,_⟩
     ·exact⟨hkey,a3⟩
     ·exact H.lkA m hm
   ·cases hb:(e.2.1[k].2.1==1||e.2.1[k].2.1==2)with
    |false=>exact H.lkU
    |true=>exact M9 H.lkU _
   ·cases hb:(e.2.1[k].2.1==1||e.2.1[k].2.1==2)with
    |false=>rw[hb]at hm;exact H.lkO m hm
    |true=>
     rw[hb]at hm
     rcases(IH H.lkU).1 hm with rfl|⟨hm,_⟩
     ·exact hk1
     ·exact H.lkO m hm
theorem Yq {α:Type}(f:α->Int)(n:Int):∀(l:List α) (a:Int),a<=n->(∀x∈l,f x<=n)->l.foldl (fun n x=>mx n (f x)) a<=n:=by
 clear H hk ha
 intro l
 induction l with
 |nil=>intro a h _;exact h
 |cons x l ih=>intro a h h2;exact ih _ (zf.2 ⟨h,h2 x List.mem_cons_self⟩) fun y hy=>h2 y (List.mem_cons_of_mem _ hy)
theorem T1 {α:Type}(f:α->Int):∀(l:List α) (a:Int),a<=l.foldl (fun n x=>mx n (f x)) a:=by
 clear H hk ha
 intro l
 induction l with
 |nil=>intro a;exact Int.le_refl _
 |cons x l ih=>intro a;refine Int.le_trans ?_ (ih _);show a<=mx a (f x);unfold mx;split<;>omega
theorem OkG.rl:0<=rlP e.1 t/\rlP e.1 t<=999:=by
 have htok:=(Dc _).1 (H.txA t (List.mem_of_getElem? hk)).1
 have hr:=((NO _).1 htok.1).1
 have hw:=((La _).1 htok.2.1).1
 unfold rlP
 refine⟨Int.le_trans (T1 H hk ha (fun m:VM=>m.2.1) _ 0) (T1 H hk ha (fun m:VM=>M8 (EI e.1 m.1)) _ _),Yq H hk ha _ _ _ _ (Yq H hk ha _ _ _ _ (by decide) fun x hx=>(Bh.1 (hr x hx).2).2) fun x hx=>?_⟩
 obtain⟨l,v,q1,q2,q3,q4,q5⟩:=H.getV hk ha (hw x hx).1
 rw[q3]
 rw[ML]at q5
 have:=Bh.1 q5.2.2.1
 exact this.2
theorem OkG.sucB {m:VM}(hx:HJ e.1 m):1<=OO e.1 m/\OO e.1 m<=1000:=by
 obtain⟨l,j,h1,h2⟩:=hx
 unfold OO
 rw[h1]
 have hl:l∈e.1:=List.mem_of_getElem? h1
 have hok:=((KR l).1 (H.st.2 l hl).1).1
 simp only[h2]
 have hj:=Qr h2
 rw[List.getElem?_eq_getElem hj]
 exact Bh.1 ((ML _).1 (hok _ (List.getElem_mem hj))).2.2.2.1
theorem OkG.rh:1<=rfH e.1 t.2.2.2.2.2.2.2.1:=by
 have htok:=(Dc _).1 (H.txA t (List.mem_of_getElem? hk)).1
 have hr:=((NO _).1 htok.1).1
 unfold rfH
 have hex:=(H.txA t (List.mem_of_getElem? hk)).2.2.2 ha
 have key:∀(l:List VM) (a:Int),(∀x∈l,HJ e.1 x)->1<=a->1<=l.foldl (fun n m=>mn n (OO e.1 m)) a:=by
  intro l
  induction l with
  |nil=>intro a _ h;exact h
  |cons x l ih=>intro a h1 h2;exact ih _ (fun y hy=>h1 y (List.mem_cons_of_mem _ hy)) (zm.2 ⟨h2,(H.sucB hk ha (h1 x List.mem_cons_self)).1⟩)
 exact key _ _ hex (by decide)
theorem OkG.commit (ce:Bool):OkG (IU ce e k).2:=by
 unfold IU
 rw[hk]
 simp only
 cases hc:(N0 e.1 t==0)with
 |false=>exact H.aborts hk ha
 |true=>
  simp only[Bool.not_true,cond_false]
  cases hs:(e.2.2.2.2==999)with
  |true=>exact H
  |false=>
   simp only[cond_false]
   cases hf:((ce&&decide (loP e.1 t>=hiP e.1 t (e.2.2.2.2+1)))||O3 e.1 t)with
   |true=>exact H.aborts hk ha
   |false=>
    simp only[cond_false]
    have hst0:=H.stamp0
    have hst1:=H.stamp
    have hst2:¬e.2.2.2.2=999:=by simpa using hs
    have hrl:=H.rl hk ha
    have hrh:=H.rh hk ha
    have hfull:O3 e.1 t=false:=(Bool.or_eq_false_iff.1 hf).2
    obtain⟨hk2,rfl⟩:∃h:k<e.2.1.length,e.2.1[k]=t:=List.getElem?_eq_some_iff.1 hk
    obtain⟨h1,h2,h3,h4⟩:=H.txA _ (List.getElem_mem hk2)
    rw[Dc]at h1
    obtain⟨a1,a2,a3,a4,a5,a6,a7,a8,a9,a10,a11⟩:=h1
    rw[Bh]at a7 a8
    have hlo:0<=loP e.1 e.2.1[k]/\loP e.1 e.2.1[k]<=999:=by unfold loP mx;split<;>omega
    have hhi:1<=hiP e.1 e.2.1[k] (e.2.2.2.2+1)/\hiP e.1 e.2.1[k] (e.2.2.2.2+1)<=e.2.2.2.2+1:=by
     unfold hiP
     exact⟨zm.2 ⟨zm.2 ⟨a8.1,hrh⟩,by omega⟩,by unfold mn;split<;>omega⟩
    have hwr:=(La _).1 a2
    obtain⟨g1,g2⟩:=zz (n:=e.2.2.2.2) (st:=e.2.2.2.2+1) (by omega) (by omega) e.2.1[k].2.2.2.2.2.2.2.1 H.gd
    have g3:GdS (PU e.1 e.2.1[k] (e.2.2.2.2+1) (hiP e.1 e.2.1[k] (e.2.2.2.2+1))) (e.2.2.2.2+1):=by
     refine zy (by omega) hhi a3 _ g1 (fun m hm=>⟨(Bh.1 (hwr.1 m hm).1).1,(hwr.1 m hm).2⟩) hwr.2 (fun m hm l hl=>?_)
     have h5:=g2 m
     rw[hl]at h5
     cases hr:JS e.1 m with
     |none=>rw[hr]at h5;cases h5
     |some r=>
      rw[hr]at h5
      simp only[Option.map_some,Option.some.injEq]at h5
      have hrm:r∈e.1:=List.mem_of_getElem? hr
      have hlen:l.length=r.length:=by simpa using congrArg List.length h5
      refine⟨?_,fun v hv=>?_⟩
      ·have h6:=List.any_eq_false.1 hfull m hm
       have hr':e.1[m.1.toNat]?=some r:=hr
       rw[hr']at h6
       have:¬r.length>=50:=by simpa using h6
       omega
      ·have:v.2.2.1∈r.map fun v=>v.2.2.1:=by rw[<-h5];exact List.mem_map_of_mem hv
       obtain⟨w,hw1,hw2⟩:=List.mem_map.1 this
       have h7:=ay (((KR r).1 (H.st.2 r hrm).1).1 w hw1)
       have h8:=H.gd.rd r hrm w hw1
       omega
    obtain⟨g4,g5⟩:=g3.last (by omega)
    refine OkG.ends H hk2 (t':=N3 e.2.1[k] _ _ _) rfl g4 g5 ⟨by omega,by omega⟩ (fun m hm=>od hm) ?_ (by show e.2.1[k].2.2.2.1<=_;omega) (by show e.2.2.2.2+1<=_;omega) (by show(2:Int)≠1;decide)
    rw[Dc]
    refine⟨a1,a2,a3,a4,a5,by show inB 2 1 3=true;decide,by rw[Bh];exact hlo,by rw[Bh];exact⟨hhi.1,Int.le_trans hhi.2 (by omega)⟩,?_,by rw[Bh];show 0<=e.2.2.2.2+1/\e.2.2.2.2+1<=999;omega,a11⟩
    show(2:Int)=2↔e.2.2.2.2+1>0
    exact⟨fun _=>by omega,fun _=>rfl⟩
end
theorem OkG.begin {e:EG}(H:OkG e){id sc:Int}(hid:inB id 1 9=true)(hsc:inB sc 1 4=true):OkG (Lq e id sc).2:=by
 unfold Lq
 cases hc:((e.2.1.any fun t=>t.1==id)||e.2.1.length==6)with
 |true=>exact H
 |false=>
  simp only[cond_false]
  obtain⟨h1,h2⟩:=Bool.or_eq_false_iff.1 hc
  have hno:∀t∈e.2.1,t.1≠id:=fun t ht=>by simpa using List.any_eq_false.1 h1 t ht
  have hlen:¬e.2.1.length=6:=by simpa using h2
  have hst0:=H.stamp0
  have hst1:=H.stamp
  have hu:=M9 H.txU (N5 id sc e.2.2.2.2)
  have hmem:∀t,t∈CC (·.1) e.2.1 (N5 id sc e.2.2.2.2)↔t=N5 id sc e.2.2.2.2\/t∈e.2.1:=fun t=>by
   rw[IH H.txU]
   exact⟨fun h=>h.imp (fun h=>h) (·.1),fun h=>h.imp (fun h=>h) fun h=>⟨h,hno t h⟩⟩
  have hact:∀id',E7 e.2.1 id'=true->E7 (CC (·.1) e.2.1 (N5 id sc e.2.2.2.2)) id'=true:=fun id' h=>by
   rw[Kx H.txU]at h
   obtain⟨t,q1,q2,q3⟩:=h
   exact(Kx hu _).2 ⟨t,(hmem t).2 (.inr q1),q2,q3⟩
  refine⟨H.st,H.last,H.stamp,H.lkA,H.lkU,H.wtA,H.wtU,fun t ht=>?_,hu,?_,fun m hm=>hact _ (H.lkO m hm),fun m hm=>⟨hact _ (H.wtO m hm).1,hact _ (H.wtO m hm).2⟩⟩
  ·rcases(hmem t).1 ht with rfl|ht
   ·refine⟨?_,Int.le_refl _,hst0,fun _ m hm=>by cases hm⟩
    rw[Dc]
    refine⟨fun i hi=>absurd hi (Nat.not_lt_zero _),fun i hi=>absurd hi (Nat.not_lt_zero _),hid,hsc,by rw[Bh];exact⟨hst0,hst1⟩,by show inB 1 1 3=true;decide,by show inB 0 0 999=true;decide,by show inB 1000 1 1000=true;decide,?_,by show inB 0 0 999=true;decide,Nat.zero_le _⟩
    show(1:Int)=2↔(0:Int)>0
    omega
   ·exact H.txA t ht
  ·have:=Qc (f:=(·.1)) e.2.1 (N5 id sc e.2.2.2.2)
   have:=H.len
   show(CC _ _ _).length<=6
   omega
theorem OkG.step {e:EG}(H:OkG e)(ce:Bool){o:OPt}(ho:Mh o=true):OkG (NC ce e o).2.2:=by
 unfold Mh at ho
 simp only[Bool.and_eq_true]at ho
 obtain⟨⟨⟨⟨⟨o1,o2⟩,o3⟩,o4⟩,o5⟩,o6⟩:=ho
 unfold NC
 cases hb:(o.1==1)with
 |true=>
  rw[hb]at o3
  exact H.begin o2 o3
 |false=>
  simp only[cond_false]
  cases hk:e.2.1.findIdx? (fun t=>t.1==o.2.1)with
  |none=>exact H
  |some k=>
   simp only
   cases hact:E7 e.2.1 o.2.1 with
   |false=>exact H
   |true=>
    simp only[cond_true]
    obtain⟨hk2,hk3,_⟩:=List.findIdx?_eq_some_iff_getElem.1 hk
    have ht:e.2.1[k]?=some e.2.1[k]:=List.getElem?_eq_getElem hk2
    have ha:e.2.1[k].2.2.1=1:=by
     unfold E7 at hact
     rw[hk]at hact
     simp only[ht]at hact
     simpa using hact
    have HW:=H.wake o.2.1
    cases h2:(o.1==2)with
    |true=>
     rw[h2]at o4
     simp only[Bool.true_or,cond_true]at o4 ⊢
     rw[Bh]at o4
     exact OkG.scan 1 HW ht ha (by omega) (by omega)
    |false=>
     simp only[cond_false]
     cases h4:(o.1==4)with
     |true=>
      rw[h4]at o4 o5
      simp only[Bool.or_true,cond_true]at o4 o5 ⊢
      rw[Bh]at o4 o5
      exact OkG.scan _ HW ht ha (by omega) (by omega)
     |false=>
      simp only[cond_false]
      cases h3:(o.1==3)with
      |true=>
       rw[h3]at o4 o6
       simp only[Bool.or_true,Bool.true_or,cond_true]at o4 o6 ⊢
       exact HW.write ht ha o4 o6
      |false=>
       simp only[cond_false]
       cases h5:(o.1==5)with
       |true=>exact HW.commit ht ha ce
       |false=>
        simp only[cond_false,ht]
        exact HW.aborts ht ha
end Go.Ab
end
section
namespace Go.Ab
theorem Mr {i j:Nat}(h:i+j<4611686018427387904):IntKind.wrap IntKind.i64 (Int.fdiv (IntKind.wrap IntKind.u64 (IntKind.wrap IntKind.i64 ((i:Int)+(j:Int)))) (2 ^ min (Int.toNat 1) (IntKind.bits IntKind.u64)))=(((i+j) / 2:Nat):Int):=by
 have h1:IntKind.wrap IntKind.i64 ((i:Int)+(j:Int))=(i:Int)+(j:Int):=by rw[IntKind.wrap_i64];omega
 have h2:IntKind.wrap IntKind.u64 ((i:Int)+(j:Int))=(i:Int)+(j:Int):=by
  have e:((i:Int)+(j:Int)) % 18446744073709551616=(i:Int)+(j:Int):=by omega
  show IntKind.wrap IntKind.u64 _=_
  unfold IntKind.wrap
  simp[IntKind.bits,IntKind.signed,e]
 rw[h1,h2]
 have h3:(2:Int) ^ min (Int.toNat 1) (IntKind.bits IntKind.u64)=2:=by decide
 rw[h3]
 have h4:Int.fdiv ((i:Int)+(j:Int)) 2=(((i+j) / 2:Nat):Int):=by
  rw[Int.fdiv_eq_ediv_of_nonneg _ (by omega)]
  omega
 rw[h4,IntKind.wrap_i64];omega
theorem Q2 {n:Nat}{B:Int×Int×Unit->Option ((Int×Int×Unit) ⊕ (Int×Unit))}{p:Nat->Bool}(mono:∀i j,i<=j->j<n->p j=true->p i=true)
 (hB:∀i j:Nat,i<j->j<=n->B ((i:Int),(j:Int),())=some (.inl (if p ((i+j) / 2)=true then((((i+j) / 2+1:Nat):Int),(j:Int),())else((i:Int),(((i+j) / 2:Nat):Int),()))))
 (hE:∀i:Nat,i<=n->B ((i:Int),(i:Int),())=some (.inr ((i:Int),()))):
 ∃c:Nat,c<=n/\Ay B (0,(n:Int),())=some ((c:Int),())/\(∀k,k<c->p k=true)/\(∀k,c<=k->k<n->p k=false):=by
 have key:∀m i j:Nat,j-i=m->i<=j->j<=n->(∀k,k<i->p k=true)->(∀k,j<=k->k<n->p k=false)->∃c:Nat,c<=n/\Ay B ((i:Int),(j:Int),())=some ((c:Int),())/\(∀k,k<c->p k=true)/\(∀k,c<=k->k<n->p k=false):=by
  intro m
  induction m using Nat.strongRecOn with
  |_ m ih=>
   intro i j hm hij hj h1 h2
   by_cases e:i=j
   ·subst e
    refine⟨i,hj,?_,h1,h2⟩
    rw[B6,hE i hj];rfl
   ·have hlt:i<j:=by omega
    have hs:=hB i j hlt hj
    cases hp:p ((i+j) / 2)with
    |true=>
     rw[hp,if_pos rfl]at hs
     obtain⟨c,g1,g2,g3⟩:=ih (j-((i+j) / 2+1)) (by omega) ((i+j) / 2+1) j rfl (by omega) hj (fun k hk=>mono k ((i+j) / 2) (by omega) (by omega) hp) h2
     refine⟨c,g1,?_,g3⟩
     rw[B6,hs];exact g2
    |false=>
     rw[hp,if_neg (by decide)]at hs
     obtain⟨c,g1,g2,g3⟩:=ih ((i+j) / 2-i) (by omega) i ((i+j) / 2) rfl (by omega) (by omega) h1 (fun k hk hkn=>by
      cases hq:p k with
      |false=>rfl
      |true=>rw[mono ((i+j) / 2) k hk hkn hq]at hp;cases hp)
     refine⟨c,g1,?_,g3⟩
     rw[B6,hs];exact g2
 exact key n 0 n rfl (Nat.zero_le _) (Nat.le_refl _) (fun k hk=>absurd hk (Nat.not_lt_zero _)) (fun k hk hkn=>by omega)
theorem Q6 {α:Type}{l:List α}{p:α->Bool}{c:Nat}(hc:c<=l.length)(h1:∀k (hk:k<l.length),k<c->p l[k]=true)(h2:∀k (hk:k<l.length),c<=k->p l[k]=false):l.take c=l.takeWhile p/\l.drop c=l.dropWhile p:=by
 induction l generalizing c with
 |nil=>simp
 |cons a l ih=>
  cases c with
  |zero=>
   have:=h2 0 (by simp) (Nat.le_refl _)
   simp only[List.getElem_cons_zero]at this
   simp[List.takeWhile_cons,List.dropWhile_cons,this]
  |succ c=>
   have h0:=h1 0 (by simp) (Nat.succ_pos _)
   simp only[List.getElem_cons_zero]at h0
   obtain⟨g1,g2⟩:=ih (c:=c) (by simpa using hc) (fun k hk hkc=>by have:=h1 (k+1) (by simpa using hk) (by omega);rwa [List.getElem_cons_succ]at this) (fun k hk hkc=>by have:=h2 (k+1) (by simpa using hk) (by omega);rwa [List.getElem_cons_succ]at this)
   simp[List.takeWhile_cons,List.dropWhile_cons,h0,g1,g2]
end Go.Ab
end
section
namespace Go.Ab
theorem RY {α:Type}{l:List α}{q:α->Bool}{B:Int×Int×List α×Unit->Option ((Int×Int×List α×Unit) ⊕ (Int×List α×Unit))}
 (hB:∀(i j:Nat) (xs:List α) (hi:i<j) (hj:j<l.length) (h:xs.length=l.length),B ((i:Int),(j:Int),xs,())=some (.inl (if q (xs[j]'(by omega))=true then((i:Int),((j+1:Nat):Int),xs,())else(((i+1:Nat):Int),((j+1:Nat):Int),xs.set i (xs[j]'(by omega)),()))))
 (hE:∀(i:Nat) (xs:List α),xs.length=l.length->i<=l.length->B ((i:Int),((l.length:Nat):Int),xs,())=some (.inr ((i:Int),xs,())))
 {i0:Nat}(h0:i0<l.length)(hq:q l[i0]=true)(hlt:∀k (hk:k<i0),q (l[k]'(by omega))=false):
 ∃(i:Nat) (xs:List α),Ay B ((i0:Int),((i0+1:Nat):Int),l,())=some ((i:Int),xs,())/\i<=xs.length/\xs.length=l.length/\xs.take i=l.filter fun x=>!q x:=by
 have key:∀m (i j:Nat) (xs:List α),l.length-j=m->i<j->j<=l.length->xs.length=l.length->xs.take i=(l.take j).filter (fun x=>!q x)->xs.drop j=l.drop j->
  ∃(i':Nat) (xs':List α),Ay B ((i:Int),(j:Int),xs,())=some ((i':Int),xs',())/\i'<=xs'.length/\xs'.length=l.length/\xs'.take i'=l.filter fun x=>!q x:=by
  intro m
  induction m with
  |zero=>
   intro i j xs hm hij hj hl h1 h2
   obtain rfl:j=l.length:=by omega
   refine⟨i,xs,?_,by omega,hl,by rw[h1,List.take_length]⟩
   rw[B6,hE i xs hl (by omega)];rfl
  |succ m ih=>
   intro i j xs hm hij hj hl h1 h2
   have hjl:j<l.length:=by omega
   have e:xs[j]'(by omega)=l[j]:=by
    have h3:(xs.drop j)[0]?=(l.drop j)[0]?:=by rw[h2]
    rw[List.getElem?_drop,List.getElem?_drop,Nat.add_zero,List.getElem?_eq_getElem (by omega),List.getElem?_eq_getElem hjl]at h3
    exact Option.some.inj h3
   have hs:=hB i j xs hij hjl hl
   have hf:(l.take (j+1)).filter (fun x=>!q x)=(l.take j).filter (fun x=>!q x)++(if q l[j]=true then[]else[l[j]]):=by
    rw[List.take_succ_eq_append_getElem hjl,List.filter_append]
    congr 1
    cases hqq:q l[j]<;>simp[hqq]
   have hd:xs.drop (j+1)=l.drop (j+1):=by have h3:=congrArg (List.drop 1) h2;simpa[List.drop_drop,Nat.add_comm]using h3
   cases hqj:q l[j]with
   |true=>
    rw[e,hqj,if_pos rfl]at hs
    obtain⟨i',xs',g1,g2⟩:=ih i (j+1) xs (by omega) (by omega) (by omega) hl (by rw[hf,hqj,if_pos rfl,List.append_nil];exact h1) hd
    refine⟨i',xs',?_,g2⟩
    rw[B6,hs];exact g1
   |false=>
    rw[e,hqj,if_neg (by decide)]at hs
    obtain⟨i',xs',g1,g2⟩:=ih (i+1) (j+1) (xs.set i l[j]) (by omega) (by omega) (by omega) (by simpa using hl) (by
     rw[hf,hqj,if_neg (by decide),<-h1]
     rw[List.take_succ_eq_append_getElem (by simp;omega),List.getElem_set_self,List.take_set_of_le (by omega)]) (by rw[List.drop_set_of_lt (by omega)];exact hd)
    refine⟨i',xs',?_,g2⟩
    rw[B6,hs];exact g1
 refine key _ i0 (i0+1) l rfl (by omega) (by omega) rfl ?_ rfl
 rw[List.take_succ_eq_append_getElem h0,List.filter_append]
 have h5:[l[i0]].filter (fun x=>!q x)=[]:=by simp[hq]
 rw[h5,List.append_nil]
 symm
 rw[List.filter_eq_self]
 intro x hx
 obtain⟨k,hk,rfl⟩:=List.getElem_of_mem hx
 rw[List.length_take]at hk
 rw[List.getElem_take]
 simp[hlt k (by omega)]
theorem VE {α:Type}{z:α}{i:Nat}{xs:List α}(hi:i<=xs.length){τ:Type}(f:List α->Option τ):
 (if(0:Int)<=((i:Nat):Int)/\((i:Nat):Int)<=((xs.length:Nat):Int)/\((xs.length:Nat):Int)<=((xs.length:Nat):Int)then
   (if(0:Int)<=0/\(0:Int)<=((i:Nat):Int)/\((i:Nat):Int)<=(((List.take (0+Int.toNat ((i:Nat):Int)) xs++List.replicate (Int.toNat ((xs.length:Nat):Int)-Int.toNat ((i:Nat):Int)) z++List.drop (0+Int.toNat ((i:Nat):Int)+(Int.toNat ((xs.length:Nat):Int)-Int.toNat ((i:Nat):Int))) xs).length:Nat):Int)then
     f (List.take (Int.toNat ((i:Nat):Int)-Int.toNat 0) (List.take (0+Int.toNat ((i:Nat):Int)) xs++List.replicate (Int.toNat ((xs.length:Nat):Int)-Int.toNat ((i:Nat):Int)) z++List.drop (0+Int.toNat ((i:Nat):Int)+(Int.toNat ((xs.length:Nat):Int)-Int.toNat ((i:Nat):Int))) xs))else none)else none)=f (xs.take i):=by
 have e:(List.take i xs++List.replicate (xs.length-i) z++List.drop (i+(xs.length-i)) xs).take i=xs.take i:=by
  rw[List.append_assoc,List.take_append_of_le_length (by simp;omega),List.take_take,Nat.min_self]
 rw[if_pos (by omega),if_pos (by simp;omega)]
 simp only[Int.toNat_natCast,Nat.zero_add,Int.toNat_zero,Nat.sub_zero,e]
theorem J6 {α:Type}{l:List α}{k:Nat}(hk:k<l.length)(a:α):(l.set k a)[k]?=some a:=by rw[List.getElem?_set,if_pos rfl,if_pos hk]
theorem Km {α:Type}(l:List α)(k:Nat)(a b:α):(l.set k a).set k b=l.set k b:=by simp
end Go.Ab
end
section
namespace Go.Ab
def HX {α:Type}(q:α->Bool):List α->Bool|[]=>false|x::_=>q x
theorem Yo (o:Option Nat):decide (fx o>=0)=o.isSome:=by
 cases o with
 |none=>rfl
 |some i=>simp[fx]
theorem zC (o:Option Nat):decide (fx o<0)=o.isNone:=by
 cases o with
 |none=>rfl
 |some i=>exact decide_eq_false (by simp[fx])
theorem Vx {α:Type}(p:α->Bool)(l out:List α):l.foldl (fun s x=>bif p x then s++[x]else s) out=out++l.filter p:=by
 induction l generalizing out with
 |nil=>simp
 |cons a l ih=>
  rw[List.foldl_cons,ih,List.filter_cons]
  cases p a<;>simp
theorem O5 {α:Type}{l:List α}{p:α->Bool}(hn:l.length<=1048576){B:Int×List α×Unit->Option ((Int×List α×Unit) ⊕ (List α×Unit))}
 (hB:∀i (h:i<l.length) out,out.length<=i->B ((i:Int),out,())=some (.inl (((i+1:Nat):Int),bif p l[i]then out++[l[i]]else out,())))(hend:∀out,B ((l.length:Int),out,())=some (.inr (out,()))):
 Ay B (0,[],())=some (l.filter p,()):=by
 have:=o0 (B:=B) (l:=l) (st:=fun s i=>((i:Int),s,())) (f:=fun s x=>bif p x then s++[x]else s) (J:=fun i s=>s.length<=i) (s0:=[]) (by simp)
  (fun i h s hs=>⟨hB i h s hs,by cases p l[i]<;>simp<;>omega⟩) (r:=fun s=>(s,())) (fun s _=>hend s) (t0:=(0,[],())) rfl
 rw[this,Vx];rfl
theorem ZU {l:List VM}(hl:l.length<=1048576)(id:Int):Jv (l,id,())=some (wkW l id,()):=by
 unfold Jv
 rw[O5 (p:=fun m:VM=>!(m.1==id)) hl]
 ·rfl
 ·intro i hi out ho
  have h1:out.length+1<=2199023255552:=by omega
  simp only[FU,Aj hi,Option.bind_some,Ak hi (by omega:l.length<9223372036854775808),List.length_append,List.length_cons,List.length_nil,h1,if_true,decide_eq_true (by omega:(i:Int)<(l.length:Int)),cond_true,bne]
  cases l[i].1==id<;>rfl
 ·intro out
  simp[FU]
theorem OS {l:List VM}(hl:l.length<=1048576)(id:Int):EF (l,id,())=some (W6 l id,()):=by
 unfold EF
 rw[O5 (p:=fun m:VM=>!(m.2.1==id)) hl]
 ·rfl
 ·intro i hi out ho
  have h1:out.length+1<=2199023255552:=by omega
  simp only[D8,Aj hi,Option.bind_some,Ak hi (by omega:l.length<9223372036854775808),List.length_append,List.length_cons,List.length_nil,h1,if_true,decide_eq_true (by omega:(i:Int)<(l.length:Int)),cond_true,bne]
  cases l[i].2.1==id<;>rfl
 ·intro out
  simp[D8]
theorem QG {l:List VM}(hl:l.length<=1048576)(id:Int):G6 (l,id,())=some (Yx l id,()):=by
 unfold G6
 rw[O5 (p:=fun m:VM=>!(m.1==id)&&!(m.2.1==id)) hl]
 ·rfl
 ·intro i hi out ho
  have h1:out.length+1<=2199023255552:=by omega
  simp only[DZ,Aj hi,Option.bind_some,Ak hi (by omega:l.length<9223372036854775808),List.length_append,List.length_cons,List.length_nil,h1,if_true,decide_eq_true (by omega:(i:Int)<(l.length:Int)),cond_true,bne]
  cases l[i].1==id<;>cases l[i].2.1==id<;>rfl
 ·intro out
  simp[DZ]
theorem Jl {e:EG}{k:Nat}(hk:k<e.2.1.length)(hl:e.2.2.1.length<=1048576)(hw:e.2.2.2.1.length<=1048576)(ce:Bool)(ha:e.2.1[k].2.2.1=1):
 Bi ((k:Int),ce,e.2.2.2.2,e.1,e.2.1,e.2.2.1,e.2.2.2.1,())=some (ce,e.2.2.2.2,e.1,e.2.1.set k (G9 e.2.1[k] 3),e.2.2.1,e.2.2.2.1,W6 e.2.2.1 e.2.1[k].1,Yx e.2.2.2.1 e.2.1[k].1,()):=by
 have h1:(0:Int)<=(k:Int)/\(k:Int)<(e.2.1.length:Int):=by omega
 simp only[Bi,h1,and_self,if_true,Nat.zero_add,Int.toNat_natCast,List.getElem?_eq_getElem hk,Option.bind_some,ha,beq_self_eq_true,cond_true,OS hl,QG hw,Nat.zero_add,Int.toNat_natCast,G9]
theorem ZZ {e:EG}{k:Nat}(hk:k<e.2.1.length)(hl:e.2.2.1.length<=1048576)(hw:e.2.2.2.1.length<=1048576)(ce:Bool)(ha:e.2.1[k].2.2.1≠1):
 Bi ((k:Int),ce,e.2.2.2.2,e.1,e.2.1,e.2.2.1,e.2.2.2.1,())=some (ce,e.2.2.2.2,e.1,e.2.1,e.2.2.1,e.2.2.2.1,W6 e.2.2.1 e.2.1[k].1,Yx e.2.2.2.1 e.2.1[k].1,()):=by
 have h1:(0:Int)<=(k:Int)/\(k:Int)<(e.2.1.length:Int):=by omega
 have h2:(e.2.1[k].2.2.1==1)=false:=by simpa using ha
 simp only[Bi,h1,and_self,if_true,Nat.zero_add,Int.toNat_natCast,List.getElem?_eq_getElem hk,Option.bind_some,h2,cond_false,OS hl,QG hw]
end Go.Ab
end
section
namespace Go.Ab
theorem LN {l:List TX}(hl:l.length<=1048576)(t:Int){p q:TX->Bool}(mono:∀i j (hij:i<=j) (hj:j<l.length),p l[j]=true->p (l[i]'(by omega))=true)
 (hc:∀x∈l,∃n:Int,DS (x,t,())=some (n,())/\decide (n<0)=p x/\(n==0)=q x):
 AW (l,t,(),())=some (((l.takeWhile p).length:Int),HX q (l.dropWhile p),()):=by
 unfold AW
 obtain⟨c,hc1,hc2,hc3,hc4⟩:=Q2 (n:=l.length) (p:=fun k=>match l[k]? with|some x=>p x|none=>false)
  (B:=fun v=>AA (l,t,(),(l.length:Int),()) v _ some)
  (by
    intro i j hij hj h
    have hi:i<l.length:=by omega
    simp only[List.getElem?_eq_getElem hj,List.getElem?_eq_getElem hi]at h ⊢
    exact mono i j hij hj h)
  (by
    intro i j hij hj
    have hm:(i+j) / 2<l.length:=by omega
    obtain⟨n,e1,e2,e3⟩:=hc _ (List.getElem_mem hm)
    unfold AA
    simp only[Mr (i:=i) (j:=j) (by omega),Aj hm,Option.bind_some,List.getElem?_eq_getElem hm,decide_eq_true (by omega:(i:Int)<(j:Int)),cond_true]
    erw [e1]
    simp only[Option.bind_some,e2,Ak hm (by omega)]
    cases p l[(i+j) / 2]<;>rfl)
  (by
    intro i hi
    unfold AA
    simp only[Int.lt_irrefl,decide_false,cond_false])
 erw [hc2]
 obtain⟨t1,t2⟩:=Q6 (l:=l) (p:=p) (c:=c) hc1 (fun k hk h=>by have:=hc3 k h;simpa only[List.getElem?_eq_getElem hk]using this) (fun k hk h=>by have:=hc4 k h hk;simpa only[List.getElem?_eq_getElem hk]using this)
 have tl:(l.takeWhile p).length=c:=by rw[<-t1];simp;omega
 rw[<-t2,tl]
 simp only[Option.bind_some]
 by_cases hcl:c<l.length
 ·obtain⟨n,e1,e2,e3⟩:=hc _ (List.getElem_mem hcl)
  simp only[Aj hcl,decide_eq_true (by omega:(c:Int)<(l.length:Int)),cond_true,Option.bind_some]
  erw [e1]
  rw[List.drop_eq_getElem_cons hcl]
  simp only[Option.bind_some,e3,HX]
 ·rw[List.drop_of_length_le (by omega)]
  simp only[decide_eq_false (by omega:¬(c:Int)<(l.length:Int)),cond_false,HX]
theorem OE {l:List VM}(hl:l.length<=1048576)(t:Int){p q:VM->Bool}(mono:∀i j (hij:i<=j) (hj:j<l.length),p l[j]=true->p (l[i]'(by omega))=true)
 (hc:∀x∈l,∃n:Int,GX (x,t,())=some (n,())/\decide (n<0)=p x/\(n==0)=q x):
 Bj (l,t,(),())=some (((l.takeWhile p).length:Int),HX q (l.dropWhile p),()):=by
 unfold Bj
 obtain⟨c,hc1,hc2,hc3,hc4⟩:=Q2 (n:=l.length) (p:=fun k=>match l[k]? with|some x=>p x|none=>false)
  (B:=fun v=>AG (l,t,(),(l.length:Int),()) v _ some)
  (by
    intro i j hij hj h
    have hi:i<l.length:=by omega
    simp only[List.getElem?_eq_getElem hj,List.getElem?_eq_getElem hi]at h ⊢
    exact mono i j hij hj h)
  (by
    intro i j hij hj
    have hm:(i+j) / 2<l.length:=by omega
    obtain⟨n,e1,e2,e3⟩:=hc _ (List.getElem_mem hm)
    unfold AG
    simp only[Mr (i:=i) (j:=j) (by omega),Aj hm,Option.bind_some,List.getElem?_eq_getElem hm,decide_eq_true (by omega:(i:Int)<(j:Int)),cond_true]
    erw [e1]
    simp only[Option.bind_some,e2,Ak hm (by omega)]
    cases p l[(i+j) / 2]<;>rfl)
  (by
    intro i hi
    unfold AG
    simp only[Int.lt_irrefl,decide_false,cond_false])
 erw [hc2]
 obtain⟨t1,t2⟩:=Q6 (l:=l) (p:=p) (c:=c) hc1 (fun k hk h=>by have:=hc3 k h;simpa only[List.getElem?_eq_getElem hk]using this) (fun k hk h=>by have:=hc4 k h hk;simpa only[List.getElem?_eq_getElem hk]using this)
 have tl:(l.takeWhile p).length=c:=by rw[<-t1];simp;omega
 rw[<-t2,tl]
 simp only[Option.bind_some]
 by_cases hcl:c<l.length
 ·obtain⟨n,e1,e2,e3⟩:=hc _ (List.getElem_mem hcl)
  simp only[Aj hcl,decide_eq_true (by omega:(c:Int)<(l.length:Int)),cond_true,Option.bind_some]
  erw [e1]
  rw[List.drop_eq_getElem_cons hcl]
  simp only[Option.bind_some,e3,HX]
 ·rw[List.drop_of_length_le (by omega)]
  simp only[decide_eq_false (by omega:¬(c:Int)<(l.length:Int)),cond_false,HX]
theorem Me {l:List VM}(hl:l.length<=1048576)(t:Int){p q:VM->Bool}(mono:∀i j (hij:i<=j) (hj:j<l.length),p l[j]=true->p (l[i]'(by omega))=true)
 (hc:∀x∈l,∃n:Int,Ee (x,t,())=some (n,())/\decide (n<0)=p x/\(n==0)=q x):
 AZ (l,t,(),())=some (((l.takeWhile p).length:Int),HX q (l.dropWhile p),()):=by
 unfold AZ
 obtain⟨c,hc1,hc2,hc3,hc4⟩:=Q2 (n:=l.length) (p:=fun k=>match l[k]? with|some x=>p x|none=>false)
  (B:=fun v=>AB (l,t,(),(l.length:Int),()) v _ some)
  (by
    intro i j hij hj h
    have hi:i<l.length:=by omega
    simp only[List.getElem?_eq_getElem hj,List.getElem?_eq_getElem hi]at h ⊢
    exact mono i j hij hj h)
  (by
    intro i j hij hj
    have hm:(i+j) / 2<l.length:=by omega
    obtain⟨n,e1,e2,e3⟩:=hc _ (List.getElem_mem hm)
    unfold AB
    simp only[Mr (i:=i) (j:=j) (by omega),Aj hm,Option.bind_some,List.getElem?_eq_getElem hm,decide_eq_true (by omega:(i:Int)<(j:Int)),cond_true]
    erw [e1]
    simp only[Option.bind_some,e2,Ak hm (by omega)]
    cases p l[(i+j) / 2]<;>rfl)
  (by
    intro i hi
    unfold AB
    simp only[Int.lt_irrefl,decide_false,cond_false])
 erw [hc2]
 obtain⟨t1,t2⟩:=Q6 (l:=l) (p:=p) (c:=c) hc1 (fun k hk h=>by have:=hc3 k h;simpa only[List.getElem?_eq_getElem hk]using this) (fun k hk h=>by have:=hc4 k h hk;simpa only[List.getElem?_eq_getElem hk]using this)
 have tl:(l.takeWhile p).length=c:=by rw[<-t1];simp;omega
 rw[<-t2,tl]
 simp only[Option.bind_some]
 by_cases hcl:c<l.length
 ·obtain⟨n,e1,e2,e3⟩:=hc _ (List.getElem_mem hcl)
  simp only[Aj hcl,decide_eq_true (by omega:(c:Int)<(l.length:Int)),cond_true,Option.bind_some]
  erw [e1]
  rw[List.drop_eq_getElem_cons hcl]
  simp only[Option.bind_some,e3,HX]
 ·rw[List.drop_of_length_le (by omega)]
  simp only[decide_eq_false (by omega:¬(c:Int)<(l.length:Int)),cond_false,HX]
theorem KQ {l:List VM}(hl:l.length<=1048576)(t:Int){p q:VM->Bool}(mono:∀i j (hij:i<=j) (hj:j<l.length),p l[j]=true->p (l[i]'(by omega))=true)
 (hc:∀x∈l,∃n:Int,D1 (x,t,())=some (n,())/\decide (n<0)=p x/\(n==0)=q x):
 AN (l,t,(),())=some (((l.takeWhile p).length:Int),HX q (l.dropWhile p),()):=by
 unfold AN
 obtain⟨c,hc1,hc2,hc3,hc4⟩:=Q2 (n:=l.length) (p:=fun k=>match l[k]? with|some x=>p x|none=>false)
  (B:=fun v=>Av (l,t,(),(l.length:Int),()) v _ some)
  (by
    intro i j hij hj h
    have hi:i<l.length:=by omega
    simp only[List.getElem?_eq_getElem hj,List.getElem?_eq_getElem hi]at h ⊢
    exact mono i j hij hj h)
  (by
    intro i j hij hj
    have hm:(i+j) / 2<l.length:=by omega
    obtain⟨n,e1,e2,e3⟩:=hc _ (List.getElem_mem hm)
    unfold Av
    simp only[Mr (i:=i) (j:=j) (by omega),Aj hm,Option.bind_some,List.getElem?_eq_getElem hm,decide_eq_true (by omega:(i:Int)<(j:Int)),cond_true]
    erw [e1]
    simp only[Option.bind_some,e2,Ak hm (by omega)]
    cases p l[(i+j) / 2]<;>rfl)
  (by
    intro i hi
    unfold Av
    simp only[Int.lt_irrefl,decide_false,cond_false])
 erw [hc2]
 obtain⟨t1,t2⟩:=Q6 (l:=l) (p:=p) (c:=c) hc1 (fun k hk h=>by have:=hc3 k h;simpa only[List.getElem?_eq_getElem hk]using this) (fun k hk h=>by have:=hc4 k h hk;simpa only[List.getElem?_eq_getElem hk]using this)
 have tl:(l.takeWhile p).length=c:=by rw[<-t1];simp;omega
 rw[<-t2,tl]
 simp only[Option.bind_some]
 by_cases hcl:c<l.length
 ·obtain⟨n,e1,e2,e3⟩:=hc _ (List.getElem_mem hcl)
  simp only[Aj hcl,decide_eq_true (by omega:(c:Int)<(l.length:Int)),cond_true,Option.bind_some]
  erw [e1]
  rw[List.drop_eq_getElem_cons hcl]
  simp only[Option.bind_some,e3,HX]
 ·rw[List.drop_of_length_le (by omega)]
  simp only[decide_eq_false (by omega:¬(c:Int)<(l.length:Int)),cond_false,HX]
theorem MK {l:List VM}(hl:l.length<=1048576)(t:VM){p q:VM->Bool}(mono:∀i j (hij:i<=j) (hj:j<l.length),p l[j]=true->p (l[i]'(by omega))=true)
 (hc:∀x∈l,∃n:Int,BX (x,t,())=some (n,())/\decide (n<0)=p x/\(n==0)=q x):
 B9 (l,t,(),())=some (((l.takeWhile p).length:Int),HX q (l.dropWhile p),()):=by
 unfold B9
 obtain⟨c,hc1,hc2,hc3,hc4⟩:=Q2 (n:=l.length) (p:=fun k=>match l[k]? with|some x=>p x|none=>false)
  (B:=fun v=>AC (l,(),(l.length:Int),t.1,t.2.1,()) v _ some)
  (by
    intro i j hij hj h
    have hi:i<l.length:=by omega
    simp only[List.getElem?_eq_getElem hj,List.getElem?_eq_getElem hi]at h ⊢
    exact mono i j hij hj h)
  (by
    intro i j hij hj
    have hm:(i+j) / 2<l.length:=by omega
    obtain⟨n,e1,e2,e3⟩:=hc _ (List.getElem_mem hm)
    unfold AC
    simp only[Mr (i:=i) (j:=j) (by omega),Aj hm,Option.bind_some,List.getElem?_eq_getElem hm,decide_eq_true (by omega:(i:Int)<(j:Int)),cond_true]
    erw [e1]
    simp only[Option.bind_some,e2,Ak hm (by omega)]
    cases p l[(i+j) / 2]<;>rfl)
  (by
    intro i hi
    unfold AC
    simp only[Int.lt_irrefl,decide_false,cond_false])
 erw [hc2]
 obtain⟨t1,t2⟩:=Q6 (l:=l) (p:=p) (c:=c) hc1 (fun k hk h=>by have:=hc3 k h;simpa only[List.getElem?_eq_getElem hk]using this) (fun k hk h=>by have:=hc4 k h hk;simpa only[List.getElem?_eq_getElem hk]using this)
 have tl:(l.takeWhile p).length=c:=by rw[<-t1];simp;omega
 rw[<-t2,tl]
 simp only[Option.bind_some]
 by_cases hcl:c<l.length
 ·obtain⟨n,e1,e2,e3⟩:=hc _ (List.getElem_mem hcl)
  simp only[Aj hcl,decide_eq_true (by omega:(c:Int)<(l.length:Int)),cond_true,Option.bind_some]
  erw [e1]
  rw[List.drop_eq_getElem_cons hcl]
  simp only[Option.bind_some,e3,HX]
 ·rw[List.drop_of_length_le (by omega)]
  simp only[decide_eq_false (by omega:¬(c:Int)<(l.length:Int)),cond_false,HX]
theorem Md {l:List _}(hl:l.length<=1048576)(c:_){p:_->Bool}(hc:∀x∈l,Dj (x,c)=some (p x,())):BF (l,c,())=some (fx (l.findIdx? p),()):=by
 unfold BF
 refine Ey hl (p:=p) (fun i h=>?_) ?_
 ·unfold AY
  have e:=hc _ (List.getElem_mem h)
  simp only[Aj h,Option.bind_some]
  rw[decide_eq_true (by omega),Ak h (by omega)]
  simp only[cond_true]
  erw [e]
  simp only[Option.bind_some]
  cases p l[i]<;>rfl
 ·unfold AY
  simp only
  rw[decide_eq_false (by omega)];rfl
theorem Nn {l:List _}(hl:l.length<=1048576)(c:_){p:_->Bool}(hc:∀x∈l,HG (x,c)=some (p x,())):BW (l,c,())=some (fx (l.findIdx? p),()):=by
 unfold BW
 refine Ey hl (p:=p) (fun i h=>?_) ?_
 ·unfold Bd
  have e:=hc _ (List.getElem_mem h)
  simp only[Aj h,Option.bind_some]
  rw[decide_eq_true (by omega),Ak h (by omega)]
  simp only[cond_true]
  erw [e]
  simp only[Option.bind_some]
  cases p l[i]<;>rfl
 ·unfold Bd
  simp only
  rw[decide_eq_false (by omega)];rfl
theorem LL {l:List _}(hl:l.length<=1048576)(c:_){p:_->Bool}(hc:∀x∈l,CZ (x,c)=some (p x,())):BD (l,c,())=some (fx (l.findIdx? p),()):=by
 unfold BD
 refine Ey hl (p:=p) (fun i h=>?_) ?_
 ·unfold AR
  have e:=hc _ (List.getElem_mem h)
  simp only[Aj h,Option.bind_some]
  rw[decide_eq_true (by omega),Ak h (by omega)]
  simp only[cond_true]
  erw [e]
  simp only[Option.bind_some]
  cases p l[i]<;>rfl
 ·unfold AR
  simp only
  rw[decide_eq_false (by omega)];rfl
theorem MI {l:List _}(hl:l.length<=1048576)(c:_){p:_->Bool}(hc:∀x∈l,DK (x,c)=some (p x,())):BN (l,c,())=some (fx (l.findIdx? p),()):=by
 unfold BN
 refine Ey hl (p:=p) (fun i h=>?_) ?_
 ·unfold B8
  have e:=hc _ (List.getElem_mem h)
  simp only[Aj h,Option.bind_some]
  rw[decide_eq_true (by omega),Ak h (by omega)]
  simp only[cond_true]
  erw [e]
  simp only[Option.bind_some]
  cases p l[i]<;>rfl
 ·unfold B8
  simp only
  rw[decide_eq_false (by omega)];rfl
theorem Nm {l:List _}(hl:l.length<=1048576)(c:_){p:_->Bool}(hc:∀x∈l,HB (x,c)=some (p x,())):BV (l,c,())=some (fx (l.findIdx? p),()):=by
 unfold BV
 refine Ey hl (p:=p) (fun i h=>?_) ?_
 ·unfold Bc
  have e:=hc _ (List.getElem_mem h)
  simp only[Aj h,Option.bind_some]
  rw[decide_eq_true (by omega),Ak h (by omega)]
  simp only[cond_true]
  erw [e]
  simp only[Option.bind_some]
  cases p l[i]<;>rfl
 ·unfold Bc
  simp only
  rw[decide_eq_false (by omega)];rfl
theorem Nl {l:List _}(hl:l.length<=1048576)(c:_){p:_->Bool}(hc:∀x∈l,HA (x,c)=some (p x,())):BU (l,c,())=some (fx (l.findIdx? p),()):=by
 unfold BU
 refine Ey hl (p:=p) (fun i h=>?_) ?_
 ·unfold Bb
  have e:=hc _ (List.getElem_mem h)
  simp only[Aj h,Option.bind_some]
  rw[decide_eq_true (by omega),Ak h (by omega)]
  simp only[cond_true]
  erw [e]
  simp only[Option.bind_some]
  cases p l[i]<;>rfl
 ·unfold Bb
  simp only
  rw[decide_eq_false (by omega)];rfl
theorem KE {l:List _}(hl:l.length<=1048576)(c:_){p:_->Bool}(hc:∀x∈l,C5 (x,c)=some (p x,())):Bp (l,c,())=some (fx (l.findIdx? p),()):=by
 unfold Bp
 refine Ey hl (p:=p) (fun i h=>?_) ?_
 ·unfold AM
  have e:=hc _ (List.getElem_mem h)
  simp only[Aj h,Option.bind_some]
  rw[decide_eq_true (by omega),Ak h (by omega)]
  simp only[cond_true]
  erw [e]
  simp only[Option.bind_some]
  cases p l[i]<;>rfl
 ·unfold AM
  simp only
  rw[decide_eq_false (by omega)];rfl
theorem KF {l:List _}(hl:l.length<=1048576)(c:_){p:_->Bool}(hc:∀x∈l,C5 (x,c)=some (p x,())):Bm (l,c,())=some (l.any p,()):=by
 unfold Bm
 have e:=KE hl c hc
 erw [e]
 simp only[Option.bind_some,Yo,List.findIdx?_isSome]
theorem LK {l:List _}(hl:l.length<=1048576)(c:_){p:_->Bool}(hc:∀x∈l,CY (x,c)=some (p x,())):BC (l,c,())=some (fx (l.findIdx? p),()):=by
 unfold BC
 refine Ey hl (p:=p) (fun i h=>?_) ?_
 ·unfold AQ
  have e:=hc _ (List.getElem_mem h)
  simp only[Aj h,Option.bind_some]
  rw[decide_eq_true (by omega),Ak h (by omega)]
  simp only[cond_true]
  erw [e]
  simp only[Option.bind_some]
  cases p l[i]<;>rfl
 ·unfold AQ
  simp only
  rw[decide_eq_false (by omega)];rfl
theorem LM {l:List _}(hl:l.length<=1048576)(c:_){p:_->Bool}(hc:∀x∈l,CY (x,c)=some (p x,())):Bt (l,c,())=some (l.any p,()):=by
 unfold Bt
 have e:=LK hl c hc
 erw [e]
 simp only[Option.bind_some,Yo,List.findIdx?_isSome]
theorem JW {l:List VM}(hl:l.length<=1048576)(id:Int){q:VM->Bool}(hc:∀x:VM,CZ (x,some id,())=some (q x,())):
 Cz (l,id,())=some (id,l.filter (fun x=>!q x),()):=by
 unfold Cz
 have e:=LL hl (some id,()) (p:=q) (fun x _=>hc x)
 erw [e]
 simp only[Option.bind_some]
 cases hf:l.findIdx? q with
 |none=>
  have h:=List.findIdx?_eq_none_iff.1 hf
  have:l.filter (fun x=>!q x)=l:=List.filter_eq_self.2 fun x hx=>by simp[h x hx]
  simp only[fx,this]
  rfl
 |some i0=>
  obtain⟨h0,hq,hlt⟩:=List.findIdx?_eq_some_iff_getElem.1 hf
  obtain⟨i,xs,h1,h2,h3,h4⟩:=RY (l:=l) (q:=q) (B:=fun v=>Bg (id,()) v _ some)
   (by
     intro i j xs hi hj h
     have hj':j<xs.length:=by omega
     have hi':i<xs.length:=by omega
     have c1:(0:Int)<=(j:Int)/\(j:Int)<(xs.length:Int):=by omega
     have c2:(0:Int)<=(i:Int)/\(i:Int)<(xs.length:Int):=by omega
     unfold Bg
     simp only[decide_eq_true c1.2,cond_true,c1,c2,and_self,if_true,Nat.zero_add,Int.toNat_natCast,List.getElem?_eq_getElem hj',List.getElem?_eq_getElem hi',Option.bind_some]
     erw [hc]
     simp only[Option.bind_some,Ak hj' (by omega:xs.length<9223372036854775808),Ak hi' (by omega:xs.length<9223372036854775808)]
     cases q xs[j]<;>rfl)
   (by
     intro i xs h hi
     unfold Bg
     simp only[h,Int.lt_irrefl,decide_false,cond_false])
   h0 hq (fun k hk=>by simpa using hlt k hk)
  have e0:((i0:Int)==-1)=false:=by rw[beq_eq_false_iff_ne];omega
  simp only[fx,e0,cond_false,Ak h0 (by omega)]
  erw [h1]
  simp only[Option.bind_some]
  rw[<-h4]
  exact VE (z:=(0,0,())) h2 (fun r=>some (id,r,()))
theorem Jt {l:List VM}(hl:l.length<=1048576)(id:Int){q:VM->Bool}(hc:∀x:VM,DK (x,some id,())=some (q x,())):
 Ch (l,id,())=some (id,l.filter (fun x=>!q x),()):=by
 unfold Ch
 have e:=MI hl (some id,()) (p:=q) (fun x _=>hc x)
 erw [e]
 simp only[Option.bind_some]
 cases hf:l.findIdx? q with
 |none=>
  have h:=List.findIdx?_eq_none_iff.1 hf
  have:l.filter (fun x=>!q x)=l:=List.filter_eq_self.2 fun x hx=>by simp[h x hx]
  simp only[fx,this]
  rfl
 |some i0=>
  obtain⟨h0,hq,hlt⟩:=List.findIdx?_eq_some_iff_getElem.1 hf
  obtain⟨i,xs,h1,h2,h3,h4⟩:=RY (l:=l) (q:=q) (B:=fun v=>B5 (id,()) v _ some)
   (by
     intro i j xs hi hj h
     have hj':j<xs.length:=by omega
     have hi':i<xs.length:=by omega
     have c1:(0:Int)<=(j:Int)/\(j:Int)<(xs.length:Int):=by omega
     have c2:(0:Int)<=(i:Int)/\(i:Int)<(xs.length:Int):=by omega
     unfold B5
     simp only[decide_eq_true c1.2,cond_true,c1,c2,and_self,if_true,Nat.zero_add,Int.toNat_natCast,List.getElem?_eq_getElem hj',List.getElem?_eq_getElem hi',Option.bind_some]
     erw [hc]
     simp only[Option.bind_some,Ak hj' (by omega:xs.length<9223372036854775808),Ak hi' (by omega:xs.length<9223372036854775808)]
     cases q xs[j]<;>rfl)
   (by
     intro i xs h hi
     unfold B5
     simp only[h,Int.lt_irrefl,decide_false,cond_false])
   h0 hq (fun k hk=>by simpa using hlt k hk)
  have e0:((i0:Int)==-1)=false:=by rw[beq_eq_false_iff_ne];omega
  simp only[fx,e0,cond_false,Ak h0 (by omega)]
  erw [h1]
  simp only[Option.bind_some]
  rw[<-h4]
  exact VE (z:=(0,0,())) h2 (fun r=>some (id,r,()))
theorem JV {l:List VM}(hl:l.length<=1048576)(o:OPt){q:VM->Bool}(hc:∀x:VM,Dj (x,some o,())=some (q x,())):
 BQ (l,o.1,o.2.1,o.2.2.1,o.2.2.2.1,o.2.2.2.2.1,o.2.2.2.2.2.1,())=some (o.1,o.2.1,o.2.2.1,o.2.2.2.1,o.2.2.2.2.1,o.2.2.2.2.2.1,l.filter (fun x=>!q x),()):=by
 unfold BQ
 have e:=Md hl (some o,()) (p:=q) (fun x _=>hc x)
 erw [e]
 simp only[Option.bind_some]
 cases hf:l.findIdx? q with
 |none=>
  have h:=List.findIdx?_eq_none_iff.1 hf
  have:l.filter (fun x=>!q x)=l:=List.filter_eq_self.2 fun x hx=>by simp[h x hx]
  simp only[fx,this]
  rfl
 |some i0=>
  obtain⟨h0,hq,hlt⟩:=List.findIdx?_eq_some_iff_getElem.1 hf
  obtain⟨i,xs,h1,h2,h3,h4⟩:=RY (l:=l) (q:=q) (B:=fun v=>Bf (o.1,o.2.1,o.2.2.1,o.2.2.2.1,o.2.2.2.2.1,o.2.2.2.2.2.1,()) v _ some)
   (by
     intro i j xs hi hj h
     have hj':j<xs.length:=by omega
     have hi':i<xs.length:=by omega
     have c1:(0:Int)<=(j:Int)/\(j:Int)<(xs.length:Int):=by omega
     have c2:(0:Int)<=(i:Int)/\(i:Int)<(xs.length:Int):=by omega
     unfold Bf
     simp only[decide_eq_true c1.2,cond_true,c1,c2,and_self,if_true,Nat.zero_add,Int.toNat_natCast,List.getElem?_eq_getElem hj',List.getElem?_eq_getElem hi',Option.bind_some]
     erw [hc]
     simp only[Option.bind_some,Ak hj' (by omega:xs.length<9223372036854775808),Ak hi' (by omega:xs.length<9223372036854775808)]
     cases q xs[j]<;>rfl)
   (by
     intro i xs h hi
     unfold Bf
     simp only[h,Int.lt_irrefl,decide_false,cond_false])
   h0 hq (fun k hk=>by simpa using hlt k hk)
  have e0:((i0:Int)==-1)=false:=by rw[beq_eq_false_iff_ne];omega
  simp only[fx,e0,cond_false,Ak h0 (by omega)]
  erw [h1]
  simp only[Option.bind_some]
  rw[<-h4]
  exact VE (z:=(0,0,())) h2 (fun r=>some (o.1,o.2.1,o.2.2.1,o.2.2.2.1,o.2.2.2.2.1,o.2.2.2.2.2.1,r,()))
end Go.Ab
end
section
namespace Go.Ab
theorem Rg {α:Type}{f:α->Int}{l:List α}(h:Iy f l){a:Int}{n:Nat}(hb:∀x∈l,a<=f x/\f x<a+n):l.length<=n:=by
 induction l generalizing a n with
 |nil=>exact Nat.zero_le _
 |cons x l ih=>
  have h1:=List.pairwise_cons.1 h
  have hx:=hb x (List.mem_cons_self)
  have:=ih h1.2 (a:=f x+1) (n:=(a+n-(f x+1)).toNat) (fun y hy=>by
   have:=h1.1 y hy
   have:=hb y (List.mem_cons_of_mem _ hy)
   omega)
  simp only[List.length_cons]
  omega
theorem RM {l:List VM}(h:RN l):l.length<=6:=by
 have:=(La l).1 h
 exact Rg this.2 (a:=0) (n:=6) (fun x hx=>by have:=Bh.1 (this.1 x hx).1;omega)
theorem OkG.lkLen {e:EG}(H:OkG e):e.2.2.1.length<=6:=Rg H.lkU (a:=0) (n:=6) (fun x hx=>by have:=Bh.1 (H.lkA x hx).1;omega)
theorem OkG.wtLen {e:EG}(H:OkG e):e.2.2.2.1.length<=9:=Rg H.wtU (a:=1) (n:=9) (fun x hx=>by have:=Bh.1 (H.wtA x hx).1;omega)
theorem OkG.small {e:EG}(H:OkG e):SmallE e.1 e.2.1 e.2.2.1 e.2.2.2.1:=by
 have hg:=H.gd
 refine⟨⟨by have:=hg.six;omega,fun l hl=>?_⟩,by have:=H.len;omega,fun t ht=>?_,by have:=H.lkLen;omega,by have:=H.wtLen;omega⟩
 ·have:=(hg.ok l hl).2
  unfold HM;omega
 ·have h:=(Dc t).1 (H.txA t ht).1
  have h1:=RM h.2.1
  have h2:=h.2.2.2.2.2.2.2.2.2.2
  exact⟨by omega,by omega⟩
theorem Sg {l:List VM}(hl:l.length<=1048576)(id:Int):GI (l,id,())=some (W6 l id,()):=by
 unfold GI W6
 simp only[RL hl,Option.bind_some,JW hl id (q:=fun m=>m.2.1==id) (fun x=>by simp[CZ])]
theorem XT {l:List VM}(hl:l.length<=1048576)(id:Int):Ii (l,id,())=some (Yx l id,()):=by
 unfold Ii Yx
 simp only[PK hl,Option.bind_some,Jt hl id (q:=fun m=>m.1==id||m.2.1==id) (fun x=>by simp only[DK,Option.bind_some];cases x.1==id<;>rfl)]
 simp only[Bool.not_or]
theorem ae {l:List VM}(hl:l.length<=1048576)(o:OPt):BQ (l,o)=some (o.1,o.2.1,o.2.2.1,o.2.2.2.1,o.2.2.2.2.1,o.2.2.2.2.2.1,wkW l o.2.1,()):=
 JV hl o (q:=fun m=>m.1==o.2.1) (fun x=>by simp[Dj])
theorem SM {s:List (List VV)}{l:List TX}{lk wt:List VM}{k:Nat}(hk:k<l.length)(hl:lk.length<=1048576)(hw:wt.length<=1048576)(ce:Bool)(st:Int):
 DJ (k,ce,st,s,l,lk,wt,())=some (ce,st,s,l,lk,wt,W6 lk l[k].1,Yx wt l[k].1,()):=by
 simp only[DJ,List.getElem?_eq_getElem hk,Option.bind_some,Sg hl,XT hw]
theorem Jm {s:List (List VV)}{l:List TX}{lk wt:List VM}{k:Nat}(hk:k<l.length)(hl:lk.length<=1048576)(hw:wt.length<=1048576)(c:Int)(ce:Bool)(st:Int):
 Ba (k,c,ce,st,s,l,lk,wt,())=some (c,ce,st,s,l.set k (G9 l[k] 3),lk,wt,W6 lk l[k].1,Yx wt l[k].1,()):=by
 unfold Ba
 simp only[List.getElem?_eq_getElem hk,Option.bind_some]
 have hk':k<(l.set k (G9 l[k] 3)).length:=by simpa using hk
 have e:=SM (s:=s) (k:=k) (l:=l.set k (G9 l[k] 3)) hk' hl hw ce st
 simp only[G9]at e ⊢
 rw[e]
 simp
theorem O4 {α:Type}(p:α->Bool)(l:List α):l.find? p=(l.findIdx? p).bind (l[·]?):=by
 cases h:l.findIdx? p with
 |none=>exact List.find?_eq_none.2 fun x hx=>by simpa using List.findIdx?_eq_none_iff.1 h x hx
 |some i=>
  obtain⟨h1,h2,h3⟩:=List.findIdx?_eq_some_iff_getElem.1 h
  rw[Option.bind_some,List.getElem?_eq_getElem h1]
  exact List.find?_eq_some_iff_getElem.2 ⟨h2,i,h1,rfl,fun j hj=>by simpa using h3 j hj⟩
theorem yS (t:TX)(h:smT t)(key:Int):IR ((t.1,t.2.1,t.2.2.1,t.2.2.2.1,t.2.2.2.2.1,t.2.2.2.2.2.1,t.2.2.2.2.2.2.1,t.2.2.2.2.2.2.2.1,t.2.2.2.2.2.2.2.2.1,()),key,())=some (fx (t.2.2.2.2.2.2.2.2.1.findIdx? fun m=>m.1==key),()):=by
 unfold IR
 simp only[Nn h.2 (some key,()) (p:=fun m=>m.1==key) (fun x _=>by simp[HG]),Option.bind_some]
theorem Vs {s:List (List VV)}(h6:s.length=6){key:Int}(hk:inB key 0 5=true):∃(n:Nat) (h:n<s.length),key=(n:Int)/\lAt s key=some s[n]/\s[key.toNat]?=some s[n]:=by
 have:=Bh.1 hk
 obtain⟨n,rfl⟩:=Int.eq_ofNat_of_zero_le this.1
 have hn:n<s.length:=by omega
 exact⟨n,hn,rfl,Aj hn,by simp[hn]⟩
theorem Ix {n:Nat}(h:n<9223372036854775808):IntKind.i64.wrap ((n:Int)-1)=(n:Int)-1:=CQ (by omega) (by omega)
theorem Vd {s:List (List VV)}(hs:CJ s)(h6:s.length=6)(t:TX){key:Int}(hk:inB key 0 5=true):
 GH ((s,()),(t.1,t.2.1,t.2.2.1,t.2.2.2.1,t.2.2.2.2.1,t.2.2.2.2.2.1,t.2.2.2.2.2.2.1,t.2.2.2.2.2.2.2.1,t.2.2.2.2.2.2.2.2.1,()),key,())=some (match Kk s t key with|none=>(0,0,0,0,0,3,())|some v=>(v.1,v.2.1,v.2.2.1,v.2.2.2.1,v.2.2.2.2.1,0,())):=by
 obtain⟨n,hn,e1,e2,e3⟩:=Vs h6 hk
 have hl:HM s[n]:=hs.2 _ (List.getElem_mem hn)
 unfold GH Kk
 unfold HM at hl
 simp only[e2,e3,Option.bind_some,yW (hs.2 _ (List.getElem_mem hn)),Ix (by omega:s[n].length<9223372036854775808)]
 generalize hl':s[n]=l at*
 have key:∀i:Int,i<l.length->(bif decide (i<0)then some ((0:Int),(0:Int),(0:Int),(0:Int),(0:Int),(3:Int),())else bif t.2.1==4 then(lAt l i).bind fun v_2=>bif decide (v_2.2.2.1>t.2.2.2.1)then some (0,0,0,0,0,3,())else(lAt l i).bind fun v=>some (v.1,v.2.1,v.2.2.1,v.2.2.2.1,v.2.2.2.2.1,0,())else(lAt l i).bind fun v=>some (v.1,v.2.1,v.2.2.1,v.2.2.2.1,v.2.2.2.2.1,0,()))=some (match(bif decide (i<0)then none else(l[i.toNat]?).bind fun v=>bif t.2.1==4&&decide (v.2.2.1>t.2.2.2.1)then none else some v)with|none=>(0,0,0,0,0,3,())|some v=>(v.1,v.2.1,v.2.2.1,v.2.2.2.1,v.2.2.2.2.1,0,())):=by
  intro i hi
  by_cases h0:i<0
  ·simp[h0]
  ·obtain⟨j,rfl⟩:=Int.eq_ofNat_of_zero_le (by omega:0<=i)
   have hj:j<l.length:=by omega
   simp only[decide_eq_false h0,cond_false,Aj hj,Option.bind_some,Int.toNat_natCast,List.getElem?_eq_getElem hj]
   cases t.2.1==4
   ·simp
   ·simp only[cond_true,Bool.true_and]
    cases decide (l[j].2.2.1>t.2.2.2.1)<;>simp
 cases t.2.1==2
 ·simp only[cond_false];exact key _ (by omega)
 ·simp only[cond_true];exact key _ (Rf _ _ _).2
end Go.Ab
end
section
namespace Go.Ab
theorem Abh (a b:VM):∃n:Int,BX (a,b,())=some (n,())/\decide (n<0)=Ik a b/\(n==0)=decide (a=b):=by
 obtain⟨n,e1,e2⟩:=NN a b
 refine⟨n,e1,?_,?_⟩
 ·by_cases h:Cg a b
  ·rw[Mv.2 h];exact decide_eq_true (by by_cases hn:n<0;exact hn;exact absurd h (e2.1 (by omega)))
  ·have h0:Ik a b=false:=by cases h1:Ik a b with|false=>rfl|true=>exact absurd (Mv.1 h1) h
   rw[h0];exact decide_eq_false (by have:=e2.2 h;omega)
 ·unfold BX at e1
  simp only[z7,Ad4,Option.bind_some,Option.some.injEq,Prod.mk.injEq,and_true]at e1
  have hab:a=b↔a.1=b.1/\a.2.1=b.2.1:=by
   constructor
   ·rintro rfl;exact⟨rfl,rfl⟩
   ·rintro⟨h1,h2⟩;exact Prod.ext h1 (Prod.ext h2 rfl)
  rw[Bool.eq_iff_iff,beq_iff_eq,decide_eq_true_eq,hab,<-e1]
  by_cases c1:a.1<b.1
  ·simp[c1];omega
  ·by_cases c2:a.1>b.1
   ·simp[c1,c2];omega
   ·have c3:a.1=b.1:=by omega
    by_cases c4:a.2.1<b.2.1
    ·simp[c3,c4];omega
    ·by_cases c5:a.2.1>b.2.1
     ·simp[c3,c4,c5];omega
     ·simp[c3,c4,c5];omega
theorem oo {l:List VM}(h:l.Pairwise Cg)(m:VM):∀i j (hij:i<=j) (hj:j<l.length),Ik l[j] m=true->Ik (l[i]'(by omega)) m=true:=by
 intro i j hij hj h1
 rw[Mv]at*
 by_cases e:i=j
 ·subst e;exact h1
 ·exact JU _ _ _ (List.pairwise_iff_getElem.1 h i j (by omega) hj (by omega)) h1
theorem Ad6 {l:List VM}(hl:l.length<=1048576)(h:l.Pairwise Cg)(m:VM):
 B9 (l,m,(),())=some (((l.takeWhile fun x=>Ik x m).length:Int),HX (fun x=>decide (x=m)) (l.dropWhile fun x=>Ik x m),()):=
 MK hl m (p:=fun x=>Ik x m) (q:=fun x=>decide (x=m)) (oo h m) (fun x _=>Abh x m)
theorem Ou {α:Type}{lim:Nat}{l:List α}(hl:l.length+1<=lim)(p:α->Bool)(z:α):Qo lim (((l.takeWhile p).length:Int),l,[z],())=some (l.takeWhile p++z::l.dropWhile p,()):=by
 have e:l.takeWhile p++l.dropWhile p=l:=List.takeWhile_append_dropWhile
 generalize l.takeWhile p=a at e ⊢
 generalize l.dropWhile p=b at e ⊢
 subst e
 have h1:a.length+b.length+1<=lim:=by simpa using hl
 simp[Qo,h1]
theorem XL {l:List TX}{k:Nat}(hk:k<l.length)(hr:l[k].2.2.2.2.2.2.2.1.length<=1048576)(hrd:l[k].2.2.2.2.2.2.2.1.Pairwise Cg)(key:Int)(v:VV):
 Dw (k,key,v.1,v.2.1,v.2.2.1,v.2.2.2.1,v.2.2.2.2.1,l,())=some (match NA l[k] key v with|none=>(false,l,())|some t'=>(true,l.set k t',())):=by
 unfold Dw NA
 simp only[List.getElem?_eq_getElem hk,Option.bind_some]
 have e60:(((l[k].2.2.2.2.2.2.2.1.length:Nat):Int)==60)=(l[k].2.2.2.2.2.2.2.1.length==60):=by
  rw[Bool.eq_iff_iff,beq_iff_eq,beq_iff_eq];omega
 rw[e60]
 cases l[k].2.2.2.2.2.2.2.1.length==60
 ·simp only[cond_false]
  erw [Ad6 hr hrd (key,v.2.2.1,())]
  simp only[Option.bind_some]
  unfold L8 aX
  cases hd:l[k].2.2.2.2.2.2.2.1.dropWhile fun x=>Ik x (key,v.2.2.1,())with
  |nil=>
   simp only[HX,Bool.not_false,cond_true,RK hr,Option.bind_some,CT]
   erw [Ou (by omega) _ _]
   simp only[Option.bind_some,hd,J6 hk,Km,List.length_set]
  |cons x r=>
   simp only[HX]
   by_cases hx:x=(key,v.2.2.1,())
   ·have e:l[k].2.2.2.2.2.2.2.1=l[k].2.2.2.2.2.2.2.1.takeWhile (fun x=>Ik x (key,v.2.2.1,()))++(key,v.2.2.1,())::r:=by
     rw[<-hx]
     conv=>lhs;rw[<-List.takeWhile_append_dropWhile (p:=fun x=>Ik x (key,v.2.2.1,())) (l:=l[k].2.2.2.2.2.2.2.1),hd]
     rw[hx]
    simp only[hx,decide_true,Bool.not_true,cond_false,if_true,J6 hk,Option.bind_some,Km,List.length_set]
    rw[<-e]
   ·simp only[hx,decide_false,Bool.not_false,cond_true,if_false,RK hr,Option.bind_some,CT]
    erw [Ou (by omega) _ _]
    simp only[Option.bind_some,hd,J6 hk,Km,List.length_set]
 ·rfl
end Go.Ab
end
section
namespace Go.Ab
abbrev EO:=Bool×Int×List (List VV)×List TX×List VM×List VM×Unit
def J0 (ce:Bool)(e:EG):EO:=(ce,e.2.2.2.2,e.1,e.2.1,e.2.2.1,e.2.2.2.1,())
theorem Su (t:TX)(key:Int):aV t key=match t.2.2.2.2.2.2.2.2.1.findIdx? (fun m=>m.1==key)with
 |none=>none|some i=>(t.2.2.2.2.2.2.2.2.1[i]?).map (·.2.1):=by
 unfold aV
 rw[O4]
 cases t.2.2.2.2.2.2.2.2.1.findIdx? (fun m=>m.1==key)<;>rfl
theorem OkG.rdUp {e:EG}(H:OkG e){k:Nat}(hk:k<e.2.1.length):e.2.1[k].2.2.2.2.2.2.2.1.Pairwise Cg:=
 ((NO _).1 ((Dc _).1 (H.txA _ (List.getElem_mem hk)).1).1).2
theorem OkG.smT {e:EG}(H:OkG e){k:Nat}(hk:k<e.2.1.length):smT e.2.1[k]:=H.small.ft _ (List.getElem_mem hk)
theorem ah {e:EG}(H:OkG e){k:Nat}(hk:k<e.2.1.length){key:Int}(hkey:inB key 0 5=true)(ce:Bool):
 Gp (k,key,J0 ce e)=some ((FL e k key).1,(FL e k key).2.1,J0 ce (FL e k key).2.2):=by
 have hs:=H.small
 have ht:=H.smT hk
 unfold Gp FL J0
 simp only[List.getElem?_eq_getElem hk,Option.bind_some,yS _ ht,Yo,Su]
 cases hf:e.2.1[k].2.2.2.2.2.2.2.2.1.findIdx? (fun m=>m.1==key)with
 |some i=>
  obtain⟨h1,_⟩:=List.findIdx?_eq_some_iff_getElem.1 hf
  have c:(0:Int)<=(i:Int)/\(i:Int)<(e.2.1[k].2.2.2.2.2.2.2.2.1.length:Int):=by omega
  simp only[Option.isSome_some,cond_true,fx,c,and_self,if_true,Nat.zero_add,Int.toNat_natCast,List.getElem?_eq_getElem h1,Option.bind_some,Option.map_some]
 |none=>
  simp only[Option.isSome_none,cond_false,Vd hs.fs H.gd.six _ hkey,Option.bind_some]
  cases Kk e.1 e.2.1[k] key with
  |none=>
   simp only[bne,show((3:Int)==0)=false from rfl,Bool.not_false,cond_true,Jm hk hs.fk hs.fw,Option.bind_some,JX,G9]
  |some v=>
   simp only[bne,show((0:Int)==0)=true from rfl,Bool.not_true,cond_false,XL hk ht.1 (H.rdUp hk),Option.bind_some]
   cases NA e.2.1[k] key v with
   |none=>rfl
   |some t'=>rfl
theorem XM {k:Nat}{hi:Int}{ce:Bool}(hh:hi<=5):∀(n:Nat) (key:Int) (out:List Int) (e:EG),OkG e->k<e.2.1.length->(∀t,e.2.1[k]?=some t->t.2.2.1=1)->0<=key->key+n=hi+1->out.length<=key.toNat->
 ((Ay (fun v=>Cp (k,hi,0,0,()) v _ some) (key,ce,e.2.2.2.2,e.1,e.2.1,e.2.2.1,e.2.2.2.1,out,())).bind fun p=>Au p (fun p=>some
   ((p.2.2.2.2.1,p.1,p.2.1,p.2.2.1,p.2.2.2.1,p.2.2.2.2.2.2.1,p.2.2.2.2.2.2.2.1,[],()):Int×Bool×Int×List (List VV)×List TX×List VM×List VM×List Int×Unit)) fun p=>some (0,p.1,p.2.1,p.2.2.1,p.2.2.2.1,p.2.2.2.2.1,p.2.2.2.2.2.1,p.2.2.2.2.2.2.1,()))=
 some ((Eb k n key out e).1,ce,(Eb k n key out e).2.2.2.2.2.2,(Eb k n key out e).2.2.1,(Eb k n key out e).2.2.2.1,(Eb k n key out e).2.2.2.2.1,(Eb k n key out e).2.2.2.2.2.1,(Eb k n key out e).2.1,()):=by
 intro n
 induction n with
 |zero=>
  intro key out e H hk ha h0 hn ho
  rw[B6]
  have hd:¬key<=hi:=by omega
  simp only[Cp,decide_eq_false hd,cond_false,Option.bind_some,Au,Eb]
 |succ n ih=>
  intro key out e H hk ha h0 hn ho
  have hkey:inB key 0 5=true:=Bh.2 ⟨h0,by omega⟩
  have hr:=ah H hk hkey ce
  have hs:=H.read (List.getElem?_eq_getElem hk) (ha _ (List.getElem?_eq_getElem hk)) hkey
  unfold J0 at hr
  rw[B6]
  have hd:key<=hi:=by omega
  simp only[Cp,decide_eq_true hd,cond_true,hr,Option.bind_some,Eb]
  cases hc:(FL e k key).2.1==0
  ·simp only[bne,hc,Bool.not_false,cond_true,Option.bind_some,Au,cond_false]
  ·have hc':(FL e k key).2.1=0:=by simpa using hc
   obtain⟨t',ht1,ht2,ht3⟩:=hs.2.1 hc'
   have hlen:(out++[(FL e k key).1]).length<=4398046511104:=by
    have:key.toNat<=5:=by omega
    simp;omega
   have hw:IntKind.i64.wrap (key+1)=key+1:=CQ (by omega) (by omega)
   simp only[bne,hc,Bool.not_true,cond_false,hlen,if_true,Option.bind_some,hw,cond_true]
   exact ih (key+1) (out++[(FL e k key).1]) (FL e k key).2.2 hs.1 (by rw[hs.2.2];exact hk) (fun t ht=>by rw[ht1]at ht;obtain rfl:t'=t:=(by simpa using ht);exact ht2) (by omega) (by omega) (by simp;omega)
theorem RG {e:EG}(H:OkG e){k:Nat}(hk:k<e.2.1.length)(ha:e.2.1[k].2.2.1=1){lo hi:Int}(h0:0<=lo)(h1:lo<=hi+1)(h2:hi<=5)(ce:Bool):
 Gn (k,lo,hi,J0 ce e)=some ((Eb k (hi-lo+1).toNat lo [] e).1,ce,(Eb k (hi-lo+1).toNat lo [] e).2.2.2.2.2.2,(Eb k (hi-lo+1).toNat lo [] e).2.2.1,(Eb k (hi-lo+1).toNat lo [] e).2.2.2.1,(Eb k (hi-lo+1).toNat lo [] e).2.2.2.2.1,(Eb k (hi-lo+1).toNat lo [] e).2.2.2.2.2.1,(Eb k (hi-lo+1).toNat lo [] e).2.1,()):=
 XM h2 (hi-lo+1).toNat lo [] e H hk (fun t ht=>by rw[List.getElem?_eq_getElem hk]at ht;obtain rfl:e.2.1[k]=t:=(by simpa using ht);exact ha) h0 (by omega) (by simp)
end Go.Ab
end
section
namespace Go.Ab
theorem SR {α:Type}[DecidableEq α]:∀(a b:List α),a.Nodup->(∀x∈a,x∈b)->a.length<=b.length
 |[],b,_,_=>Nat.zero_le _
 |x::a,b,hn,hs=>by
  rw[List.nodup_cons]at hn
  have hx:=hs x (List.mem_cons_self ..)
  have hlen:=(List.perm_cons_erase hx).length_eq
  have:=SR a (b.erase x) hn.2 (fun y hy=>(List.mem_erase_of_ne (fun e=>hn.1 (by rw[<-e];exact hy))).2 (hs y (List.mem_cons_of_mem _ hy)))
  simp only[List.length_cons]at hlen ⊢
  omega
theorem A7a (a b:Int):∃n:Int,C1 (a,b,())=some (n,())/\decide (n<0)=decide (a<b)/\(n==0)=(a==b):=by
 refine⟨_,z7 a b,?_,?_⟩
 ·by_cases h:a<b
  ·simp[h]
  ·by_cases h2:a>b<;>simp[h,h2]
 ·by_cases h:a<b
  ·simp[h];omega
  ·by_cases h2:a>b
   ·simp[h,h2];omega
   ·have:a=b:=by omega
    simp[this]
theorem R0 {α:Type}{f:α->Int}{l:List α}(h:Iy f l)(t:Int):∀i j (hij:i<=j) (hj:j<l.length),(fun x=>decide (f x<t)) l[j]=true->(fun x=>decide (f x<t)) (l[i]'(by omega))=true:=by
 intro i j hij hj h1
 simp only[decide_eq_true_eq]at*
 by_cases e:i=j
 ·subst e;exact h1
 ·have:f l[i]<f l[j]:=List.pairwise_iff_getElem.1 h i j (by omega) hj (by omega)
  omega
def EY {α:Type}(f:α->Int)(l:List α)(t:Int):Bool:=HX (fun x=>f x==t) (l.dropWhile fun x=>decide (f x<t))
theorem Mb {α:Type}{f:α->Int}{l:List α}{m:α}(h:EY f l (f m)=false):CC f l m=(l.takeWhile fun x=>decide (f x<f m))++m::l.dropWhile fun x=>decide (f x<f m):=by
 unfold EY at h
 unfold CC
 cases hd:l.dropWhile fun x=>decide (f x<f m)with
 |nil=>rfl
 |cons x r=>
  rw[hd]at h
  simp only[HX,beq_eq_false_iff_ne,ne_eq]at h
  simp only[h,if_false]
theorem Ma {α:Type}{f:α->Int}{l:List α}{m:α}(h:EY f l (f m)=true):∃x,l[(l.takeWhile fun x=>decide (f x<f m)).length]?=some x/\f x=f m/\CC f l m=l.set (l.takeWhile fun x=>decide (f x<f m)).length m:=by
 unfold EY at h
 unfold CC
 have e:l.takeWhile (fun x=>decide (f x<f m))++l.dropWhile (fun x=>decide (f x<f m))=l:=List.takeWhile_append_dropWhile
 cases hd:l.dropWhile fun x=>decide (f x<f m)with
 |nil=>rw[hd]at h;cases h
 |cons x r=>
  rw[hd]at h e
  simp only[HX,beq_iff_eq]at h
  generalize l.takeWhile (fun x=>decide (f x<f m))=a at e ⊢
  subst e
  exact⟨x,by simp,h,by simp[h]⟩
theorem Po {α:Type}{f:α->Int}{l:List α}(hu:Iy f l)(t:Int):EY f l t=true↔∃x∈l,f x=t:=by
 unfold EY
 have e:l.takeWhile (fun x=>decide (f x<t))++l.dropWhile (fun x=>decide (f x<t))=l:=List.takeWhile_append_dropWhile
 have hd:=Ob hu t
 have hud:Iy f (l.dropWhile fun x=>decide (f x<t)):=hu.sublist (List.dropWhile_sublist _)
 have htk:∀y∈(l.takeWhile fun x=>decide (f x<t)),f y<t:=fun y hy=>by
  have:=List.all_takeWhile (l:=l) (p:=fun x=>decide (f x<t))
  have:=List.all_eq_true.1 this y hy
  simpa using this
 have hm:∀x,x∈l↔x∈(l.takeWhile fun x=>decide (f x<t))\/x∈(l.dropWhile fun x=>decide (f x<t)):=fun x=>by rw[<-List.mem_append,e]
 cases hdw:l.dropWhile fun x=>decide (f x<t)with
 |nil=>
  rw[hdw]at hm
  simp only[HX,Bool.false_eq_true,false_iff]
  rintro⟨x,hx,hxt⟩
  rcases(hm x).1 hx with h|h
  ·have:=htk x h;omega
  ·cases h
 |cons y r=>
  rw[hdw]at hm hud
  simp only[HX,beq_iff_eq]
  constructor
  ·intro h;exact⟨y,(hm y).2 (.inr (List.mem_cons_self ..)),h⟩
  ·rintro⟨x,hx,hxt⟩
   rcases(hm x).1 hx with h|h
   ·have:=htk x h;omega
   ·have hy:t<=f y:=hd y (by rw[hdw];exact List.mem_cons_self ..)
    rcases List.mem_cons.1 h with rfl|h
    ·exact hxt
    ·have:=(List.pairwise_cons.1 hud).1 x h;omega
theorem XP {lk:List VM}(hl:lk.length<=1048576)(key:Int):GY (lk,key,())=some (CU lk key,()):=by
 unfold GY CU
 simp only[Nm hl (some key,()) (p:=fun m=>m.1==key) (fun x _=>by simp[HB]),Option.bind_some,zC,O4]
 cases hf:lk.findIdx? (fun m=>m.1==key)with
 |none=>rfl
 |some i=>
  obtain⟨h1,_⟩:=List.findIdx?_eq_some_iff_getElem.1 hf
  simp only[Option.isNone_some,cond_false,fx,Aj h1,Option.bind_some,List.getElem?_eq_getElem h1]
theorem XN {wt:List VM}(hl:wt.length<=1048576)(hv:DM (wt,())=some (true,()))(hu:Iy (·.1) wt){a b:Int}(ha:inB a 1 9=true)(hb:inB b 1 9=true)(hab:a≠b):
 GW (wt,a,b,())=some (true,CC (·.1) wt (a,b,()),()):=by
 have hbs:Bj (wt,a,(),())=some (((wt.takeWhile fun x=>decide (x.1<a)).length:Int),EY (fun x:VM=>x.1) wt a,()):=OE hl a (p:=fun x=>decide (x.1<a)) (q:=fun x=>x.1==a) (R0 (f:=fun x:VM=>x.1) hu a) (fun x _=>by
  obtain⟨n,e1,e2,e3⟩:=A7a x.1 a
  exact⟨n,by simp only[GX,e1,Option.bind_some],e2,e3⟩)
 have hab':(a==b)=false:=by simpa using hab
 unfold GW
 simp only[PK hl,hv,NM,ha,hb,hab',Option.bind_some,Bool.not_true,cond_false]
 erw [hbs]
 simp only[Option.bind_some]
 cases hh:EY (fun x:VM=>x.1) wt a
 ·simp only[Bool.not_false,cond_true,FM]
  erw [Ou (by omega) _ _]
  rw[Mb (m:=(a,b,())) hh]
  rfl
 ·obtain⟨x,e1,e2,e3⟩:=Ma (m:=(a,b,())) hh
  rw[e3]
  simp only[Bool.not_true,cond_false]
  have hlt:=(List.getElem?_eq_some_iff.1 e1).1
  have c:(0:Int)<=(((wt.takeWhile fun x=>decide (x.1<a)).length:Nat):Int)/\(((wt.takeWhile fun x=>decide (x.1<a)).length:Nat):Int)<((wt.length:Nat):Int):=⟨by omega,by simpa using hlt⟩
  simp only[c,and_self,if_true,Nat.zero_add,Int.toNat_natCast]
  erw [e1]
  simp only[Option.bind_some,show x.1=a from e2]
theorem yX {lk:List VM}(hl:lk.length<=1048576)(hv:EE (lk,())=some (true,()))(hu:Iy (·.1) lk){key id:Int}(hk:inB key 0 5=true)(hi:inB id 1 9=true)(ho:CU lk key=0\/CU lk key=id)(hpos:∀m∈lk,m.2.1≠0):
 Fu (lk,key,id,())=some (true,CC (·.1) lk (key,id,()),()):=by
 have hbs:AZ (lk,key,(),())=some (((lk.takeWhile fun x=>decide (x.1<key)).length:Int),EY (fun x:VM=>x.1) lk key,()):=Me hl key (p:=fun x=>decide (x.1<key)) (q:=fun x=>x.1==key) (R0 (f:=fun x:VM=>x.1) hu key) (fun x _=>by
  obtain⟨n,e1,e2,e3⟩:=A7a x.1 key
  exact⟨n,by simp only[Ee,e1,Option.bind_some],e2,e3⟩)
 unfold Fu
 simp only[RL hl,hv,NM,PJ,hk,hi,Option.bind_some,Bool.not_true,cond_false]
 erw [hbs]
 simp only[Option.bind_some]
 cases hh:EY (fun x:VM=>x.1) lk key
 ·simp only[cond_false,FN]
  erw [Ou (by omega) _ _]
  rw[Mb (m:=(key,id,())) hh]
  rfl
 ·obtain⟨x,e1,e2,e3⟩:=Ma (m:=(key,id,())) hh
  obtain⟨hlt,e4⟩:=List.getElem?_eq_some_iff.1 e1
  have hx:x∈lk:=by rw[<-e4];exact List.getElem_mem hlt
  have e2':x.1=key:=e2
  have hown:CU lk key=x.2.1:=by
   unfold CU
   cases hf:lk.find? (fun m=>m.1==key)with
   |none=>exact absurd (List.find?_eq_none.1 hf x hx) (by simp[e2'])
   |some y=>
    have h1:=List.find?_some hf
    have h2:=List.mem_of_find?_eq_some hf
    simp only[beq_iff_eq]at h1
    obtain⟨i,hi,rfl⟩:=List.getElem_of_mem h2
    obtain⟨j,hj,rfl⟩:=List.getElem_of_mem hx
    by_cases hij:i=j
    ·subst hij;rfl
    ·rcases Nat.lt_or_gt_of_ne hij with h|h
     ·have:=List.pairwise_iff_getElem.1 hu i j hi hj h;simp only at this;omega
     ·have:=List.pairwise_iff_getElem.1 hu j i hj hi h;simp only at this;omega
  have hxi:x.2.1=id:=by
   rcases ho with h|h
   ·exact absurd (hown.symm.trans h) (hpos x hx)
   ·exact hown.symm.trans h
  have hxe:x=(key,id,()):=Prod.ext e2' (Prod.ext hxi rfl)
  have hse:lk.set (lk.takeWhile fun x=>decide (x.1<key)).length (key,id,())=lk:=by
   apply List.ext_getElem?
   intro i
   rw[List.getElem?_set]
   split
   ·rename_i h
    subst h
    simp only at e1
    simp only[hlt,if_true,e1,hxe]
   ·rfl
  rw[e3]
  simp only[cond_true]
  rw[hse]
  have e5:lAt lk (((lk.takeWhile fun x=>decide (x.1<key)).length:Nat):Int)=some x:=by
   rw[Aj (by simpa using hlt)]
   simpa using e4
  rw[e5]
  simp only[Option.bind_some,hxi,beq_self_eq_true]
end Go.Ab
end
section
namespace Go.Ab
theorem OkG.ltst {e:EG}(H:OkG e){key:Int}(hkey:inB key 0 5=true):∃(n:Nat) (hn:n<e.1.length) (v:VV),key=(n:Int)/\0<e.1[n].length/\e.1[n].length<=50/\e.1[n][e.1[n].length-1]?=some v/\EI e.1 key=some v/\lAt e.1 key=some e.1[n]/\v∈e.1[n]:=by
 obtain⟨n,hn,e1,e2,e3⟩:=Vs H.gd.six hkey
 have hl:=H.gd.ok _ (List.getElem_mem hn)
 obtain⟨v,hv,_⟩:=((KR _).1 hl.1).2.2
 have hne:e.1[n]≠[]:=by intro h;rw[h]at hv;cases hv
 have hpos:0<e.1[n].length:=List.length_pos_iff.2 hne
 have hv':e.1[n][e.1[n].length-1]?=some v:=by rw[<-List.getLast?_eq_getElem?];exact hv
 refine⟨n,hn,v,e1,hpos,hl.2,hv',?_,e2,List.mem_of_getElem? hv'⟩
 unfold EI
 rw[e3];exact hv'
theorem MJ {e:EG}(H:OkG e){key:Int}(hkey:inB key 0 5=true):∃v,DI ((e.1,()),key,())=some (some v,())/\EI e.1 key=some v:=by
 obtain⟨n,hn,v,e1,e2,e3,e4,e5,e6,e7⟩:=H.ltst hkey
 refine⟨v,?_,e5⟩
 unfold DI
 have h:lAt e.1[n] ((e.1[n].length:Int)-1)=some v:=by
  rw[show((e.1[n].length:Int)-1)=((e.1[n].length-1:Nat):Int) by omega,Aj (by omega)]
  rw[List.getElem?_eq_getElem (by omega)]at e4;exact e4
 simp only[e6,Option.bind_some,Ix (by omega:e.1[n].length<9223372036854775808),h]
theorem Sh {e:EG}(H:OkG e){key:Int}(hkey:inB key 0 5=true):∃(n j:Nat) (l:List VV) (v:VV),BT (key,e.1,())=some (some (n,j),e.1,())/\e.1[n]?=some l/\l[j]?=some v/\EI e.1 key=some v:=by
 obtain⟨n,hn,v,e1,e2,e3,e4,e5,e6,e7⟩:=H.ltst hkey
 refine⟨n,e.1[n].length-1,e.1[n],v,?_,List.getElem?_eq_getElem hn,e4,e5⟩
 unfold BT
 have c1:(0:Int)<=key/\key<(e.1.length:Int):=by omega
 have c2:(0:Int)<=(e.1[n].length:Int)-1/\(e.1[n].length:Int)-1<(e.1[n].length:Int):=by omega
 have hk:key.toNat=n:=by omega
 have hj:((e.1[n].length:Int)-1).toNat=e.1[n].length-1:=by omega
 simp only[c1,and_self,if_true,hk,Nat.zero_add,List.getElem?_eq_getElem hn,Option.bind_some,Ix (by omega:e.1[n].length<9223372036854775808),c2,hj]
theorem yN {e:EG}(H:OkG e)(t:TX){key:Int}(hkey:inB key 0 5=true):
 EV ((e.1,()),e.2.2.1,(t.1,t.2.1,t.2.2.1,t.2.2.2.1,t.2.2.2.2.1,t.2.2.2.2.2.1,t.2.2.2.2.2.2.1,t.2.2.2.2.2.2.2.1,t.2.2.2.2.2.2.2.2.1,()),key,())=some (Gr e.1 e.2.2.1 t key,()):=by
 obtain⟨v,h1,h2⟩:=MJ H hkey
 unfold EV Gr
 simp only[XP H.small.fk,h1,h2,Option.bind_some,crV,M8,bne]
 generalize (CU e.2.2.1 key==0)=b1
 generalize (CU e.2.2.1 key==t.1)=b2
 generalize (t.2.1==1)=b3
 generalize (t.2.1==2)=b4
 generalize (t.2.1==4)=b5
 generalize decide (v.2.2.1>t.2.2.2.1)=b6
 generalize decide (v.2.2.2.1>t.2.2.2.1)=b7
 cases b1<;>cases b2<;>cases b3<;>cases b4<;>cases b5<;>cases b6<;>cases b7<;>rfl
theorem ar {l:List Int}(hl:l.length<=1048576)(y:Int):Fy (l,y,())=some (decide (y∈l),()):=by
 unfold Fy Je
 have e:=Ey (B:=fun v=>CP (l,y,(l.length:Int),()) v _ some) hl (p:=fun z=>y==z) (fun i h=>by
  unfold CP
  simp only[Aj h,Option.bind_some,decide_eq_true (by omega:(i:Int)<(l.length:Int)),cond_true,Ak h (by omega)]
  cases y==l[i]<;>rfl) (by
  unfold CP
  simp only[Int.lt_irrefl,decide_false,cond_false])
 erw [e]
 simp only[Option.bind_some,Yo,List.findIdx?_isSome]
 congr 2
 rw[Bool.eq_iff_iff]
 simp only[List.any_eq_true,decide_eq_true_eq,beq_iff_eq]
 constructor
 ·rintro⟨x,hx,rfl⟩;exact hx
 ·intro h;exact⟨y,h,rfl⟩
theorem T6 (wt:List VM):∀(n:Nat) (out:List Int) (x:Int),out≠[]->I3 wt n out x≠[]
 |0,out,x,h=>by simpa[I3]using h
 |n+1,out,x,h=>by
  unfold I3
  split
  ·exact h
  ·split
   ·simp
   ·exact T6 wt n _ _ (by simp)
theorem Pr (wt:List VM):∀(n:Nat) (out:List Int) (x:Int),(I3 wt n out x).length<=out.length+n
 |0,out,x=>by simp[I3]
 |n+1,out,x=>by
  unfold I3
  split
  ·omega
  ·split
   ·simp
   ·rename_i y _ _
    have:=Pr wt n (out++[y]) y
    simp at this;omega
theorem A69 {out:List Int}(hn:out.Nodup)(h:∀x∈out,inB x 1 9=true):out.length<=9:=by
 refine SR out [1,2,3,4,5,6,7,8,9] hn fun x hx=>?_
 have:=Bh.1 (h x hx)
 simp only[List.mem_cons,List.not_mem_nil,or_false]
 omega
theorem zY {wt:List VM}(hl:wt.length<=1048576)(hw:∀m∈wt,inB m.2.1 1 9=true):∀(n:Nat) (out:List Int) (x:Int),out≠[]->out.getLast?=some x->out.Nodup->(∀y∈out,inB y 1 9=true)->10<=out.length+n->
 ((Ay (fun v=>Es (wt,()) v _ some) (out,())).bind fun p=>Au p (fun p=>some ((p.1,()):List Int×Unit)) fun p=>some (p.2.1,()))=some (I3 wt n out x,()):=by
 intro n
 induction n with
 |zero=>
  intro out x h1 h2 h3 h4 h5
  have:=A69 h3 h4
  omega
 |succ n ih=>
  intro out x h1 h2 h3 h4 h5
  have h9:=A69 h3 h4
  have hpos:0<out.length:=List.length_pos_iff.2 h1
  have hlast:lAt out ((out.length:Int)-1)=some x:=by
   rw[show((out.length:Int)-1)=((out.length-1:Nat):Int) by omega,Aj (by omega)]
   rw[List.getLast?_eq_getElem?,List.getElem?_eq_getElem (by omega)]at h2
   exact h2
  have hix:=Nl hl (some out,()) (p:=fun m=>m.1==x) (fun m _=>by simp only[HA,Option.bind_some,Ix (by omega:out.length<9223372036854775808),hlast])
  rw[B6]
  simp only[Es,hix,Option.bind_some,zC]
  unfold I3 Vw
  rw[O4]
  cases hf:wt.findIdx? (fun m=>m.1==x)with
  |none=>simp only[Option.isNone_none,cond_true,Option.bind_some,Au,Option.bind_none,Option.map_none]
  |some i=>
   obtain⟨hi,_⟩:=List.findIdx?_eq_some_iff_getElem.1 hf
   have hlen:(out++[wt[i].2.1]).length<=4398046511104:=by simp;omega
   simp only[Option.isNone_some,cond_false,fx,Aj hi,Option.bind_some,ar (by omega:out.length<=1048576),hlen,if_true,List.getElem?_eq_getElem hi,Option.map_some]
   by_cases hm:wt[i].2.1∈out
   ·simp only[hm,decide_true,cond_true,Option.bind_some,Au,if_true]
   ·simp only[hm,decide_false,cond_false,Option.bind_some,if_false]
    refine ih (out++[wt[i].2.1]) wt[i].2.1 (by simp) (by simp) ?_ ?_ (by simp;omega)
    ·rw[List.nodup_append]
     exact⟨h3,by simp,fun a ha b hb=>by rw[List.mem_singleton.1 hb];rintro rfl;exact hm ha⟩
    ·intro y hy
     rcases List.mem_append.1 hy with h|h
     ·exact h4 y h
     ·rw[List.mem_singleton.1 h];exact hw _ (List.getElem_mem hi)
theorem Y3 {wt:List VM}(h1:∀m∈wt,inB m.1 1 9=true/\inB m.2.1 1 9=true/\m.1≠m.2.1)(h2:Iy (·.1) wt){a b:Int}(ha:inB a 1 9=true)(hb:inB b 1 9=true)(hab:a≠b):Np (CC (·.1) wt (a,b,())):=by
 refine(JA _).2 ⟨fun m hm=>?_,M9 h2 _⟩
 rcases(IH h2).1 hm with rfl|⟨h,_⟩
 ·exact⟨ha,hb,hab⟩
 ·exact h1 m h
theorem am {e:EG}(H:OkG e){a b:Int}(ha:inB a 1 9=true)(hb:inB b 1 9=true)(hab:a≠b):Gj (e.2.2.2.1,a,b,())=some (QP e.2.2.2.1 a b,()):=by
 have hl:=H.wtLen
 have hw0:Np e.2.2.2.1:=(JA _).2 ⟨H.wtA,H.wtU⟩
 have hw1:Np (CC (·.1) e.2.2.2.1 (a,b,())):=Y3 H.wtA H.wtU ha hb hab
 have hpl:(CC (·.1) e.2.2.2.1 (a,b,())).length<=1048576:=by have:=Qc (f:=fun x:VM=>x.1) e.2.2.2.1 (a,b,());omega
 have hs:=XN (wt:=e.2.2.2.1) (by omega) ((J7 (by omega)).trans (by rw[AD hw0])) H.wtU ha hb hab
 have hc:=zY (wt:=CC (·.1) e.2.2.2.1 (a,b,())) hpl (fun m hm=>(((JA _).1 hw1).1 m hm).2.1) 10 [a] a (by simp) rfl (by simp) (by simpa using ha) (by simp)
 unfold Gj QP
 simp only[hs,Option.bind_some,Bool.not_true,cond_false]
 unfold K8
 simp only[J7 hpl,AD hw1,Bool.not_true,cond_false,NM,ha,Option.bind_some]
 erw [hc]
 simp only[Option.bind_some]
 have h1:=T6 (CC (·.1) e.2.2.2.1 (a,b,())) 10 [a] a (by simp)
 have h2:=Pr (CC (·.1) e.2.2.2.1 (a,b,())) 10 [a] a
 generalize I3 (CC (·.1) e.2.2.2.1 (a,b,())) 10 [a] a=c at h1 h2 ⊢
 have hpos:0<c.length:=List.length_pos_iff.2 h1
 simp only[List.length_cons,List.length_nil]at h2
 have c1:(0:Int)<=(c.length:Int)-1/\(c.length:Int)-1<(c.length:Int):=by omega
 have hj:((c.length:Int)-1).toNat=c.length-1:=by omega
 simp only[Ix (by omega:c.length<9223372036854775808),c1,and_self,if_true,Nat.zero_add,hj,List.getLast?_eq_getElem?,List.getElem?_eq_getElem (by omega:c.length-1<c.length),Option.bind_some]
 rfl
end Go.Ab
end
section
namespace Go.Ab
theorem OkG.wrUp {e:EG}(H:OkG e){k:Nat}(hk:k<e.2.1.length):Iy (·.1) e.2.1[k].2.2.2.2.2.2.2.2.1:=
 ((La _).1 ((Dc _).1 (H.txA _ (List.getElem_mem hk)).1).2.1).2
theorem nN {e:EG}(H:OkG e){k:Nat}(hk:k<e.2.1.length){key:Int}(hkey:inB key 0 5=true)(val:Int):
 BL (k,key,val,e.2.1,e.1,())=some (e.2.1.set k (OQ e.2.1[k] (mx e.2.1[k].2.2.2.2.1 (M8 (EI e.1 key))) (CC (·.1) e.2.1[k].2.2.2.2.2.2.2.2.1 (key,val,()))),e.1,()):=by
 obtain⟨n,j,l,v,h1,h2,h3,h4⟩:=Sh H hkey
 have hw:=(H.smT hk).2
 have hbs:AN (e.2.1[k].2.2.2.2.2.2.2.2.1,key,(),())=some (((e.2.1[k].2.2.2.2.2.2.2.2.1.takeWhile fun x=>decide (x.1<key)).length:Int),EY (fun x:VM=>x.1) e.2.1[k].2.2.2.2.2.2.2.2.1 key,()):=
  KQ hw key (p:=fun x=>decide (x.1<key)) (q:=fun x=>x.1==key) (R0 (f:=fun x:VM=>x.1) (H.wrUp hk) key) (fun x _=>by
   obtain⟨n,e1,e2,e3⟩:=A7a x.1 key
   exact⟨n,by simp only[D1,e1,Option.bind_some],e2,e3⟩)
 unfold BL
 simp only[List.getElem?_eq_getElem hk,Option.bind_some,hbs,SN hw,h1,h4,M8]
 cases hh:EY (fun x:VM=>x.1) e.2.1[k].2.2.2.2.2.2.2.2.1 key
 ·simp only[cond_false,J6 hk,Option.bind_some,Fn]
  erw [Ou (by omega) _ _]
  rw[Mb (m:=(key,val,())) hh]
  simp only[Option.bind_some,Km,J6 hk,h2,h3,List.length_set,and_self,if_true,Nat.le_refl,(by omega:8<9),OQ]
 ·obtain⟨x,e1,e2,e3⟩:=Ma (m:=(key,val,())) hh
  rw[e3]
  have hlt:=(List.getElem?_eq_some_iff.1 e1).1
  simp only at e1 hlt e2
  have c:(0:Int)<=(((e.2.1[k].2.2.2.2.2.2.2.2.1.takeWhile fun x=>decide (x.1<key)).length:Nat):Int)/\(((e.2.1[k].2.2.2.2.2.2.2.2.1.takeWhile fun x=>decide (x.1<key)).length:Nat):Int)<((e.2.1[k].2.2.2.2.2.2.2.2.1.length:Nat):Int):=⟨by omega,Int.ofNat_lt.2 hlt⟩
  simp only[cond_true,J6 hk,Option.bind_some,c,and_self,if_true,Nat.zero_add,Int.toNat_natCast,e1,Km,h2,h3,e2,OQ,List.length_set]
theorem Sv {s:List (List VV)}{lk:List VM}{t:TX}{key:Int}(h:Gr s lk t key=1):CU lk key≠0/\CU lk key≠t.1:=by
 unfold Gr at h
 cases h1:(CU lk key==0)
 ·cases h2:(CU lk key==t.1)
  ·exact⟨by simpa using h1,by simpa using h2⟩
  ·simp only[h1,h2,Bool.not_false,Bool.not_true,Bool.and_false,cond_false,Bool.false_or]at h
   revert h
   cases(t.2.1==2)<;>cases decide (crV (EI s key)>t.2.2.2.1)<;>cases(t.2.1==4)<;>cases decide (M8 (EI s key)>t.2.2.2.1)<;>simp
 ·simp only[h1,Bool.not_true,Bool.false_and,Bool.and_false,cond_false,Bool.false_or]at h
  revert h
  cases(t.2.1==2)<;>cases decide (crV (EI s key)>t.2.2.2.1)<;>cases(t.2.1==4)<;>cases decide (M8 (EI s key)>t.2.2.2.1)<;>simp
theorem Qw {s:List (List VV)}{lk:List VM}{t:TX}{key:Int}(h:Gr s lk t key=0)(ht:(t.2.1==1||t.2.1==2)=true):CU lk key=0\/CU lk key=t.1:=by
 unfold Gr at h
 cases h1:(CU lk key==0)
 ·cases h2:(CU lk key==t.1)
  ·exfalso
   simp only[h1,h2,Bool.not_false,Bool.and_true,Bool.true_or]at h
   revert h ht
   cases(t.2.1==1)<;>cases(t.2.1==2)<;>simp
  ·exact .inr (by simpa using h2)
 ·exact .inl (by simpa using h1)
theorem Yd {e:EG}(H:OkG e){key:Int}(h:CU e.2.2.1 key≠0):inB (CU e.2.2.1 key) 1 9=true:=by
 unfold CU at h ⊢
 cases hf:e.2.2.1.find? (fun m=>m.1==key)with
 |none=>rw[hf]at h;exact absurd rfl h
 |some m=>exact(H.lkA m (List.mem_of_find?_eq_some hf)).2
theorem OkG.idIn {e:EG}(H:OkG e){k:Nat}(hk:k<e.2.1.length):inB e.2.1[k].1 1 9=true:=((Dc _).1 (H.txA _ (List.getElem_mem hk)).1).2.2.1
theorem XK {e:EG}(H:OkG e){k:Nat}(hk:k<e.2.1.length){key:Int}(hkey:inB key 0 5=true)(val:Int)(ce:Bool):
 FH (k,key,val,J0 ce e)=some ((Mw e k key val).1,J0 ce (Mw e k key val).2):=by
 have hs:=H.small
 have hid:=H.idIn hk
 unfold FH Mw J0
 simp only[List.getElem?_eq_getElem hk,Option.bind_some,yN H _ hkey,XP hs.fk]
 cases hc:(Gr e.1 e.2.2.1 e.2.1[k] key==1)
 ·simp only[cond_false]
  cases hc0:(Gr e.1 e.2.2.1 e.2.1[k] key==0)
  ·simp only[bne,hc0,Bool.not_false,cond_true,Jm hk hs.fk hs.fw,Option.bind_some,cond_false,JX,G9]
  ·have hc0':Gr e.1 e.2.2.1 e.2.1[k] key=0:=by simpa using hc0
   simp only[bne,hc0,Bool.not_true,cond_false,cond_true,nN H hk hkey,Option.bind_some]
   have htl:Gk (e.2.1[k].2.1,())=some (e.2.1[k].2.1==1||e.2.1[k].2.1==2,()):=by
    unfold Gk
    cases e.2.1[k].2.1==1<;>rfl
   simp only[htl,Option.bind_some]
   cases ht:(e.2.1[k].2.1==1||e.2.1[k].2.1==2)
   ·simp only[cond_false]
   ·simp only[cond_true,yX (lk:=e.2.2.1) hs.fk ((N4 hs.fk).trans (by rw[AD ((NP _).2 ⟨H.lkA,H.lkU⟩)])) H.lkU hkey hid (Qw hc0' ht) (fun m hm=>by have:=Bh.1 (H.lkA m hm).2;omega),Option.bind_some]
 ·have hc':Gr e.1 e.2.2.1 e.2.1[k] key=1:=by simpa using hc
  obtain⟨n0,n1⟩:=Sv hc'
  have ho:=Yd H n0
  have hab:e.2.1[k].1≠CU e.2.2.1 key:=fun h=>n1 h.symm
  simp only[cond_true,am H hid ho hab,Option.bind_some]
  cases QP e.2.2.2.1 e.2.1[k].1 (CU e.2.2.1 key)
  ·simp only[cond_false,XN hs.fw ((J7 hs.fw).trans (by rw[AD ((JA _).2 ⟨H.wtA,H.wtU⟩)])) H.wtU hid ho hab,Option.bind_some,hc']
  ·simp only[cond_true,Jm hk hs.fk hs.fw,Option.bind_some,JX,G9]
end Go.Ab
end
section
namespace Go.Ab
abbrev tup (t:TX):TX:=(t.1,t.2.1,t.2.2.1,t.2.2.2.1,t.2.2.2.2.1,t.2.2.2.2.2.1,t.2.2.2.2.2.2.1,t.2.2.2.2.2.2.2.1,t.2.2.2.2.2.2.2.2.1,())
theorem OkG.rdIn {e:EG}(H:OkG e){k:Nat}(hk:k<e.2.1.length):OF e.2.1[k].2.2.2.2.2.2.2.1:=((Dc _).1 (H.txA _ (List.getElem_mem hk)).1).1
theorem OkG.wrIn {e:EG}(H:OkG e){k:Nat}(hk:k<e.2.1.length):∀m∈e.2.1[k].2.2.2.2.2.2.2.2.1,inB m.1 0 5=true:=fun m hm=>
 (((La _).1 ((Dc _).1 (H.txA _ (List.getElem_mem hk)).1).2.1).1 m hm).1
theorem yO {e:EG}(H:OkG e){k:Nat}(hk:k<e.2.1.length):Et ((e.1,()),tup e.2.1[k],())=some (rlP e.1 e.2.1[k],()):=by
 have hsm:=H.smT hk
 have hwr:=H.wrIn hk
 unfold Et rlP
 simp only
 generalize hr:e.2.1[k].2.2.2.2.2.2.2.1=rd at*
 generalize hw:e.2.1[k].2.2.2.2.2.2.2.2.1=wr at*
 have hr1:rd.length<=1048576:=by have:=(H.smT hk).1;rw[hr]at this;exact this
 have hw1:wr.length<=1048576:=by have:=(H.smT hk).2;rw[hw]at this;exact this
 refine Gw (l:=rd) (f:=fun n m=>mx n m.2.1) (X:=fun n=>(Ay (fun v=>BM (wr,(wr.length:Int),e.1,()) v _ some) (n,0,())).bind fun p=>some (p.1,())) 0 (fun i h n=>?_) (fun n=>⟨(n,()),?_,rfl⟩) ?_
 ·unfold Cj
  simp only[Aj h,Option.bind_some]
  rw[decide_eq_true (by omega),Ak h (by omega)];rfl
 ·unfold Cj
  simp only
  rw[decide_eq_false (by omega)];rfl
 ·refine Gw (l:=wr) (f:=fun n m=>mx n (M8 (EI e.1 m.1))) (X:=fun n=>some (n,())) _ (fun i h n=>?_) (fun n=>⟨(n,()),?_,rfl⟩) rfl
  ·obtain⟨v,h1,h2⟩:=MJ H (hwr _ (List.getElem_mem h))
   unfold BM
   simp only[Aj h,Option.bind_some,h1,h2,M8]
   rw[decide_eq_true (by omega),Ak h (by omega)];rfl
  ·unfold BM
   simp only
   rw[decide_eq_false (by omega)];rfl
theorem SL {e:EG}(H:OkG e){k:Nat}(hk:k<e.2.1.length)(ha:e.2.1[k].2.2.1=1)(st:Int):EJ ((e.1,()),tup e.2.1[k],st,())=some (loP e.1 e.2.1[k],hiP e.1 e.2.1[k] st,()):=by
 unfold EJ
 simp only[yO H hk,yP H.small.fs H.gd.six _ (H.smT hk) (H.rdIn hk) ((H.txA _ (List.getElem_mem hk)).2.2.2 ha),Option.bind_some,loP,hiP]
theorem ak {e:EG}(H:OkG e){k:Nat}(hk:k<e.2.1.length):EK ((e.1,()),tup e.2.1[k],())=some (O3 e.1 e.2.1[k],()):=by
 unfold EK O3
 have hc:∀x∈e.2.1[k].2.2.2.2.2.2.2.2.1,CY (x,some (e.1,()),())=some ((match e.1[x.1.toNat]? with|some l=>decide (l.length>=50)|none=>false),()):=fun x hx=>by
  obtain⟨n,hn,e1,e2,e3⟩:=Vs H.gd.six (H.wrIn hk x hx)
  have h50:=(H.gd.ok _ (List.getElem_mem hn)).2
  unfold CY
  simp only[Option.bind_some,e2,e3]
  congr 2
  rw[Bool.eq_iff_iff,beq_iff_eq,decide_eq_true_eq];omega
 simp only[LM (H.smT hk).2 (some (e.1,()),()) hc,Option.bind_some]<;>rfl
theorem yU {e:EG}(H:OkG e){k:Nat}(hk:k<e.2.1.length):Eu ((e.1,()),tup e.2.1[k],())=some (N0 e.1 e.2.1[k],()):=by
 unfold Eu N0
 have hc:∀x∈e.2.1[k].2.2.2.2.2.2.2.2.1,C5 (x,some (e.1,()),some (tup e.2.1[k]),())=some (decide (crV (EI e.1 x.1)>e.2.1[k].2.2.2.1),()):=fun x hx=>by
  obtain⟨v,h1,h2⟩:=MJ H (H.wrIn hk x hx)
  unfold C5
  simp only[Option.bind_some,h1,h2,crV]
 simp only[KF (H.smT hk).2 (some (e.1,()),some (tup e.2.1[k]),()) hc,Option.bind_some]
 cases e.2.1[k].2.2.2.2.2.2.2.2.1.any fun x=>decide (crV (EI e.1 x.1)>e.2.1[k].2.2.2.1)<;>cases e.2.1[k].2.1==2<;>cases e.2.1[k].2.1==4<;>rfl
theorem A5x {s:List (List VV)}{n:Nat}(h:stOK s n)(hn:n<=1000){m:VM}(hm:inB m.1 0 5=true)(hx:HJ s m)(st:Int):
 ∃(a j:Nat) (l:List VV) (v:VV),GF (m.1,m.2.1,s,())=some (some (a,j),s,())/\s[a]?=some l/\l[j]?=some v/\N8 st s m=s.set a (l.set j (Sb st v)):=by
 obtain⟨k,hk,hlt,l,e1,e2,e3,hl⟩:=Kv h.1 hm
 obtain⟨l',j,x1,x2⟩:=hx
 rw[e3]at x1;obtain rfl:l=l':=(by simpa using x1)
 have hj:=Qr x2
 have hsm:=(h.small hn).2 _ hl
 refine⟨k,j,l,l[j],?_,e1,List.getElem?_eq_getElem hj,?_⟩
 ·unfold GF
  have c1:(0:Int)<=m.1/\m.1<(s.length:Int):=by omega
  have hkn:m.1.toNat=k:=by omega
  have hjlt:¬((j:Int)<0):=by omega
  have c2:(0:Int)<=(j:Int)/\(j:Int)<(l.length:Int):=by omega
  simp only[c1,and_self,if_true,hkn,Nat.zero_add,e1,Option.bind_some,RH hsm,x2,fx,decide_eq_false hjlt,cond_false,c2,Int.toNat_natCast]
 ·unfold N8
  have hkn:m.1.toNat=k:=by omega
  simp only[e3,x2,List.getElem?_eq_getElem hj,hkn]
theorem Abf {s:List (List VV)}{n:Nat}(h:stOK s n)(hn:n<=1000){m:VM}(hm:inB m.1 0 5=true):
 ∃(a:Nat) (l:List VV) (v:VV),m.1=(a:Int)/\a<s.length/\BT (m.1,s,())=some (some (a,l.length-1),s,())/\s[a]?=some l/\l[l.length-1]?=some v/\l.length<=50+n/\JS s m=some l:=by
 obtain⟨k,hk,hlt,l,e1,e2,e3,hl⟩:=Kv h.1 hm
 have h5:=h.2 l hl
 refine⟨k,l,l[l.length-1],hk,hlt,?_,e1,List.getElem?_eq_getElem (by omega),h5.2,e3⟩
 unfold BT
 have c1:(0:Int)<=m.1/\m.1<(s.length:Int):=by omega
 have c2:(0:Int)<=(l.length:Int)-1/\(l.length:Int)-1<(l.length:Int):=by omega
 have hkn:m.1.toNat=k:=by omega
 have hj:((l.length:Int)-1).toNat=l.length-1:=by omega
 simp only[c1,and_self,if_true,hkn,Nat.zero_add,e1,Option.bind_some,Ix (by omega:l.length<9223372036854775808),c2,hj]
theorem Si {e:EG}(H:OkG e){k:Nat}(hk:k<e.2.1.length)(ha:e.2.1[k].2.2.1=1)(st:Int)(ce:Bool)(st':Int):
 DR (k,st,ce,st',e.1,e.2.1,e.2.2.1,e.2.2.2.1,())=some (ce,st',PU e.1 e.2.1[k] st (hiP e.1 e.2.1[k] st),e.2.1.set k (N3 e.2.1[k] (loP e.1 e.2.1[k]) (hiP e.1 e.2.1[k] st) st),e.2.2.1,e.2.2.2.1,()):=by
 have hsm:=H.smT hk
 have hwr:=H.wrIn hk
 have hrd:=H.rdIn hk
 have hx:=(H.txA _ (List.getElem_mem hk)).2.2.2 ha
 have hwl:=RM ((Dc _).1 (H.txA _ (List.getElem_mem hk)).1).2.1
 unfold DR PU
 simp only[List.getElem?_eq_getElem hk,Option.bind_some,SL H hk ha,J6 hk,Km,List.length_set,ge_iff_le,N3]
 generalize loP e.1 e.2.1[k]=lo
 generalize hiP e.1 e.2.1[k] st=hi
 have hk':∀t:TX,k<(e.2.1.set k t).length:=fun t=>by simpa using hk
 obtain⟨f1,f2⟩:=MY (l:=e.2.1[k].2.2.2.2.2.2.2.1) (f:=N8 st) (Inv:=fun s i=>stOK s 0/\∀m∈e.2.1[k].2.2.2.2.2.2.2.1,HJ s m) (n0:=e.1)
  (B:=fun v=>Cb (k,st,k,(e.2.1[k].2.2.2.2.2.2.2.1.length:Int),ce,st',e.2.1.set k (e.2.1[k].1,e.2.1[k].2.1,2,e.2.1[k].2.2.2.1,lo,hi,st,e.2.1[k].2.2.2.2.2.2.2.1,e.2.1[k].2.2.2.2.2.2.2.2.1,()),e.2.2.1,e.2.2.2.1,()) v _ some)
  (fun i h s hI=>by
    obtain⟨_,hm,_⟩:=hrd i h
    obtain⟨a,j,l,v,h1,h2,h3,h4⟩:=A5x hI.1 (by omega) hm (hI.2 _ (List.getElem_mem h)) st
    have c:(0:Int)<=(i:Int)/\(i:Int)<(e.2.1[k].2.2.2.2.2.2.2.1.length:Int):=by omega
    unfold Cb
    simp only[decide_eq_true c.2,decide_true,cond_true,J6 hk,Option.bind_some,c,and_self,if_true,Nat.zero_add,Int.toNat_natCast,List.getElem?_eq_getElem h,h1,h2,h3,Ak h (by have:=hsm.1;omega),h4,Sb])
  (fun i h s hI=>⟨Sz st hI.1,fun m hm=>Qs st (hI.2 m hm)⟩)
  ⟨H.st.stOK,hx⟩
  (fun s=>by
    unfold Cb
    simp only[Int.lt_irrefl,decide_false,cond_false])
 erw [f1]
 simp only[Option.bind_some,J6 hk]
 obtain⟨g1,g2⟩:=MY (l:=e.2.1[k].2.2.2.2.2.2.2.2.1) (f:=Pv st e.2.1[k].1 hi) (Inv:=fun s i=>stOK s i) (n0:=e.2.1[k].2.2.2.2.2.2.2.1.foldl (N8 st) e.1)
  (B:=fun v=>Ca (k,st,k,(e.2.1[k].2.2.2.2.2.2.2.2.1.length:Int),ce,st',e.2.1.set k (e.2.1[k].1,e.2.1[k].2.1,2,e.2.1[k].2.2.2.1,lo,hi,st,e.2.1[k].2.2.2.2.2.2.2.1,e.2.1[k].2.2.2.2.2.2.2.2.1,()),e.2.2.1,e.2.2.2.1,()) v _ some)
  (fun i h s hI=>by
    obtain⟨a,l,v,h0,h5,h1,h2,h3,h4,h6⟩:=Abf hI (by omega) (hwr _ (List.getElem_mem h))
    have c:(0:Int)<=(i:Int)/\(i:Int)<(e.2.1[k].2.2.2.2.2.2.2.2.1.length:Int):=by omega
    have c3:(0:Int)<=(a:Int)/\(a:Int)<(s.length:Int):=by omega
    have c4:l.length+1<=879609302220:=by omega
    rw[h0]at h1
    unfold Ca Pv
    simp only[decide_eq_true c.2,decide_true,cond_true,J6 hk,Option.bind_some,c,and_self,if_true,Nat.zero_add,Int.toNat_natCast,List.getElem?_eq_getElem h,h0,h1,h2,h3,h6,Ak h (by have:=hsm.2;omega),oE,List.length_set,c3.1,c3.2,true_and,J6 h5,Km,List.length_append,List.length_cons,List.length_nil,c4,Nat.le_refl,Nat.zero_lt_one])
  (fun i h s hI=>Sy st _ hi hI)
  f2.1
  (fun s=>by
    unfold Ca
    simp only[Int.lt_irrefl,decide_false,cond_false])
 erw [g1]
 rfl
end Go.Ab
end
section
namespace Go.Ab
theorem Vc {e:EG}(H:OkG e){k:Nat}(hk:k<e.2.1.length)(ha:e.2.1[k].2.2.1=1)(ce:Bool):
 EX (k,J0 ce e)=some ((IU ce e k).1,J0 ce (IU ce e k).2):=by
 have hs:=H.small
 have hst0:=H.stamp0
 have hst1:=H.stamp
 have hkset:∀t,k<(e.2.1.set k t).length:=fun t=>by simpa using hk
 unfold EX IU J0
 simp only[List.getElem?_eq_getElem hk,Option.bind_some,yU H hk,bne]
 cases hc:(N0 e.1 e.2.1[k]==0)
 ·simp only[Bool.not_false,cond_true,Jm hk hs.fk hs.fw,Option.bind_some,JX,G9]
 ·simp only[Bool.not_true,cond_false]
  cases h9:(e.2.2.2.2==999)
  ·have hw:IntKind.i64.wrap (e.2.2.2.2+1)=e.2.2.2.2+1:=CQ (by omega) (by omega)
   simp only[cond_false,hw,SL H hk ha,Option.bind_some,ak H hk,Si H hk ha,Jm hk hs.fk hs.fw,SM (hkset _) hs.fk hs.fw]
   cases ce
   ·simp only[cond_false,Bool.false_and,Bool.false_or]
    cases O3 e.1 e.2.1[k]
    ·simp[JX,N3]
    ·simp only[cond_true,JX,G9,Option.bind_some]
   ·simp only[cond_true,Bool.true_and]
    cases decide (loP e.1 e.2.1[k]>=hiP e.1 e.2.1[k] (e.2.2.2.2+1))
    ·simp only[cond_false,Bool.false_or]
     cases O3 e.1 e.2.1[k]
     ·simp[JX,N3]
     ·simp only[cond_true,JX,G9,Option.bind_some]
    ·simp only[cond_true,Bool.true_or,JX,G9,Option.bind_some]
  ·simp only[cond_true]
theorem Y7 {id sc st:Int}(hid:inB id 1 9=true)(hsc:inB sc 1 4=true)(hst:inB st 0 999=true):Mf (N5 id sc st)=true:=by
 rw[Dc]
 refine⟨fun i hi=>absurd hi (Nat.not_lt_zero _),fun i hi=>absurd hi (Nat.not_lt_zero _),hid,hsc,hst,by show inB 1 1 3=true;decide,by show inB 0 0 999=true;decide,by show inB 1000 1 1000=true;decide,?_,by show inB 0 0 999=true;decide,Nat.zero_le _⟩
 show(1:Int)=2↔(0:Int)>0
 omega
theorem YE {e:EG}(H:OkG e)(id:Int):(e.2.1.any fun t=>t.1==id)=EY (fun t:TX=>t.1) e.2.1 id:=by
 rw[Bool.eq_iff_iff,Po H.txU,List.any_eq_true]
 simp only[beq_iff_eq]
theorem XU {e:EG}(H:OkG e){id sc:Int}(hid:inB id 1 9=true)(hsc:inB sc 1 4=true)(a b c d:Int)(ce:Bool):
 FI (a,id,sc,b,c,d,J0 ce e)=some ((Lq e id sc).1,ce,(Lq e id sc).2.2.2.2.2,(Lq e id sc).2.1,(Lq e id sc).2.2.2.1,(Lq e id sc).2.2.2.2.1,(Lq e id sc).2.2.1,()):=by
 have hs:=H.small
 have hst:inB e.2.2.2.2 0 999=true:=Bh.2 ⟨H.stamp0,H.stamp⟩
 have hT:okT id sc 1 e.2.2.2.2 0 1000 0 [] []=true:=Y7 hid hsc hst
 have hbs:AW (e.2.1,id,(),())=some (((e.2.1.takeWhile fun x=>decide (x.1<id)).length:Int),EY (fun x:TX=>x.1) e.2.1 id,()):=
  LN hs.fl id (p:=fun x=>decide (x.1<id)) (q:=fun x=>x.1==id) (R0 (f:=fun x:TX=>x.1) H.txU id) (fun x _=>by
   obtain⟨n,e1,e2,e3⟩:=A7a x.1 id
   exact⟨n,by simp only[DS,e1,Option.bind_some],e2,e3⟩)
 have h6:((e.2.1.length:Int)==6)=(e.2.1.length==6):=by rw[Bool.eq_iff_iff,beq_iff_eq,beq_iff_eq];omega
 unfold FI Lq J0
 simp only[hbs,Option.bind_some,YE H,h6]
 cases hh:EY (fun x:TX=>x.1) e.2.1 id
 ·simp only[cond_false,Bool.false_or]
  cases h7:(e.2.1.length==6)
  ·have hn:FE (id,sc,e.2.2.2.2,())=some (id,sc,1,e.2.2.2.2,0,1000,0,true,()):=by
    unfold FE
    simp only[mN (rd:=[]) (wr:=[]) (Nat.zero_le _) (Nat.zero_le _),hT,Option.bind_some,Bool.not_true,cond_false]
   simp only[cond_false,hn,Option.bind_some,Dt]
   erw [Ou (by have:=hs.fl;omega) _ _]
   rw[Mb (m:=N5 id sc e.2.2.2.2) hh]
   rfl
  ·simp only[cond_true]
 ·simp only[cond_true,Bool.true_or]
theorem zT {e:EG}(H:OkG e)(id:Int):(E7 e.2.1 id=true/\∃(k:Nat) (hk:k<e.2.1.length),e.2.1.findIdx? (fun t=>t.1==id)=some k/\e.2.1[k].2.2.1=1/\e.2.1[k].1=id)\/E7 e.2.1 id=false:=by
 cases h:E7 e.2.1 id with
 |false=>exact .inr rfl
 |true=>
  left
  refine⟨rfl,?_⟩
  obtain⟨t,ht,h1,h2⟩:=(Kx H.txU id).1 h
  obtain⟨k,hk,rfl⟩:=List.getElem_of_mem ht
  exact⟨k,hk,by rw[<-h1];exact n8 H.txU hk,h2,h1⟩
def Y2 (ce:Bool)(r:Int×List Int×EG):Int×Bool×Int×List (List VV)×List TX×List VM×List VM×List Int×Unit:=
 (r.1,ce,r.2.2.2.2.2.2,r.2.2.1,r.2.2.2.1,r.2.2.2.2.1,r.2.2.2.2.2.1,r.2.1,())
theorem RO (o:OPt):Mh o=true↔inB o.1 1 6=true/\inB o.2.1 1 9=true/\(bif o.1==1 then inB o.2.2.1 1 4 else o.2.2.1==0)=true/\(bif o.1==2||o.1==3||o.1==4 then inB o.2.2.2.1 0 5 else o.2.2.2.1==0)=true/\(bif o.1==4 then inB o.2.2.2.2.1 o.2.2.2.1 5 else o.2.2.2.2.1==0)=true/\(bif o.1==3 then inB o.2.2.2.2.2.1 (-1) 99 else o.2.2.2.2.2.1==0)=true:=by
 unfold Mh
 simp only[Bool.and_eq_true,and_assoc]
theorem ag {e:EG}(H:OkG e){o:OPt}(ho:Mh o=true)(ce:Bool):
 Gm (o.1,o.2.1,o.2.2.1,o.2.2.2.1,o.2.2.2.2.1,o.2.2.2.2.2.1,J0 ce e)=some (Y2 ce (NC ce e o)):=by
 have hs:=H.small
 obtain⟨o1,o2,o3,o4,o5,o6⟩:=(RO o).1 ho
 unfold Gm NC
 cases h1:(o.1==1)
 ·simp only[cond_false]
  have hact:=zT H o.2.1
  rcases hact with⟨ha,k,hk,hf,h2,h3⟩|ha
  ·have hw:=H.wake o.2.1
   have hc:(0:Int)<=(k:Int)/\(k:Int)<(e.2.1.length:Int):=by omega
   have hwk:=ae (l:=e.2.2.2.1) hs.fw o
   simp only[J0,Om hs.fl,ha,Bool.not_true,cond_false,cond_true,XR hs.fl,hf,fx,Option.bind_some,hc,and_self,if_true,PK hs.fw,Nat.zero_add,Int.toNat_natCast]
   erw [hwk]
   simp only[Option.bind_some]
   have hE:∀{e':EG},(ce,e'.2.2.2.2,e'.1,e'.2.1,e'.2.2.1,e'.2.2.2.1,())=J0 ce e':=rfl
   have kR:=RG hw (k:=k) hk h2 (lo:=o.2.2.2.1) (hi:=o.2.2.2.1) (ce:=ce)
   have kS:=RG hw (k:=k) hk h2 (lo:=o.2.2.2.1) (hi:=o.2.2.2.2.1) (ce:=ce)
   have kW:=fun h=>XK hw (k:=k) hk (key:=o.2.2.2.1) h o.2.2.2.2.2.1 ce
   have kC:=Vc hw (k:=k) hk h2 ce
   simp only[J0]at kR kS kW kC
   cases h4:(o.1==2)
   ·simp only[cond_false]
    cases h5:(o.1==4)
    ·simp only[cond_false]
     cases h6:(o.1==3)
     ·simp only[cond_false]
      cases h7:(o.1==5)
      ·simp only[cond_false,Jm (wt:=wkW e.2.2.2.1 o.2.1) hk hs.fk hw.small.fw,Option.bind_some,List.getElem?_eq_getElem hk,Y2,JX,G9]
      ·simp only[cond_true]
       erw [kC]
       simp only[Option.bind_some,Y2]
     ·simp only[h6,Bool.or_true,Bool.true_or,cond_true]at o4
      simp only[cond_true]
      erw [kW o4]
      simp only[Option.bind_some,Y2]
    ·simp only[h5,Bool.or_true,cond_true]at o4 o5
     rw[Bh]at o4 o5
     simp only[cond_true]
     erw [kS o4.1 (by omega) o5.2]
     simp only[Option.bind_some,Y2]
   ·simp only[h4,Bool.true_or,cond_true]at o4
    rw[Bh]at o4
    simp only[cond_true]
    erw [kR o4.1 (by omega) o4.2]
    have hn:(o.2.2.2.1-o.2.2.2.1+1).toNat=1:=by omega
    simp only[Option.bind_some,Y2,hn]
  ·simp only[J0,Om hs.fl,ha,Bool.not_false,cond_true,Option.bind_some,cond_false]
   cases e.2.1.findIdx? fun t=>t.1==o.2.1<;>rfl
 ·simp only[h1,cond_true]at o3
  simp only[cond_true,J0]
  have hb:=XU H o2 o3 o.1 o.2.2.2.1 o.2.2.2.2.1 o.2.2.2.2.2.1 ce
  simp only[J0]at hb
  rw[hb]
  rfl
end Go.Ab
end
section
namespace Go.Ab
theorem Adn (d:Int):(0==d)=(d==0):=by rw[Bool.eq_iff_iff,beq_iff_eq,beq_iff_eq];exact⟨fun h=>h.symm,fun h=>h.symm⟩
theorem A8x (a:Int):a=1\/a=2\/a=3\/a=4\/a=5\/a=6\/((a==1)=false/\(a==2)=false/\(a==3)=false/\(a==4)=false/\(a==5)=false/\(a==6)=false/\inB a 1 6=false):=by
 by_cases h1:a=1
 ·exact .inl h1
 by_cases h2:a=2
 ·exact .inr (.inl h2)
 by_cases h3:a=3
 ·exact .inr (.inr (.inl h3))
 by_cases h4:a=4
 ·exact .inr (.inr (.inr (.inl h4)))
 by_cases h5:a=5
 ·exact .inr (.inr (.inr (.inr (.inl h5))))
 by_cases h6:a=6
 ·exact .inr (.inr (.inr (.inr (.inr (.inl h6)))))
 refine .inr (.inr (.inr (.inr (.inr (.inr ⟨by simpa using h1,by simpa using h2,by simpa using h3,by simpa using h4,by simpa using h5,by simpa using h6,?_⟩)))))
 cases h:inB a 1 6 with
 |false=>rfl
 |true=>have:=Bh.1 h;omega
theorem ac (x:Int):G3 (x,())=some (inB x 1 4,()):=by simp[G3,IZ]
theorem yR (o:OPt):Ff (o,())=some (Mh o,()):=by
 obtain⟨a,b,c,d,f,g,u⟩:=o
 unfold Ff Mh
 simp only[ac,IZ,NM,PJ,Qg,Option.bind_some]
 generalize hb:inB b 1 9=b'
 generalize hd:inB d 0 5=d'
 generalize hg:inB g (-1) 99=g'
 generalize hf:inB f d 5=f'
 generalize hc:inB c 1 4=c'
 generalize (c==0)=c0
 generalize (d==0)=d0
 generalize (f==0)=f0
 generalize (g==0)=g0
 rcases A8x a with rfl|rfl|rfl|rfl|rfl|rfl|⟨h1,h2,h3,h4,h5,h6,h7⟩
 ·simp only[show inB 1 1 6=true from rfl,show((1:Int)==1)=true from rfl,show((1:Int)==2)=false from rfl,show((1:Int)==3)=false from rfl,show((1:Int)==4)=false from rfl,cond_true,cond_false,Bool.or_false]
  cases b'<;>cases c'<;>cases d0<;>cases f0<;>cases g0<;>rfl
 ·simp only[show inB 2 1 6=true from rfl,show((2:Int)==1)=false from rfl,show((2:Int)==2)=true from rfl,show((2:Int)==3)=false from rfl,show((2:Int)==4)=false from rfl,cond_true,cond_false,Bool.or_false]
  cases b'<;>cases c0<;>cases d'<;>cases f0<;>cases g0<;>rfl
 ·simp only[show inB 3 1 6=true from rfl,show((3:Int)==1)=false from rfl,show((3:Int)==2)=false from rfl,show((3:Int)==3)=true from rfl,show((3:Int)==4)=false from rfl,cond_true,cond_false,Bool.or_false]
  cases b'<;>cases c0<;>cases d'<;>cases f0<;>cases g'<;>rfl
 ·simp only[show inB 4 1 6=true from rfl,show((4:Int)==1)=false from rfl,show((4:Int)==2)=false from rfl,show((4:Int)==3)=false from rfl,show((4:Int)==4)=true from rfl,cond_true,cond_false,Bool.or_false]
  cases b'<;>cases c0<;>cases d'<;>cases f'<;>cases g0<;>rfl
 ·simp only[show inB 5 1 6=true from rfl,show((5:Int)==1)=false from rfl,show((5:Int)==2)=false from rfl,show((5:Int)==3)=false from rfl,show((5:Int)==4)=false from rfl,cond_true,cond_false,Bool.or_false]
  cases b'<;>cases c0<;>cases d0<;>cases f0<;>cases g0<;>rfl
 ·simp only[show inB 6 1 6=true from rfl,show((6:Int)==1)=false from rfl,show((6:Int)==2)=false from rfl,show((6:Int)==3)=false from rfl,show((6:Int)==4)=false from rfl,cond_true,cond_false,Bool.or_false]
  cases b'<;>cases c0<;>cases d0<;>cases f0<;>cases g0<;>rfl
 ·simp only[h1,h2,h3,h4,h7,cond_true,cond_false,Bool.false_and]
theorem XD (o:OPt):DX (o,())=some (Mh o,()):=by
 obtain⟨a,b,c,d,f,g,u⟩:=o
 unfold DX Mh
 simp only[Ed,Option.bind_some,beq_self_eq_true,Bool.true_and,Bool.and_true,Adn]
 have hd0:(d==0)=true->inB d 0 5=true:=fun h=>by rw[beq_iff_eq]at h;subst h;rfl
 have hg0:(g==0)=true->inB g (-1) 99=true:=fun h=>by rw[beq_iff_eq]at h;subst h;rfl
 generalize hb:inB b 1 9=b'
 generalize hd:inB d 0 5=d' at hd0
 generalize hg:inB g (-1) 99=g' at hg0
 generalize hf:inB f d 5=f'
 generalize hc:inB c 1 4=c'
 generalize (c==0)=c0
 generalize (d==0)=d0 at hd0
 generalize (f==0)=f0
 generalize (g==0)=g0 at hg0
 rcases A8x a with rfl|rfl|rfl|rfl|rfl|rfl|⟨h1,h2,h3,h4,h5,h6,h7⟩
 all_goals first
  |(simp only[h1,h2,h3,h4,h5,h6,h7,cond_true,cond_false,Bool.false_and];done)
  |(clear hb hd hg hf hc
    cases b'<;>cases c0<;>cases c'<;>cases d0<;>cases d'<;>cases f0<;>cases f'<;>cases g0<;>cases g'<;>first|rfl|(exact absurd (hd0 rfl) (by decide))|(exact absurd (hg0 rfl) (by decide)))
end Go.Ab
end
section
namespace Go.Ab
theorem slA {α:Type}{l:List α}{i:Nat}(h:i<=l.length):Js l 0 (i:Int)=some (l.take i):=by
 unfold Js
 rw[if_pos ⟨Int.le_refl _,by omega,by omega⟩]
 simp
theorem slB {α:Type}{l:List α}{i:Nat}(h:i<=l.length):Js l (i:Int) ((l.length:Nat):Int)=some (l.drop i):=by
 unfold Js
 rw[if_pos ⟨by omega,by omega,by omega⟩]
 simp only[Int.toNat_natCast]
 rw[List.take_of_length_le (by simp)]
theorem Acf {α:Type}{l:List α}{i:Nat}:D3 l (some (0,Int.toNat (i:Int)-Int.toNat 0))=l.take i:=by simp[D3]
theorem Ace {α:Type}{l:List α}{i:Nat}:D3 l (some (0+Int.toNat (i:Int),Int.toNat ((l.length:Nat):Int)-Int.toNat (i:Int)))=l.drop i:=by
 simp only[D3,Int.toNat_natCast,Nat.zero_add]
 exact List.take_of_length_le (by simp)
theorem oC {α:Type}{l:List α}{p:α->Bool}:∀{i:Nat} (h:i<l.length),(∀j (hj:j<l.length),j<i->p l[j]=true)->p l[i]=false->(l.takeWhile p).length=i:=by
 induction l with
 |nil=>intro i h;exact absurd h (Nat.not_lt_zero _)
 |cons a l ih=>
  intro i h h1 h2
  cases i with
  |zero=>
   have h2':p a=false:=h2
   simp[List.takeWhile_cons,h2']
  |succ i=>
   have h0:p a=true:=h1 0 (by simp) (by omega)
   rw[List.takeWhile_cons,h0]
   simp only[if_true,List.length_cons]
   rw[ih (i:=i) (by simpa using h) (fun j hj hji=>h1 (j+1) (by simp;omega) (by omega)) h2]
theorem NK {α τ:Type}{l:List α}{p:α->Bool}(hn:l.length<=1048576){B:Int×Unit->Option ((Int×Unit) ⊕ ((Int×Unit) ⊕ (Int×Unit)))}
 (hB:∀i (h:i<l.length),B ((i:Int),())=some (bif p l[i]then .inl (((i+1:Nat):Int),())else .inr (.inl ((i:Int),()))))(hE:B ((l.length:Int),())=some (.inr (.inr ((l.length:Int),()))))(F:Int×Unit->Option τ):
 ((Ay B (0,())).bind fun q=>Au q (fun q=>F q) fun q=>F q)=F ((((l.takeWhile p).length:Nat):Int),()):=by
 have key:∀m i:Nat,i+m=l.length->(∀j (hj:j<l.length),j<i->p l[j]=true)->((Ay B ((i:Int),())).bind fun q=>Au q (fun q=>F q) fun q=>F q)=F ((((l.takeWhile p).length:Nat):Int),()):=by
  intro m
  induction m with
  |zero=>
   intro i hi hp
   have:l.takeWhile p=l:=by
    rw[<-(Q6 (l:=l) (p:=p) (c:=l.length) (Nat.le_refl _) (fun k hk h=>hp k hk (by omega)) (fun k hk h=>by omega)).1,List.take_length]
   obtain rfl:i=l.length:=by omega
   rw[B6,hE,this];rfl
  |succ m ih=>
   intro i hi hp
   have h:i<l.length:=by omega
   rw[B6,hB i h]
   cases hq:p l[i]
   ·simp only[cond_false,Option.bind_some]
    rw[oC h hp hq];rfl
   ·simp only[cond_true,Option.bind_some]
    exact ih (i+1) (by omega) (fun j hj h2=>by
     by_cases e:j=i
     ·subst e;exact hq
     ·exact hp j hj (by omega))
 exact key l.length 0 (by omega) (by intro j hj h;omega)
theorem R1 {α:Type}{l:List α}{p:α->Bool}:l.take (l.takeWhile p).length=l.takeWhile p/\l.drop (l.takeWhile p).length=l.dropWhile p:=by
 have e:l.takeWhile p++l.dropWhile p=l:=List.takeWhile_append_dropWhile
 generalize l.takeWhile p=a at e ⊢
 generalize l.dropWhile p=b at e ⊢
 subst e
 simp
theorem VN {α:Type}{l:List α}{p:α->Bool}:(l.takeWhile p).length<=l.length:=by
 have e:=congrArg List.length (List.takeWhile_append_dropWhile (p:=p) (l:=l))
 rw[List.length_append]at e;omega
theorem RA {lk:List VM}(hl:lk.length<=1048576)(key:Int):F6 (lk,key,())=some (CU lk key,()):=by
 unfold F6 CU
 have e:=MW (B:=fun v=>Dr (lk,key,()) v _ some) (l:=lk) (fun i=>((i:Int),())) (fun m=>m.1==key) (fd:=fun i=>.inl (match lk[i]? with|some m=>m.2.1|none=>0,())) (no:=.inr ()) (fun i h=>by
  unfold Dr
  simp only[Aj h,Option.bind_some,decide_eq_true (by omega:(i:Int)<(lk.length:Int)),cond_true,Ak h (by omega),List.getElem?_eq_getElem h]
  cases lk[i].1==key<;>rfl) (by
  unfold Dr
  simp only[Int.lt_irrefl,decide_false,cond_false]) (t0:=(0,())) rfl
 erw [e]
 rw[O4]
 cases hf:lk.findIdx? (fun m=>m.1==key)with
 |none=>rfl
 |some i=>
  obtain⟨h1,_⟩:=List.findIdx?_eq_some_iff_getElem.1 hf
  simp only[Option.bind_some,Au,List.getElem?_eq_getElem h1]
theorem nH {wt:List VM}(hl:wt.length<=1048576)(x:Int):Kd (wt,x,())=some ((Vw wt x).getD 0,()):=by
 unfold Kd Vw
 have e:=MW (B:=fun v=>Fl (wt,x,()) v _ some) (l:=wt) (fun i=>((i:Int),())) (fun m=>m.1==x) (fd:=fun i=>.inl (match wt[i]? with|some m=>m.2.1|none=>0,())) (no:=.inr ()) (fun i h=>by
  unfold Fl
  simp only[Aj h,Option.bind_some,decide_eq_true (by omega:(i:Int)<(wt.length:Int)),cond_true,Ak h (by omega),List.getElem?_eq_getElem h]
  cases wt[i].1==x<;>rfl) (by
  unfold Fl
  simp only[Int.lt_irrefl,decide_false,cond_false]) (t0:=(0,())) rfl
 erw [e]
 rw[O4]
 cases hf:wt.findIdx? (fun m=>m.1==x)with
 |none=>rfl
 |some i=>
  obtain⟨h1,_⟩:=List.findIdx?_eq_some_iff_getElem.1 hf
  simp only[Option.bind_some,Au,List.getElem?_eq_getElem h1,Option.map_some,Option.getD_some]
theorem mY {α:Type}{f:α->Int}{l:List α}{t:Int}(h:(l.takeWhile fun x=>decide (f x<t)).length<l.length):EY f l t=(f l[(l.takeWhile fun x=>decide (f x<t)).length]==t):=by
 unfold EY HX
 have e:=(R1 (l:=l) (p:=fun x=>decide (f x<t))).2
 rw[List.drop_eq_getElem_cons h]at e
 rw[<-e]
theorem Yn {α:Type}{f:α->Int}{l:List α}{t:Int}(h:¬(l.takeWhile fun x=>decide (f x<t)).length<l.length):EY f l t=false:=by
 unfold EY HX
 have e:=(R1 (l:=l) (p:=fun x=>decide (f x<t))).2
 rw[List.drop_of_length_le (by omega)]at e
 rw[<-e]
theorem PF {α:Type}{f:α->Int}{l:List α}{m:α}{c:Nat}(hc:(l.takeWhile fun x=>decide (f x<f m)).length=c):
 CC f l m=bif EY f l (f m)then l.take c++[m]++l.drop (c+1)else l.take c++[m]++l.drop c:=by
 obtain⟨e1,e2⟩:=R1 (l:=l) (p:=fun x=>decide (f x<f m))
 rw[hc]at e1 e2
 cases hh:EY f l (f m)
 ·rw[Mb hh,<-e1,<-e2];simp
 ·obtain⟨x,h1,h2,h3⟩:=Ma hh
  rw[h3,hc]
  rw[hc]at h1
  obtain⟨h4,_⟩:=List.getElem?_eq_some_iff.1 h1
  rw[List.set_eq_take_append_cons_drop,if_pos h4];simp
theorem XC {wt:List VM}(hl:wt.length<=1048576)(hv:Np wt){a b:Int}(ha:inB a 1 9=true)(hb:inB b 1 9=true)(hab:a≠b):
 Im (wt,a,b,())=some (true,CC (·.1) wt (a,b,()),()):=by
 have hab':(a==b)=false:=by simpa using hab
 unfold Im
 simp only[KC hl,AD hv,Ed,ha,hb,hab',Option.bind_some,Bool.not_true,cond_false]
 refine(NK (l:=wt) (p:=fun x=>decide (x.1<a)) hl (fun i h=>?_) ?_ _).trans ?_
 ·unfold FW
  simp only[Aj h,Option.bind_some,decide_eq_true (by omega:(i:Int)<(wt.length:Int)),cond_true,Ak h (by omega)]
  cases decide (wt[i].1<a)<;>rfl
 ·unfold FW
  simp only[Int.lt_irrefl,decide_false,cond_false]
 ·have hle:=VN (l:=wt) (p:=fun x=>decide (x.1<a))
  generalize hc:(wt.takeWhile fun x=>decide (x.1<a)).length=c at hle
  rw[PF (m:=(a,b,())) hc]
  have q1:(wt.take c).length<=2199023255552:=by simp;omega
  have q2:(wt.take c++[(a,b,())]).length<=2199023255552:=by simp;omega
  have q3:(wt.take c++[(a,b,())]++wt.drop c).length<=2199023255552:=by simp;omega
  have q4:(wt.take c++[(a,b,())]++wt.drop (c+1)).length<=2199023255552:=by simp;omega
  simp only[slA hle,Option.bind_some,q1,q2,if_true]
  by_cases hlt:c<wt.length
  ·have hh:=mY (f:=fun x:VM=>x.1) (l:=wt) (t:=a) (by rw[hc];exact hlt)
   simp only[hc]at hh
   simp only[decide_eq_true (by omega:(c:Int)<(wt.length:Int)),cond_true,Aj hlt,Option.bind_some,Ak hlt (by omega),slB hle,slB (by omega:c+1<=wt.length),q3,q4,if_true,hh]
   cases wt[c].1==a<;>rfl
  ·have hh:=Yn (f:=fun x:VM=>x.1) (l:=wt) (t:=a) (by rw[hc];exact hlt)
   simp only[decide_eq_false (by omega:¬(c:Int)<(wt.length:Int)),cond_false,slB hle,Option.bind_some,q3,if_true,hh]
end Go.Ab
end
