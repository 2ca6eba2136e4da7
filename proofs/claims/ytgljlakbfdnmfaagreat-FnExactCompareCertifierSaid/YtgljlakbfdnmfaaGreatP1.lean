import Derived.Test.YtgljlakbfdnmfaaGreatSp3
set_option linter.all false
open Option renaming bind_some->zQk
open List renaming getElem?_eq_getElem->zQx,getElem_mem->zQz,length_append->zJk,getElem_of_mem->zJz,replicate->zKq,mem_cons_self->zKj,length_cons->zXk,mem_cons_of_mem->zKk,drop_eq_getElem_cons->zXx,getElem?_eq_some_iff->zQj,getD_eq_getElem?_getD->zKz
open Go.IntKind renaming i64->zXq
open Bool renaming and_eq_true->zJq,not_true->zXj
open Nat renaming le_refl->zQq
section
namespace Go.Ab
abbrev VM:=Int×Int×Unit
abbrev VV:=Int×Int×Int×Int×Int×Unit
theorem wr1 {k:Int}(h0:0<=k)(h:k<9223372036854775807):IntKind.wrap zXq (k+1)=k+1:=Bn (by omega) (by omega)
theorem Gz {σ ρ:Type}{B:σ->Option (σ ⊕ ρ)}{s0:σ}{r:ρ}(n:Nat)(st:Nat->σ)(h0:s0=st 0)(hstep:∀i,i<n->B (st i)=some (.inl (st (i+1))))(hend:B (st n)=some (.inr r)):Au B s0=some r:=by
 subst h0;exact Af4 st hstep hend
theorem Kd {σ ρ τ:Type}{B:σ->Option (σ ⊕ ρ)}{s0:σ}{k:ρ->Option τ}{q:Option τ}(n:Nat)(st:Nat->σ)(h0:s0=st 0)(hstep:∀i,i<n->B (st i)=some (.inl (st (i+1))))(hend:∃r,B (st n)=some (.inr r)/\k r=q):(Au B s0).bind k=q:=by
 obtain⟨r,h1,h2⟩:=hend
 rw[Gz n st h0 hstep h1];exact h2
def WE:Int->List (List VV)->Int
 |k,[]=>k
 |k,r::rs=>WE (k+5*r.length) rs
theorem Agf (k:Int)(xss:List (List VV)):k<=WE k xss:=by
 induction xss generalizing k with
 |nil=>exact Int.le_refl k
 |cons r rs ih=>have:=ih (k+5*r.length);simp only[WE];omega
end Go.Ab
end
section
namespace Go.Ab
theorem BL {ρ τ:Type}{B:Int×Unit->Option ((Int×Unit) ⊕ ρ)}{k:ρ->Option τ}{n:Nat}{c:Nat->Prop}{X no:Option τ}
 (hB:∀i,i<n->(c i->B ((i:Int),())=some (.inl (((i+1:Nat):Int),())))/\(¬c i->∃r,B ((i:Int),())=some (.inr r)/\k r=no))
 (hend:∃r,B ((n:Int),())=some (.inr r)/\k r=X):
 (Au B (0,())).bind k=bif dec (∀i,i<n->c i)then X else no:=by
 have key:∀m i:Nat,i+m=n->(Au B ((i:Int),())).bind k=bif dec (∀j,i<=j->j<n->c j)then X else no:=by
  intro m
  induction m with
  |zero=>
   intro i hi
   obtain rfl:i=n:=by omega
   obtain⟨r,h1,h2⟩:=hend
   rw[AF,h1,Ax (fun j h1 h2=>by omega)];exact h2
  |succ m ih=>
   intro i hi
   by_cases hc:c i
   ·rw[AF,(hB i (by omega)).1 hc]
    simp only[zQk]
    rw[ih (i+1) (by omega)]
    congr 1
    apply KC
    constructor
    ·intro h j h1 h2
     by_cases e:j=i
     ·rw[e];exact hc
     ·exact h j (by omega) h2
    ·intro h j h1 h2;exact h j (by omega) h2
   ·obtain⟨r,h1,h2⟩:=(hB i (by omega)).2 hc
    rw[AF,h1,AI (fun h=>hc (h i (zQq _) (by omega)))];exact h2
 have:=key n 0 (by omega)
 simp only[Int.natCast_zero,Nat.zero_le,true_implies]at this
 exact this
theorem GQ {σ α ρ τ:Type}{l:List α}{f:σ->α->σ}{B:σ×Int×Unit->Option ((σ×Int×Unit) ⊕ ρ)}{k:ρ->Option τ}{X:σ->Option τ}{q:Option τ}(n0:σ)(hB:∀(i:Nat) (h:i<l.length) (n:σ),B (n,(i:Int),())=some (.inl (f n l[i],((i+1:Nat):Int),())))
 (hend:∀n,∃r,B (n,(l.length:Int),())=some (.inr r)/\k r=X n)(hq:X (l.foldl f n0)=q):(Au B (n0,0,())).bind k=q:=by
 have key:∀m i:Nat,i+m=l.length->∀n,(Au B (n,(i:Int),())).bind k=X ((l.drop i).foldl f n):=by
  intro m
  induction m with
  |zero=>
   intro i hi n
   obtain rfl:i=l.length:=by omega
   obtain⟨r,h1,h2⟩:=hend n
   rw[AF,h1];simpa using h2
  |succ m ih=>
   intro i hi n
   have h:i<l.length:=by omega
   rw[AF,hB i h,zXx h]
   simp only[zQk]
   rw[ih (i+1) (by omega)];rfl
 have:=key l.length 0 (by omega) n0
 simpa[hq]using this
def IA (a:List VV):Prop:=a.length<=1048576
def G6 (a:List (List VV)):Prop:=a.length<=1048576/\∀e∈a,IA e
theorem DW (x lo hi:Int):Al (x,lo,hi,())=some (inB x lo hi,()):=by
 unfold Al inB
 by_cases h:lo<=x<;>simp[h]
theorem Ij (x lo hi:Int):BJ (x,lo,hi,())=some (inB x lo hi,()):=by
 unfold BJ inB
 by_cases h:lo<=x<;>simp[h]
theorem P3 (x:Int):DX (x,())=some (inB x 0 5,()):=by simp[DX,Ij]
theorem M9 (x:Int):BB (x,())=some (inB x 1 9,()):=by simp[BB,Ij]
theorem QU (x:Int):Hu (x,())=some (inB x (-1) 99,()):=by simp[Hu,Ij]
def okV (v:VV):Bool:=inB v.2.1 (-1) 99&&inB v.2.2.1 0 999&&inB v.2.2.2.1 v.2.2.1 999&&inB v.2.2.2.2.1 1 1000&&(bif v.2.2.1==0 then(bif v.1==0 then v.2.1==-1 else false)else inB v.1 1 9)
theorem qx (v:VV):Ej (v,())=some (okV v,()):=by
 unfold Ej okV
 simp only[DW,zQk]
 cases inB v.2.1 (-1) 99<;>cases inB v.2.2.1 0 999<;>cases inB v.2.2.2.1 v.2.2.1 999<;>cases inB v.2.2.2.2.1 1 1000<;>cases(v.2.2.1==0:Bool)<;>cases(v.1==0:Bool)<;>simp
theorem Aer (v:VV):G1 (v,())=some (okV v,()):=by
 unfold G1 okV
 simp only[Ij,QU,M9,zQk]
 cases inB v.2.1 (-1) 99<;>cases inB v.2.2.1 0 999<;>cases inB v.2.2.2.1 v.2.2.1 999<;>cases inB v.2.2.2.2.1 1 1000<;>cases(v.2.2.1==0:Bool)<;>cases(v.1==0:Bool)<;>simp
theorem dC {v:VV}(h:okV v=true):v.2.2.1<=v.2.2.2.1:=by
 unfold okV at h
 simp only[zJq]at h
 have:=h.1.1.2
 unfold inB at this
 simp only[zJq,decide_eq_true_eq]at this
 exact this.1
def okP (v w:VV):Prop:=v.2.2.1<w.2.2.1/\v.2.2.2.2.1<=w.2.2.1
def dF (l:List VV)(i:Nat):Prop:=∃h:i<l.length,okV l[i]=true/\∀h2:i+1<l.length,okP l[i] l[i+1]
def A71 (l:List VV)(i:Nat):Prop:=∃h:i<l.length,okV l[i]=true/\∀h2:0<i,okP (l[i-1]'(by omega)) l[i]
theorem ZP (l:List VV):(∀i,i<l.length->dF l i)↔∀i,i<l.length->A71 l i:=by
 constructor
 ·intro H i h
  obtain⟨_,h1,_⟩:=H i h
  refine⟨h,h1,fun h2=>?_⟩
  obtain⟨_,_,h4⟩:=H (i-1) (by omega)
  have:=h4 (by omega)
  simpa[show i-1+1=i by omega]using this
 ·intro H i h
  obtain⟨_,h1,_⟩:=H i h
  refine⟨h,h1,fun h2=>?_⟩
  obtain⟨_,_,h4⟩:=H (i+1) h2
  exact h4 (by omega)
def Ws (l:List VV):Option (Bool×Unit):=bif decide (((l.length:Nat):Int)>0)then(lAt l (zXq.wrap (((l.length:Nat):Int)-1))).bind fun e=>some ((e.2.2.2.2.1==1000),())else some (false,())
theorem A69 {l:List VV}(hl:IA l):D9 (l,())=bif dec (∀i,i<l.length->dF l i)then Ws l else some (false,()):=by
 unfold IA at hl
 unfold D9
 refine BL (n:=l.length) (c:=dF l) (fun i hi=>?_) ⟨.inr (.inr (.inr ())),?_,rfl⟩
 ·unfold DE
  simp only[Ai hi,zQk,qx]
  rw[decide_eq_true (by omega)]
  simp only[cond_true,zQk]
  cases hv:okV l[i]with
  |false=>
   refine⟨fun⟨_,h,_⟩=>?_,fun _=>⟨.inl (),rfl,rfl⟩⟩
   rw[hv]at h;cases h
  |true=>
   simp only[zXj,cond_false]
   rw[Ah hi (by omega)]
   by_cases h2:i+1<l.length
   ·rw[decide_eq_true (by omega),Ai h2]
    simp only[cond_true,zQk]
    by_cases p1:l[i].2.2.1>=l[i+1].2.2.1
    ·rw[decide_eq_true p1]
     refine⟨fun⟨_,_,h⟩=>?_,fun _=>⟨.inr (.inl ()),rfl,rfl⟩⟩
     exact(Int.not_lt.2 p1 (h h2).1).elim
    ·rw[decide_eq_false p1]
     simp only[cond_false]
     by_cases p2:l[i].2.2.2.2.1>l[i+1].2.2.1
     ·rw[decide_eq_true p2]
      refine⟨fun⟨_,_,h⟩=>?_,fun _=>⟨.inr (.inr (.inl ())),rfl,rfl⟩⟩
      exact(Int.not_le.2 p2 (h h2).2).elim
     ·rw[decide_eq_false p2]
      refine⟨fun _=>rfl,fun h=>absurd ⟨hi,hv,fun _=>⟨Int.not_le.1 p1,Int.not_lt.1 p2⟩⟩ h⟩
   ·rw[decide_eq_false (by omega)]
    refine⟨fun _=>rfl,fun h=>absurd ⟨hi,hv,fun h3=>absurd h3 h2⟩ h⟩
 ·unfold DE
  simp only
  rw[decide_eq_false (by omega)];rfl
theorem A6o {l:List VV}(hl:IA l):Fi (l,())=bif dec (∀i,i<l.length->dF l i)then Ws l else some (false,()):=by
 unfold IA at hl
 rw[KC (ZP l)]
 unfold Fi
 refine BL (n:=l.length) (c:=A71 l) (fun i hi=>?_) ⟨.inr (.inr (.inr ())),?_,rfl⟩
 ·unfold DI
  simp only[Ai hi,zQk,Aer]
  rw[decide_eq_true (by omega)]
  simp only[cond_true,zQk]
  cases hv:okV l[i]with
  |false=>
   refine⟨fun⟨_,h,_⟩=>?_,fun _=>⟨_,rfl,rfl⟩⟩
   rw[hv]at h;cases h
  |true=>
   simp only[zXj,cond_false]
   rw[Ah hi (by omega)]
   by_cases h2:0<i
   ·have hlt:i-1<l.length:=by omega
    rw[decide_eq_true (show(i:Int)>0 by omega),show zXq.wrap ((i:Int)-1)=((i-1:Nat):Int)from by rw[Bn (by omega) (by omega)];omega,Ai hlt]
    simp only[cond_true,zQk]
    by_cases p1:l[i-1].2.2.1>=l[i].2.2.1
    ·rw[decide_eq_true p1]
     refine⟨fun⟨_,_,h⟩=>?_,fun _=>⟨_,rfl,rfl⟩⟩
     exact(Int.not_lt.2 p1 (h h2).1).elim
    ·rw[decide_eq_false p1]
     simp only[cond_false]
     by_cases p2:l[i-1].2.2.2.2.1>l[i].2.2.1
     ·rw[decide_eq_true p2]
      refine⟨fun⟨_,_,h⟩=>?_,fun _=>⟨_,rfl,rfl⟩⟩
      exact(Int.not_le.2 p2 (h h2).2).elim
     ·rw[decide_eq_false p2]
      refine⟨fun _=>rfl,fun h=>absurd ⟨hi,hv,fun _=>⟨Int.not_le.1 p1,Int.not_lt.1 p2⟩⟩ h⟩
   ·rw[decide_eq_false (show ¬(i:Int)>0 by omega)]
    refine⟨fun _=>rfl,fun h=>absurd ⟨hi,hv,fun h3=>absurd h3 h2⟩ h⟩
 ·unfold DI
  simp only
  rw[decide_eq_false (by omega)];rfl
def LQ (l:List VV):Prop:=(∀i,i<l.length->dF l i)/\∃h:0<l.length,(l[l.length-1]'(by omega)).2.2.2.2.1=1000
theorem qB {l:List VV}(hl:IA l):(bif dec (∀i,i<l.length->dF l i)then Ws l else some (false,()))=some (dec (LQ l),()):=by
 unfold IA at hl
 by_cases h:∀i,i<l.length->dF l i
 ·rw[Ax h]
  unfold Ws
  simp only[cond_true]
  by_cases h0:0<l.length
  ·have hlt:l.length-1<l.length:=by omega
   rw[decide_eq_true (by omega),show zXq.wrap (((l.length:Nat):Int)-1)=((l.length-1:Nat):Int)from by rw[Bn (by omega) (by omega)];omega,Ai hlt]
   simp only[cond_true,zQk,R5]
   rw[A8d]
   congr 2
   apply KC
   exact⟨fun e=>⟨h,h0,e⟩,fun⟨_,_,e⟩=>e⟩
  ·rw[decide_eq_false (show ¬((l.length:Nat):Int)>0 by omega),AI (fun⟨_,h1,_⟩=>h0 h1)];rfl
 ·rw[AI h,AI (fun h1=>h h1.1)];rfl
theorem Wc {l:List VV}(hl:IA l):D9 (l,())=some (dec (LQ l),()):=(A69 hl).trans (qB hl)
theorem Aev {l:List VV}(hl:IA l):Fi (l,())=some (dec (LQ l),()):=(A6o hl).trans (qB hl)
def LD (s:List (List VV)):Prop:=s.length=6/\∀c∈s,LQ c/\c.length<=50
theorem N4 {s:List (List VV)}(hs:G6 s):BF ((s,()),())=some (dec (LD s),()):=by
 have hn:=hs.1
 have e:BF ((s,()),())=bif dec (∀i,i<s.length->(∃h:i<s.length,LQ s[i]/\s[i].length<=50))then some ((((s.length:Nat):Int)==6),())else some (false,()):=by
  unfold BF
  refine BL (n:=s.length) (fun i hi=>?_) ⟨.inr (.inr (.inr (.inr ()))),?_,rfl⟩
  ·unfold DD
   have hsm:=hs.2 _ (zQz hi)
   simp only[Ai hi,zQk,Wc hsm]
   rw[decide_eq_true (by omega)]
   simp only[cond_true]
   by_cases hc:LQ s[i]
   ·have h0:0<s[i].length:=hc.2.1
    rw[Ax hc,Ah hi (by omega),show lAt s[i] 0=some s[i][0]from Ai h0]
    simp only[zXj,cond_false,zQk]
    by_cases hl:s[i].length<=50
    ·refine⟨fun _=>?_,fun h=>absurd ⟨hi,hc,hl⟩ h⟩
     rw[decide_eq_false (show ¬((s[i].length:Nat):Int)>50 by omega)]
     cases decide ((s[i][0]).2.2.1>0)<;>rfl
    ·refine⟨fun⟨_,_,h⟩=>absurd h hl,fun _=>?_⟩
     rw[decide_eq_true (show((s[i].length:Nat):Int)>50 by omega)]
     cases decide ((s[i][0]).2.2.1>0)
     ·exact⟨.inr (.inr (.inr (.inl ()))),rfl,rfl⟩
     ·exact⟨.inr (.inl ()),rfl,rfl⟩
   ·rw[AI hc]
    exact⟨fun⟨_,h,_⟩=>absurd h hc,fun _=>⟨.inl (),rfl,rfl⟩⟩
  ·unfold DD
   simp only
   rw[decide_eq_false (by omega)];rfl
 rw[e]
 by_cases h:∀i,i<s.length->(∃h:i<s.length,LQ s[i]/\s[i].length<=50)
 ·rw[Ax h,R5,A8d]
  simp only[cond_true]
  congr 2
  apply KC
  constructor
  ·intro e
   refine⟨by omega,fun c hc=>?_⟩
   obtain⟨i,hi,rfl⟩:=zJz hc
   exact(h i hi).2
  ·rintro⟨e,_⟩;omega
 ·rw[AI h,AI (fun h1:LD s=>h fun i hi=>⟨hi,h1.2 _ (zQz hi)⟩)];rfl
theorem A5r {l:List VV}(hl:IA l):G2 (l,())=some (dec (¬(LQ l/\l.length<=50)),()):=by
 unfold G2
 simp only[Aev hl,zQk]
 by_cases h:LQ l
 ·by_cases h2:l.length<=50
  ·rw[Ax h,decide_eq_false (show ¬((l.length:Nat):Int)>50 by omega),AI (fun hh=>hh ⟨h,h2⟩)];rfl
  ·rw[Ax h,decide_eq_true (show((l.length:Nat):Int)>50 by omega),Ax (fun hh=>h2 hh.2)];rfl
 ·rw[AI h,Ax (fun hh=>h hh.1)];rfl
theorem MH {α ρ:Type}{l:List α}{p:α->Prop}(hn:l.length<=1048576){B:Int×Unit->Option ((Int×Unit) ⊕ ((Int×Unit) ⊕ Unit))}
 (hB:∀i (h:i<l.length),B ((i:Int),())=some (bif dec (p l[i])then .inr (.inl ((i:Int),()))else .inl (((i+1:Nat):Int),())))(hend:B ((l.length:Int),())=some (.inr (.inr ()))):
 ∃n:Int,((Au B (0,())).bind fun q=>Ap q (fun q=>some (q.1,())) fun _=>some (-1,()))=some (n,())/\((∃i:Nat,∃h:i<l.length,n=(i:Int)/\p l[i]/\∀j (hj:j<i),¬p (l[j]'(by omega)))\/(n=-1/\∀x∈l,¬p x)):=by
 have key:∀m i:Nat,i+m=l.length->(∀j (hj:j<l.length),j<i->¬p l[j])->∃n:Int,((Au B ((i:Int),())).bind fun q=>Ap q (fun q=>some (q.1,())) fun _=>some (-1,()))=some (n,())/\((∃i:Nat,∃h:i<l.length,n=(i:Int)/\p l[i]/\∀j (hj:j<i),¬p (l[j]'(by omega)))\/(n=-1/\∀x∈l,¬p x)):=by
  intro m
  induction m with
  |zero=>
   intro i hi hno
   obtain rfl:i=l.length:=by omega
   rw[AF,hend]
   refine⟨-1,rfl,.inr ⟨rfl,fun x hx=>?_⟩⟩
   obtain⟨j,hj,rfl⟩:=zJz hx
   exact hno j hj hj
  |succ m ih=>
   intro i hi hno
   have hlt:i<l.length:=by omega
   rw[AF,hB i hlt]
   by_cases hp:p l[i]
   ·rw[Ax hp]
    exact⟨(i:Int),rfl,.inl ⟨i,hlt,rfl,hp,fun j hj=>hno j (by omega) hj⟩⟩
   ·rw[AI hp]
    refine ih (i+1) (by omega) fun j hj h=>?_
    by_cases e:j=i
    ·subst e;exact hp
    ·exact hno j hj (by omega)
 exact key l.length 0 (by omega) (fun j hj h=>by omega)
theorem Aes {s:List (List VV)}(hs:G6 s):GZ ((s,()),())=some (dec (LD s),()):=by
 have hn:=hs.1
 unfold GZ Ct CQ
 obtain⟨n,e,h⟩:=MH (ρ:=Unit) (l:=s) (p:=fun c=>¬(LQ c/\c.length<=50)) hn (B:=fun v=>AQ (s,(),((s.length:Nat):Int),()) v _ some) (fun i hi=>by
  unfold AQ
  simp only[Ai hi,zQk,A5r (hs.2 _ (zQz hi))]
  rw[decide_eq_true (by omega),Ah hi (by omega)]
  simp only[cond_true]
  cases dec (¬(LQ s[i]/\s[i].length<=50))<;>rfl) (by
  unfold AQ
  simp only
  rw[decide_eq_false (by omega)];rfl)
 simp only[e,zQk,R5]
 by_cases h6:s.length=6
 ·rw[decide_eq_true (show((s.length:Nat):Int)=6 by omega)]
  simp only[cond_true]
  congr 2
  rcases h with⟨i,hi,rfl,hp,_⟩|⟨rfl,hp⟩
  ·rw[decide_eq_true (by omega),AI (fun hh:LD s=>hp (hh.2 _ (zQz hi)))];rfl
  ·rw[decide_eq_false (by omega),Ax (show LD s from⟨h6,fun c hc=>Classical.not_not.1 (hp c hc)⟩)];rfl
 ·rw[decide_eq_false (by omega),AI (fun hh:LD s=>h6 hh.1)];rfl
end Go.Ab
end
section
namespace Go.Ab
def Jv (n:Int)(l:List VV):Int:=l.foldl (fun n v=>mx n v.2.2.2.1) n
theorem dt {s:List (List VV)}(hs:G6 s):Fp ((s,()),())=some (s.foldl Jv 0,()):=by
 have hn:=hs.1
 unfold Fp
 refine GQ (l:=s) (f:=Jv) (X:=fun n=>some (n,())) 0 (fun i h n=>?_) (fun n=>⟨(n,()),?_,rfl⟩) rfl
 ·unfold CT
  have hsm:s[i].length<=1048576:=hs.2 _ (zQz h)
  simp only[Ai h,zQk]
  rw[decide_eq_true (by omega),Ah h (by omega)]
  simp only[cond_true]
  refine GQ (l:=s[i]) (f:=fun n v=>mx n v.2.2.2.1) (X:=fun n=>some (.inl (n,((i+1:Nat):Int),()))) n (fun j hj n=>?_) (fun n=>⟨(n,()),?_,rfl⟩) rfl
  ·unfold CS
   simp only[Ai hj,zQk]
   rw[decide_eq_true (by omega),Ah hj (by omega)];rfl
  ·unfold CS
   simp only
   rw[decide_eq_false (by omega)];rfl
 ·unfold CT
  simp only
  rw[decide_eq_false (by omega)];rfl
theorem U4 {α σ:Type}{f g:σ->α->σ}:(l:List α)->(∀x∈l,∀n,f n x=g n x)->∀n,l.foldl f n=l.foldl g n
 |[],_,_=>rfl
 |x::l,h,n=>by
  simp only[List.foldl_cons]
  rw[h x (by simp)]
  exact U4 l (fun y hy=>h y (by simp[hy])) _
theorem Ani {n a b:Int}(h:a<=b):mx (mx n a) b=mx n b:=by
 unfold mx;repeat' split
 all_goals omega
theorem Sw {s:List (List VV)}(hs:G6 s)(hok:LD s):Hk ((s,()),())=some (s.foldl Jv 0,()):=by
 have hn:=hs.1
 unfold Hk
 refine GQ (l:=s) (f:=Jv) (X:=fun n=>some (n,())) 0 (fun i h n=>?_) (fun n=>⟨.inr (n,()),?_,rfl⟩) rfl
 ·unfold EL
  have hsm:s[i].length<=1048576:=hs.2 _ (zQz h)
  simp only[N4 hs,Ax hok,zQk]
  rw[decide_eq_true (by omega),Ah h (by omega)]
  simp only[cond_true]
  have hc:=(hok.2 _ (zQz h)).1
  refine GQ (l:=s[i]) (f:=fun n v=>mx (mx n v.2.2.1) v.2.2.2.1) (X:=fun n=>some (.inl (n,((i+1:Nat):Int),()))) n (fun j hj n=>?_) (fun n=>⟨(n,()),?_,rfl⟩) ?_
  ·unfold EK
   simp only[Ai h,Ai hj,zQk]
   rw[decide_eq_true (by omega),Ah hj (by omega)];rfl
  ·unfold EK
   simp only[Ai h,zQk]
   rw[decide_eq_false (by omega)];rfl
  ·rw[U4 (g:=fun n (v:VV)=>mx n v.2.2.2.1) s[i] (fun v hv n=>?_) n]
   ·rfl
   ·obtain⟨k,hk,rfl⟩:=zJz hv
    obtain⟨_,h1,_⟩:=hc.1 k hk
    exact Ani (dC h1)
 ·unfold EL
  simp only
  rw[decide_eq_false (by omega)];rfl
noncomputable def vA (l:List VV)(stamp:Int):Nat->Int
 |0=>-1
 |k+1=>bif dec (∃h:k<l.length,l[k].2.2.1<=stamp)then(k:Int)else vA l stamp k
theorem RY (l:List VV)(stamp:Int):∀k,-1<=vA l stamp k/\vA l stamp k<k
 |0=>by simp[vA]
 |k+1=>by
  have:=RY l stamp k
  unfold vA
  cases dec (∃h:k<l.length,l[k].2.2.1<=stamp)<;>simp<;>omega
theorem A6b {l:List VV}(hl:IA l)(hok:LQ l)(stamp:Int):J9 (l,stamp,())=some (vA l stamp l.length,()):=by
 have hl':l.length<=1048576:=hl
 unfold J9
 refine Kd l.length (fun i=>(vA l stamp i,(i:Int),())) rfl (fun i hi=>?_) ⟨.inr (vA l stamp l.length,()),?_,rfl⟩
 ·unfold EJ
  simp only[Wc hl,Ax hok,Ai hi,zQk]
  rw[decide_eq_true (by omega),Ah hi (by omega)]
  simp only[cond_true]
  by_cases h:l[i].2.2.1<=stamp
  ·rw[decide_eq_true h]
   simp only[cond_true,vA]
   rw[Ax ⟨hi,h⟩];rfl
  ·rw[decide_eq_false h]
   simp only[cond_false,vA]
   rw[AI fun⟨_,h2⟩=>h h2];rfl
 ·unfold EJ
  simp only
  rw[decide_eq_false (by omega)];rfl
theorem A6q {l:List VV}(hl:IA l)(stamp:Int):Jk (l,stamp,())=some (vA l stamp l.length,()):=by
 have hl':l.length<=1048576:=hl
 unfold Jk
 have key:∀k:Nat,k<=l.length->((Au (fun v=>Dg (l,stamp,()) v _ some) ((k:Int)-1,())).bind fun p=>Ap p (fun p=>some (p.1,())) fun p=>some (p.1,()))=some (vA l stamp k,()):=by
  intro k
  induction k with
  |zero=>
   intro _
   rw[AF];unfold Dg
   rfl
  |succ k ih=>
   intro hk
   have hlt:k<l.length:=by omega
   rw[AF]
   have hB:Dg (l,stamp,()) (((k+1:Nat):Int)-1,()) _ some=some (bif decide (l[k].2.2.1<=stamp)then .inr (.inl ((k:Int),()))else .inl ((k:Int)-1,())):=by
    unfold Dg
    simp only[show((k+1:Nat):Int)-1=(k:Int) by omega,Ai hlt,zQk]
    rw[decide_eq_true (show(k:Int)>=0 by omega),Bn (by omega) (by omega)]
    by_cases h:l[k].2.2.1<=stamp
    ·rw[decide_eq_false (show ¬l[k].2.2.1>stamp from Int.not_lt.2 h),decide_eq_true h];rfl
    ·rw[decide_eq_true (show l[k].2.2.1>stamp from Int.not_le.1 h),decide_eq_false h];rfl
   rw[hB]
   by_cases h:l[k].2.2.1<=stamp
   ·rw[decide_eq_true h]
    simp only[cond_true,zQk,vA]
    rw[Ax ⟨hlt,h⟩];rfl
   ·rw[decide_eq_false h]
    simp only[cond_false,zQk,vA]
    rw[AI fun⟨_,h2⟩=>h h2];exact ih (by omega)
 simp only
 rw[Bn (by omega) (by omega)]
 exact key l.length (zQq _)
end Go.Ab
end
section
namespace Go.Ab
theorem SV {α:Type}{a:List α}{z:α}(ha:a.length<=1048576){B:Int×List α×Unit->Option ((Int×List α×Unit) ⊕ (List α×Unit))}
 (hB:∀(i:Nat) (h:i<a.length) (out:List α),out.length=a.length->B ((i:Int),out,())=some (.inl (((i+1:Nat):Int),out.set i a[i],())))(hend:∀out,B ((a.length:Int),out,())=some (.inr (out,()))):
 ((Au B (0,zKq a.length z,())).bind fun p=>some (p.1,()))=some (a,()):=by
 rw[Gz (r:=(a,())) a.length (fun i=>((i:Int),a.take i++zKq (a.length-i) z,()))]
 ·rfl
 ·simp
 ·intro i hi
  rw[hB i hi _ (by simp;omega)]
  congr 3
  congr 1
  apply List.ext_getElem
  ·simp;omega
  ·intro j h1 h2
   simp at h1 h2
   rw[List.getElem_set]
   by_cases he:i=j
   ·subst he
    simp only[if_true]
    rw[List.getElem_append_left (by simp;omega)]
    simp
   ·rw[if_neg he]
    by_cases hlt:j<i
    ·rw[List.getElem_append_left (by simp;omega),List.getElem_append_left (by simp;omega)];simp
    ·rw[List.getElem_append_right (by simp;omega),List.getElem_append_right (by simp;omega)];simp
 ·simp[hend]
theorem sY {α:Type}{Small:α->Prop}{F:α->Int->Option (Int×Unit)}{a:List α}(ha:a.length<=maxLen)(hF:∀e∈a,∀l,0<=l->l<=1048576->WN (Small e) (F e l)){B:Int×Int×Unit->Option ((Int×Int×Unit) ⊕ ((Int×Unit) ⊕ (Int×Unit)))}
 (hB:∀l i:Int,B (l,i,())=bif decide (i<((a.length:Nat):Int))then(lAt a i).bind fun e=>(F e l).bind fun r=>bif decide (r.1<0)then some (.inr (.inl (r.1,())))else some (.inl (r.1,zXq.wrap (i+1),()))else some (.inr (.inr (l,())))){l:Int}(h0:0<=l)(h1:l<=1048576):
 WN (a.length<=1048576/\∀e∈a,Small e) (bif decide (zXq.wrap (l-((a.length:Nat):Int))<0)then some (-1,())else(Au B (zXq.wrap (l-((a.length:Nat):Int)),0,())).bind fun q=>Ap q (fun _=>some (-1,())) fun b=>some (b.1,())):=by
 unfold maxLen at ha
 rw[Bn (by omega) (by omega)]
 by_cases h:l-(a.length:Int)<0
 ·rw[decide_eq_true h];exact⟨_,rfl,.inl (by omega)⟩
 rw[decide_eq_false h]
 have key:∀k i:Nat,i+k=a.length->∀l:Int,0<=l->l<=1048576->∃p,Au B (l,(i:Int),())=some p/\((∃n,p=.inl n)\/∃n,p=.inr (n,())/\0<=n/\n<=1048576/\∀e∈a.drop i,Small e):=by
  intro k
  induction k with
  |zero=>
   intro i hi l h0 h1
   rw[AF,hB,decide_eq_false (by omega)]
   exact⟨_,rfl,.inr ⟨l,rfl,h0,h1,fun e he=>by rw[List.drop_eq_nil_iff.2 (by omega)]at he;cases he⟩⟩
  |succ k ih=>
   intro i hi l h0 h1
   have hlt:i<a.length:=by omega
   rw[AF,hB,decide_eq_true (by omega),Ai hlt]
   obtain⟨n,e1,h2⟩:=hF a[i] (zQz hlt) l h0 h1
   simp only[cond_true,zQk,e1]
   rcases h2 with h2|⟨h2,h3,h4⟩
   ·rw[decide_eq_true h2];exact⟨_,rfl,.inl ⟨(n,()),rfl⟩⟩
   ·rw[decide_eq_false (show ¬n<0 by omega),Ah hlt (by omega)]
    obtain⟨p,e2,h5⟩:=ih (i+1) (by omega) n h2 h3
    refine⟨p,e2,h5.imp id ?_⟩
    rintro⟨m,rfl,h6,h7,h8⟩
    refine⟨m,rfl,h6,h7,fun e he=>?_⟩
    rw[zXx hlt]at he
    rcases List.mem_cons.1 he with rfl|he
    ·exact h4
    ·exact h8 e he
 obtain⟨p,e1,h2⟩:=key a.length 0 (by omega) (l-a.length) (by omega) (by omega)
 simp only[Int.natCast_zero]at e1
 have e1':Au B (l-(a.length:Int),0,())=some p:=e1
 rw[cond_false,e1']
 rcases h2 with⟨n,rfl⟩|⟨n,rfl,h3,h4,h5⟩
 ·exact⟨_,rfl,.inl (by omega)⟩
 ·exact⟨_,rfl,.inr ⟨h3,h4,by omega,by simpa using h5⟩⟩
theorem Age {a:List (List VV)}:∀(k:Int),(∀e∈a,e.length<=1048576)->WE k a<=k+5242880*a.length:=by
 induction a with
 |nil=>intro k _;simp[WE]
 |cons r rs ih=>
  intro k h
  have h1:=ih (k+5*r.length) (fun e he=>h e (zKk _ he))
  have h2:=h r (zKj ..)
  simp only[WE,zXk]
  push_cast
  omega
def aY (a:List (List VV)):Prop:=a.length<9223372036854775000/\WE 1 a<9223372036854775000
theorem G6.small {a:List (List VV)}(h:G6 a):aY a:=by
 have h1:=Age 1 h.2
 have h2:=h.1
 exact⟨by omega,by omega⟩
theorem A8a {a:List (List VV)}{r:List VV}(h:r∈a)(k:Int):k+5*r.length<=WE k a:=by
 induction a generalizing k with
 |nil=>cases h
 |cons s rs ih=>
  simp only[WE]
  rcases List.mem_cons.1 h with rfl|h
  ·exact Agf _ _
  ·have:=ih h (k+5*s.length);omega
theorem aY.row {a:List (List VV)}(h:aY a):∀r∈a,r.length<9223372036854775000:=fun r hr=>by
 have:=A8a hr 1;have:=h.2;omega
end Go.Ab
end
section
namespace Go.Ab
end Go.Ab
end
section
namespace Go.Ab
def CC (a b:VM):Prop:=a.1<b.1\/(a.1=b.1/\a.2.1<b.2.1)
instance (a b:VM):Decidable (CC a b):=by unfold CC;infer_instance
theorem ZI (a b:VM):Ia ((a.1,a.2.1,()),(b.1,b.2.1,()),())=some (decide (CC a b),()):=by
 unfold Ia CC
 by_cases h1:a.1<b.1
 ·simp[h1]
 ·by_cases h2:a.1=b.1
  ·simp[h2]
  ·have h3:(a.1==b.1)=false:=by simpa using h2
   simp[h1,h2,h3]
theorem ZG (a b:Int):Bs (a,b,())=some (if a<b then-1 else if a>b then 1 else 0,()):=by
 unfold Bs JL
 by_cases h1:a<b
 ·simp[h1]
 ·by_cases h2:a>b<;>simp[h1,h2]
theorem Ang (a b:Int):I7 ([a,b],())=some (if a≠0 then a else b,()):=by
 unfold I7
 have l0:lAt [a,b] 0=some a:=rfl
 have l1:lAt [a,b] 1=some b:=rfl
 have w0:zXq.wrap ((0:Int)+1)=1:=wr1 (by omega) (by omega)
 have w1:zXq.wrap ((1:Int)+1)=2:=wr1 (by omega) (by omega)
 have B0:CG (0,[a,b],2,()) (0,()) ((Int×Unit) ⊕ ((Int×Unit) ⊕ Unit)) some=some (bif a != 0 then .inr (.inl (a,()))else .inl (1,())):=by
  unfold CG
  simp only[l0,zQk,w0]
  cases(a != 0:Bool)<;>rfl
 have B1:CG (0,[a,b],2,()) (1,()) ((Int×Unit) ⊕ ((Int×Unit) ⊕ Unit)) some=some (bif b != 0 then .inr (.inl (b,()))else .inl (2,())):=by
  unfold CG
  simp only[l1,zQk,w1]
  cases(b != 0:Bool)<;>rfl
 have B2:CG (0,[a,b],2,()) (2,()) ((Int×Unit) ⊕ ((Int×Unit) ⊕ Unit)) some=some (.inr (.inr ())):=by
  unfold CG
  rfl
 have e:(((List.length [a,b]:Nat):Int))=2:=rfl
 simp only[e]
 rw[AF,B0]
 by_cases ha:a=0
 ·subst ha
  simp only[bne_self_eq_false,cond_false,zQk]
  rw[AF,B1]
  by_cases hb:b=0
  ·subst hb
   simp only[bne_self_eq_false,cond_false,zQk]
   rw[AF,B2];rfl
  ·have:(b != 0)=true:=by simpa using hb
   rw[this];simp[Ap]
 ·have:(a != 0)=true:=by simpa using ha
  rw[this];simp[Ap,ha]
theorem Om (a b:VM):∃n:Int,Ch ((a.1,a.2.1,()),(b.1,b.2.1,()),())=some (n,())/\(n>=0↔¬CC a b):=by
 unfold Ch
 simp only[ZG,Ang,zQk]
 refine⟨_,rfl,?_⟩
 unfold CC
 by_cases h1:a.1<b.1
 ·simp[h1]
 ·by_cases h2:a.1>b.1
  ·simp[h1,h2];omega
  ·have h3:a.1=b.1:=by omega
   simp[h3]
   by_cases h4:a.2.1<b.2.1
   ·simp[h4]
   ·by_cases h5:a.2.1>b.2.1<;>simp[h4,h5]<;>omega
def A9d (l:List VM)(i:Nat):Prop:=∃h:i<l.length,inB l[i].1 0 5=true/\inB l[i].2.1 0 999=true/\∀h2:0<i,CC (l[i-1]'(by omega)) l[i]
def A8w (l:List VM)(i:Nat):Prop:=∃h:i<l.length,inB l[i].1 0 5=true/\inB l[i].2.1 (-1) 99=true/\∀h2:0<i,(l[i-1]'(by omega)).1<l[i].1
def Oq (l:List VM):Prop:=∀i,i<l.length->A9d l i
def Rx (l:List VM):Prop:=∀i,i<l.length->A8w l i
theorem Ri {l:List VM}(hl:l.length<=1048576):Dt (l,())=some (dec (Oq l)&&decide (l.length<=60),()):=by
 have e:Dt (l,())=bif dec (Oq l)then some (decide (((l.length:Nat):Int)<=60),())else some (false,()):=by
  unfold Dt
  refine BL (n:=l.length) (c:=A9d l) (fun i hi=>?_) ⟨.inr (.inr (.inr ())),?_,rfl⟩
  ·unfold FC
   simp only[Ai hi,zQk,P3,Ij]
   rw[decide_eq_true (by omega)]
   simp only[cond_true]
   cases h1:inB l[i].1 0 5 with
   |false=>exact⟨fun⟨_,h,_⟩=>(by rw[h1]at h;cases h),fun _=>⟨.inl _,rfl,rfl⟩⟩
   |true=>
    simp only[zXj,cond_false]
    cases h2:inB l[i].2.1 0 999 with
    |false=>exact⟨fun⟨_,_,h,_⟩=>(by rw[h2]at h;cases h),fun _=>⟨.inr (.inl _),rfl,rfl⟩⟩
    |true=>
     simp only[zXj,cond_false]
     rw[Ah hi (by omega)]
     by_cases h3:0<i
     ·have hlt:i-1<l.length:=by omega
      rw[decide_eq_true (show(i:Int)>0 by omega),show zXq.wrap ((i:Int)-1)=((i-1:Nat):Int)from by rw[Bn (by omega) (by omega)];omega,Ai hlt]
      obtain⟨n,e1,e2⟩:=Om l[i-1] l[i]
      simp only[cond_true,zQk,e1]
      by_cases hb:CC l[i-1] l[i]
      ·rw[decide_eq_false (fun h=>e2.1 h hb)]
       exact⟨fun _=>rfl,fun h=>absurd ⟨hi,h1,h2,fun _=>hb⟩ h⟩
      ·rw[decide_eq_true (e2.2 hb)]
       exact⟨fun⟨_,_,_,h⟩=>absurd (h h3) hb,fun _=>⟨.inr (.inr (.inl _)),rfl,rfl⟩⟩
     ·rw[decide_eq_false (show ¬(i:Int)>0 by omega)]
      exact⟨fun _=>rfl,fun h=>absurd ⟨hi,h1,h2,fun h=>absurd h h3⟩ h⟩
  ·unfold FC
   simp only
   rw[decide_eq_false (by omega)];rfl
 rw[e]
 have d:decide (((l.length:Nat):Int)<=60)=decide (l.length<=60):=decide_eq_decide.2 (by omega)
 rw[d]
 cases dec (Oq l)<;>simp
theorem Qo {l:List VM}(hl:l.length<=1048576):D3 (l,())=some (dec (Rx l),()):=by
 have e:D3 (l,())=bif dec (Rx l)then some (true,())else some (false,()):=by
  unfold D3
  refine BL (n:=l.length) (c:=A8w l) (fun i hi=>?_) ⟨.inr (.inr (.inr ())),?_,rfl⟩
  ·unfold EX
   simp only[Ai hi,zQk,P3,QU]
   rw[decide_eq_true (by omega)]
   simp only[cond_true]
   cases h1:inB l[i].1 0 5 with
   |false=>exact⟨fun⟨_,h,_⟩=>(by rw[h1]at h;cases h),fun _=>⟨.inl _,rfl,rfl⟩⟩
   |true=>
    simp only[zXj,cond_false]
    cases h2:inB l[i].2.1 (-1) 99 with
    |false=>exact⟨fun⟨_,_,h,_⟩=>(by rw[h2]at h;cases h),fun _=>⟨.inr (.inl _),rfl,rfl⟩⟩
    |true=>
     simp only[zXj,cond_false]
     rw[Ah hi (by omega)]
     by_cases h3:0<i
     ·have hlt:i-1<l.length:=by omega
      rw[decide_eq_true (show(i:Int)>0 by omega),show zXq.wrap ((i:Int)-1)=((i-1:Nat):Int)from by rw[Bn (by omega) (by omega)];omega,Ai hlt]
      simp only[cond_true,zQk]
      by_cases hb:l[i-1].1<l[i].1
      ·rw[decide_eq_false (by omega)]
       exact⟨fun _=>rfl,fun h=>absurd ⟨hi,h1,h2,fun _=>hb⟩ h⟩
      ·rw[decide_eq_true (by omega)]
       exact⟨fun⟨_,_,_,h⟩=>absurd (h h3) hb,fun _=>⟨.inr (.inr (.inl _)),rfl,rfl⟩⟩
     ·rw[decide_eq_false (show ¬(i:Int)>0 by omega)]
      exact⟨fun _=>rfl,fun h=>absurd ⟨hi,h1,h2,fun h=>absurd h h3⟩ h⟩
  ·unfold EX
   simp only
   rw[decide_eq_false (by omega)];rfl
 rw[e]
 cases dec (Rx l)<;>rfl
noncomputable def okT (id sc st be lo hi co:Int)(rd wr:List VM):Bool:=
 dec (Oq rd)&&dec (Rx wr)&&inB id 1 9&&inB sc 1 4&&inB be 0 999&&inB st 1 3&&inB lo 0 999&&inB hi 1 1000&&((st==2)==decide (co>0))&&inB co 0 999&&decide (rd.length<=60)
theorem Qn {id sc st be lo hi co:Int}{rd wr:List VM}(hr:rd.length<=1048576)(hw:wr.length<=1048576):AR ((id,sc,st,be,lo,hi,co,rd,wr,()),())=some (okT id sc st be lo hi co rd wr,()):=by
 unfold AR
 simp only
 refine(BL (n:=rd.length) (c:=A9d rd) (no:=some (false,())) (X:=bif dec (Rx wr)then some (inB id 1 9&&inB sc 1 4&&inB be 0 999&&inB st 1 3&&inB lo 0 999&&inB hi 1 1000&&((st==2)==decide (co>0))&&inB co 0 999&&decide (rd.length<=60),())else some (false,())) (fun i hi'=>?_) ⟨.inr (.inr (.inr ())),?_,?_⟩).trans ?_
 ·unfold Cj
  simp only[Ai hi',zQk,DW]
  rw[decide_eq_true (by omega)]
  simp only[cond_true]
  cases h1:inB rd[i].1 0 5 with
  |false=>exact⟨fun⟨_,h,_⟩=>(by rw[h1]at h;cases h),fun _=>⟨.inl _,rfl,rfl⟩⟩
  |true=>
   simp only[zXj,cond_false]
   cases h2:inB rd[i].2.1 0 999 with
   |false=>exact⟨fun⟨_,_,h,_⟩=>(by rw[h2]at h;cases h),fun _=>⟨.inr (.inl _),rfl,rfl⟩⟩
   |true=>
    simp only[zXj,cond_false]
    rw[Ah hi' (by omega)]
    by_cases h3:0<i
    ·have hlt:i-1<rd.length:=by omega
     rw[decide_eq_true (show(i:Int)>0 by omega),show zXq.wrap ((i:Int)-1)=((i-1:Nat):Int)from by rw[Bn (by omega) (by omega)];omega,Ai hlt]
     simp only[cond_true,zQk,ZI]
     by_cases hb:CC rd[i-1] rd[i]
     ·rw[decide_eq_true hb]
      exact⟨fun _=>rfl,fun h=>absurd ⟨hi',h1,h2,fun _=>hb⟩ h⟩
     ·rw[decide_eq_false hb]
      exact⟨fun⟨_,_,_,h⟩=>absurd (h h3) hb,fun _=>⟨.inr (.inr (.inl _)),rfl,rfl⟩⟩
    ·rw[decide_eq_false (show ¬(i:Int)>0 by omega)]
     exact⟨fun _=>rfl,fun h=>absurd ⟨hi',h1,h2,fun h=>absurd h h3⟩ h⟩
 ·unfold Cj
  simp only
  rw[decide_eq_false (by omega)];rfl
 ·refine BL (n:=wr.length) (c:=A8w wr) (fun i hi'=>?_) ⟨.inr (.inr (.inr ())),?_,?_⟩
  ·unfold Ci
   simp only[Ai hi',zQk,DW]
   rw[decide_eq_true (by omega)]
   simp only[cond_true]
   cases h1:inB wr[i].1 0 5 with
   |false=>exact⟨fun⟨_,h,_⟩=>(by rw[h1]at h;cases h),fun _=>⟨.inl _,rfl,rfl⟩⟩
   |true=>
    simp only[zXj,cond_false]
    cases h2:inB wr[i].2.1 (-1) 99 with
    |false=>exact⟨fun⟨_,_,h,_⟩=>(by rw[h2]at h;cases h),fun _=>⟨.inr (.inl _),rfl,rfl⟩⟩
    |true=>
     simp only[zXj,cond_false]
     rw[Ah hi' (by omega)]
     by_cases h3:0<i
     ·have hlt:i-1<wr.length:=by omega
      rw[decide_eq_true (show(i:Int)>0 by omega),show zXq.wrap ((i:Int)-1)=((i-1:Nat):Int)from by rw[Bn (by omega) (by omega)];omega,Ai hlt]
      simp only[cond_true,zQk]
      by_cases hb:wr[i-1].1<wr[i].1
      ·rw[decide_eq_false (by omega)]
       exact⟨fun _=>rfl,fun h=>absurd ⟨hi',h1,h2,fun _=>hb⟩ h⟩
      ·rw[decide_eq_true (by omega)]
       exact⟨fun⟨_,_,_,h⟩=>absurd (h h3) hb,fun _=>⟨.inr (.inr (.inl _)),rfl,rfl⟩⟩
     ·rw[decide_eq_false (show ¬(i:Int)>0 by omega)]
      exact⟨fun _=>rfl,fun h=>absurd ⟨hi',h1,h2,fun h=>absurd h h3⟩ h⟩
  ·unfold Ci
   simp only
   rw[decide_eq_false (by omega)];rfl
  ·simp only[Ap,DW,zQk]
   have d:decide (((rd.length:Nat):Int)<=60)=decide (rd.length<=60):=decide_eq_decide.2 (by omega)
   rw[d]
   cases inB id 1 9<;>cases inB sc 1 4<;>cases inB be 0 999<;>cases inB st 1 3<;>cases inB lo 0 999<;>cases inB hi 1 1000<;>cases((st==2)==decide (co>0):Bool)<;>cases inB co 0 999<;>rfl
 ·unfold okT
  show(bif dec (Oq rd)then _ else _)=_
  cases dec (Oq rd)<;>cases dec (Rx wr)<;>simp
end Go.Ab
end
section
namespace Go.Ab
theorem WJ {α:Type}{a:List α}(ha:a.length<=1048576){B:Int×List α×Unit->Option ((Int×List α×Unit) ⊕ (List α×Unit))}
 (hB:∀(i:Nat) (h:i<a.length) (out:List α),out.length=i->B ((i:Int),out,())=some (.inl (((i+1:Nat):Int),out++[a[i]],())))(hend:∀out,B ((a.length:Int),out,())=some (.inr (out,()))):
 ((Au B (0,[],())).bind fun p=>some (p.1,()))=some (a,()):=by
 rw[Gz (r:=(a,())) a.length (fun i=>((i:Int),a.take i,()))]
 ·rfl
 ·simp
 ·intro i hi
  rw[hB i hi _ (by simp;omega)]
  have e:a.take i++[a[i]]=a.take (i+1):=by rw[List.take_append_getElem hi]
  rw[e]
 ·simp[hend]
theorem SB {s:List (List VV)}(hs:G6 s):Jy ((s,()),())=some (s,()):=by
 have hn:=hs.1
 unfold Jy
 refine WJ hn (fun i h out ho=>?_) fun out=>?_
 ·have hsm:s[i].length<=1048576:=hs.2 _ (zQz h)
  unfold Hb M0
  simp only[Ai h,zQk]
  rw[decide_eq_true (by omega),if_pos (by omega)]
  simp only[cond_true,zQk,zJk,zXk,List.length_nil]
  rw[if_pos (by omega),Ah h (by omega)]
 ·unfold Hb
  simp only
  rw[decide_eq_false (by omega)];rfl
theorem A5s {id sc st be lo hi co:Int}{rd wr:List VM}(hr:rd.length<=1048576)(hw:wr.length<=1048576):Ft ((id,sc,st,be,lo,hi,co,rd,wr,()),())=some (id,sc,st,be,lo,hi,co,rd,wr,()):=by
 unfold Ft
 simp only
 rw[if_pos (by omega),if_pos (by omega)]
def fvI (l:List VV)(c:Int):Option Nat:=(l.map (fun v=>v.2.2.1)).findIdx? (fun x=>x==c)
def fx:Option Nat->Int|some i=>(i:Int)|none=>-1
theorem A8e (b:Bool):dec (b=true)=b:=by
 cases b
 ·exact AI (by simp)
 ·exact Ax rfl
theorem DK {α:Type}{l:List α}{p:α->Bool}(hn:l.length<=1048576){B:Int×Unit->Option ((Int×Unit) ⊕ ((Int×Unit) ⊕ Unit))}
 (hB:∀i (h:i<l.length),B ((i:Int),())=some (bif p l[i]then .inr (.inl ((i:Int),()))else .inl (((i+1:Nat):Int),())))(hend:B ((l.length:Int),())=some (.inr (.inr ()))):
 ((Au B (0,())).bind fun q=>Ap q (fun q=>some (q.1,())) fun _=>some (-1,()))=some (fx (l.findIdx? p),()):=by
 obtain⟨n,e,h⟩:=MH (ρ:=Unit) (l:=l) (p:=fun x=>p x=true) hn (B:=B) (fun i h=>by rw[hB i h,A8e]) hend
 rw[e]
 rcases h with⟨i,hi,rfl,hp,hq⟩|⟨rfl,hq⟩
 ·have:l.findIdx? p=some i:=List.findIdx?_eq_some_iff_getElem.2 ⟨hi,hp,fun j hj=>by simpa using hq j hj⟩
  rw[this];rfl
 ·have:l.findIdx? p=none:=List.findIdx?_eq_none_iff.2 fun x hx=>by simpa using hq x hx
  rw[this];rfl
theorem Sy {l:List VV}(hl:l.length<=1048576)(c:Int):Ev (l,c,())=some (fx (fvI l c),()):=by
 unfold Ev fvI
 rw[List.findIdx?_map]
 refine DK hl (fun i h=>?_) ?_
 ·unfold E9
  simp only[Ai h,zQk]
  rw[decide_eq_true (by omega),Ah h (by omega)]
  simp only[cond_true,Function.comp]
  cases(l[i].2.2.1==c:Bool)<;>rfl
 ·unfold E9
  simp only
  rw[decide_eq_false (by omega)];rfl
theorem SF {l:List VV}(hl:l.length<=1048576)(c:Int):FV (l,c,())=some (fx (fvI l c),()):=by
 unfold FV CX fvI
 rw[List.findIdx?_map]
 have:=DK hl (p:=(fun x=>x==c)∘fun v:VV=>v.2.2.1) (B:=fun v=>AU (l,(some c,()),((l.length:Nat):Int),()) v _ some) (fun i h=>by
  unfold AU J3
  simp only[Ai h,zQk]
  rw[decide_eq_true (by omega),Ah h (by omega)]
  simp only[cond_true,Function.comp]
  cases(l[i].2.2.1==c:Bool)<;>rfl) (by
  unfold AU
  simp only
  rw[decide_eq_false (by omega)];rfl)
 simp only[this,zQk]
theorem R3 {l:List VV}{c:Int}{j:Nat}(h:fvI l c=some j):j<l.length:=by
 unfold fvI at h
 obtain⟨h1,_⟩:=List.findIdx?_eq_some_iff_getElem.1 h
 simpa using h1
theorem dS (o:Option Nat):decide (fx o<0)=o.isNone:=by
 cases o with
 |none=>rfl
 |some i=>exact decide_eq_false (by simp only[fx];omega)
def Ki (s:List (List VV))(m:VM):Option (List VV):=s[m.1.toNat]?
def I6 (s:List (List VV))(m:VM):Prop:=∃l j,Ki s m=some l/\fvI l m.2.1=some j
theorem KV {s:List (List VV)}{m:VM}(h6:s.length=6)(hm:inB m.1 0 5=true):∃k:Nat,m.1=(k:Int)/\k<s.length/\∃l,s[k]? =some l/\lAt s m.1=some l/\Ki s m=some l/\l∈s:=by
 unfold inB at hm
 simp only[zJq,decide_eq_true_eq]at hm
 obtain⟨k,hk⟩:=Int.eq_ofNat_of_zero_le hm.1
 have hlt:k<s.length:=by omega
 refine⟨k,hk,hlt,s[k],by simp[hlt],by rw[hk];exact Ai hlt,?_,zQz hlt⟩
 unfold Ki
 rw[hk];simp[hlt]
theorem Sz {s:List (List VV)}(hs:G6 s)(hok:LD s){id sc st be lo hi co:Int}{rd wr:List VM}(hr:rd.length<=1048576)(hw:wr.length<=1048576)(hT:okT id sc st be lo hi co rd wr=true)(hrd:Oq rd):
 DP ((s,()),(id,sc,st,be,lo,hi,co,rd,wr,()),())=some (dec (∀m∈rd,I6 s m),()):=by
 unfold DP
 simp only[N4 hs,Ax hok,Qn hr hw,hT,zQk,zXj,cond_false]
 refine(BL (n:=rd.length) (c:=fun i=>∃h:i<rd.length,I6 s rd[i]) (X:=some (true,())) (no:=some (false,())) (fun i hi'=>?_) ⟨.inr (),?_,rfl⟩).trans ?_
 ·obtain⟨_,h1,_⟩:=hrd i hi'
  obtain⟨k,hk,hlt,l,e1,e2,e3,hm⟩:=KV hok.1 h1
  unfold Et
  simp only[Ai hi',zQk,e2,Sy (hs.2 _ hm),dS]
  rw[decide_eq_true (by omega),Ah hi' (by omega)]
  simp only[cond_true]
  cases hf:fvI l rd[i].2.1 with
  |none=>
   refine⟨fun⟨_,l',j,h2,h3⟩=>?_,fun _=>⟨.inl (),rfl,rfl⟩⟩
   rw[e3]at h2;obtain rfl:l=l':=by simpa using h2
   rw[hf]at h3;cases h3
  |some j=>exact⟨fun _=>rfl,fun h=>absurd ⟨hi',l,j,e3,hf⟩ h⟩
 ·unfold Et
  simp only
  rw[decide_eq_false (by omega)];rfl
 ·rw[KC (q:=∀m∈rd,I6 s m)]
  ·cases dec (∀m∈rd,I6 s m)<;>rfl
  ·constructor
   ·intro h m hm
    obtain⟨i,hi',rfl⟩:=zJz hm
    exact(h i hi').2
   ·intro h i hi';exact⟨hi',h _ (zQz hi')⟩
theorem dw {s:List (List VV)}(hs:G6 s)(h6:s.length=6){m:VM}(hm:inB m.1 0 5=true):∃o:Option VV,E3 ((s,()),(m.1,m.2.1,()),())=some (o,())/\(o.isNone=false↔I6 s m):=by
 obtain⟨k,hk,hlt,l,e1,e2,e3,hl⟩:=KV h6 hm
 unfold E3
 simp only[e2,zQk,SF (hs.2 _ hl),dS]
 cases hf:fvI l m.2.1 with
 |none=>
  refine⟨none,rfl,by simp,fun⟨l',j,h2,h3⟩=>?_⟩
  rw[e3]at h2;obtain rfl:l=l':=by simpa using h2
  rw[hf]at h3;cases h3
 |some j=>
  have hj:=R3 hf
  refine⟨some l[j],?_,fun _=>⟨l,j,e3,hf⟩,fun _=>rfl⟩
  simp only[Option.isNone_some,cond_false,fx]
  rw[Ai hj];rfl
theorem A6m {s:List (List VV)}(hs:G6 s)(h6:s.length=6){rd:List VM}(hr:rd.length<=1048576)(hrd:Oq rd):
 DH ((s,()),rd,())=some (dec (∀m∈rd,I6 s m),()):=by
 unfold DH BZ Ck
 obtain⟨n,e,h⟩:=MH (ρ:=Unit) (l:=rd) (p:=fun m=>¬I6 s m) hr (B:=fun v=>AJ (rd,(some (s,()),()),((rd.length:Nat):Int),()) v _ some) (fun i hi=>by
  obtain⟨_,h1,_⟩:=hrd i hi
  obtain⟨o,e1,e2⟩:=dw hs h6 h1
  unfold AJ Gc
  simp only[Ai hi,zQk,e1]
  rw[decide_eq_true (by omega),Ah hi (by omega)]
  simp only[cond_true]
  cases ho:o.isNone with
  |true=>rw[Ax (fun hh=>by rw[e2.2 hh]at ho;cases ho)];rfl
  |false=>rw[AI (fun hh=>hh (e2.1 ho))];rfl) (by
  unfold AJ
  simp only
  rw[decide_eq_false (by omega)];rfl)
 simp only[e,zQk]
 rcases h with⟨i,hi,rfl,hp,_⟩|⟨rfl,hp⟩
 ·rw[decide_eq_true (by omega),AI (fun hh=>hp (hh _ (zQz hi)))];rfl
 ·rw[decide_eq_false (by omega),Ax (fun m hm=>Classical.not_not.1 (hp m hm))];rfl
end Go.Ab
end
section
namespace Go.Ab
theorem Nk {σ α:Type}{l:List α}{f:σ->α->σ}{Inv:σ->Nat->Prop}{n0:σ}{B:Int×σ×Unit->Option ((Int×σ×Unit) ⊕ (σ×Unit))}
 (hB:∀(i:Nat) (h:i<l.length) (n:σ),Inv n i->B ((i:Int),n,())=some (.inl (((i+1:Nat):Int),f n l[i],())))(hI:∀(i:Nat) (h:i<l.length) n,Inv n i->Inv (f n l[i]) (i+1))(h0:Inv n0 0)
 (hend:∀n,B ((l.length:Int),n,())=some (.inr (n,()))):Au B (0,n0,())=some (l.foldl f n0,())/\Inv (l.foldl f n0) l.length:=by
 have key:∀m i:Nat,i+m=l.length->∀n,Inv n i->Au B ((i:Int),n,())=some ((l.drop i).foldl f n,())/\Inv ((l.drop i).foldl f n) l.length:=by
  intro m
  induction m with
  |zero=>
   intro i hi n hn
   obtain rfl:i=l.length:=by omega
   rw[AF,hend];simpa using hn
  |succ m ih=>
   intro i hi n hn
   have h:i<l.length:=by omega
   rw[AF,hB i h n hn,zXx h]
   simp only[zQk]
   exact ih (i+1) (by omega) _ (hI i h n hn)
 simpa using key l.length 0 (by omega) n0 h0
def T9 (st:Int)(v:VV):VV:=(v.1,v.2.1,v.2.2.1,mx v.2.2.2.1 st,v.2.2.2.2.1,())
def Nz (st:Int)(s:List (List VV))(m:VM):List (List VV):=match Ki s m with
 |some l=>match fvI l m.2.1 with
  |some j=>match l[j]? with
   |some v=>s.set m.1.toNat (l.set j (T9 st v))
   |none=>s
  |none=>s
 |none=>s
def ta (hi:Int)(v:VV):VV:=(v.1,v.2.1,v.2.2.1,v.2.2.2.1,hi,())
def Qa (st id hi:Int)(s:List (List VV))(m:VM):List (List VV):=match Ki s m with
 |some l=>match l[l.length-1]? with
  |some v=>s.set m.1.toNat (l.set (l.length-1) (ta hi v)++[(id,m.2.1,st,st,1000,())])
  |none=>s
 |none=>s
def stOK (s:List (List VV))(n:Nat):Prop:=s.length=6/\∀l∈s,0<l.length/\l.length<=50+n
theorem stOK.set {s:List (List VV)}{n k:Nat}{l:List VV}(h:stOK s n){n':Nat}(hn:n<=n')(h0:0<l.length)(h1:l.length<=50+n'):stOK (s.set k l) n':=by
 refine⟨by simpa using h.1,fun x hx=>?_⟩
 rcases List.mem_or_eq_of_mem_set hx with h2|rfl
 ·have:=h.2 x h2;omega
 ·exact⟨h0,h1⟩
theorem stOK.small {s:List (List VV)}{n:Nat}(h:stOK s n)(hn:n<=1000):G6 s:=
 ⟨by have:=h.1;omega,fun l hl=>by have:=h.2 l hl;unfold IA;omega⟩
theorem Ag8 {l:List VV}{j:Nat}{v:VV}(c:Int)(h:l[j]? =some v)(st:Int):fvI (l.set j (T9 st v)) c=fvI l c:=by
 have e:(l.set j (T9 st v)).map (fun v=>v.2.2.1)=l.map (fun v=>v.2.2.1):=by
  rw[List.map_set]
  obtain⟨hlt,h2⟩:=zQj.1 h
  apply List.ext_getElem
  ·simp
  ·intro i h3 h4
   rw[List.getElem_set]
   split
   ·rename_i e;subst e;simp[h2,T9]
   ·rfl
 unfold fvI
 rw[e]
theorem R4 {s:List (List VV)}{m x:VM}(st:Int)(hx:I6 s x):I6 (Nz st s m) x:=by
 unfold Nz
 split
 ·rename_i l hl
  split
  ·rename_i j hj
   split
   ·rename_i v hv
    obtain⟨l',j',h1,h2⟩:=hx
    unfold I6 Ki at*
    by_cases e:m.1.toNat=x.1.toNat
    ·rw[<-e,hl]at h1
     obtain rfl:l=l':=by simpa using h1
     refine⟨l.set j (T9 st v),j',?_,by rw[Ag8 _ hv];exact h2⟩
     rw[<-e]
     have:=(zQj.1 hl).1
     simp[this]
    ·exact⟨l',j',by rw[List.getElem?_set_ne e];exact h1,h2⟩
   ·exact hx
  ·exact hx
 ·exact hx
theorem Ts {s:List (List VV)}{n:Nat}{m:VM}(st:Int)(h:stOK s n):stOK (Nz st s m) n:=by
 unfold Nz
 split
 ·rename_i l hl
  have hm:=h.2 l (List.mem_of_getElem? hl)
  split
  ·split
   ·exact h.set (zQq _) (by simpa using hm.1) (by simpa using hm.2)
   ·exact h
  ·exact h
 ·exact h
theorem Tq {s:List (List VV)}{n:Nat}{m:VM}(st id hi:Int)(h:stOK s n):stOK (Qa st id hi s m) (n+1):=by
 unfold Qa
 split
 ·rename_i l hl
  have hm:=h.2 l (List.mem_of_getElem? hl)
  split
  ·exact h.set (Nat.le_succ _) (by simp) (by simp;omega)
  ·exact⟨h.1,fun x hx=>by have:=h.2 x hx;omega⟩
 ·exact⟨h.1,fun x hx=>by have:=h.2 x hx;omega⟩
theorem LD.stOK {s:List (List VV)}(h:LD s):stOK s 0:=⟨h.1,fun l hl=>⟨(h.2 l hl).1.2.1,by have:=(h.2 l hl).2;omega⟩⟩
end Go.Ab
end
section
namespace Go.Ab
end Go.Ab
end
section
namespace Go.Ab
end Go.Ab
end
section
namespace Go.Ab
def Af3 (l:List VM)(i:Nat):Prop:=∃h:i<l.length,inB l[i].1 0 5=true/\inB l[i].2.1 1 9=true/\∀h2:0<i,(l[i-1]'(by omega)).1<l[i].1
def Ry (l:List VM):Prop:=∀i,i<l.length->Af3 l i
def A8v (l:List VM)(i:Nat):Prop:=∃h:i<l.length,inB l[i].1 1 9=true/\inB l[i].2.1 1 9=true/\l[i].1≠l[i].2.1/\∀h2:0<i,(l[i-1]'(by omega)).1<l[i].1
def NU (l:List VM):Prop:=∀i,i<l.length->A8v l i
theorem Nv {l:List VM}(hl:l.length<=1048576):Fd (l,())=some (dec (Ry l),()):=by
 have e:Fd (l,())=bif dec (Ry l)then some (true,())else some (false,()):=by
  unfold Fd
  refine BL (n:=l.length) (c:=Af3 l) (fun i hi=>?_) ⟨.inr (.inr (.inr ())),?_,rfl⟩
  ·unfold FF
   simp only[Ai hi,zQk,P3,M9]
   rw[decide_eq_true (by omega)]
   simp only[cond_true]
   cases h1:inB l[i].1 0 5 with
   |false=>exact⟨fun⟨_,h,_⟩=>(by rw[h1]at h;cases h),fun _=>⟨_,rfl,rfl⟩⟩
   |true=>
    simp only[zXj,cond_false]
    cases h2:inB l[i].2.1 1 9 with
    |false=>exact⟨fun⟨_,_,h,_⟩=>(by rw[h2]at h;cases h),fun _=>⟨_,rfl,rfl⟩⟩
    |true=>
    simp only[zXj,cond_false]
    rw[Ah hi (by omega)]
    by_cases h3:0<i
    ·have hlt:i-1<l.length:=by omega
     rw[decide_eq_true (show(i:Int)>0 by omega),show zXq.wrap ((i:Int)-1)=((i-1:Nat):Int)from by rw[Bn (by omega) (by omega)];omega,Ai hlt]
     simp only[cond_true,zQk]
     by_cases hb:l[i-1].1<l[i].1
     ·rw[decide_eq_false (by omega)]
      exact⟨fun _=>rfl,fun h=>absurd ⟨hi,h1,h2,fun _=>hb⟩ h⟩
     ·rw[decide_eq_true (by omega)]
      exact⟨fun⟨_,_,_,h⟩=>absurd (h h3) hb,fun _=>⟨_,rfl,rfl⟩⟩
    ·rw[decide_eq_false (show ¬(i:Int)>0 by omega)]
     exact⟨fun _=>rfl,fun h=>absurd ⟨hi,h1,h2,fun h=>absurd h h3⟩ h⟩
  ·unfold FF
   simp only
   rw[decide_eq_false (by omega)];rfl
 rw[e]
 cases dec (Ry l)<;>rfl
theorem L5 {l:List VM}(hl:l.length<=1048576):Fb (l,())=some (dec (Ry l),()):=by
 have e:Fb (l,())=bif dec (Ry l)then some (true,())else some (false,()):=by
  unfold Fb
  refine BL (n:=l.length) (c:=Af3 l) (fun i hi=>?_) ⟨.inr (.inr (.inr ())),?_,rfl⟩
  ·unfold Fy
   simp only[Ai hi,zQk,DW]
   rw[decide_eq_true (by omega)]
   simp only[cond_true]
   cases h1:inB l[i].1 0 5 with
   |false=>exact⟨fun⟨_,h,_⟩=>(by rw[h1]at h;cases h),fun _=>⟨_,rfl,rfl⟩⟩
   |true=>
    simp only[zXj,cond_false]
    cases h2:inB l[i].2.1 1 9 with
    |false=>exact⟨fun⟨_,_,h,_⟩=>(by rw[h2]at h;cases h),fun _=>⟨_,rfl,rfl⟩⟩
    |true=>
    simp only[zXj,cond_false]
    rw[Ah hi (by omega)]
    by_cases h3:0<i
    ·have hlt:i-1<l.length:=by omega
     rw[decide_eq_true (show(i:Int)>0 by omega),show zXq.wrap ((i:Int)-1)=((i-1:Nat):Int)from by rw[Bn (by omega) (by omega)];omega,Ai hlt]
     simp only[cond_true,zQk]
     by_cases hb:l[i-1].1<l[i].1
     ·rw[decide_eq_false (by omega)]
      exact⟨fun _=>rfl,fun h=>absurd ⟨hi,h1,h2,fun _=>hb⟩ h⟩
     ·rw[decide_eq_true (by omega)]
      exact⟨fun⟨_,_,_,h⟩=>absurd (h h3) hb,fun _=>⟨_,rfl,rfl⟩⟩
    ·rw[decide_eq_false (show ¬(i:Int)>0 by omega)]
     exact⟨fun _=>rfl,fun h=>absurd ⟨hi,h1,h2,fun h=>absurd h h3⟩ h⟩
  ·unfold Fy
   simp only
   rw[decide_eq_false (by omega)];rfl
 rw[e]
 cases dec (Ry l)<;>rfl
theorem JH {l:List VM}(hl:l.length<=1048576):Ef (l,())=some (dec (NU l),()):=by
 have e:Ef (l,())=bif dec (NU l)then some (true,())else some (false,()):=by
  unfold Ef
  refine BL (n:=l.length) (c:=A8v l) (fun i hi=>?_) ⟨.inr (.inr (.inr (.inr ()))),?_,rfl⟩
  ·unfold FE
   simp only[Ai hi,zQk,M9]
   rw[decide_eq_true (by omega)]
   simp only[cond_true]
   cases h1:inB l[i].1 1 9 with
   |false=>exact⟨fun⟨_,h,_⟩=>(by rw[h1]at h;cases h),fun _=>⟨_,rfl,rfl⟩⟩
   |true=>
    simp only[zXj,cond_false]
    cases h2:inB l[i].2.1 1 9 with
    |false=>exact⟨fun⟨_,_,h,_⟩=>(by rw[h2]at h;cases h),fun _=>⟨_,rfl,rfl⟩⟩
    |true=>
    simp only[zXj,cond_false]
    by_cases hq:l[i].1=l[i].2.1
    ·rw[show(l[i].1==l[i].2.1)=true from by simpa using hq]
     exact⟨fun⟨_,_,_,h,_⟩=>absurd hq h,fun _=>⟨_,rfl,rfl⟩⟩
    rw[show(l[i].1==l[i].2.1)=false from by simpa using hq]
    simp only[cond_false]
    rw[Ah hi (by omega)]
    by_cases h3:0<i
    ·have hlt:i-1<l.length:=by omega
     rw[decide_eq_true (show(i:Int)>0 by omega),show zXq.wrap ((i:Int)-1)=((i-1:Nat):Int)from by rw[Bn (by omega) (by omega)];omega,Ai hlt]
     simp only[cond_true,zQk]
     by_cases hb:l[i-1].1<l[i].1
     ·rw[decide_eq_false (by omega)]
      exact⟨fun _=>rfl,fun h=>absurd ⟨hi,h1,h2,hq,fun _=>hb⟩ h⟩
     ·rw[decide_eq_true (by omega)]
      exact⟨fun⟨_,_,_,_,h⟩=>absurd (h h3) hb,fun _=>⟨_,rfl,rfl⟩⟩
    ·rw[decide_eq_false (show ¬(i:Int)>0 by omega)]
     exact⟨fun _=>rfl,fun h=>absurd ⟨hi,h1,h2,hq,fun h=>absurd h h3⟩ h⟩
  ·unfold FE
   simp only
   rw[decide_eq_false (by omega)];rfl
 rw[e]
 cases dec (NU l)<;>rfl
theorem L4 {l:List VM}(hl:l.length<=1048576):Fa (l,())=some (dec (NU l),()):=by
 have e:Fa (l,())=bif dec (NU l)then some (true,())else some (false,()):=by
  unfold Fa
  refine BL (n:=l.length) (c:=A8v l) (fun i hi=>?_) ⟨.inr (.inr (.inr (.inr ()))),?_,rfl⟩
  ·unfold Fx
   simp only[Ai hi,zQk,DW]
   rw[decide_eq_true (by omega)]
   simp only[cond_true]
   cases h1:inB l[i].1 1 9 with
   |false=>exact⟨fun⟨_,h,_⟩=>(by rw[h1]at h;cases h),fun _=>⟨_,rfl,rfl⟩⟩
   |true=>
    simp only[zXj,cond_false]
    cases h2:inB l[i].2.1 1 9 with
    |false=>exact⟨fun⟨_,_,h,_⟩=>(by rw[h2]at h;cases h),fun _=>⟨_,rfl,rfl⟩⟩
    |true=>
    simp only[zXj,cond_false]
    by_cases hq:l[i].1=l[i].2.1
    ·rw[show(l[i].1==l[i].2.1)=true from by simpa using hq]
     exact⟨fun⟨_,_,_,h,_⟩=>absurd hq h,fun _=>⟨_,rfl,rfl⟩⟩
    rw[show(l[i].1==l[i].2.1)=false from by simpa using hq]
    simp only[cond_false]
    rw[Ah hi (by omega)]
    by_cases h3:0<i
    ·have hlt:i-1<l.length:=by omega
     rw[decide_eq_true (show(i:Int)>0 by omega),show zXq.wrap ((i:Int)-1)=((i-1:Nat):Int)from by rw[Bn (by omega) (by omega)];omega,Ai hlt]
     simp only[cond_true,zQk]
     by_cases hb:l[i-1].1<l[i].1
     ·rw[decide_eq_false (by omega)]
      exact⟨fun _=>rfl,fun h=>absurd ⟨hi,h1,h2,hq,fun _=>hb⟩ h⟩
     ·rw[decide_eq_true (by omega)]
      exact⟨fun⟨_,_,_,_,h⟩=>absurd (h h3) hb,fun _=>⟨_,rfl,rfl⟩⟩
    ·rw[decide_eq_false (show ¬(i:Int)>0 by omega)]
     exact⟨fun _=>rfl,fun h=>absurd ⟨hi,h1,h2,hq,fun h=>absurd h h3⟩ h⟩
  ·unfold Fx
   simp only
   rw[decide_eq_false (by omega)];rfl
 rw[e]
 cases dec (NU l)<;>rfl
abbrev TX:=Int×Int×Int×Int×Int×Int×Int×List VM×List VM×Unit
noncomputable def Md (t:TX):Bool:=okT t.1 t.2.1 t.2.2.1 t.2.2.2.1 t.2.2.2.2.1 t.2.2.2.2.2.1 t.2.2.2.2.2.2.1 t.2.2.2.2.2.2.2.1 t.2.2.2.2.2.2.2.2.1
def smT (t:TX):Prop:=t.2.2.2.2.2.2.2.1.length<=1048576/\t.2.2.2.2.2.2.2.2.1.length<=1048576
theorem qA {id sc st be lo hi co:Int}{rd wr:List VM}(hr:rd.length<=1048576)(hw:wr.length<=1048576):D8 ((id,sc,st,be,lo,hi,co,rd,wr,()),())=some (okT id sc st be lo hi co rd wr,()):=by
 unfold D8 Gj J2
 simp only[M9,Ij,Ri hr,Qo hw,zQk]
 unfold okT
 have e1:∀n:Int,inB n 1 999=(inB n 0 999&&decide (n>0)):=fun n=>by
  unfold inB
  rw[Bool.eq_iff_iff]
  simp only[zJq,decide_eq_true_eq]
  omega
 have e2:(co==0)=(inB co 0 999&&!decide (co>0)):=by
  unfold inB
  rw[Bool.eq_iff_iff]
  simp only[beq_iff_eq,zJq,decide_eq_true_eq,Bool.not_eq_true',decide_eq_false_iff_not]
  omega
 simp only[e1,e2,bne]
 cases inB id 1 9<;>cases inB sc 1 4<;>cases inB be 0 999<;>cases inB st 1 3<;>cases inB lo 0 999<;>cases inB hi 1 1000<;>cases(st==2:Bool)<;>cases inB co 0 999<;>cases decide (co>0)<;>cases dec (Oq rd)<;>cases decide (rd.length<=60)<;>cases dec (Rx wr)<;>rfl
theorem dD {id sc st be lo hi co:Int}{rd wr:List VM}(h:okT id sc st be lo hi co rd wr=true):Oq rd:=by
 unfold okT at h
 simp only[zJq]at h
 by_cases h2:Oq rd
 ·exact h2
 ·have:=h.1.1.1.1.1.1.1.1.1.1
  rw[AI h2]at this;cases this
def A8z (s:List (List VV))(stamp:Int)(l:List TX)(i:Nat):Prop:=∃h:i<l.length,Md l[i]=true/\(∀h2:0<i,(l[i-1]'(by omega)).1<l[i].1)/\l[i].2.2.2.1<=stamp/\l[i].2.2.2.2.2.2.1<=stamp/\(l[i].2.2.1=1->∀m∈l[i].2.2.2.2.2.2.2.1,I6 s m)
def Nw (s:List (List VV))(stamp:Int)(l:List TX):Prop:=∀i,i<l.length->A8z s stamp l i
section
variable {s:List (List VV)}(hs:G6 s)(hok:LD s){l:List TX}(hl:l.length<=1048576)(hsm:∀t∈l,smT t)
include hs hok hl hsm
theorem rQ (ce:Bool)(lk wt:List VM)(stamp:Int):Cl ((ce,(s,()),l,lk,wt,stamp,()),())=some (dec (Nw s stamp l)&&decide (l.length<=6),()):=by
 have e:Cl ((ce,(s,()),l,lk,wt,stamp,()),())=bif dec (Nw s stamp l)then some (decide (((l.length:Nat):Int)<=6),())else some (false,()):=by
  unfold Cl
  refine BL (n:=l.length) (c:=A8z s stamp l) (fun i hi=>?_) ⟨.inr (.inr (.inr (.inr (.inr (.inr (.inr (.inr ()))))))),?_,rfl⟩
  ·have hm:=hsm _ (zQz hi)
   unfold BK
   simp only[Ai hi,zQk,qA hm.1 hm.2]
   rw[decide_eq_true (by omega)]
   simp only[cond_true]
   cases h1:Md l[i]with
   |false=>
    have h1':=h1
    unfold Md at h1'
    rw[h1']
    exact⟨fun⟨_,h,_⟩=>(by rw[h1]at h;cases h),fun _=>⟨_,rfl,rfl⟩⟩
   |true=>
    have h1':=h1
    unfold Md at h1'
    rw[h1']
    simp only[zXj,cond_false,A6m hs hok.1 hm.1 (dD h1'),zQk]
    rw[Ah hi (by omega)]
    by_cases h3:0<i
    ·have hlt:i-1<l.length:=by omega
     rw[decide_eq_true (show(i:Int)>0 by omega),show zXq.wrap ((i:Int)-1)=((i-1:Nat):Int)from by rw[Bn (by omega) (by omega)];omega,Ai hlt]
     simp only[cond_true,zQk]
     by_cases hb:l[i-1].1<l[i].1
     case neg=>
      rw[decide_eq_true (by omega)]
      exact⟨fun⟨_,_,h,_⟩=>absurd (h h3) hb,fun _=>⟨_,rfl,rfl⟩⟩
     rw[decide_eq_false (by omega)]
     simp only[cond_false]
     by_cases q1:l[i].2.2.2.1<=stamp
     case neg=>
      rw[decide_eq_true (by omega)]
      exact⟨fun⟨_,_,_,h,_⟩=>absurd h q1,fun _=>⟨_,rfl,rfl⟩⟩
     rw[decide_eq_false (by omega)]
     simp only[cond_false]
     by_cases q2:l[i].2.2.2.2.2.2.1<=stamp
     case neg=>
      rw[decide_eq_true (by omega)]
      exact⟨fun⟨_,_,_,_,h,_⟩=>absurd h q2,fun _=>⟨_,rfl,rfl⟩⟩
     rw[decide_eq_false (by omega)]
     simp only[cond_false]
     by_cases q3:l[i].2.2.1=1
     ·rw[show(l[i].2.2.1==1)=true from by simpa using q3]
      simp only[cond_true]
      by_cases q4:∀m∈l[i].2.2.2.2.2.2.2.1,I6 s m
      ·rw[Ax q4]
       exact⟨fun _=>rfl,fun h=>absurd ⟨hi,h1,fun _=>hb,q1,q2,fun _=>q4⟩ h⟩
      ·rw[AI q4]
       exact⟨fun⟨_,_,_,_,_,h⟩=>absurd (h q3) q4,fun _=>⟨_,rfl,rfl⟩⟩
     ·rw[show(l[i].2.2.1==1)=false from by simpa using q3]
      exact⟨fun _=>rfl,fun h=>absurd ⟨hi,h1,fun _=>hb,q1,q2,fun h=>absurd h q3⟩ h⟩
    ·rw[decide_eq_false (show ¬(i:Int)>0 by omega)]
     simp only[cond_false]
     by_cases q1:l[i].2.2.2.1<=stamp
     case neg=>
      rw[decide_eq_true (by omega)]
      exact⟨fun⟨_,_,_,h,_⟩=>absurd h q1,fun _=>⟨_,rfl,rfl⟩⟩
     rw[decide_eq_false (by omega)]
     simp only[cond_false]
     by_cases q2:l[i].2.2.2.2.2.2.1<=stamp
     case neg=>
      rw[decide_eq_true (by omega)]
      exact⟨fun⟨_,_,_,_,h,_⟩=>absurd h q2,fun _=>⟨_,rfl,rfl⟩⟩
     rw[decide_eq_false (by omega)]
     simp only[cond_false]
     by_cases q3:l[i].2.2.1=1
     ·rw[show(l[i].2.2.1==1)=true from by simpa using q3]
      simp only[cond_true]
      by_cases q4:∀m∈l[i].2.2.2.2.2.2.2.1,I6 s m
      ·rw[Ax q4]
       exact⟨fun _=>rfl,fun h=>absurd ⟨hi,h1,fun h=>absurd h h3,q1,q2,fun _=>q4⟩ h⟩
      ·rw[AI q4]
       exact⟨fun⟨_,_,_,_,_,h⟩=>absurd (h q3) q4,fun _=>⟨_,rfl,rfl⟩⟩
     ·rw[show(l[i].2.2.1==1)=false from by simpa using q3]
      exact⟨fun _=>rfl,fun h=>absurd ⟨hi,h1,fun h=>absurd h h3,q1,q2,fun h=>absurd h q3⟩ h⟩
  ·unfold BK
   simp only
   rw[decide_eq_false (by omega)];rfl
 rw[e]
 have d:decide (((l.length:Nat):Int)<=6)=decide (l.length<=6):=decide_eq_decide.2 (by omega)
 rw[d]
 cases dec (Nw s stamp l)<;>rfl
end
end Go.Ab
end
section
namespace Go.Ab
section
variable {s:List (List VV)}(hs:G6 s)(hok:LD s){l:List TX}(hl:l.length<=1048576)(hsm:∀t∈l,smT t)
include hs hok hl hsm
theorem rI (ce:Bool)(lk wt:List VM)(stamp:Int){τ:Type}(X no:Option τ):((Au (fun v=>CJ (ce,s,l,lk,wt,stamp,()) v _ some) (0,())).bind fun p=>Ap p (fun p=>no) fun p=>Ap p (fun p=>no) fun p=>Ap p (fun p=>no) fun p=>Ap p (fun p=>no) fun p=>Ap p (fun p=>no) fun p=>Ap p (fun p=>no) fun p=>Ap p (fun p=>no) fun p=>Ap p (fun p=>no) fun p=>X)=bif dec (Nw s stamp l)then X else no:=by
 refine BL (n:=l.length) (c:=A8z s stamp l) (fun i hi=>?_) ⟨.inr (.inr (.inr (.inr (.inr (.inr (.inr (.inr ()))))))),?_,rfl⟩
 ·have hm:=hsm _ (zQz hi)
  unfold CJ
  simp only[Ai hi,zQk,Qn hm.1 hm.2]
  rw[decide_eq_true (by omega)]
  simp only[cond_true]
  cases h1:Md l[i]with
  |false=>
   have h1':=h1
   unfold Md at h1'
   rw[h1']
   exact⟨fun⟨_,h,_⟩=>(by rw[h1]at h;cases h),fun _=>⟨_,rfl,rfl⟩⟩
  |true=>
   have h1':=h1
   unfold Md at h1'
   rw[h1']
   simp only[zXj,cond_false,Sz hs hok hm.1 hm.2 h1' (dD h1'),zQk]
   rw[Ah hi (by omega)]
   by_cases h3:0<i
   ·have hlt:i-1<l.length:=by omega
    rw[decide_eq_true (show(i:Int)>0 by omega),show zXq.wrap ((i:Int)-1)=((i-1:Nat):Int)from by rw[Bn (by omega) (by omega)];omega,Ai hlt]
    simp only[cond_true,zQk]
    by_cases hb:l[i-1].1<l[i].1
    case neg=>
     rw[decide_eq_true (by omega)]
     exact⟨fun⟨_,_,h,_⟩=>absurd (h h3) hb,fun _=>⟨_,rfl,rfl⟩⟩
    rw[decide_eq_false (by omega)]
    simp only[cond_false]
    by_cases q1:l[i].2.2.2.1<=stamp
    case neg=>
     rw[decide_eq_true (by omega)]
     exact⟨fun⟨_,_,_,h,_⟩=>absurd h q1,fun _=>⟨_,rfl,rfl⟩⟩
    rw[decide_eq_false (by omega)]
    simp only[cond_false]
    by_cases q2:l[i].2.2.2.2.2.2.1<=stamp
    case neg=>
     rw[decide_eq_true (by omega)]
     exact⟨fun⟨_,_,_,_,h,_⟩=>absurd h q2,fun _=>⟨_,rfl,rfl⟩⟩
    rw[decide_eq_false (by omega)]
    simp only[cond_false]
    by_cases q3:l[i].2.2.1=1
    ·rw[show(l[i].2.2.1==1)=true from by simpa using q3]
     simp only[cond_true]
     by_cases q4:∀m∈l[i].2.2.2.2.2.2.2.1,I6 s m
     ·rw[Ax q4]
      exact⟨fun _=>rfl,fun h=>absurd ⟨hi,h1,fun _=>hb,q1,q2,fun _=>q4⟩ h⟩
     ·rw[AI q4]
      exact⟨fun⟨_,_,_,_,_,h⟩=>absurd (h q3) q4,fun _=>⟨_,rfl,rfl⟩⟩
    ·rw[show(l[i].2.2.1==1)=false from by simpa using q3]
     exact⟨fun _=>rfl,fun h=>absurd ⟨hi,h1,fun _=>hb,q1,q2,fun h=>absurd h q3⟩ h⟩
   ·rw[decide_eq_false (show ¬(i:Int)>0 by omega)]
    simp only[cond_false]
    by_cases q1:l[i].2.2.2.1<=stamp
    case neg=>
     rw[decide_eq_true (by omega)]
     exact⟨fun⟨_,_,_,h,_⟩=>absurd h q1,fun _=>⟨_,rfl,rfl⟩⟩
    rw[decide_eq_false (by omega)]
    simp only[cond_false]
    by_cases q2:l[i].2.2.2.2.2.2.1<=stamp
    case neg=>
     rw[decide_eq_true (by omega)]
     exact⟨fun⟨_,_,_,_,h,_⟩=>absurd h q2,fun _=>⟨_,rfl,rfl⟩⟩
    rw[decide_eq_false (by omega)]
    simp only[cond_false]
    by_cases q3:l[i].2.2.1=1
    ·rw[show(l[i].2.2.1==1)=true from by simpa using q3]
     simp only[cond_true]
     by_cases q4:∀m∈l[i].2.2.2.2.2.2.2.1,I6 s m
     ·rw[Ax q4]
      exact⟨fun _=>rfl,fun h=>absurd ⟨hi,h1,fun h=>absurd h h3,q1,q2,fun _=>q4⟩ h⟩
     ·rw[AI q4]
      exact⟨fun⟨_,_,_,_,_,h⟩=>absurd (h q3) q4,fun _=>⟨_,rfl,rfl⟩⟩
    ·rw[show(l[i].2.2.1==1)=false from by simpa using q3]
     exact⟨fun _=>rfl,fun h=>absurd ⟨hi,h1,fun h=>absurd h h3,q1,q2,fun h=>absurd h q3⟩ h⟩
 ·unfold CJ
  simp only
  rw[decide_eq_false (by omega)];rfl
end
def EC (l:List TX)(id:Int):Bool:=match l.findIdx? (fun t=>t.1==id)with
 |some i=>match l[i]? with
  |some t=>t.2.2.1==1
  |none=>false
 |none=>false
theorem Zo {s:List (List VV)}{l:List TX}(hl:l.length<=1048576)(ce:Bool)(lk wt:List VM)(stamp id:Int):DT ((ce,(s,()),l,lk,wt,stamp,()),id,())=some (fx (l.findIdx? (fun t=>t.1==id)),()):=by
 unfold DT
 refine DK hl (fun i h=>?_) ?_
 ·unfold CR
  simp only[Ai h,zQk]
  rw[decide_eq_true (by omega),Ah h (by omega)]
  simp only[cond_true]
  cases(l[i].1==id:Bool)<;>rfl
 ·unfold CR
  simp only
  rw[decide_eq_false (by omega)];rfl
theorem ZC {s:List (List VV)}{l:List TX}(hl:l.length<=1048576)(ce:Bool)(lk wt:List VM)(stamp id:Int):E5 ((ce,(s,()),l,lk,wt,stamp,()),id,())=some (fx (l.findIdx? (fun t=>t.1==id)),()):=by
 unfold E5 Cs
 have:=DK hl (p:=fun t:TX=>t.1==id) (B:=fun v=>AK (l,(some id,()),((l.length:Nat):Int),()) v _ some) (fun i h=>by
  unfold AK GP
  simp only[Ai h,zQk]
  rw[decide_eq_true (by omega),Ah h (by omega)]
  simp only[cond_true]
  cases(l[i].1==id:Bool)<;>rfl) (by
  unfold AK
  simp only
  rw[decide_eq_false (by omega)];rfl)
 simp only[this,zQk]
theorem aR (l:List TX)(id:Int):(bif decide (fx (l.findIdx? (fun t=>t.1==id))>=0)then(lAt l (fx (l.findIdx? (fun t=>t.1==id)))).bind fun v=>some (v.2.2.1==1,())else some (false,()))=some (EC l id,()):=by
 unfold EC
 cases h:l.findIdx? (fun t=>t.1==id)with
 |none=>rfl
 |some i=>
  obtain⟨hi,_⟩:=List.findIdx?_eq_some_iff_getElem.1 h
  have e1:decide (fx (some i)>=0)=true:=decide_eq_true (by simp only[fx];omega)
  have e2:lAt l (fx (some i))=some l[i]:=Ai hi
  rw[e1,e2]
  simp[hi]
theorem TK {s:List (List VV)}{l:List TX}(hl:l.length<=1048576)(ce:Bool)(lk wt:List VM)(stamp id:Int):Fv ((ce,(s,()),l,lk,wt,stamp,()),id,())=some (EC l id,()):=by
 unfold Fv
 simp only[Zo hl,zQk]
 exact aR l id
theorem P4 {s:List (List VV)}{l:List TX}(hl:l.length<=1048576)(ce:Bool)(lk wt:List VM)(stamp id:Int):Cy ((ce,(s,()),l,lk,wt,stamp,()),id,())=some (EC l id,()):=by
 unfold Cy
 simp only[ZC hl,zQk]
 exact aR l id
section
variable {s:List (List VV)}{l:List TX}(hl:l.length<=1048576)
include hl
theorem rJ (ce:Bool)(lk wt:List VM)(hk:lk.length<=1048576)(stamp:Int){τ:Type}(X no:Option τ):((Au (fun v=>Cq (ce,s,l,lk,wt,stamp,()) v _ some) (0,())).bind fun p=>Ap p (fun p=>no) fun p=>X)=bif dec (∀m∈lk,EC l m.2.1=true)then X else no:=by
 refine(BL (n:=lk.length) (c:=fun i=>∃h:i<lk.length,EC l lk[i].2.1=true) (X:=X) (no:=no) (fun i hi=>?_) ⟨.inr (),?_,rfl⟩).trans ?_
 ·unfold Cq
  simp only[Ai hi,zQk,TK hl]
  rw[decide_eq_true (by omega),Ah hi (by omega)]
  cases h:EC l lk[i].2.1 with
  |true=>exact⟨fun _=>rfl,fun hh=>absurd ⟨hi,h⟩ hh⟩
  |false=>exact⟨fun⟨_,hh⟩=>(by rw[h]at hh;cases hh),fun _=>⟨_,rfl,rfl⟩⟩
 ·unfold Cq
  simp only
  rw[decide_eq_false (by omega)];rfl
 ·rw[KC (q:=∀m∈lk,EC l m.2.1=true)]
  constructor
  ·intro h m hm
   obtain⟨i,hi',rfl⟩:=zJz hm
   exact(h i hi').2
  ·intro h i hi';exact⟨hi',h _ (zQz hi')⟩
theorem rH (ce:Bool)(lk wt:List VM)(hk:wt.length<=1048576)(stamp:Int){τ:Type}(X no:Option τ):((Au (fun v=>Cp (ce,s,l,lk,wt,stamp,()) v _ some) (0,())).bind fun p=>Ap p (fun p=>no) fun p=>Ap p (fun p=>no) fun p=>X)=bif dec (∀m∈wt,EC l m.1=true/\EC l m.2.1=true)then X else no:=by
 refine(BL (n:=wt.length) (c:=fun i=>∃h:i<wt.length,EC l wt[i].1=true/\EC l wt[i].2.1=true) (X:=X) (no:=no) (fun i hi=>?_) ⟨.inr (.inr ()),?_,rfl⟩).trans ?_
 ·unfold Cp
  simp only[Ai hi,zQk,TK hl]
  rw[decide_eq_true (by omega),Ah hi (by omega)]
  cases h:EC l wt[i].1 with
  |false=>exact⟨fun⟨_,hh,_⟩=>(by rw[h]at hh;cases hh),fun _=>⟨_,rfl,rfl⟩⟩
  |true=>
   cases h':EC l wt[i].2.1 with
   |true=>exact⟨fun _=>rfl,fun hh=>absurd ⟨hi,h,h'⟩ hh⟩
   |false=>exact⟨fun⟨_,_,hh⟩=>(by rw[h']at hh;cases hh),fun _=>⟨_,rfl,rfl⟩⟩
 ·unfold Cp
  simp only
  rw[decide_eq_false (by omega)];rfl
 ·rw[KC (q:=∀m∈wt,EC l m.1=true/\EC l m.2.1=true)]
  constructor
  ·intro h m hm
   obtain⟨i,hi',rfl⟩:=zJz hm
   exact(h i hi').2
  ·intro h i hi';exact⟨hi',h _ (zQz hi')⟩
theorem rS (ce:Bool)(lk wt:List VM)(hk:lk.length<=1048576)(stamp:Int):BE (lk,(some (ce,(s,()),l,lk,wt,stamp,()),()),())=some (!dec (∀m∈lk,EC l m.2.1=true),()):=by
 unfold BE CL
 obtain⟨n,e,h⟩:=MH (ρ:=Unit) (l:=lk) (p:=fun m=>¬EC l m.2.1=true) hk (B:=fun v=>AP (lk,(some (ce,(s,()),l,lk,wt,stamp,()),()),((lk.length:Nat):Int),()) v _ some) (fun i hi=>by
  unfold AP I3
  simp only[Ai hi,zQk,P4 hl]
  rw[decide_eq_true (by omega),Ah hi (by omega)]
  cases ho:EC l lk[i].2.1 with
  |true=>rw[AI (fun hh=>hh rfl)];rfl
  |false=>rw[Ax (by simp)];rfl) (by
  unfold AP
  simp only
  rw[decide_eq_false (by omega)];rfl)
 simp only[e,zQk]
 rcases h with⟨i,hi,rfl,hp,_⟩|⟨rfl,hp⟩
 ·rw[decide_eq_true (by omega),AI (fun hh=>hp (hh _ (zQz hi)))];rfl
 ·rw[decide_eq_false (by omega),Ax (fun m hm=>Classical.not_not.1 (hp m hm))];rfl
theorem rP (ce:Bool)(lk wt:List VM)(hk:wt.length<=1048576)(stamp:Int):BD (wt,(some (ce,(s,()),l,lk,wt,stamp,()),()),())=some (!dec (∀m∈wt,EC l m.1=true/\EC l m.2.1=true),()):=by
 unfold BD CK
 obtain⟨n,e,h⟩:=MH (ρ:=Unit) (l:=wt) (p:=fun m=>¬(EC l m.1=true/\EC l m.2.1=true)) hk (B:=fun v=>AO (wt,(some (ce,(s,()),l,lk,wt,stamp,()),()),((wt.length:Nat):Int),()) v _ some) (fun i hi=>by
  unfold AO I2
  simp only[Ai hi,zQk,P4 hl]
  rw[decide_eq_true (by omega),Ah hi (by omega)]
  cases ho:EC l wt[i].1 with
  |false=>rw[Ax (by simp)];rfl
  |true=>
   cases ho':EC l wt[i].2.1 with
   |true=>rw[AI (fun hh=>hh ⟨rfl,rfl⟩)];rfl
   |false=>rw[Ax (by simp)];rfl) (by
  unfold AO
  simp only
  rw[decide_eq_false (by omega)];rfl)
 simp only[e,zQk]
 rcases h with⟨i,hi,rfl,hp,_⟩|⟨rfl,hp⟩
 ·rw[decide_eq_true (by omega),AI (fun hh=>hp (hh _ (zQz hi)))];rfl
 ·rw[decide_eq_false (by omega),Ax (fun m hm=>Classical.not_not.1 (hp m hm))];rfl
end
noncomputable def okE (s:List (List VV))(l:List TX)(lk wt:List VM)(stamp:Int):Bool:=
 dec (LD s)&&dec (Ry lk)&&dec (NU wt)&&inB stamp (s.foldl Jv 0) 999&&dec (Nw s stamp l)&&decide (l.length<=6)&&dec (∀m∈lk,EC l m.2.1=true)&&dec (∀m∈wt,EC l m.1=true/\EC l m.2.1=true)
structure SmallE (s:List (List VV))(l:List TX)(lk wt:List VM):Prop where
 fs:G6 s
 fl:l.length<=1048576
 ft:∀t∈l,smT t
 fk:lk.length<=1048576
 fw:wt.length<=1048576
theorem Aeu {s:List (List VV)}{l:List TX}{lk wt:List VM}(h:SmallE s l lk wt)(ce:Bool)(stamp:Int):GE ((ce,(s,()),l,lk,wt,stamp,()),())=some (okE s l lk wt stamp,()):=by
 unfold GE okE
 simp only[Aes h.fs,Nv h.fk,JH h.fw,dt h.fs,Ij,rS h.fl _ _ _ h.fk,rP h.fl _ _ _ h.fw,zQk]
 by_cases h1:LD s
 case neg=>rw[AI h1];rfl
 rw[Ax h1,rQ h.fs h1 h.fl h.ft]
 simp only[zQk]
 cases dec (Ry lk)<;>cases dec (NU wt)<;>cases inB stamp (s.foldl Jv 0) 999<;>cases dec (Nw s stamp l)<;>cases decide (l.length<=6)<;>cases dec (∀m∈lk,EC l m.2.1=true)<;>cases dec (∀m∈wt,EC l m.1=true/\EC l m.2.1=true)<;>rfl
theorem qz {s:List (List VV)}{l:List TX}{lk wt:List VM}(h:SmallE s l lk wt)(ce:Bool)(stamp:Int):ED ((ce,(s,()),l,lk,wt,stamp,()),())=some (okE s l lk wt stamp,()):=by
 unfold ED okE
 simp only[N4 h.fs,L5 h.fk,L4 h.fw,DW,zQk]
 by_cases h1:LD s
 case neg=>rw[AI h1];rfl
 rw[Ax h1]
 simp only[Sw h.fs h1,DW,zQk,rI h.fs h1 h.fl h.ft,rJ h.fl _ _ _ h.fk,rH h.fl _ _ _ h.fw]
 have d:decide (((l.length:Nat):Int)>6)=!decide (l.length<=6):=by
  rw[Bool.eq_iff_iff]
  simp only[decide_eq_true_eq,Bool.not_eq_true',decide_eq_false_iff_not]
  omega
 rw[d]
 cases dec (Ry lk)<;>cases dec (NU wt)<;>cases inB stamp (s.foldl Jv 0) 999<;>cases dec (Nw s stamp l)<;>cases decide (l.length<=6)<;>cases dec (∀m∈lk,EC l m.2.1=true)<;>cases dec (∀m∈wt,EC l m.1=true/\EC l m.2.1=true)<;>rfl
end Go.Ab
end
section
namespace Go.Ab
end Go.Ab
end
section
namespace Go.Ab
theorem ZH {l:List VM}(hl:l.length<=1048576):Dm (l,())=some (l,()):=by
 unfold Dm
 simp only
 rw[if_pos (by omega)]
 cases l with
 |nil=>exact Pe _
 |cons a l=>rfl
theorem SG {l:List VM}(hl:l.length<=1048576):CE (l,())=some (l,()):=by
 unfold CE
 simp only
 rw[if_pos (by omega)]
 cases l with
 |nil=>exact Pe _
 |cons a l=>rfl
theorem SH {l:List VM}(hl:l.length<=1048576):CA (l,())=some (l,()):=by
 unfold CA
 simp only
 rw[if_pos (by omega)]
 cases l with
 |nil=>exact Pe _
 |cons a l=>rfl
theorem TN {l:List VM}(hl:l.length<=1048576):D7 (l,())=some (l,()):=by
 unfold D7
 simp only
 rw[if_pos (by omega)]
 cases l with
 |nil=>exact Pe _
 |cons a l=>rfl
theorem cX (t:TX)(h:smT t):Eg ((t.1,t.2.1,t.2.2.1,t.2.2.2.1,t.2.2.2.2.1,t.2.2.2.2.2.1,t.2.2.2.2.2.2.1,t.2.2.2.2.2.2.2.1,t.2.2.2.2.2.2.2.2.1,()),())=some t:=by
 simp[Eg,SH h.1,TN h.2]
theorem OZ (t:TX)(h:smT t):Ft ((t.1,t.2.1,t.2.2.1,t.2.2.2.1,t.2.2.2.2.1,t.2.2.2.2.2.1,t.2.2.2.2.2.2.1,t.2.2.2.2.2.2.2.1,t.2.2.2.2.2.2.2.2.1,()),())=some t:=A5s h.1 h.2
theorem Zp {ce:Bool}{s:List (List VV)}{t:List TX}{lk wt:List VM}{stamp:Int}(h:SmallE s t lk wt):K5 ((ce,(s,()),t,lk,wt,stamp,()),())=some (ce,stamp,s,t,lk,wt,()):=by
 have hl:=h.fl
 have hk:=h.fk
 have hw:=h.fw
 unfold K5 Hi
 simp only[SB h.fs]
 rw[if_pos (show lk.length<=2199023255552 by omega)]
 simp only[zQk]
 rw[if_pos (show wt.length<=2199023255552 by omega)]
 rw[Gz (r:=(t,())) t.length (fun i=>((i:Int),t.take i,()))]
 ·rfl
 ·simp
 ·intro i hi
  unfold Gf
  simp only[Ai hi,zQk,OZ _ (h.ft _ (zQz hi)),zJk,zXk,List.length_nil,List.length_take]
  rw[decide_eq_true (by omega),if_pos (by omega),Ah hi (by omega)]
  have e:t.take i++[t[i]]=t.take (i+1):=by rw[List.take_append_getElem hi]
  simp only[cond_true]
  rw[<-e]
 ·unfold Gf
  simp only[List.take_length]
  rw[decide_eq_false (by omega)];rfl
def Pu (s:List (List VV))(m:VM):Int:=match Ki s m with
 |some l=>match fvI l m.2.1 with
  |some j=>match l[j]? with
   |some v=>v.2.2.2.2.1
   |none=>0
  |none=>0
 |none=>0
def rfH (s:List (List VV))(rd:List VM):Int:=rd.foldl (fun n m=>mn n (Pu s m)) 1000
theorem ZB {s:List (List VV)}(hs:G6 s)(h6:s.length=6){m:VM}(hm:inB m.1 0 5=true)(hx:I6 s m):∃v:VV,E3 ((s,()),(m.1,m.2.1,()),())=some (some v,())/\v.2.2.2.2.1=Pu s m:=by
 obtain⟨k,hk,hlt,l,e1,e2,e3,hl⟩:=KV h6 hm
 obtain⟨l',j,x1,x2⟩:=hx
 rw[e3]at x1;obtain rfl:l=l':=by simpa using x1
 have hj:=R3 x2
 refine⟨l[j],?_,?_⟩
 ·unfold E3
  simp only[e2,zQk,SF (hs.2 _ hl),dS,x2,Option.isNone_some,cond_false,fx]
  rw[Ai hj];rfl
 ·unfold Pu
  simp[e3,x2,hj]
theorem A6h {s:List (List VV)}(hs:G6 s)(h6:s.length=6)(t:TX)(ht:smT t)(hrd:Oq t.2.2.2.2.2.2.2.1)(hx:∀m∈t.2.2.2.2.2.2.2.1,I6 s m):EB ((s,()),(t.1,t.2.1,t.2.2.1,t.2.2.2.1,t.2.2.2.2.1,t.2.2.2.2.2.1,t.2.2.2.2.2.2.1,t.2.2.2.2.2.2.2.1,t.2.2.2.2.2.2.2.2.1,()),())=some (rfH s t.2.2.2.2.2.2.2.1,()):=by
 have hl:=ht.1
 unfold EB
 simp only
 generalize t.2.2.2.2.2.2.2.1=rd at*
 refine GQ (l:=rd) (f:=fun n m=>mn n (Pu s m)) (X:=fun n=>some (n,())) 1000 (fun i h n=>?_) (fun n=>⟨(n,()),?_,rfl⟩) rfl
 ·obtain⟨_,h1,_⟩:=hrd i h
  obtain⟨v,e1,e2⟩:=ZB hs h6 h1 (hx _ (zQz h))
  unfold Cm
  simp only[Ai h,zQk,e1,e2]
  rw[decide_eq_true (by omega),Ah h (by omega)];rfl
 ·unfold Cm
  simp only
  rw[decide_eq_false (by omega)];rfl
theorem A62 {s:List (List VV)}(hs:G6 s)(hok:LD s)(t:TX)(ht:smT t)(hT:Md t=true)(hx:∀m∈t.2.2.2.2.2.2.2.1,I6 s m):HM ((s,()),(t.1,t.2.1,t.2.2.1,t.2.2.2.1,t.2.2.2.2.1,t.2.2.2.2.2.1,t.2.2.2.2.2.2.1,t.2.2.2.2.2.2.2.1,t.2.2.2.2.2.2.2.2.1,()),())=some (rfH s t.2.2.2.2.2.2.2.1,()):=by
 have hl:=ht.1
 have hrd:=dD hT
 unfold HM
 simp only[Sz hs hok ht.1 ht.2 hT hrd,Ax hx,zQk,zXj,cond_false]
 generalize t.2.2.2.2.2.2.2.1=rd at*
 refine GQ (l:=rd) (f:=fun n m=>mn n (Pu s m)) (X:=fun n=>some (n,())) 1000 (fun i h n=>?_) (fun n=>⟨(n,()),?_,rfl⟩) rfl
 ·obtain⟨_,h1,_⟩:=hrd i h
  obtain⟨k,hk,hlt,l,e1,e2,e3,hm⟩:=KV hok.1 h1
  obtain⟨l',j,x1,x2⟩:=hx _ (zQz h)
  rw[e3]at x1;obtain rfl:l=l':=by simpa using x1
  have hj:=R3 x2
  have e4:lAt l (fx (some j))=some l[j]:=Ai hj
  unfold E8
  simp only[Ai h,zQk,e2,Sy (hs.2 _ hm),x2,e4]
  rw[decide_eq_true (by omega),Ah h (by omega)]
  simp[Pu,e3,x2,hj]
 ·unfold E8
  simp only
  rw[decide_eq_false (by omega)];rfl
theorem Nl {α ρ τ:Type}{l:List α}{p:α->Bool}{B:Int×Unit->Option ((Int×Unit) ⊕ ρ)}{k:ρ->Option τ}{yes:α->Option τ}{no:Option τ}
 (hB:∀i (h:i<l.length),(p l[i]=true->∃r,B ((i:Int),())=some (.inr r)/\k r=yes l[i])/\(p l[i]=false->B ((i:Int),())=some (.inl (((i+1:Nat):Int),()))))(hend:∃r,B ((l.length:Int),())=some (.inr r)/\k r=no):
 (Au B (0,())).bind k=match l.find? p with|some a=>yes a|none=>no:=by
 have key:∀m i:Nat,i+m=l.length->(Au B ((i:Int),())).bind k=match(l.drop i).find? p with|some a=>yes a|none=>no:=by
  intro m
  induction m with
  |zero=>
   intro i hi
   obtain rfl:i=l.length:=by omega
   obtain⟨r,h1,h2⟩:=hend
   rw[AF,h1];simpa using h2
  |succ m ih=>
   intro i hi
   have h:i<l.length:=by omega
   rw[zXx h,List.find?_cons]
   cases hp:p l[i]with
   |true=>
    obtain⟨r,h1,h2⟩:=(hB i h).1 hp
    rw[AF,h1];exact h2
   |false=>
    rw[AF,(hB i h).2 hp]
    simp only[zQk]
    exact ih (i+1) (by omega)
 simpa using key l.length 0 (by omega)
theorem P7 {s:List (List VV)}{l:List TX}{lk wt:List VM}{stamp:Int}(h:okE s l lk wt stamp=true):LD s/\Nw s stamp l/\0<=stamp/\stamp<=999/\l.length<=6:=by
 unfold okE at h
 simp only[zJq]at h
 obtain⟨⟨⟨⟨⟨⟨⟨h1,h2⟩,h3⟩,h4⟩,h5⟩,h6⟩,h7⟩,h8⟩:=h
 have a1:LD s:=by
  by_cases h:LD s
  ·exact h
  ·rw[AI h]at h1;cases h1
 have a2:Nw s stamp l:=by
  by_cases h:Nw s stamp l
  ·exact h
  ·rw[AI h]at h5;cases h5
 unfold inB at h4
 simp only[zJq,decide_eq_true_eq]at h4 h6
 have key:∀(c:List (List VV)) (n:Int),0<=n->0<=c.foldl Jv n:=by
  have k1:∀(r:List VV) (n:Int),0<=n->0<=Jv n r:=by
   intro r
   unfold Jv
   induction r with
   |nil=>intro n hn;exact hn
   |cons v r ih=>intro n hn;exact ih _ (by show 0<=mx n v.2.2.2.1;unfold mx;split<;>omega)
  intro c
  induction c with
  |nil=>intro n hn;exact hn
  |cons r c ih=>intro n hn;exact ih _ (k1 r n hn)
 have:=key s 0 (by omega)
 exact⟨a1,a2,by omega,h4.2,h6⟩
end Go.Ab
end
section
namespace Go.Ab
theorem A83 {α:Type}(l:List α)(p:α->Bool):decide (fx (l.findIdx? p)>=0)=l.any p:=by
 cases h:l.findIdx? p with
 |none=>
  have:l.any p=false:=by
   rw[List.any_eq_false]
   intro x hx
   have:=List.findIdx?_eq_none_iff.1 h x hx
   simpa using this
  rw[this];rfl
 |some i=>
  obtain⟨hi,hp,_⟩:=List.findIdx?_eq_some_iff_getElem.1 h
  have:l.any p=true:=List.any_eq_true.2 ⟨l[i],zQz hi,hp⟩
  rw[this]
  exact decide_eq_true (by simp only[fx];omega)
end Go.Ab
end
section
namespace Go.Ab
end Go.Ab
end
section
namespace Go.Ab
end Go.Ab
end
section
namespace Go.Ab
section
variable {α:Type}{lt:α->α->Bool}
structure StO (lt:α->α->Bool):Prop where
 irr:∀x,lt x x=false
 tr:∀x y z,lt x y=true->lt y z=true->lt x z=true
 tri:∀x y,lt x y=true\/x=y\/lt y x=true
theorem StO.asym (h:StO lt){x y:α}(h1:lt x y=true):lt y x=false:=by
 cases h2:lt y x with
 |false=>rfl
 |true=>have:=h.tr x y x h1 h2;rw[h.irr]at this;cases this
theorem S1 (h:StO lt):∀{l m:List α},l.Pairwise (fun a b=>lt a b=true)->m.Pairwise (fun a b=>lt a b=true)->(∀x,x∈l↔x∈m)->l=m
 |[],[],_,_,_=>rfl
 |[],b::m,_,_,hm=>by have:=(hm b).2 (zKj ..);cases this
 |a::l,[],_,_,hm=>by have:=(hm a).1 (zKj ..);cases this
 |a::l,b::m,h1,h2,hm=>by
  rw[List.pairwise_cons]at h1 h2
  have hab:a=b:=by
   rcases List.mem_cons.1 ((hm a).1 (zKj ..))with e|e
   ·exact e
   ·rcases List.mem_cons.1 ((hm b).2 (zKj ..))with e'|e'
    ·exact e'.symm
    ·have k1:=h2.1 a e
     have k2:=h1.1 b e'
     rw[h.asym k1]at k2;cases k2
  subst hab
  congr 1
  refine S1 h h1.2 h2.2 fun x=>?_
  constructor
  ·intro hx
   rcases List.mem_cons.1 ((hm x).1 (zKk _ hx))with e|e
   ·subst e;have:=h1.1 x hx;rw[h.irr]at this;cases this
   ·exact e
  ·intro hx
   rcases List.mem_cons.1 ((hm x).2 (zKk _ hx))with e|e
   ·subst e;have:=h2.1 x hx;rw[h.irr]at this;cases this
   ·exact e
theorem aU {p:α->Bool}:∀{l:List α},∀x∈l.takeWhile p,p x=true
 |[],x,hx=>by cases hx
 |a::l,x,hx=>by
  rw[List.takeWhile_cons]at hx
  split at hx
  ·rename_i h
   rcases List.mem_cons.1 hx with rfl|hx
   ·exact h
   ·exact aU x hx
  ·cases hx
variable [DecidableEq α]
def Nc (lt:α->α->Bool)(g:List α)(e:α):List α:=
 if(g.dropWhile fun x=>lt x e).head?=some e then g else(g.takeWhile fun x=>lt x e)++e::(g.dropWhile fun x=>lt x e)
theorem QG (h:StO lt)(e:α):∀{g:List α},g.Pairwise (fun a b=>lt a b=true)->∀x∈g.dropWhile (fun x=>lt x e),lt x e=false
 |[],_,x,hx=>by cases hx
 |a::g,hp,x,hx=>by
  rw[List.pairwise_cons]at hp
  rw[List.dropWhile_cons]at hx
  split at hx
  ·exact QG h e hp.2 x hx
  ·rename_i hae
   rcases List.mem_cons.1 hx with rfl|hx
   ·simpa using hae
   ·cases hxe:lt x e with
    |false=>rfl
    |true=>exact absurd (h.tr a x e (hp.1 x hx) hxe) hae
theorem A7n (h:StO lt){g:List α}{e:α}:∀x,x∈Nc lt g e↔x∈g\/x=e:=by
 intro x
 unfold Nc
 split
 ·rename_i hd
  have:e∈g:=by
   have:=List.mem_of_mem_head? (Option.mem_def.2 hd)
   exact(List.dropWhile_sublist _).mem this
  constructor
  ·exact .inl
  ·rintro(h|rfl)
   ·exact h
   ·exact this
 ·have e1:x∈g↔x∈g.takeWhile (fun x=>lt x e)\/x∈g.dropWhile (fun x=>lt x e):=by
   rw[<-List.mem_append,List.takeWhile_append_dropWhile]
  rw[List.mem_append,List.mem_cons,e1]
  constructor
  ·rintro(k|rfl|k)
   ·exact .inl (.inl k)
   ·exact .inr rfl
   ·exact .inl (.inr k)
  ·rintro((k|k)|rfl)
   ·exact .inl k
   ·exact .inr (.inr k)
   ·exact .inr (.inl rfl)
theorem aj (h:StO lt){g:List α}{e:α}(hp:g.Pairwise (fun a b=>lt a b=true)):(Nc lt g e).Pairwise (fun a b=>lt a b=true):=by
 unfold Nc
 split
 ·exact hp
 ·rename_i hd
  have hT:∀x∈g.takeWhile (fun x=>lt x e),lt x e=true:=aU
  have hD:=QG h e hp
  have hne:∀x∈g.dropWhile (fun x=>lt x e),lt e x=true:=by
   have hpd:(g.dropWhile fun x=>lt x e).Pairwise (fun a b=>lt a b=true):=hp.sublist (List.dropWhile_sublist _)
   generalize g.dropWhile (fun x=>lt x e)=r at hd hD hpd
   intro x hx
   cases r with
   |nil=>cases hx
   |cons a r=>
    have ha:lt e a=true:=by
     rcases h.tri e a with k|k|k
     ·exact k
     ·subst k;exact absurd rfl hd
     ·rw[hD a (zKj ..)]at k;cases k
    rcases List.mem_cons.1 hx with rfl|hx
    ·exact ha
    ·exact h.tr _ _ _ ha ((List.pairwise_cons.1 hpd).1 x hx)
  have hsp:=hp
  rw[<-List.takeWhile_append_dropWhile (p:=fun x=>lt x e) (l:=g)]at hsp
  rw[List.pairwise_append]at hsp ⊢
  refine⟨hsp.1,List.pairwise_cons.2 ⟨hne,hsp.2.1⟩,fun a ha b hb=>?_⟩
  rcases List.mem_cons.1 hb with rfl|hb
  ·exact hT a ha
  ·exact hsp.2.2 a ha b hb
theorem SQ (h:StO lt):∀(r g:List α),g.Pairwise (fun a b=>lt a b=true)->(r.foldl (Nc lt) g).Pairwise (fun a b=>lt a b=true)/\∀x,x∈r.foldl (Nc lt) g↔x∈g\/x∈r
 |[],g,hp=>⟨hp,fun x=>by simp⟩
 |e::r,g,hp=>by
  obtain⟨h1,h2⟩:=SQ h r (Nc lt g e) (aj h hp)
  refine⟨h1,fun x=>?_⟩
  rw[List.foldl_cons,h2,A7n h,List.mem_cons]
  constructor
  ·rintro((k|k)|k)
   ·exact .inl k
   ·exact .inr (.inl k)
   ·exact .inr (.inr k)
  ·rintro(k|k|k)
   ·exact .inl (.inl k)
   ·exact .inl (.inr k)
   ·exact .inr k
def Ti (acc:List α)(x:α):List α:=if acc.getLast?=some x then acc else acc++[x]
def ded (l:List α):List α:=l.foldl Ti []
theorem ST (l:List α)(x:α):ded (l++[x])=Ti (ded l) x:=by simp[ded]
theorem SU:∀(l:List α),(ded l).getLast?=l.getLast?:=by
 intro l
 rcases List.eq_nil_or_concat l with rfl|⟨l,x,rfl⟩
 ·rfl
 ·rw[List.concat_eq_append,ST]
  unfold Ti
  split
  ·rename_i e;rw[e];simp
  ·simp
theorem A8b (h:StO lt)(l:List α):l.Pairwise (fun a b=>lt b a=false)->(ded l).Pairwise (fun a b=>lt a b=true)/\(∀x,x∈ded l↔x∈l)/\∀x∈ded l,∀y,l.getLast?=some y->lt y x=false:=by
 suffices ∀n (l:List α),l.length=n->l.Pairwise (fun a b=>lt b a=false)->(ded l).Pairwise (fun a b=>lt a b=true)/\(∀x,x∈ded l↔x∈l)/\∀x∈ded l,∀y,l.getLast?=some y->lt y x=false from this _ l rfl
 intro n
 induction n with
 |zero=>
  intro l hl hp
  have:l=[]:=List.eq_nil_of_length_eq_zero hl
  subst this
  exact⟨by simp[ded],by simp[ded],by simp[ded]⟩
 |succ n ih=>
  intro l hl hp
  rcases List.eq_nil_or_concat l with rfl|⟨l,z,rfl⟩
  ·simp at hl
  rw[List.concat_eq_append]at hl hp ⊢
  rw[List.pairwise_append]at hp
  obtain⟨h1,h2,h3⟩:=ih l (by simpa using hl) hp.1
  rw[ST]
  unfold Ti
  split
  ·rename_i e
   rw[SU]at e
   refine⟨h1,fun x=>?_,fun x hx y hy=>?_⟩
   ·rw[h2,List.mem_append,List.mem_singleton]
    constructor
    ·exact .inl
    ·rintro(k|rfl)
     ·exact k
     ·exact List.mem_of_getLast? e
   ·have:z=y:=by simpa using hy
    subst this
    exact h3 x hx z e
  ·rename_i e
   have hz:∀x∈ded l,lt x z=true:=by
    intro x hx
    have k1:=hp.2.2 x ((h2 x).1 hx) z (List.mem_singleton.2 rfl)
    rcases h.tri x z with k|k|k
    ·exact k
    ·subst k
     exfalso
     cases hlast:l.getLast? with
     |none=>rw[List.getLast?_eq_none_iff]at hlast;subst hlast;simp[ded]at hx
     |some y=>
      have k2:=h3 x hx y hlast
      have k3:=hp.2.2 y (List.mem_of_getLast? hlast) x (List.mem_singleton.2 rfl)
      rcases h.tri x y with k|k|k
      ·rw[k3]at k;cases k
      ·subst k;rw[SU,hlast]at e;exact e rfl
      ·rw[k2]at k;cases k
    ·rw[k1]at k;cases k
   refine⟨?_,fun x=>?_,fun x hx y hy=>?_⟩
   ·rw[List.pairwise_append]
    exact⟨h1,List.pairwise_singleton _ _,fun a ha b hb=>by rw[List.mem_singleton.1 hb];exact hz a ha⟩
   ·rw[List.mem_append,List.mem_append,h2]
   ·have:z=y:=by simpa using hy
    subst this
    rcases List.mem_append.1 hx with k|k
    ·exact h.asym (hz x k)
    ·rw[List.mem_singleton.1 k];exact h.irr _
theorem A8c (h:StO lt)(r:List α):ded (r.mergeSort fun a b=>!lt b a)=r.foldl (Nc lt) []:=by
 have hs:(r.mergeSort fun a b=>!lt b a).Pairwise (fun a b=>lt b a=false):=by
  have:=List.pairwise_mergeSort (le:=fun a b=>!lt b a) (fun a b c h1 h2=>by
   simp only[Bool.not_eq_true',Bool.not_eq_true]at h1 h2 ⊢
   cases hc:lt c a with
   |false=>rfl
   |true=>
    rcases h.tri a b with k|k|k
    ·have:=h.tr c a b hc k;rw[h2]at this;cases this
    ·subst k;rw[h2]at hc;cases hc
    ·rw[h1]at k;cases k) (fun a b=>by
   cases hc:lt b a with
   |false=>simp
   |true=>simp[h.asym hc]) r
  exact this.imp (fun h=>by simpa using h)
 obtain⟨h1,h2,_⟩:=A8b h _ hs
 obtain⟨h3,h4⟩:=SQ h r [] List.Pairwise.nil
 refine S1 h h1 h3 fun x=>?_
 rw[h2,h4,(List.mergeSort_perm r _).mem_iff]
 simp
end
end Go.Ab
end
section
namespace Go.Ab
abbrev EDg:=Int×Int×Int×Int×Unit
def Rz (e:EDg):Prop:=1<=e.1/\e.1<=9/\1<=e.2.1/\e.2.1<=9
def swS (p:Int->Bool)(d:Int)(s:List Int×List Int)(e:EDg):List Int×List Int:=if p e.2.1=true/\s.1.getD e.1.toNat 0<0 then(s.1.set e.1.toNat d,s.2++[e.1])else s
def sw (g:List EDg)(p:Int->Bool)(d:Int)(far:List Int):List Int×List Int:=g.foldl (swS p d) (far,[])
def SW (l:List Int):Nat:=(l.filter fun x=>decide (x<0)).length
theorem aC:∀{l:List Int} {i:Nat} {d:Int},i<l.length->l.getD i 0<0->0<=d->SW (l.set i d)+1=SW l
 |[],i,d,h,_,_=>by simp at h
 |a::l,0,d,_,h,hd=>by
  simp only[List.getD_cons_zero]at h
  simp[SW,List.filter_cons,h,show ¬d<0 by omega]
 |a::l,i+1,d,hl,h,hd=>by
  have ih:=aC (l:=l) (i:=i) (d:=d) (by simpa using hl) (by simpa using h) hd
  simp only[SW,List.set_cons_succ,List.filter_cons]at ih ⊢
  split<;>simp only[zXk]at*<;>omega
theorem Pb {l:List Int}{i j:Nat}{d z:Int}(h:i≠j):(l.set i d).getD j z=l.getD j z:=by
 simp[zKz,List.getElem?_set_ne h]
theorem OE {l:List Int}{i:Nat}{d z:Int}(h:i<l.length):(l.set i d).getD i z=d:=by
 simp[zKz,h]
section
variable {g:List EDg}{p:Int->Bool}{d:Int}
theorem Jr {α σ:Type}{f:σ->α->σ}{I:σ->Prop}:∀(l:List α) (s:σ),I s->(∀x∈l,∀s,I s->I (f s x))->I (l.foldl f s)
 |[],s,h,_=>h
 |x::l,s,h,hs=>Jr l (f s x) (hs x (zKj ..) s h) fun y hy=>hs y (zKk _ hy)
theorem sZ (far:List Int):(sw g p d far).1.length=far.length:=by
 refine Jr (I:=fun s:List Int×List Int=>s.1.length=far.length) g (far,[]) rfl fun e _ s h=>?_
 unfold swS;split
 ·simpa using h
 ·exact h
theorem Aja (hd:0<=d){far:List Int}(h10:far.length=10)(hg:∀e∈g,Rz e):SW (sw g p d far).1+(sw g p d far).2.length=SW far/\(sw g p d far).1.getD 0 0=far.getD 0 0:=by
 have:=Jr (f:=swS p d) (I:=fun s:List Int×List Int=>s.1.length=10/\SW s.1+s.2.length=SW far/\s.1.getD 0 0=far.getD 0 0) g (far,[]) ⟨h10,by simp,rfl⟩ (fun e he s ⟨h1,h2,h3⟩=>by
  obtain⟨a1,a2,_,_⟩:=hg e he
  unfold swS;split
  ·rename_i hc
   have hi:e.1.toNat<s.1.length:=by omega
   have:=aC hi hc.2 hd
   refine⟨by simpa using h1,by simp;omega,?_⟩
   rw[Pb (by omega)];exact h3
  ·exact⟨h1,h2,h3⟩)
 exact this.2
theorem Aj8 {far:List Int}(h:(sw g p d far).2=[]):(sw g p d far).1=far:=by
 have:=Jr (f:=swS p d) (I:=fun s:List Int×List Int=>s.2=[]->s.1=far) g (far,[]) (fun _=>rfl) (fun e he s h1=>by
  unfold swS;split
  ·intro h;simp at h
  ·exact h1)
 exact this h
theorem A94 {far:List Int}(h:∀x,p x=false):sw g p d far=(far,[]):=by
 refine Jr (f:=swS p d) (I:=fun s:List Int×List Int=>s=(far,[])) g (far,[]) rfl fun e _ s h1=>?_
 unfold swS;rw[if_neg (by simp[h])];exact h1
theorem Aj9 (hd:0<=d){far:List Int}(h10:far.length=10)(hg:∀e∈g,Rz e)(hno:∀x:Int,far.getD x.toNat 0≠d\/x<1\/9<x):∀x:Int,1<=x->x<=9->((sw g p d far).2.contains x=((sw g p d far).1.getD x.toNat 0==d)):=by
 have:=Jr (f:=swS p d) (I:=fun s:List Int×List Int=>s.1.length=10/\∀x:Int,1<=x->x<=9->(s.2.contains x=(s.1.getD x.toNat 0==d))) g (far,[]) ⟨h10,fun x h1 h2=>by
  rcases hno x with h|h|h
  ·have:(far.getD x.toNat 0==d)=false:=by simpa using h
   rw[this];rfl
  ·omega
  ·omega⟩ (fun e he s ⟨h1,h2⟩=>by
  obtain⟨a1,a2,_,_⟩:=hg e he
  unfold swS;split
  ·rename_i hc
   refine⟨by simpa using h1,fun x k1 k2=>?_⟩
   by_cases hx:x=e.1
   ·subst hx
    rw[OE (by omega)];simp
   ·rw[Pb (by omega)]
    simp only[List.contains_append,h2 x k1 k2]
    have:([e.1].contains x)=false:=by simp[hx]
    rw[this,Bool.or_false]
  ·exact⟨h1,h2⟩)
 exact this.2
theorem A93 {to:Int}{far:List Int}{q:List Int->Int->Bool}(h10:far.length=10)(hg:∀e∈g,Rz e)(hq:∀(s:List Int),s.length=10->(∀x:Int,1<=x->x<=9->(s.getD x.toNat 0=far.getD x.toNat 0\/(far.getD x.toNat 0<0/\s.getD x.toNat 0=d)))->∀x:Int,1<=x->x<=9->q s x=p x):
 g.foldl (fun(s:List Int) (e:EDg)=>if s.getD e.1.toNat 0<0/\q s e.2.1=true then s.set e.1.toNat d else s) far=(sw g p d far).1:=by
 have key:∀(l:List EDg) (s:List Int×List Int),(∀e∈l,Rz e)->s.1.length=10->(∀x:Int,1<=x->x<=9->(s.1.getD x.toNat 0=far.getD x.toNat 0\/(far.getD x.toNat 0<0/\s.1.getD x.toNat 0=d)))->
  l.foldl (fun(s:List Int) (e:EDg)=>if s.getD e.1.toNat 0<0/\q s e.2.1=true then s.set e.1.toNat d else s) s.1=(l.foldl (swS p d) s).1:=by
  intro l
  induction l with
  |nil=>intro s _ _ _;rfl
  |cons e l ih=>
   intro s hl h1 h2
   obtain⟨a1,a2,a3,a4⟩:=hl e (zKj ..)
   simp only[List.foldl_cons]
   have hqq:=hq s.1 h1 h2 e.2.1 a3 a4
   by_cases hc:p e.2.1=true/\s.1.getD e.1.toNat 0<0
   ·rw[if_pos ⟨hc.2,by rw[hqq];exact hc.1⟩]
    have e1:swS p d s e=(s.1.set e.1.toNat d,s.2++[e.1]):=by unfold swS;rw[if_pos hc]
    rw[e1]
    refine ih (s.1.set e.1.toNat d,s.2++[e.1]) (fun x hx=>hl x (zKk _ hx)) (by simpa using h1) (fun x k1 k2=>?_)
    by_cases hx:x=e.1
    ·subst hx
     right
     refine⟨?_,OE (by omega)⟩
     rcases h2 _ k1 k2 with h3|h3
     ·rw[<-h3];exact hc.2
     ·exact h3.1
    ·show(s.1.set e.1.toNat d).getD _ _=_\/_
     rw[Pb (by omega)];exact h2 x k1 k2
   ·rw[if_neg (fun h=>hc ⟨by rw[<-hqq];exact h.2,h.1⟩)]
    have e1:swS p d s e=s:=by unfold swS;rw[if_neg hc]
    rw[e1]
    exact ih s (fun x hx=>hl x (zKk _ hx)) h1 h2
 exact key g (far,[]) hg h10 (fun x _ _=>.inl rfl)
end
def fr (g:List EDg)(to:Int):Nat->List Int×List Int
 |0=>(zKq 10 (-1),[to])
 |n+1=>sw g (fun x=>(fr g to n).2.contains x) ((n+1:Nat):Int) (fr g to n).1
section
variable {g:List EDg}{to:Int}
theorem Nj:∀n,(fr g to n).1.length=10
 |0=>by simp[fr]
 |n+1=>by rw[fr,sZ];exact Nj n
theorem A85:∀n,∀x:Nat,(fr g to n).1.getD x 0<=n
 |0,x=>by
  simp only[fr,zKz,List.getElem?_replicate]
  split<;>simp
 |n+1,x=>by
  rw[fr]
  refine Jr (f:=swS _ _) (I:=fun s:List Int×List Int=>s.1.getD x 0<=((n+1:Nat):Int)) g ((fr g to n).1,[]) ?_ fun e _ s h=>?_
  ·have:=A85 n x
   show(fr g to n).1.getD x 0<=_
   omega
  ·unfold swS;split
   ·by_cases hx:e.1.toNat=x
    ·by_cases hl:e.1.toNat<s.1.length
     ·subst hx;rw[OE hl];exact Int.le_refl _
     ·rw[show s.1.set e.1.toNat _=s.1 from List.set_eq_of_length_le (by omega)];exact h
    ·show(s.1.set e.1.toNat _).getD x 0<=_
     rw[Pb hx];exact h
   ·exact h
theorem Ami (hg:∀e∈g,Rz e)(n:Nat):∀x:Int,1<=x->x<=9->(fr g to (n+1)).2.contains x=((fr g to (n+1)).1.getD x.toNat 0==((n+1:Nat):Int)):=by
 rw[fr]
 exact Aj9 (by omega) (Nj n) hg (fun x=>by
  left
  have:=A85 (g:=g) (to:=to) n x.toNat
  omega)
theorem A86 (hg:∀e∈g,Rz e):∀n,(∀j,1<=j->j<=n->(fr g to j).2≠[])->SW (fr g to n).1+n<=10/\1<=SW (fr g to n).1/\(fr g to n).1.getD 0 0=-1
 |0,_=>by simp only[fr];decide
 |n+1,h=>by
  obtain⟨h1,h2,h3⟩:=A86 hg n (fun j k1 k2=>h j k1 (by omega))
  have h4:=h (n+1) (by omega) (zQq _)
  obtain⟨h5,h6⟩:=Aja (g:=g) (p:=fun x=>(fr g to n).2.contains x) (d:=((n+1:Nat):Int)) (by omega) (Nj n) hg
  rw[fr]at h4 ⊢
  have h7:(sw g (fun x=>(fr g to n).2.contains x) ((n+1:Nat):Int) (fr g to n).1).2.length≠0:=fun e=>h4 (List.eq_nil_of_length_eq_zero e)
  refine⟨by omega,?_,h6.trans h3⟩
  have h8:=sZ (g:=g) (p:=fun x=>(fr g to n).2.contains x) (d:=((n+1:Nat):Int)) (fr g to n).1
  rw[Nj]at h8
  rw[h3]at h6
  generalize (sw g (fun x=>(fr g to n).2.contains x) ((n+1:Nat):Int) (fr g to n).1).1=l at h6 h8
  cases l with
  |nil=>simp at h8
  |cons a l=>
   simp only[List.getD_cons_zero]at h6
   subst h6
   simp[SW]
theorem qT {n:Nat}(h:(fr g to n).2=[]):∀k,(fr g to (n+k)).1=(fr g to n).1/\(fr g to (n+k)).2=[]
 |0=>⟨rfl,h⟩
 |k+1=>by
  obtain⟨h1,h2⟩:=qT h k
  rw[show n+(k+1)=(n+k)+1 by omega,fr,A94 (fun x=>by rw[h2];rfl)]
  exact⟨h1,rfl⟩
theorem Amj (hg:∀e∈g,Rz e){n:Nat}(h:(fr g to n).2=[])(hn:n<=10):(fr g to n).1=(fr g to 9).1:=by
 by_cases h9:n<=9
 ·have:=(qT h (9-n)).1
  rw[show n+(9-n)=9 by omega]at this
  exact this.symm
 ·obtain rfl:n=10:=by omega
  rw[fr]at h ⊢
  exact Aj8 h
theorem A84 (hg:∀e∈g,Rz e):¬∀j,1<=j->j<=10->(fr g to j).2≠[]:=by
 intro h
 obtain⟨h1,h2,_⟩:=A86 hg 10 h
 omega
end
end Go.Ab
end
section
namespace Go.Ab
theorem Gi {α σ τ ρ:Type}{B:τ->Option (τ ⊕ ρ)}{l:List α}(st:σ->Nat->τ)(f:σ->α->σ)(J:Nat->σ->Prop){s0:σ}(h0:J 0 s0)
 (hB:∀i (h:i<l.length) s,J i s->B (st s i)=some (.inl (st (f s l[i]) (i+1)))/\J (i+1) (f s l[i])){r:σ->ρ}(hend:∀s,J l.length s->B (st s l.length)=some (.inr (r s))){t0:τ}(ht:t0=st s0 0):Au B t0=some (r (l.foldl f s0)):=by
 subst ht
 have key:∀m i:Nat,i+m=l.length->∀s,J i s->Au B (st s i)=some (r ((l.drop i).foldl f s)):=by
  intro m
  induction m with
  |zero=>
   intro i hi s hs
   obtain rfl:i=l.length:=by omega
   rw[AF,hend s hs];simp
  |succ m ih=>
   intro i hi s hs
   have h:i<l.length:=by omega
   obtain⟨h1,h2⟩:=hB i h s hs
   rw[AF,h1,zXx h]
   simp only[zQk]
   rw[ih (i+1) (by omega) _ h2];rfl
 have:=key l.length 0 (by omega) s0 h0
 simpa using this
theorem dM {α σ τ ρ:Type}{B:τ->Option (τ ⊕ ρ)}{l:List α}(st:σ->Nat->τ)(f:σ->α->σ){s0:σ}
 (hB:∀i (h:i<l.length) s,B (st s i)=some (.inl (st (f s l[i]) (i+1)))){r:σ->ρ}(hend:∀s,B (st s l.length)=some (.inr (r s))){t0:τ}(ht:t0=st s0 0):Au B t0=some (r (l.foldl f s0)):=
 Gi st f (fun _ _=>True) trivial (fun i h s _=>⟨hB i h s,trivial⟩) (fun s _=>hend s) ht
theorem J0 {α τ ρ:Type}{B:τ->Option (τ ⊕ ρ)}{l:List α}(st:Nat->τ)(p:α->Bool){fd:Nat->ρ}{no:ρ}
 (hB:∀i (h:i<l.length),B (st i)=some (if p l[i]=true then .inr (fd i)else .inl (st (i+1))))(hend:B (st l.length)=some (.inr no)){t0:τ}(ht:t0=st 0):
 Au B t0=some (match l.findIdx? p with|some i=>fd i|none=>no):=by
 subst ht
 have key:∀m i:Nat,i+m=l.length->Au B (st i)=some (match(l.drop i).findIdx? p with|some j=>fd (i+j)|none=>no):=by
  intro m
  induction m with
  |zero=>
   intro i hi
   obtain rfl:i=l.length:=by omega
   rw[AF,hend];simp
  |succ m ih=>
   intro i hi
   have h:i<l.length:=by omega
   rw[AF,hB i h,zXx h,List.findIdx?_cons]
   by_cases hp:p l[i]=true
   ·simp[hp]
   ·simp only[hp,if_false,zQk,Bool.false_eq_true]
    rw[ih (i+1) (by omega)]
    cases(l.drop (i+1)).findIdx? p with
    |none=>rfl
    |some j=>simp only[Option.map_some];congr 2;omega
 have:=key l.length 0 (by omega)
 simpa using this
theorem Rp {α:Type}(l:List α)(p:α->Bool):(l.findIdx? p).isSome=l.any p:=by
 induction l with
 |nil=>rfl
 |cons a l ih=>
  rw[List.findIdx?_cons,List.any_cons]
  cases p a with
  |true=>rfl
  |false=>simp[ih]
theorem ar {α:Type}{l:List α}{p:α->Bool}{i:Nat}(h:l.findIdx? p=some i):∃hi:i<l.length,p l[i]=true/\∀j (hj:j<i),p (l[j]'(by omega))=false:=by
 induction l generalizing i with
 |nil=>simp at h
 |cons a l ih=>
  rw[List.findIdx?_cons]at h
  cases hp:p a with
  |true=>simp[hp]at h;subst h;exact⟨by simp,hp,fun j hj=>absurd hj (Nat.not_lt_zero _)⟩
  |false=>
   simp only[hp,Bool.false_eq_true,if_false,Option.map_eq_some_iff]at h
   obtain⟨k,h1,rfl⟩:=h
   obtain⟨hi,h2,h3⟩:=ih h1
   refine⟨by simpa using hi,by simpa using h2,fun j hj=>?_⟩
   cases j with
   |zero=>exact hp
   |succ j=>simpa using h3 j (by omega)
end Go.Ab
end
section
namespace Go.Ab
theorem A82 (o:Option Nat):decide (fx o>=0)=o.isSome:=by
 cases o with
 |none=>rfl
 |some i=>simp[fx]
theorem NT {l:List _}(hl:l.length<=1048576)(c:_){p:_->Bool}(hc:∀x∈l,JP (x,c)=some (p x,())):Cg (l,c,())=some (fx (l.findIdx? p),()):=by
 unfold Cg
 refine DK hl (p:=p) (fun i h=>?_) ?_
 ·unfold Bm
  have e:=hc _ (zQz h)
  simp only[Ai h,zQk]
  rw[decide_eq_true (by omega),Ah h (by omega)]
  simp only[cond_true]
  erw [e]
  simp only[zQk]
  cases p l[i]<;>rfl
 ·unfold Bm
  simp only
  rw[decide_eq_false (by omega)];rfl
theorem M8 {l:List _}(hl:l.length<=1048576)(c:_){p:_->Bool}(hc:∀x∈l,G3 (x,c)=some (p x,())):BQ (l,c,())=some (fx (l.findIdx? p),()):=by
 unfold BQ
 refine DK hl (p:=p) (fun i h=>?_) ?_
 ·unfold B8
  have e:=hc _ (zQz h)
  simp only[Ai h,zQk]
  rw[decide_eq_true (by omega),Ah h (by omega)]
  simp only[cond_true]
  erw [e]
  simp only[zQk]
  cases p l[i]<;>rfl
 ·unfold B8
  simp only
  rw[decide_eq_false (by omega)];rfl
theorem Mb {l:List _}(hl:l.length<=1048576)(c:_){p:_->Bool}(hc:∀x∈l,G3 (x,c)=some (p x,())):BI (l,c,())=some (l.any p,()):=by
 unfold BI
 have e:=M8 hl c hc
 erw [e]
 simp only[zQk,A83]
abbrev EN:=Int×Int×List VM×List VM×Unit
def smE (e:EN):Prop:=e.2.2.1.length<=1048576/\e.2.2.2.1.length<=1048576
def PI (l:List EN):Prop:=l.length<=1048576/\∀e∈l,smE e
theorem PI.at {l:List EN}(h:PI l){i:Nat}(hi:i<l.length):smE l[i]:=h.2 _ (zQz hi)
def wrt (key:Int)(e:EN):Bool:=e.2.2.2.1.any fun m=>m.1==key
theorem Zf {e:EN}(h:smE e)(key:Int):Fj ((e.1,e.2.1,e.2.2.1,e.2.2.2.1,()),key,())=some (wrt key e,()):=by
 unfold Fj
 have e1:=Mb h.2 (some key,()) (p:=fun m=>m.1==key) (fun m _=>rfl)
 simp only[e1,zQk];rfl
def feI (l:List EN)(id:Int):Option Nat:=l.findIdx? fun e=>e.1==id
theorem A6l {l:List EN}(hl:l.length<=1048576)(id:Int):Jq (l,id,())=some (fx (feI l id),()):=by
 unfold Jq
 have e1:=NT hl (some id,()) (p:=fun e=>e.1==id) (fun m _=>rfl)
 simp only[e1,zQk];rfl
theorem A67 {l:List EN}(hl:l.length<=1048576)(id:Int):Jh (l,id,())=some (fx (feI l id),()):=by
 unfold Jh
 refine DK hl (p:=fun e=>e.1==id) (fun i h=>?_) ?_
 ·unfold ET
  simp only[Ai h,zQk]
  rw[decide_eq_true (by omega),Ah h (by omega)]
  simp only[cond_true]
  cases(l[i].1==id:Bool)<;>rfl
 ·unfold ET
  simp only
  rw[decide_eq_false (by omega)];rfl
def isW (key cr:Int)(e:EN):Bool:=e.2.1==cr&&wrt key e
def Iv (l:List EN)(key cr:Int):Int:=match l.find? (isW key cr)with|some e=>e.1|none=>0
theorem Zt {l:List EN}(hl:PI l)(key cr:Int):Ik (l,(key,cr,()),())=some (Iv l key cr,()):=by
 unfold Ik Iv
 have e:=Nl (l:=l) (p:=isW key cr) (B:=fun v=>Ez (l,((l.length:Nat):Int),key,cr,()) v _ some) (k:=fun p=>Ap p (fun p=>some (p.1,())) fun p=>some (0,())) (yes:=fun e=>some (e.1,())) (no:=some (0,())) (fun i h=>by
  have hs:=hl.1
  have hw:=Zf (hl.at h) key
  unfold Ez isW
  simp only[Ai h,zQk]
  rw[decide_eq_true (by omega),Ah h (by omega)]
  simp only[cond_true,hw,zQk]
  cases(l[i].2.1==cr:Bool)<;>cases wrt key l[i]<;>simp[Ap]) (by
  unfold Ez
  simp only
  rw[decide_eq_false (by omega)];exact⟨_,rfl,rfl⟩)
 rw[e]
 cases l.find? (isW key cr)<;>rfl
theorem Zh {l:List EN}(hl:PI l)(key cr:Int):Ib (l,(key,cr,()),())=some (Iv l key cr,()):=by
 unfold Ib Iv
 have e:=Nl (l:=l) (p:=isW key cr) (B:=fun v=>Ep (l,key,cr,()) v _ some) (k:=fun p=>Ap p (fun p=>some (p.1,())) fun p=>some (0,())) (yes:=fun e=>some (e.1,())) (no:=some (0,())) (fun i h=>by
  have hs:=hl.1
  have h2:=(hl.at h).2
  have e3:=J0 (l:=l[i].2.2.2.1) (B:=fun v=>Eo (l,(i:Int),key,cr,()) v _ some) (fun j=>((j:Int),())) (fun m=>l[i].2.1==cr&&m.1==key) (fd:=fun _=>Sum.inl (l[i].1,())) (no:=Sum.inr ()) (fun j hj=>by
   unfold Eo
   simp only[Ai h,Ai hj,zQk]
   rw[decide_eq_true (by omega),Ah hj (by omega)]
   simp only[cond_true]
   cases(l[i].2.1==cr:Bool)<;>cases(l[i].2.2.2.1[j].1==key:Bool)<;>simp) (by
   unfold Eo
   simp only[Ai h,zQk]
   rw[decide_eq_false (by omega)];rfl) (t0:=(0,())) rfl
  unfold Ep
  simp only
  rw[decide_eq_true (by omega),Ah h (by omega)]
  simp only[cond_true,e3,zQk]
  have hw:=Rp l[i].2.2.2.1 (fun m=>l[i].2.1==cr&&m.1==key)
  have hw2:(l[i].2.2.2.1.any fun m=>l[i].2.1==cr&&m.1==key)=isW key cr l[i]:=by
   unfold isW wrt
   cases(l[i].2.1==cr:Bool)<;>simp
  rw[hw2]at hw
  revert hw
  cases l[i].2.2.2.1.findIdx? (fun m=>l[i].2.1==cr&&m.1==key)with
  |none=>intro hw;rw[<-hw];simp[Ap]
  |some j=>intro hw;rw[<-hw];simp[Ap]) (by
  unfold Ep
  simp only
  rw[decide_eq_false (by omega)];exact⟨_,rfl,rfl⟩)
 rw[e]
 cases l.find? (isW key cr)<;>rfl
def nwS (key after:Int)(s:Option EN)(e:EN):Option EN:=
 if e.2.1>after/\wrt key e=true then(match s with|none=>some e|some b=>if e.2.1<b.2.1 then some e else some b)else s
def QX (l:List EN)(key after:Int):Int:=match l.foldl (nwS key after) none with|some e=>e.1|none=>0
theorem Zy {l:List EN}(hl:PI l)(key after:Int):GD (l,key,after,())=some (QX l key after,()):=by
 unfold GD QX
 have e:=dM (l:=l) (B:=fun v=>Dy (key,after,l,((l.length:Nat):Int),()) v _ some) (fun(s:Option EN) (i:Nat)=>((match s with|some e=>e.1|none=>0),(match s with|some e=>e.2.1|none=>0),s.isSome,(i:Int),())) (nwS key after) (s0:=none) (fun i h s=>by
  have hs:=hl.1
  have hw:=Zf (hl.at h) key
  unfold Dy nwS
  simp only[Ai h,zQk]
  rw[decide_eq_true (by omega),Ah h (by omega)]
  simp only[cond_true,hw,zQk]
  by_cases h1:l[i].2.1>after
  ·cases hk:wrt key l[i]
   ·simp[h1]
   ·cases s with
    |none=>simp[h1]
    |some b=>by_cases h2:l[i].2.1<b.2.1<;>simp[h1,h2]
  ·simp[h1]) (r:=fun s=>((match s with|some e=>e.1|none=>0),())) (fun s=>by
  unfold Dy
  simp only
  rw[decide_eq_false (by omega)];rfl) (t0:=(0,0,false,0,())) rfl
 rw[e];rfl
theorem A72 (key after:Int)(s:Option EN)(e:EN)(h:e.2.1>after)(hw:wrt key e=true)(hb:∃b,s=some b/\b.2.1<=e.2.1):nwS key after s e=s:=by
 obtain⟨b,rfl,hb⟩:=hb
 unfold nwS
 rw[if_pos ⟨h,hw⟩]
 simp only
 rw[if_neg (by omega)]
def atI (l:List EN)(s:Option EN)(n:Int):Prop:=match s with
 |none=>n=-1
 |some b=>∃j:Nat,∃h:j<l.length,n=(j:Int)/\l[j]=b
theorem Zm {l:List EN}(hl:PI l)(key after:Int):Gq (l,key,after,())=some (QX l key after,()):=by
 unfold Gq QX
 have hs:=hl.1
 have inner:∀i (h:i<l.length) (s:Option EN) (n:Int),atI l s n->∃n',Au (fun v_1=>Co (l,key,after,(i:Int),()) v_1 _ some) (n,0,())=some (n',())/\atI l (nwS key after s l[i]) n':=by
  intro i h s n hn
  have h2:=(hl.at h).2
  have key2:∀m j:Nat,j+m=l[i].2.2.2.1.length->∀(s:Option EN) (n:Int),atI l s n->∃n',Au (fun v_1=>Co (l,key,after,(i:Int),()) v_1 _ some) (n,(j:Int),())=some (n',())/\atI l (if(l[i].2.2.2.1.drop j).any (fun m=>m.1==key)=true/\l[i].2.1>after then nwS key after s l[i]else s) n':=by
   intro m
   induction m with
   |zero=>
    intro j hj s n hn
    obtain rfl:j=l[i].2.2.2.1.length:=by omega
    refine⟨n,?_,?_⟩
    ·rw[AF]
     unfold Co
     simp only[Ai h,zQk]
     rw[decide_eq_false (by omega)];rfl
    ·simpa using hn
   |succ m ih=>
    intro j hj s n hn
    have hjl:j<l[i].2.2.2.1.length:=by omega
    have step:∃n1,Co (l,key,after,(i:Int),()) (n,(j:Int),()) _ some=some (Sum.inl (n1,((j+1:Nat):Int),()))/\atI l (if(l[i].2.2.2.1[j].1==key)=true/\l[i].2.1>after then nwS key after s l[i]else s) n1:=by
     unfold Co
     simp only[Ai h,Ai hjl,zQk]
     rw[decide_eq_true (by omega),Ah hjl (by omega)]
     simp only[cond_true]
     by_cases hk:(l[i].2.2.2.1[j].1==key)=true
     ·by_cases ha:l[i].2.1>after
      ·have hwk:wrt key l[i]=true:=List.any_eq_true.2 ⟨_,zQz hjl,hk⟩
       rw[if_pos ⟨hk,ha⟩]
       simp only[hk,cond_true,decide_eq_true ha]
       unfold nwS
       rw[if_pos ⟨ha,hwk⟩]
       cases s with
       |none=>
        obtain rfl:n=-1:=hn
        exact⟨(i:Int),rfl,i,h,rfl,rfl⟩
       |some b=>
        obtain⟨q,hq,rfl,rfl⟩:=hn
        rw[decide_eq_false (by omega)]
        simp only[cond_false,Ai hq,zQk]
        by_cases hb:l[i].2.1<l[q].2.1
        ·simp only[decide_eq_true hb,cond_true,if_pos hb]
         exact⟨(i:Int),rfl,i,h,rfl,rfl⟩
        ·simp only[decide_eq_false hb,cond_false,if_neg hb]
         exact⟨(q:Int),rfl,q,hq,rfl,rfl⟩
      ·rw[if_neg (fun h=>ha h.2)]
       simp only[hk,cond_true,decide_eq_false ha,cond_false]
       exact⟨n,rfl,hn⟩
     ·rw[if_neg (fun h=>hk h.1)]
      simp only[hk,cond_false]
      exact⟨n,rfl,hn⟩
    obtain⟨n1,e1,hn1⟩:=step
    obtain⟨n2,e2,hn2⟩:=ih (j+1) (by omega) _ n1 hn1
    refine⟨n2,?_,?_⟩
    ·rw[AF,e1];exact e2
    ·rw[zXx hjl,List.any_cons]
     by_cases ha:l[i].2.1>after
     ·by_cases hk:(l[i].2.2.2.1[j].1==key)=true
      ·have hwk:wrt key l[i]=true:=List.any_eq_true.2 ⟨_,zQz hjl,hk⟩
       have hid:nwS key after (nwS key after s l[i]) l[i]=nwS key after s l[i]:=by
        refine A72 key after _ _ ha hwk ?_
        unfold nwS
        rw[if_pos ⟨ha,hwk⟩]
        cases s with
        |none=>exact⟨_,rfl,Int.le_refl _⟩
        |some b=>
         simp only
         split
         ·exact⟨_,rfl,Int.le_refl _⟩
         ·exact⟨_,rfl,by omega⟩
       simp only[hk,ha,and_self,if_true,hid,ite_self,Bool.true_or]at hn2 ⊢
       exact hn2
      ·rw[Bool.not_eq_true]at hk
       simpa only[hk,ha,Bool.false_or,Bool.false_eq_true,false_and,if_false]using hn2
     ·simpa[ha]using hn2
  obtain⟨n',e1,h1⟩:=key2 _ 0 (Nat.zero_add _) s n hn
  refine⟨n',e1,?_⟩
  have:(if((l[i].2.2.2.1.drop 0).any (fun m=>m.1==key))=true/\l[i].2.1>after then nwS key after s l[i]else s)=nwS key after s l[i]:=by
   by_cases hc:((l[i].2.2.2.1.drop 0).any (fun m=>m.1==key))=true/\l[i].2.1>after
   ·rw[if_pos hc]
   ·rw[if_neg hc]
    unfold nwS
    rw[if_neg]
    intro h3;exact hc ⟨by simpa[wrt]using h3.2,h3.1⟩
  rw[this]at h1;exact h1
 have outer:∀m i:Nat,i+m=l.length->∀(s:Option EN) (n:Int),atI l s n->∃n',Au (fun v=>CV (l,key,after,()) v _ some) (n,(i:Int),())=some (n',())/\atI l ((l.drop i).foldl (nwS key after) s) n':=by
  intro m
  induction m with
  |zero=>
   intro i hi s n hn
   obtain rfl:i=l.length:=by omega
   refine⟨n,?_,by simpa using hn⟩
   rw[AF]
   unfold CV
   simp only
   rw[decide_eq_false (by omega)];rfl
  |succ m ih=>
   intro i hi s n hn
   have h:i<l.length:=by omega
   obtain⟨n1,e1,hn1⟩:=inner i h s n hn
   obtain⟨n2,e2,hn2⟩:=ih (i+1) (by omega) _ n1 hn1
   refine⟨n2,?_,?_⟩
   ·rw[AF]
    unfold CV
    simp only
    rw[decide_eq_true (by omega),Ah h (by omega)]
    simp only[cond_true,e1,zQk]
    exact e2
   ·rw[zXx h];exact hn2
 obtain⟨n,e,hn⟩:=outer _ 0 (Nat.zero_add _) none (-1) rfl
 have e':Au (fun v=>CV (l,key,after,()) v _ some) (-1,0,())=some (n,()):=e
 rw[e']
 simp only[zQk]
 rw[List.drop_zero]at hn
 revert hn
 cases l.foldl (nwS key after) none with
 |none=>intro hn;obtain rfl:n=-1:=hn;rfl
 |some b=>
  rintro⟨q,hq,rfl,rfl⟩
  rw[decide_eq_false (by omega)]
  simp only[cond_false,Ai hq,zQk]
end Go.Ab
end
section
namespace Go.Ab
theorem aP {ρ:Type}{B:Int×Unit->Option ((Int×Unit) ⊕ ρ)}{n:Nat}{c:Nat->Prop}{Bad:ρ->Prop}{fin:ρ}
 (hB:∀i,i<n->(c i->B ((i:Int),())=some (.inl (((i+1:Nat):Int),())))/\(¬c i->∃r,B ((i:Int),())=some (.inr r)/\Bad r))(hend:B ((n:Int),())=some (.inr fin)):
 ((∀i,i<n->c i)->Au B (0,())=some fin)/\(¬(∀i,i<n->c i)->∃r,Au B (0,())=some r/\Bad r):=by
 constructor
 ·intro hc
  exact Gz n (fun i=>((i:Int),())) rfl (fun i hi=>(hB i hi).1 (hc i hi)) hend
 ·intro hc
  have key:∀m i:Nat,i+m=n->(¬∀j,i<=j->j<n->c j)->∃r,Au B ((i:Int),())=some r/\Bad r:=by
   intro m
   induction m with
   |zero=>
    intro i hi h
    exact absurd (fun j h1 h2=>by omega) h
   |succ m ih=>
    intro i hi h
    by_cases hci:c i
    ·rw[AF,(hB i (by omega)).1 hci]
     refine ih (i+1) (by omega) fun h'=>h fun j h1 h2=>?_
     by_cases e:j=i
     ·rw[e];exact hci
     ·exact h' j (by omega) h2
    ·obtain⟨r,h1,h2⟩:=(hB i (by omega)).2 hci
     exact⟨r,by rw[AF,h1];rfl,h2⟩
  exact key n 0 (Nat.zero_add _) fun h=>hc fun i hi=>h i (Nat.zero_le _) hi
noncomputable def sd (e:EN):Bool:=okT e.1 1 2 0 0 1000 e.2.1 e.2.2.1 e.2.2.2.1
theorem rO {e:EN}(h:smE e):Ke ((e.1,e.2.1,e.2.2.1,e.2.2.2.1,()),())=some (sd e,()):=by
 unfold Ke J2 sd okT
 simp only[M9,Ij,Ri h.1,Qo h.2,zQk]
 rcases Bool.eq_false_or_eq_true (inB e.1 1 9)with h1|h1
 ·have hin:((((2:Int)==2)==decide (e.2.1>0))&&inB e.2.1 0 999)=inB e.2.1 1 999:=by
   unfold inB
   rw[Bool.eq_iff_iff];simp;omega
  have hk:inB (1:Int) 1 4=true/\inB (0:Int) 0 999=true/\inB (2:Int) 1 3=true/\inB (1000:Int) 1 1000=true:=by decide
  rw[h1,hk.1,hk.2.1,hk.2.2.1,hk.2.2.2,<-hin]
  cases(((2:Int)==2)==decide (e.2.1>0))<;>cases inB e.2.1 0 999<;>cases dec (Oq e.2.2.1)<;>cases dec (Rx e.2.2.2.1)<;>cases decide (e.2.2.1.length<=60)<;>rfl
 ·rw[h1];simp
def hC (l:List EN)(i:Nat):Prop:=∃h:i<l.length,sd l[i]=true/\feI l l[i].1=some i/\∀h2:0<i,(l[i-1]'(by omega)).2.1<=l[i].2.1/\(l[i].2.1=(l[i-1]'(by omega)).2.1->l[i].2.2.2.1.length=0)
def mC (l:List EN)(id:Int)(m:VM):Prop:=Iv l m.1 m.2.1≠id/\(m.2.1>0->Iv l m.1 m.2.1≠0)
def rC (l:List EN)(i:Nat):Prop:=∃h:i<l.length,∀j,(hj:j<l[i].2.2.1.length)->mC l l[i].1 l[i].2.2.1[j]
def okH (l:List EN):Prop:=l.length<=9/\(∀i,i<l.length->hC l i)/\∀i,i<l.length->rC l i
theorem qW {l:List EN}{i:Nat}(h:i<l.length):feI l l[i].1=some i↔feI (l.take i) l[i].1=none:=by
 unfold feI
 rw[List.findIdx?_eq_some_iff_getElem,List.findIdx?_eq_none_iff]
 constructor
 ·rintro⟨_,_,h3⟩ x hx
  obtain⟨j,hj,rfl⟩:=List.mem_iff_getElem.1 hx
  have hj':j<i:=by simp at hj;omega
  rw[List.getElem_take]
  simpa using h3 j hj'
 ·intro h3
  refine⟨h,by simp,fun j hj=>?_⟩
  have:=h3 l[j] (List.mem_iff_getElem.2 ⟨j,by simp;omega,by simp⟩)
  simpa using this
theorem qS (o:Option Nat)(i:Nat):(fx o=(i:Int))↔o=some i:=by
 cases o with
 |none=>simp[fx]
 |some j=>simp only[fx,Option.some.injEq];omega
theorem tf {α:Type}{l:List α}{i:Nat}(h:i<=l.length):GM l 0 (i:Int)=some (l.take i):=by
 unfold GM
 rw[if_pos (by omega)];simp
theorem Af1 {l:List EN}{e:EN}{j:Nat}(hj:j<e.2.2.1.length){σ:Type}{nx:σ}:
 ((∀hj:j<e.2.2.1.length,mC l e.1 e.2.2.1[j])->(bif Iv l e.2.2.1[j].1 e.2.2.1[j].2.1==e.1 then some (Sum.inr (Sum.inl (e.2.2.1[j].1,e.2.2.1[j].2.1,())))else bif decide (e.2.2.1[j].2.1>0)then bif Iv l e.2.2.1[j].1 e.2.2.1[j].2.1==0 then some (Sum.inr (Sum.inr (Sum.inl (e.2.2.1[j].1,e.2.2.1[j].2.1,()))))else some (Sum.inl nx)else some (Sum.inl nx):Option (σ ⊕ VM ⊕ VM ⊕ Unit))=some (.inl nx))/\
 ((¬∀hj:j<e.2.2.1.length,mC l e.1 e.2.2.1[j])->∃r,(bif Iv l e.2.2.1[j].1 e.2.2.1[j].2.1==e.1 then some (Sum.inr (Sum.inl (e.2.2.1[j].1,e.2.2.1[j].2.1,())))else bif decide (e.2.2.1[j].2.1>0)then bif Iv l e.2.2.1[j].1 e.2.2.1[j].2.1==0 then some (Sum.inr (Sum.inr (Sum.inl (e.2.2.1[j].1,e.2.2.1[j].2.1,()))))else some (Sum.inl nx)else some (Sum.inl nx):Option (σ ⊕ VM ⊕ VM ⊕ Unit))=some (.inr r)/\((∃a,r=.inl a)\/∃a,r=.inr (.inl a))):=by
 have h0:(∀hj:j<e.2.2.1.length,mC l e.1 e.2.2.1[j])↔mC l e.1 e.2.2.1[j]:=⟨fun h=>h hj,fun h _=>h⟩
 rw[h0]
 unfold mC
 by_cases h1:Iv l e.2.2.1[j].1 e.2.2.1[j].2.1=e.1
 ·rw[show(Iv l e.2.2.1[j].1 e.2.2.1[j].2.1==e.1)=true from by simpa using h1]
  exact⟨fun h=>absurd h1 h.1,fun _=>⟨_,rfl,.inl ⟨_,rfl⟩⟩⟩
 ·rw[show(Iv l e.2.2.1[j].1 e.2.2.1[j].2.1==e.1)=false from by simpa using h1]
  simp only[cond_false]
  by_cases h2:e.2.2.1[j].2.1>0
  ·rw[decide_eq_true h2]
   simp only[cond_true]
   by_cases h3:Iv l e.2.2.1[j].1 e.2.2.1[j].2.1=0
   ·rw[show(Iv l e.2.2.1[j].1 e.2.2.1[j].2.1==0)=true from by simpa using h3]
    exact⟨fun h=>absurd h3 (h.2 h2),fun _=>⟨_,rfl,.inr ⟨_,rfl⟩⟩⟩
   ·rw[show(Iv l e.2.2.1[j].1 e.2.2.1[j].2.1==0)=false from by simpa using h3]
    exact⟨fun _=>rfl,fun h=>absurd ⟨h1,fun _=>h3⟩ h⟩
  ·rw[decide_eq_false h2]
   exact⟨fun _=>rfl,fun h=>absurd ⟨h1,fun h=>absurd h h2⟩ h⟩
theorem qC {l:List EN}(h9:l.length<=9):(bif dec (∀i,i<l.length->hC l i)then bif dec (∀i,i<l.length->rC l i)then some (true,())else some (false,())else some (false,()))=some (dec (okH l),()):=by
 by_cases h1:∀i,i<l.length->hC l i
 ·rw[Ax h1]
  by_cases h2:∀i,i<l.length->rC l i
  ·rw[Ax h2,Ax (show okH l from⟨h9,h1,h2⟩)];rfl
  ·rw[AI h2,AI (fun h:okH l=>h2 h.2.2)];rfl
 ·rw[AI h1,AI (fun h:okH l=>h1 h.2.1)];rfl
theorem Aet {l:List EN}(hl:PI l):Jm (l,())=some (dec (okH l),()):=by
 unfold Jm
 have hs:=hl.1
 by_cases h9:l.length<=9
 case neg=>
  simp only
  rw[decide_eq_true (by omega),AI (fun h=>h9 h.1)];rfl
 simp only
 rw[decide_eq_false (by omega)]
 simp only[cond_false]
 refine(BL (n:=l.length) (c:=hC l) (no:=some (false,())) (X:=bif dec (∀i,i<l.length->rC l i)then some (true,())else some (false,())) (fun i hi=>?_) ⟨.inr (.inr (.inr (.inr ()))),?_,?_⟩).trans ?_
 ·have hm:=hl.at hi
  unfold F6
  simp only[Ai hi,zQk,rO hm,A6l hs]
  rw[decide_eq_true (by omega)]
  simp only[cond_true]
  cases h1:sd l[i]with
  |false=>exact⟨fun⟨_,h,_⟩=>(by rw[h1]at h;cases h),fun _=>⟨_,rfl,rfl⟩⟩
  |true=>
   simp only[zXj,cond_false]
   by_cases h2:feI l l[i].1=some i
   case neg=>
    rw[show(fx (feI l l[i].1) != (i:Int))=true from by rw[A74];simp[qS,h2]]
    exact⟨fun⟨_,_,h,_⟩=>absurd h h2,fun _=>⟨_,rfl,rfl⟩⟩
   rw[show(fx (feI l l[i].1) != (i:Int))=false from by rw[A74];simp[qS,h2]]
   simp only[cond_false]
   rw[Ah hi (by omega)]
   by_cases h3:0<i
   ·have hlt:i-1<l.length:=by omega
    rw[decide_eq_true (show(i:Int)>0 by omega),show zXq.wrap ((i:Int)-1)=((i-1:Nat):Int)from by rw[Bn (by omega) (by omega)];omega,Ai hlt]
    simp only[cond_true,zQk]
    by_cases hb:l[i-1].2.1<=l[i].2.1
    case neg=>
     rw[decide_eq_true (by omega)]
     exact⟨fun⟨_,_,_,h⟩=>absurd (h h3).1 hb,fun _=>⟨_,rfl,rfl⟩⟩
    rw[decide_eq_false (by omega)]
    simp only[cond_false]
    by_cases q:l[i].2.1=l[i-1].2.1
    ·rw[show(l[i].2.1==l[i-1].2.1)=true from by simpa using q]
     simp only[cond_true]
     by_cases q2:l[i].2.2.2.1.length=0
     ·rw[decide_eq_false (by omega)]
      exact⟨fun _=>rfl,fun h=>absurd ⟨hi,h1,h2,fun _=>⟨hb,fun _=>q2⟩⟩ h⟩
     ·rw[decide_eq_true (by omega)]
      exact⟨fun⟨_,_,_,h⟩=>absurd ((h h3).2 q) q2,fun _=>⟨_,rfl,rfl⟩⟩
    ·rw[show(l[i].2.1==l[i-1].2.1)=false from by simpa using q]
     exact⟨fun _=>rfl,fun h=>absurd ⟨hi,h1,h2,fun _=>⟨hb,fun e=>absurd e q⟩⟩ h⟩
   ·rw[decide_eq_false (show ¬(i:Int)>0 by omega)]
    exact⟨fun _=>rfl,fun h=>absurd ⟨hi,h1,h2,fun e=>absurd e h3⟩ h⟩
 ·unfold F6
  simp only
  rw[decide_eq_false (by omega)];rfl
 ·simp only[Ap]
  refine BL (n:=l.length) (c:=rC l) (no:=some (false,())) (X:=some (true,())) (fun i hi=>?_) ⟨.inr (.inr ()),?_,rfl⟩
  ·have hm:=hl.at hi
   have hm1:=hm.1
   have e:=aP (ρ:=VM ⊕ VM ⊕ Unit) (n:=l[i].2.2.1.length) (c:=fun j=>∀hj:j<l[i].2.2.1.length,mC l l[i].1 l[i].2.2.1[j]) (B:=fun v_2=>Dz (l,l,((l.length:Nat):Int),(i:Int),l[i].2.2.1,((l[i].2.2.1.length:Nat):Int),l[i].1,l[i].2.1,l[i].2.2.1,l[i].2.2.2.1,()) v_2 _ some) (Bad:=fun r=>(∃a,r=.inl a)\/∃a,r=.inr (.inl a)) (fin:=.inr (.inr ())) (fun j hj=>by
    unfold Dz
    simp only[Ai hj,zQk,Zt hl]
    rw[decide_eq_true (by omega),Ah hj (by omega)]
    simp only[cond_true]
    exact Af1 hj) (by
    unfold Dz
    simp only
    rw[decide_eq_false (by omega)];rfl)
   unfold EA
   simp only[Ai hi,zQk]
   rw[decide_eq_true (by omega),Ah hi (by omega)]
   simp only[cond_true]
   constructor
   ·rintro⟨_,hc⟩
    rw[e.1 (fun j _=>hc j)];rfl
   ·intro hc
    obtain⟨r,h1,h2⟩:=e.2 (fun h=>hc ⟨hi,fun j hj=>h j hj hj⟩)
    rw[h1]
    rcases h2 with⟨a,rfl⟩|⟨a,rfl⟩<;>exact⟨_,rfl,rfl⟩
  ·unfold EA
   simp only
   rw[decide_eq_false (by omega)];rfl
 ·exact qC h9
theorem A78 {l:List EN}{e:EN}{j:Nat}(hj:j<e.2.2.1.length){σ:Type}{nx:σ}:
 ((∀hj:j<e.2.2.1.length,mC l e.1 e.2.2.1[j])->(bif Iv l e.2.2.1[j].1 e.2.2.1[j].2.1==e.1 then some (Sum.inr (Sum.inl ()))else bif decide (e.2.2.1[j].2.1>0)then bif Iv l e.2.2.1[j].1 e.2.2.1[j].2.1==0 then some (Sum.inr (Sum.inr (Sum.inl ())))else some (Sum.inl nx)else some (Sum.inl nx):Option (σ ⊕ Unit ⊕ Unit ⊕ Unit))=some (.inl nx))/\
 ((¬∀hj:j<e.2.2.1.length,mC l e.1 e.2.2.1[j])->∃r,(bif Iv l e.2.2.1[j].1 e.2.2.1[j].2.1==e.1 then some (Sum.inr (Sum.inl ()))else bif decide (e.2.2.1[j].2.1>0)then bif Iv l e.2.2.1[j].1 e.2.2.1[j].2.1==0 then some (Sum.inr (Sum.inr (Sum.inl ())))else some (Sum.inl nx)else some (Sum.inl nx):Option (σ ⊕ Unit ⊕ Unit ⊕ Unit))=some (.inr r)/\((∃a,r=.inl a)\/∃a,r=.inr (.inl a))):=by
 have h0:(∀hj:j<e.2.2.1.length,mC l e.1 e.2.2.1[j])↔mC l e.1 e.2.2.1[j]:=⟨fun h=>h hj,fun h _=>h⟩
 rw[h0]
 unfold mC
 by_cases h1:Iv l e.2.2.1[j].1 e.2.2.1[j].2.1=e.1
 ·rw[show(Iv l e.2.2.1[j].1 e.2.2.1[j].2.1==e.1)=true from by simpa using h1]
  exact⟨fun h=>absurd h1 h.1,fun _=>⟨_,rfl,.inl ⟨_,rfl⟩⟩⟩
 ·rw[show(Iv l e.2.2.1[j].1 e.2.2.1[j].2.1==e.1)=false from by simpa using h1]
  simp only[cond_false]
  by_cases h2:e.2.2.1[j].2.1>0
  ·rw[decide_eq_true h2]
   simp only[cond_true]
   by_cases h3:Iv l e.2.2.1[j].1 e.2.2.1[j].2.1=0
   ·rw[show(Iv l e.2.2.1[j].1 e.2.2.1[j].2.1==0)=true from by simpa using h3]
    exact⟨fun h=>absurd h3 (h.2 h2),fun _=>⟨_,rfl,.inr ⟨_,rfl⟩⟩⟩
   ·rw[show(Iv l e.2.2.1[j].1 e.2.2.1[j].2.1==0)=false from by simpa using h3]
    exact⟨fun _=>rfl,fun h=>absurd ⟨h1,fun _=>h3⟩ h⟩
  ·rw[decide_eq_false h2]
   exact⟨fun _=>rfl,fun h=>absurd ⟨h1,fun h=>absurd h h2⟩ h⟩
theorem qy {l:List EN}(hl:PI l):Jd (l,())=some (dec (okH l),()):=by
 unfold Jd
 have hs:=hl.1
 refine(BL (n:=l.length) (c:=hC l) (no:=some (false,())) (X:=bif dec (∀i,i<l.length->rC l i)then some (decide ((l.length:Int)<=9),())else some (false,())) (fun i hi=>?_) ⟨.inr (.inr (.inr (.inr ()))),?_,?_⟩).trans ?_
 ·have hm:=hl.at hi
  unfold ER MR
  simp only[Ai hi,zQk,Qn hm.1 hm.2,tf (Nat.le_of_lt hi),A67 (show(l.take i).length<=1048576 by simp;omega)]
  rw[decide_eq_true (by omega)]
  simp only[cond_true]
  cases h1:okT l[i].1 1 2 0 0 1000 l[i].2.1 l[i].2.2.1 l[i].2.2.2.1 with
  |false=>exact⟨fun⟨_,h,_⟩=>(by unfold sd at h;rw[h1]at h;cases h),fun _=>⟨_,rfl,rfl⟩⟩
  |true=>
   simp only[zXj,cond_false]
   by_cases h2:feI l l[i].1=some i
   case neg=>
    have h2':¬feI (l.take i) l[i].1=none:=fun h=>h2 ((qW hi).2 h)
    rw[A82]
    rw[show(feI (l.take i) l[i].1).isSome=true from by cases h:feI (l.take i) l[i].1 with|none=>exact absurd h h2'|some _=>rfl]
    exact⟨fun⟨_,_,h,_⟩=>absurd h h2,fun _=>⟨_,rfl,rfl⟩⟩
   rw[A82,(qW hi).1 h2]
   simp only[Option.isSome_none,cond_false]
   rw[Ah hi (by omega)]
   by_cases h3:0<i
   ·have hlt:i-1<l.length:=by omega
    rw[decide_eq_true (show(i:Int)>0 by omega),show zXq.wrap ((i:Int)-1)=((i-1:Nat):Int)from by rw[Bn (by omega) (by omega)];omega,Ai hlt]
    simp only[cond_true,zQk]
    by_cases hb:l[i-1].2.1<=l[i].2.1
    case neg=>
     rw[decide_eq_true (by omega)]
     exact⟨fun⟨_,_,_,h⟩=>absurd (h h3).1 hb,fun _=>⟨_,rfl,rfl⟩⟩
    rw[decide_eq_false (by omega)]
    simp only[cond_false]
    by_cases q:l[i].2.1=l[i-1].2.1
    ·rw[show(l[i-1].2.1==l[i].2.1)=true from by simpa using q.symm]
     simp only[cond_true]
     by_cases q2:l[i].2.2.2.1.length=0
     ·rw[decide_eq_false (by omega)]
      exact⟨fun _=>rfl,fun h=>absurd ⟨hi,h1,h2,fun _=>⟨hb,fun _=>q2⟩⟩ h⟩
     ·rw[decide_eq_true (by omega)]
      exact⟨fun⟨_,_,_,h⟩=>absurd ((h h3).2 q) q2,fun _=>⟨_,rfl,rfl⟩⟩
    ·rw[show(l[i-1].2.1==l[i].2.1)=false from by simpa using fun h=>q h.symm]
     exact⟨fun _=>rfl,fun h=>absurd ⟨hi,h1,h2,fun _=>⟨hb,fun e=>absurd e q⟩⟩ h⟩
   ·rw[decide_eq_false (show ¬(i:Int)>0 by omega)]
    exact⟨fun _=>rfl,fun h=>absurd ⟨hi,h1,h2,fun e=>absurd e h3⟩ h⟩
 ·unfold ER
  simp only
  rw[decide_eq_false (by omega)];rfl
 ·simp only[Ap]
  refine BL (n:=l.length) (c:=rC l) (no:=some (false,())) (X:=some (decide ((l.length:Int)<=9),())) (fun i hi=>?_) ⟨.inr (.inr ()),?_,rfl⟩
  ·have hm:=hl.at hi
   have hm1:=hm.1
   have e:=aP (ρ:=Unit ⊕ Unit ⊕ Unit) (n:=l[i].2.2.1.length) (c:=fun j=>∀hj:j<l[i].2.2.1.length,mC l l[i].1 l[i].2.2.1[j]) (B:=fun v_2=>Dw (l,(i:Int),()) v_2 _ some) (Bad:=fun r=>(∃a,r=.inl a)\/∃a,r=.inr (.inl a)) (fin:=.inr (.inr ())) (fun j hj=>by
    unfold Dw
    simp only[Ai hi,Ai hj,zQk,Zh hl]
    rw[decide_eq_true (by omega),Ah hj (by omega)]
    simp only[cond_true]
    exact A78 hj) (by
    unfold Dw
    simp only[Ai hi,zQk]
    rw[decide_eq_false (by omega)];rfl)
   unfold EP
   simp only[Ai hi,zQk]
   rw[decide_eq_true (by omega),Ah hi (by omega)]
   simp only[cond_true]
   constructor
   ·rintro⟨_,hc⟩
    rw[e.1 (fun j _=>hc j)];rfl
   ·intro hc
    obtain⟨r,h1,h2⟩:=e.2 (fun h=>hc ⟨hi,fun j hj=>h j hj hj⟩)
    rw[h1]
    rcases h2 with⟨a,rfl⟩|⟨a,rfl⟩<;>exact⟨_,rfl,rfl⟩
  ·unfold EP
   simp only
   rw[decide_eq_false (by omega)];rfl
 ·by_cases h9:l.length<=9
  ·rw[decide_eq_true (show(l.length:Int)<=9 by omega)];exact qC h9
  ·rw[decide_eq_false (show ¬(l.length:Int)<=9 by omega),AI (fun h:okH l=>h9 h.1)]
   cases dec (∀i,i<l.length->hC l i)<;>cases dec (∀i,i<l.length->rC l i)<;>rfl
end Go.Ab
end
section
namespace Go.Ab
def ltE (a b:EDg):Bool:=decide (a.1<b.1\/(a.1=b.1/\(a.2.1<b.2.1\/(a.2.1=b.2.1/\(a.2.2.1<b.2.2.1\/(a.2.2.1=b.2.2.1/\a.2.2.2.1<b.2.2.2.1))))))
theorem Lj (a b:EDg):ltE a b=true↔(a.1<b.1\/(a.1=b.1/\(a.2.1<b.2.1\/(a.2.1=b.2.1/\(a.2.2.1<b.2.2.1\/(a.2.2.1=b.2.2.1/\a.2.2.2.1<b.2.2.2.1)))))):=by unfold ltE;exact decide_eq_true_iff
theorem qX {a b:EDg}(h1:a.1=b.1)(h2:a.2.1=b.2.1)(h3:a.2.2.1=b.2.2.1)(h4:a.2.2.2.1=b.2.2.2.1):a=b:=by
 obtain⟨a1,a2,a3,a4,_⟩:=a
 obtain⟨b1,b2,b3,b4,_⟩:=b
 simp only at h1 h2 h3 h4
 subst h1;subst h2;subst h3;subst h4;rfl
theorem A95:StO ltE where
 irr:=fun x=>by rw[<-Bool.not_eq_true,Lj];omega
 tr:=fun x y z h1 h2=>by rw[Lj]at*;omega
 tri:=fun x y=>by
  rw[Lj,Lj]
  by_cases h:x.1=y.1/\x.2.1=y.2.1/\x.2.2.1=y.2.2.1/\x.2.2.2.1=y.2.2.2.1
  ·exact .inr (.inl (qX h.1 h.2.1 h.2.2.1 h.2.2.2))
  ·omega
def orL (l:List Int):Int:=match l.find? (fun x=>x != 0)with|some x=>x|none=>0
theorem Anf {l:List Int}(hl:l.length<=1048576):I7 (l,())=some (orL l,()):=by
 unfold I7 orL
 have e:=Nl (l:=l) (p:=fun x=>x != 0) (B:=fun v=>CG (0,l,((l.length:Nat):Int),()) v _ some) (k:=fun p=>Ap p (fun p=>some (p.1,())) fun p=>some (0,())) (yes:=fun e=>some (e,())) (no:=some (0,())) (fun i h=>by
  unfold CG
  simp only[Ai h,zQk]
  rw[decide_eq_true (by omega),Ah h (by omega)]
  simp only[cond_true]
  cases(l[i] != 0:Bool)<;>simp[Ap]) (by
  unfold CG
  simp only
  rw[decide_eq_false (by omega)];exact⟨_,rfl,rfl⟩)
 rw[e]
 cases l.find? (fun x=>x != 0)<;>rfl
def cm1 (a b:Int):Int:=if a<b then-1 else if a>b then 1 else 0
def cmE (a b:EDg):Int:=orL [cm1 a.1 b.1,cm1 a.2.1 b.2.1,cm1 a.2.2.1 b.2.2.1,cm1 a.2.2.2.1 b.2.2.2.1]
theorem A6v (a b:EDg):CH (a,b,())=some (cmE a b,()):=by
 unfold CH
 simp only[ZG,zQk]
 rw[Anf (by simp)];rfl
theorem A6y (x:Int)(l:List Int):orL (x::l)=if x=0 then orL l else x:=by
 unfold orL
 by_cases h:x=0<;>simp[h]
theorem A8k (a b:Int):cm1 a b=0↔a=b:=by unfold cm1;split<;>omega
theorem SX (a b:Int):cm1 a b<0↔a<b:=by unfold cm1;split<;>omega
theorem A8j (a b:EDg):cmE a b<0↔ltE a b=true:=by
 rw[Lj]
 unfold cmE
 simp only[A6y,A8k]
 rw[show orL []=0 from rfl]
 by_cases h1:a.1=b.1
 ·rw[if_pos h1]
  by_cases h2:a.2.1=b.2.1
  ·rw[if_pos h2]
   by_cases h3:a.2.2.1=b.2.2.1
   ·rw[if_pos h3]
    by_cases h4:a.2.2.2.1=b.2.2.2.1
    ·rw[if_pos h4];omega
    ·rw[if_neg h4,SX];omega
   ·rw[if_neg h3,SX];omega
  ·rw[if_neg h2,SX];omega
 ·rw[if_neg h1,SX];omega
theorem Li (a b:EDg):ltS (t:=AZ) CH a b=ltE a b:=by
 have:dV (t:=AZ) CH a b=cmE a b:=by
  have e:=A6v a b
  unfold dV
  erw [e]
 unfold ltS
 rw[this,Bool.eq_iff_iff,decide_eq_true_iff]
 exact A8j a b
theorem aX:SortOK (t:=AZ) CH where
 tot:=fun a b=>⟨_,A6v a b⟩
 irrefl:=fun x=>by rw[Li];exact A95.irr x
 trans:=fun x y z=>by rw[Li,Li,Li];exact A95.tr x y z
 ntrans:=fun x y z=>by
  rw[Li,Li,Li,<-Bool.not_eq_true,<-Bool.not_eq_true,<-Bool.not_eq_true,Lj,Lj,Lj];omega
 anti:=fun x y h1 h2=>by
  rw[Li]at h1 h2
  rcases A95.tri x y with h|h|h
  ·rw[h1]at h;cases h
  ·exact h
  ·rw[h2]at h;cases h
theorem Aeq {l:List EDg}(hl:l.length<4611686018427387904):Cc (l,())=some (l.mergeSort fun a b=>!ltE b a,()):=by
 unfold Cc WV
 rw[if_pos ⟨aX,hl⟩]
 congr 2
 congr 1
 funext a b
 rw[Li]
theorem Agl (a b:EDg):(a.1==b.1&&(a.2.1==b.2.1&&(a.2.2.1==b.2.2.1&&(a.2.2.2.1==b.2.2.2.1&&true))))=decide (a=b):=by
 rw[Bool.eq_iff_iff]
 simp only[zJq,beq_iff_eq,decide_eq_true_iff,and_true]
 exact⟨fun⟨h1,h2,h3,h4⟩=>qX h1 h2 h3 h4,fun h=>by subst h;exact⟨rfl,rfl,rfl,rfl⟩⟩
theorem rt {α:Type}{l:List α}{k:Nat}(h:k<l.length):(l.take (k+1)).getLast?=some l[k]:=by
 rw[List.take_add_one,zQx h]
 simp only[Option.toList_some,List.getLast?_append,List.getLast?_singleton,Option.some_or]
theorem az (l:List EDg){k:Nat}(h:k<l.length)(h0:0<k):ded (l.take (k+1))=if l[k-1]'(by omega)=l[k]then ded (l.take k)else ded (l.take k)++[l[k]]:=by
 rw[List.take_add_one,zQx h]
 simp only[Option.toList_some]
 rw[ST]
 unfold Ti
 rw[SU]
 have:=rt (l:=l) (k:=k-1) (by omega)
 rw[show k-1+1=k by omega]at this
 rw[this]
 simp only[Option.some.injEq]
theorem A8i {l:List EDg}(hl:l.length<4611686018427387904){o:Nat}(ho:0<o)(hol:o<l.length):∀m k2:Nat,o+k2+m=l.length->1<=k2->(ded (l.take (o+k2))).length<=o+k2-1->
 Au (fun v=>AL () v _ some) (((ded (l.take (o+k2))).length:Int),(o,l.length-o),(k2:Int),ded (l.take (o+k2))++l.drop (ded (l.take (o+k2))).length,())=some (((ded l).length:Int),ded l++l.drop (ded l).length,()):=by
 intro m
 induction m with
 |zero=>
  intro k2 h1 h2 h3
  rw[show l.take (o+k2)=l from List.take_of_length_le (by omega)]
  rw[AF]
  unfold AL
  simp only
  rw[decide_eq_false (by omega)];rfl
 |succ m ih=>
  intro k2 h1 h2 h3
  have hi:o+k2<l.length:=by omega
  have ih:=ih (k2+1) (by omega) (by omega)
  rw[show o+(k2+1)=(o+k2)+1 by omega,az l hi (by omega)]at ih
  generalize hD:ded (l.take (o+k2))=D at h3 ih ⊢
  have hrow:∀j,D.length<=j->j<l.length->(D++l.drop D.length)[j]? =l[j]?:=by
   intro j hj hjl
   rw[List.getElem?_append_right hj,List.getElem?_drop]
   congr 1;omega
  have hlen:(D++l.drop D.length).length=l.length:=by simp;omega
  by_cases he:l[o+k2]=l[o+k2-1]'(by omega)
  ·have step:AL () ((D.length:Int),(o,l.length-o),(k2:Int),D++l.drop D.length,()) ((Int×(Nat×Nat)×Int×List EDg×Unit) ⊕ (Int×List EDg×Unit)) some=some (.inl ((D.length:Int),(o,l.length-o),((k2+1:Nat):Int),D++l.drop D.length,())):=by
    unfold AL
    simp only
    rw[decide_eq_true (by omega),Bn (n:=(k2:Int)-1) (by omega) (by omega),Bn (n:=(k2:Int)+1) (by omega) (by omega),Bn (n:=(D.length:Int)+1) (by omega) (by omega),hlen]
    simp only[cond_true]
    rw[if_pos (by omega)]
    rw[show o+((k2:Int)).toNat=o+k2 by omega,show o+((k2:Int)-1).toNat=o+k2-1 by omega,hrow _ (by omega) hi,hrow _ (by omega) (by omega),zQx hi,zQx (show o+k2-1<l.length by omega)]
    simp only[zQk]
    rw[if_pos (by omega)]
    rw[Agl,decide_eq_true he]
    rfl
   rw[if_pos he.symm]at ih
   rw[AF,step]
   exact ih (by omega)
  ·have hset:(D++l.drop D.length).set D.length (l[o+k2].1,l[o+k2].2.1,l[o+k2].2.2.1,l[o+k2].2.2.2.1,())=(D++[l[o+k2]])++l.drop (D.length+1):=by
    rw[List.set_append_right _ _ (zQq _),Nat.sub_self,zXx (show D.length<l.length by omega),List.set_cons_zero]
    simp
   have step:AL () ((D.length:Int),(o,l.length-o),(k2:Int),D++l.drop D.length,()) ((Int×(Nat×Nat)×Int×List EDg×Unit) ⊕ (Int×List EDg×Unit)) some=some (.inl (((D.length+1:Nat):Int),(o,l.length-o),((k2+1:Nat):Int),(D++[l[o+k2]])++l.drop (D.length+1),())):=by
    unfold AL
    simp only
    rw[decide_eq_true (by omega),Bn (n:=(k2:Int)-1) (by omega) (by omega),Bn (n:=(k2:Int)+1) (by omega) (by omega),Bn (n:=(D.length:Int)+1) (by omega) (by omega),hlen]
    simp only[cond_true]
    rw[if_pos (by omega)]
    rw[show o+((k2:Int)).toNat=o+k2 by omega,show o+((k2:Int)-1).toNat=o+k2-1 by omega,hrow _ (by omega) hi,hrow _ (by omega) (by omega),zQx hi,zQx (show o+k2-1<l.length by omega)]
    simp only[zQk]
    rw[if_pos (by omega)]
    rw[Agl,decide_eq_false he]
    simp only[Bool.not_false,cond_true]
    rw[if_pos (by omega)]
    rw[if_pos (by omega),show 0+((D.length:Int)).toNat=D.length by omega,hrow _ (zQq _) (by omega),zQx (show D.length<l.length by omega)]
    simp only[zQk]
    rw[hset]
    rfl
   rw[if_neg (fun h=>he h.symm)]at ih
   rw[AF,step]
   have:=ih (by simp;omega)
   simp only[zJk,List.length_singleton]at this
   exact this
theorem Agg {α:Type}[DecidableEq α](l:List α):(ded l).length<=l.length:=by
 unfold ded
 suffices ∀(l acc:List α),(l.foldl Ti acc).length<=acc.length+l.length by simpa using this l []
 intro l
 induction l with
 |nil=>intro acc;simp
 |cons a l ih=>
  intro acc
  have:=ih (Ti acc a)
  have h2:(Ti acc a).length<=acc.length+1:=by unfold Ti;split<;>simp
  simp only[List.foldl_cons,zXk];omega
theorem rV {l:List EDg}(hl:l.length<4611686018427387904):Ds (l,())=some (ded l,()):=by
 unfold Ds
 simp only
 by_cases h2:l.length<2
 ·rw[decide_eq_true (by omega)]
  match l,h2 with
  |[],_=>rfl
  |[a],_=>rfl
 rw[decide_eq_false (by omega)]
 simp only[cond_false]
 have key:∀m k:Nat,k+m=l.length->1<=k->ded (l.take k)=l.take k->((Au (fun v=>BA (l,()) v _ some) ((k:Int),())).bind fun p=>Ap p (fun p=>some (List.take p.1 p.2.1,())) fun p=>some (l,()))=some (ded l,()):=by
  intro m
  induction m with
  |zero=>
   intro k h1 _ h3
   rw[AF]
   unfold BA
   simp only
   rw[decide_eq_false (by omega)]
   rw[List.take_of_length_le (by omega)]at h3
   simp only[cond_false,zQk,Ap]
   rw[h3]
  |succ m ih=>
   intro k h1 hk h3
   have h:k<l.length:=by omega
   rw[AF]
   unfold BA
   simp only
   rw[decide_eq_true (by omega),Bn (n:=(k:Int)-1) (by omega) (by omega),Bn (n:=(k:Int)+1) (by omega) (by omega),if_pos (by omega),show 0+((k:Int)).toNat=k by omega,show 0+((k:Int)-1).toNat=k-1 by omega,zQx h,zQx (show k-1<l.length by omega)]
   simp only[cond_true,zQk]
   rw[if_pos (by omega),Agl]
   have hd:=az l h hk
   by_cases he:l[k]=l[k-1]'(by omega)
   ·rw[decide_eq_true he]
    rw[if_pos he.symm,h3]at hd
    simp only[cond_true]
    rw[if_pos (by omega)]
    have h9:=A8i hl (o:=k) (by omega) h (l.length-(k+1)) 1 (by omega) (zQq _) (by rw[hd];simp;omega)
    rw[hd]at h9
    have e1:(l.take k).length=k:=by simp;omega
    rw[e1,List.take_append_drop]at h9
    rw[show((l.length:Int)).toNat-((k:Int)).toNat=l.length-k by omega]
    have h9':Au (fun v=>AL () v _ some) ((k:Int),(k,l.length-k),1,l,())=some (((ded l).length:Int),ded l++l.drop (ded l).length,()):=h9
    rw[h9']
    simp only[zQk]
    have hle:(ded l).length<=l.length:=Agg l
    have hlen:(ded l++l.drop (ded l).length).length=l.length:=by simp;omega
    rw[if_pos (by omega)]
    rw[if_pos (by
     refine⟨Int.le_refl _,by omega,?_⟩
     rw[hlen]
     simp only[zJk,List.length_take,List.length_replicate,List.length_drop]
     omega)]
    simp only[zQk,Ap]
    congr 2
    rw[show((((ded l).length:Nat):Int)).toNat-(0:Int).toNat=(ded l).length by omega,show 0+((((ded l).length:Nat):Int)).toNat=(ded l).length by omega]
    rw[List.append_assoc,List.take_append_of_le_length (by simp),List.take_take,Nat.min_self,List.take_left]
   ·rw[decide_eq_false he]
    simp only[cond_false,zQk]
    rw[if_neg (fun h=>he h.symm),h3]at hd
    refine ih (k+1) (by omega) (by omega) ?_
    rw[hd,List.take_add_one,zQx h];rfl
 have:=key (l.length-1) 1 (by omega) (zQq _) (by
  match l,h2 with
  |a::r,_=>simp[ded,Ti])
 exact this
end Go.Ab
end
section
namespace Go.Ab
def Af0 (e:EDg):Bool:=e.1 != 0&&(e.2.1 != 0&&e.1 != e.2.1)
def Kl (g:List EDg)(e:EDg):List EDg:=if Af0 e=true then g++[e]else g
def Kx (g:List EDg)(e:EDg):List EDg:=if Af0 e=true then Nc ltE g e else g
section
variable (P:List EDg->EDg->List EDg)(l:List EN)
def gR (id:Int)(g:List EDg)(m:VM):List EDg:=P (P g (Iv l m.1 m.2.1,id,1,m.1,())) (id,QX l m.1 m.2.1,3,m.1,())
def gW (id st:Int)(g:List EDg)(m:VM):List EDg:=P g (id,QX l m.1 st,2,m.1,())
def gX (g:List EDg)(e:EN):List EDg:=e.2.2.2.1.foldl (gW P l e.1 e.2.1) (e.2.2.1.foldl (gR P l e.1) g)
def gA:List EDg:=l.foldl (gX P l) []
end
theorem Qk (g:List EDg)(e:EDg):(Kl g e).length<=g.length+1:=by unfold Kl;split<;>simp
theorem HB {α β:Type}{f:List β->α->List β}{c:Nat}:∀(l:List α) (g:List β),(∀g,∀x∈l,(f g x).length<=g.length+c)->(l.foldl f g).length<=g.length+c*l.length
 |[],g,_=>by simp
 |x::l,g,h=>by
  have h1:=h g x (zKj ..)
  have h2:=HB l (f g x) fun g y hy=>h g y (zKk _ hy)
  simp only[List.foldl_cons,zXk,Nat.mul_add,Nat.mul_one]
  omega
theorem dR (l:List EN)(id:Int)(g:List EDg)(m:VM):(gR Kl l id g m).length<=g.length+2:=by
 unfold gR
 have h1:=Qk g (Iv l m.1 m.2.1,id,1,m.1,())
 have h2:=Qk (Kl g (Iv l m.1 m.2.1,id,1,m.1,())) (id,QX l m.1 m.2.1,3,m.1,())
 omega
theorem A80 (l:List EN)(id st:Int)(g:List EDg)(m:VM):(gW Kl l id st g m).length<=g.length+1:=Qk _ _
theorem A7z (l:List EN){e:EN}(h:smE e)(g:List EDg):(gX Kl l g e).length<=g.length+3145728:=by
 unfold gX
 have h1:=HB (f:=gR Kl l e.1) (c:=2) e.2.2.1 g fun g m _=>dR l e.1 g m
 have h2:=HB (f:=gW Kl l e.1 e.2.1) (c:=1) e.2.2.2.1 (e.2.2.1.foldl (gR Kl l e.1) g) fun g m _=>A80 l e.1 e.2.1 g m
 have:=h.1;have:=h.2
 omega
theorem Amh {l:List EN}(h:PI l)(h9:l.length<=9):(gA Kl l).length<=28311552:=by
 have:=HB (f:=gX Kl l) (c:=3145728) l [] fun g e he=>A7z l (h.2 e he) g
 unfold gA
 simp only[List.length_nil]at this
 omega
theorem dj {g:List EDg}(h:g.length<=1000000000)(e:EDg):FB (e.1,e.2.1,e.2.2.1,e.2.2.2.1,g,())=some (Kl g e,()):=by
 unfold FB Kl Af0
 simp only
 cases(e.1 != 0:Bool)<;>cases(e.2.1 != 0:Bool)<;>cases(e.1 != e.2.1:Bool)<;>simp
 omega
theorem Aew {l:List EN}(hl:PI l)(h9:l.length<=9):Kf (l,())=some (ded ((gA Kl l).mergeSort fun a b=>!ltE b a),()):=by
 unfold Kf
 have hs:=hl.1
 have eR:∀i (h:i<l.length) (g:List EDg),g.length<=28311552->Au (fun v_2=>GN (l,l,((l.length:Nat):Int),(i:Int),l[i].2.2.1,((l[i].2.2.1.length:Nat):Int),l[i].1,l[i].2.1,l[i].2.2.1,l[i].2.2.2.1,()) v_2 _ some) (0,g,())=some (l[i].2.2.1.foldl (gR Kl l l[i].1) g,()):=by
  intro i h g hg
  have h1:=(hl.at h).1
  refine Gi (l:=l[i].2.2.1) (fun(g:List EDg) (j:Nat)=>((j:Int),g,())) (gR Kl l l[i].1) (fun j g'=>g'.length<=g.length+2*j) (by simp) (fun j hj g' hg'=>⟨?_,?_⟩) (r:=fun g=>(g,())) (fun g' _=>?_) rfl
  ·unfold GN
   simp only[Ai hj,zQk,Zt hl,Zy hl]
   rw[decide_eq_true (by omega),Ah hj (by omega)]
   simp only[cond_true]
   have e1:=dj (g:=g') (by omega) (Iv l l[i].2.2.1[j].1 l[i].2.2.1[j].2.1,l[i].1,1,l[i].2.2.1[j].1,())
   have l1:=Qk g' (Iv l l[i].2.2.1[j].1 l[i].2.2.1[j].2.1,l[i].1,1,l[i].2.2.1[j].1,())
   have e2:=dj (g:=Kl g' (Iv l l[i].2.2.1[j].1 l[i].2.2.1[j].2.1,l[i].1,1,l[i].2.2.1[j].1,())) (by omega) (l[i].1,QX l l[i].2.2.1[j].1 l[i].2.2.1[j].2.1,3,l[i].2.2.1[j].1,())
   simp only at e1 e2
   rw[e1]
   simp only[zQk]
   rw[e2];rfl
  ·have:=dR l l[i].1 g' l[i].2.2.1[j]
   omega
  ·unfold GN
   simp only
   rw[decide_eq_false (by omega)];rfl
 have eW:∀i (h:i<l.length) (g:List EDg),g.length<=38311552->Au (fun v_2=>FT (l,l,((l.length:Nat):Int),(i:Int),l[i].2.2.2.1,((l[i].2.2.2.1.length:Nat):Int),l[i].1,l[i].2.1,l[i].2.2.1,l[i].2.2.2.1,()) v_2 _ some) (0,g,())=some (l[i].2.2.2.1.foldl (gW Kl l l[i].1 l[i].2.1) g,()):=by
  intro i h g hg
  have h1:=(hl.at h).2
  refine Gi (l:=l[i].2.2.2.1) (fun(g:List EDg) (j:Nat)=>((j:Int),g,())) (gW Kl l l[i].1 l[i].2.1) (fun j g'=>g'.length<=g.length+j) (by simp) (fun j hj g' hg'=>⟨?_,?_⟩) (r:=fun g=>(g,())) (fun g' _=>?_) rfl
  ·unfold FT
   simp only[Ai hj,zQk,Zy hl]
   rw[decide_eq_true (by omega),Ah hj (by omega)]
   simp only[cond_true]
   have e1:=dj (g:=g') (by omega) (l[i].1,QX l l[i].2.2.2.1[j].1 l[i].2.1,2,l[i].2.2.2.1[j].1,())
   simp only at e1
   rw[e1];rfl
  ·have:=A80 l l[i].1 l[i].2.1 g' l[i].2.2.2.1[j]
   omega
  ·unfold FT
   simp only
   rw[decide_eq_false (by omega)];rfl
 have e:=Gi (l:=l) (B:=fun v=>GO (l,l,((l.length:Nat):Int),()) v _ some) (fun(g:List EDg) (i:Nat)=>((i:Int),g,())) (gX Kl l) (fun i g=>g.length<=3145728*i) (s0:=[]) (by simp) (fun i h g hg=>⟨by
  unfold GO
  simp only[Ai h,zQk]
  rw[decide_eq_true (by omega),Ah h (by omega)]
  simp only[cond_true]
  rw[eR i h g (by omega)]
  simp only[zQk]
  have h2:=HB (f:=gR Kl l l[i].1) (c:=2) l[i].2.2.1 g fun g m _=>dR l l[i].1 g m
  have h1:=(hl.at h).1
  rw[eW i h _ (by omega)];rfl,by
  have:=A7z l (hl.at h) g
  omega⟩) (r:=fun g=>(g,())) (fun g hg=>by
  unfold GO
  simp only
  rw[decide_eq_false (by omega)];rfl) (t0:=(0,[],())) rfl
 simp only
 rw[e]
 simp only[zQk]
 have hlen:=Amh hl h9
 rw[show l.foldl (gX Kl l) []=gA Kl l from rfl,Aeq (by omega)]
 simp only[zQk]
 rw[rV (by simp;omega)];rfl
def grS (l:List EN):List EDg:=gA Kx l
theorem Ag9 {α:Type}{F G:List EDg->α->List EDg}(h:∀g x,(F g x).foldl (Nc ltE) []=G (g.foldl (Nc ltE) []) x):∀(l:List α) g,(l.foldl F g).foldl (Nc ltE) []=l.foldl G (g.foldl (Nc ltE) [])
 |[],_=>rfl
 |x::l,g=>by rw[List.foldl_cons,List.foldl_cons,Ag9 h l,h]
theorem Sq (g:List EDg)(e:EDg):(Kl g e).foldl (Nc ltE) []=Kx (g.foldl (Nc ltE) []) e:=by
 unfold Kl Kx;split
 ·rw[List.foldl_append];rfl
 ·rfl
theorem Ag7 (l:List EN):(gA Kl l).foldl (Nc ltE) []=grS l:=by
 unfold gA grS gA
 refine Ag9 (fun g e=>?_) l []
 unfold gX
 rw[Ag9 (F:=gW Kl l e.1 e.2.1) (G:=gW Kx l e.1 e.2.1) (fun g m=>Sq _ _),Ag9 (F:=gR Kl l e.1) (G:=gR Kx l e.1) (fun g m=>by unfold gR;rw[Sq,Sq])]
theorem ZA {l:List EN}(hl:PI l)(h9:l.length<=9):Kf (l,())=some (grS l,()):=by
 rw[Aew hl h9,A8c A95,Ag7]
noncomputable def bgr (l:List EN):List EDg:=bif dec (okH l)then grS l else[]
theorem A6p {l:List EN}(hl:PI l):IL (l,())=some (bgr l,()):=by
 unfold IL bgr
 simp only[Aet hl,zQk]
 by_cases h:okH l
 ·rw[Ax h]
  simp only[zXj,cond_false,cond_true,ZA hl h.1,zQk]
 ·rw[AI h];rfl
theorem A6d (a b:EDg):IR (a,b,())=some (ltE a b,()):=by
 unfold IR
 have:ltE a b=bif a.1 != b.1 then decide (a.1<b.1)else bif a.2.1 != b.2.1 then decide (a.2.1<b.2.1)else bif a.2.2.1 != b.2.2.1 then decide (a.2.2.1<b.2.2.1)else decide (a.2.2.2.1<b.2.2.2.1):=by
  rw[Bool.eq_iff_iff,Lj]
  by_cases h1:a.1=b.1
  ·by_cases h2:a.2.1=b.2.1
   ·by_cases h3:a.2.2.1=b.2.2.1
    ·simp[h1,h2,h3]
    ·simp[h1,h2,h3]
   ·simp[h1,h2]
  ·simp[h1]
 rw[this]
 cases(a.1 != b.1:Bool)<;>cases(a.2.1 != b.2.1:Bool)<;>cases(a.2.2.1 != b.2.2.1:Bool)<;>rfl
theorem eu {α:Type}(p:α->Bool):∀(l:List α),(match l.findIdx? (fun x=>!p x)with
 |some i=>l.takeWhile p=l.take i/\l.dropWhile p=l.drop i
 |none=>l.takeWhile p=l/\l.dropWhile p=[])
 |[]=>⟨rfl,rfl⟩
 |a::l=>by
  have ih:=eu p l
  rw[List.findIdx?_cons]
  cases h:p a with
  |false=>simp[h]
  |true=>
   simp only[zXj,Bool.false_eq_true,if_false]
   revert ih
   cases l.findIdx? (fun x=>!p x)with
   |none=>intro ih;simpa[h]using ih
   |some i=>intro ih;simpa[h]using ih
theorem A7o (g:List EDg)(e:EDg):(Nc ltE g e).length<=g.length+1:=by
 unfold Nc;split
 ·omega
 ·have:=congrArg List.length (List.takeWhile_append_dropWhile (p:=fun x=>ltE x e) (l:=g))
  simp only[zJk,zXk]at this ⊢
  omega
theorem Mx (g:List EDg)(e:EDg):(Kx g e).length<=g.length+1:=by
 unfold Kx;split
 ·exact A7o g e
 ·omega
theorem Agq {α:Type}{l:List α}{i:Nat}(h:i<=l.length):GM l (i:Int) ((l.length:Nat):Int)=some (l.drop i):=by
 unfold GM
 rw[if_pos (by omega)]
 congr 1
 rw[List.take_of_length_le (by simp)];simp
theorem QT {g:List EDg}(h:g.length<=1000000000)(e:EDg):Ip (g,(e.1,e.2.1,e.2.2.1,e.2.2.2.1,()),())=some (Kx g e,()):=by
 unfold Ip Kx Af0
 simp only
 by_cases h1:e.1=0
 ·simp[h1]
 by_cases h2:e.2.1=0
 ·simp[h2]
 by_cases h3:e.1=e.2.1
 ·simp[h3]
 rw[show(e.1==0)=false from by simpa using h1,show(e.2.1==0)=false from by simpa using h2,show(e.1==e.2.1)=false from by simpa using h3,if_pos (by simp[h1,h2,h3])]
 simp only[cond_false]
 have hf:=J0 (l:=g) (B:=fun v=>FJ (g,e.1,e.2.1,e.2.2.1,e.2.2.2.1,()) v _ some) (fun j=>((j:Int),())) (fun x=>!ltE x e) (fd:=fun j=>Sum.inl ((j:Int),())) (no:=Sum.inr ((g.length:Int),())) (fun j hj=>by
  unfold FJ
  have e1:=A6d g[j] e
  simp only[Ai hj,zQk]
  rw[decide_eq_true (by omega),Ah hj (by omega)]
  simp only[cond_true]
  erw [e1]
  simp only[zQk]
  cases ltE g[j] e<;>rfl) (by
  unfold FJ
  simp only
  rw[decide_eq_false (by omega)];rfl) (t0:=(0,())) rfl
 rw[hf]
 have ht:=eu (fun x=>ltE x e) g
 unfold Nc
 revert ht
 cases hx:g.findIdx? (fun x=>!ltE x e)with
 |none=>
  rintro⟨t1,t2⟩
  simp only[zQk,Ap]
  rw[decide_eq_false (by omega),t1,t2,if_neg (by simp)]
  simp only[cond_false]
  rw[tf (zQq _),List.take_length]
  simp only[zQk]
  rw[if_pos (by omega),if_pos (by simp;omega),Agq (zQq _)]
  simp only[zQk]
  rw[if_pos (by simp;omega),List.drop_length];simp
 |some i=>
  rintro⟨t1,t2⟩
  obtain⟨hi,_,_⟩:=ar hx
  simp only[zQk,Ap]
  rw[decide_eq_true (by omega),t1,t2,Ai hi]
  simp only[cond_true,zQk]
  rw[Agl,zXx hi]
  by_cases he:g[i]=e
  ·rw[decide_eq_true he,if_pos (by simp[he])];rfl
  ·rw[decide_eq_false he,if_neg (fun h=>he (Option.some.inj (by simpa only[List.head?_cons]using h)))]
   simp only[cond_false]
   rw[tf (Nat.le_of_lt hi)]
   simp only[zQk]
   rw[if_pos (by simp;omega),if_pos (by simp;omega),Agq (Nat.le_of_lt hi)]
   simp only[zQk]
   rw[if_pos (by simp;omega),zXx hi];simp
theorem RT (l:List EN)(id:Int)(g:List EDg)(m:VM):(gR Kx l id g m).length<=g.length+2:=by
 unfold gR
 have h1:=Mx g (Iv l m.1 m.2.1,id,1,m.1,())
 have h2:=Mx (Kx g (Iv l m.1 m.2.1,id,1,m.1,())) (id,QX l m.1 m.2.1,3,m.1,())
 omega
theorem Ag6 (l:List EN){e:EN}(h:smE e)(g:List EDg):(gX Kx l g e).length<=g.length+3145728:=by
 unfold gX
 have h1:=HB (f:=gR Kx l e.1) (c:=2) e.2.2.1 g fun g m _=>RT l e.1 g m
 have h2:=HB (f:=gW Kx l e.1 e.2.1) (c:=1) e.2.2.2.1 (e.2.2.1.foldl (gR Kx l e.1) g) fun g m _=>Mx _ _
 have:=h.1;have:=h.2
 omega
theorem A6a {l:List EN}(hl:PI l):IJ (l,())=some (bgr l,()):=by
 unfold IJ bgr
 have hs:=hl.1
 by_cases hH:okH l
 case neg=>
  rw[AI hH]
  simp only
  rw[AF]
  unfold CW
  simp only[qy hl,zQk,AI hH]
  cases decide ((0:Int)<(l.length:Int))<;>rfl
 have h9:=hH.1
 have eR:∀i (h:i<l.length) (g:List EDg),g.length<=28311552->Au (fun v_2=>Dx (l,(i:Int),()) v_2 _ some) (g,0,[],())=some (l[i].2.2.1.foldl (gR Kx l l[i].1) g,[],()):=by
  intro i h g hg
  have h1:=(hl.at h).1
  refine Gi (l:=l[i].2.2.1) (fun(g:List EDg) (j:Nat)=>(g,(j:Int),[],())) (gR Kx l l[i].1) (fun j g'=>g'.length<=g.length+2*j) (by simp) (fun j hj g' hg'=>⟨?_,?_⟩) (r:=fun g=>(g,[],())) (fun g' _=>?_) rfl
  ·unfold Dx
   simp only[Ai h,Ai hj,zQk,Zh hl,Zm hl]
   rw[decide_eq_true (by omega),Ah hj (by omega)]
   simp only[cond_true]
   have e1:=QT (g:=g') (by omega) (Iv l l[i].2.2.1[j].1 l[i].2.2.1[j].2.1,l[i].1,1,l[i].2.2.1[j].1,())
   have l1:=Mx g' (Iv l l[i].2.2.1[j].1 l[i].2.2.1[j].2.1,l[i].1,1,l[i].2.2.1[j].1,())
   have e2:=QT (g:=Kx g' (Iv l l[i].2.2.1[j].1 l[i].2.2.1[j].2.1,l[i].1,1,l[i].2.2.1[j].1,())) (by omega) (l[i].1,QX l l[i].2.2.1[j].1 l[i].2.2.1[j].2.1,3,l[i].2.2.1[j].1,())
   simp only at e1 e2
   rw[e1]
   simp only[zQk]
   rw[e2];rfl
  ·have:=RT l l[i].1 g' l[i].2.2.1[j]
   omega
  ·unfold Dx
   simp only[Ai h,zQk]
   rw[decide_eq_false (by omega)];rfl
 have eW:∀i (h:i<l.length) (g:List EDg),g.length<=38311552->Au (fun v_2=>Da (l,(i:Int),()) v_2 _ some) (g,0,())=some (l[i].2.2.2.1.foldl (gW Kx l l[i].1 l[i].2.1) g,()):=by
  intro i h g hg
  have h1:=(hl.at h).2
  refine Gi (l:=l[i].2.2.2.1) (fun(g:List EDg) (j:Nat)=>(g,(j:Int),())) (gW Kx l l[i].1 l[i].2.1) (fun j g'=>g'.length<=g.length+j) (by simp) (fun j hj g' hg'=>⟨?_,?_⟩) (r:=fun g=>(g,())) (fun g' _=>?_) rfl
  ·unfold Da
   simp only[Ai h,Ai hj,zQk,Zm hl]
   rw[decide_eq_true (by omega),Ah hj (by omega)]
   simp only[cond_true]
   have e1:=QT (g:=g') (by omega) (l[i].1,QX l l[i].2.2.2.1[j].1 l[i].2.1,2,l[i].2.2.2.1[j].1,())
   simp only at e1
   rw[e1];rfl
  ·have:=Mx g' (l[i].1,QX l l[i].2.2.2.1[j].1 l[i].2.1,2,l[i].2.2.2.1[j].1,())
   show(Kx _ _).length<=_
   omega
  ·unfold Da
   simp only[Ai h,zQk]
   rw[decide_eq_false (by omega)];rfl
 have e:=Gi (l:=l) (B:=fun v=>CW (l,()) v _ some) (fun(g:List EDg) (i:Nat)=>(g,(i:Int),[],())) (gX Kx l) (fun i g=>g.length<=3145728*i) (s0:=[]) (by simp) (fun i h g hg=>⟨by
  unfold CW
  simp only[Ai h,zQk,qy hl,Ax hH]
  rw[decide_eq_true (by omega),Ah h (by omega)]
  simp only[cond_true]
  rw[eR i h g (by omega)]
  simp only[zQk]
  have h2:=HB (f:=gR Kx l l[i].1) (c:=2) l[i].2.2.1 g fun g m _=>RT l l[i].1 g m
  have h1:=(hl.at h).1
  rw[eW i h _ (by omega)];rfl,by
  have:=Ag6 l (hl.at h) g
  omega⟩) (r:=fun g=>Sum.inr (g,[],())) (fun g hg=>by
  unfold CW
  simp only
  rw[decide_eq_false (by omega)];rfl) (t0:=([],0,[],())) rfl
 simp only
 rw[e,Ax hH];rfl
end Go.Ab
end
section
namespace Go.Ab
def aE (g:List EDg)(i:Nat):Prop:=∃h:i<g.length,inB g[i].1 1 9=true/\inB g[i].2.1 1 9=true/\g[i].1≠g[i].2.1/\inB g[i].2.2.1 1 3=true/\inB g[i].2.2.2.1 0 5=true/\∀h2:0<i,ltE (g[i-1]'(by omega)) g[i]=true
def okG (g:List EDg):Prop:=∀i,i<g.length->aE g i
theorem ZF {g:List EDg}(hg:g.length<=100000000):Il (g,())=some (dec (okG g),()):=by
 unfold Il
 refine(BL (n:=g.length) (c:=aE g) (no:=some (false,())) (X:=some (true,())) (fun i hi=>?_) ⟨.inr (.inr (.inr (.inr (.inr (.inr ()))))),?_,rfl⟩).trans ?_
 ·unfold FG
  simp only[Ai hi,zQk,M9,P3,Ij]
  rw[decide_eq_true (by omega)]
  simp only[cond_true]
  cases h1:inB g[i].1 1 9 with
  |false=>exact⟨fun⟨_,h,_⟩=>(by rw[h1]at h;cases h),fun _=>⟨_,rfl,rfl⟩⟩
  |true=>
  cases h2:inB g[i].2.1 1 9 with
  |false=>exact⟨fun⟨_,_,h,_⟩=>(by rw[h2]at h;cases h),fun _=>⟨_,rfl,rfl⟩⟩
  |true=>
  by_cases h3:g[i].1=g[i].2.1
  ·rw[show(g[i].1==g[i].2.1)=true from by simpa using h3]
   exact⟨fun⟨_,_,_,h,_⟩=>absurd h3 h,fun _=>⟨_,rfl,rfl⟩⟩
  rw[show(g[i].1==g[i].2.1)=false from by simpa using h3]
  cases h4:inB g[i].2.2.1 1 3 with
  |false=>exact⟨fun⟨_,_,_,_,h,_⟩=>(by rw[h4]at h;cases h),fun _=>⟨_,rfl,rfl⟩⟩
  |true=>
  cases h5:inB g[i].2.2.2.1 0 5 with
  |false=>exact⟨fun⟨_,_,_,_,_,h,_⟩=>(by rw[h5]at h;cases h),fun _=>⟨_,rfl,rfl⟩⟩
  |true=>
  simp only[zXj,cond_false]
  rw[Ah hi (by omega)]
  by_cases h6:0<i
  ·have hlt:i-1<g.length:=by omega
   rw[decide_eq_true (show(i:Int)>0 by omega),show zXq.wrap ((i:Int)-1)=((i-1:Nat):Int)from by rw[Bn (by omega) (by omega)];omega,Ai hlt]
   simp only[cond_true,zQk]
   have e:=A6v (g[i-1]'hlt) g[i]
   erw [e]
   simp only[zQk]
   have hlt2:=A8j (g[i-1]'hlt) g[i]
   cases hx:ltE (g[i-1]'hlt) g[i]with
   |false=>
    rw[decide_eq_true (by rw[hx]at hlt2;have:¬cmE (g[i-1]'hlt) g[i]<0:=fun h=>by simpa using hlt2.1 h
                          omega)]
    exact⟨fun⟨_,_,_,_,_,_,h⟩=>(by have:=h h6;rw[hx]at this;cases this),fun _=>⟨_,rfl,rfl⟩⟩
   |true=>
    have:=hlt2.2 hx
    rw[decide_eq_false (by omega)]
    exact⟨fun _=>rfl,fun h=>absurd ⟨hi,h1,h2,h3,h4,h5,fun _=>hx⟩ h⟩
  ·rw[decide_eq_false (show ¬(i:Int)>0 by omega)]
   exact⟨fun _=>rfl,fun h=>absurd ⟨hi,h1,h2,h3,h4,h5,fun h=>absurd h h6⟩ h⟩
 ·unfold FG
  simp only
  rw[decide_eq_false (by omega)];rfl
 ·unfold okG
  cases dec (∀i,i<g.length->aE g i)<;>rfl
theorem Zq {g:List EDg}(hg:g.length<=100000000):Ic (g,())=some (dec (okG g),()):=by
 unfold Ic
 refine(BL (n:=g.length) (c:=aE g) (no:=some (false,())) (X:=some (true,())) (fun i hi=>?_) ⟨.inr (.inr (.inr (.inr (.inr (.inr ()))))),?_,rfl⟩).trans ?_
 ·unfold Fz
  simp only[Ai hi,zQk,DW]
  rw[decide_eq_true (by omega)]
  simp only[cond_true]
  cases h1:inB g[i].1 1 9 with
  |false=>exact⟨fun⟨_,h,_⟩=>(by rw[h1]at h;cases h),fun _=>⟨_,rfl,rfl⟩⟩
  |true=>
  cases h2:inB g[i].2.1 1 9 with
  |false=>exact⟨fun⟨_,_,h,_⟩=>(by rw[h2]at h;cases h),fun _=>⟨_,rfl,rfl⟩⟩
  |true=>
  by_cases h3:g[i].1=g[i].2.1
  ·rw[show(g[i].1==g[i].2.1)=true from by simpa using h3]
   exact⟨fun⟨_,_,_,h,_⟩=>absurd h3 h,fun _=>⟨_,rfl,rfl⟩⟩
  rw[show(g[i].1==g[i].2.1)=false from by simpa using h3]
  cases h4:inB g[i].2.2.1 1 3 with
  |false=>exact⟨fun⟨_,_,_,_,h,_⟩=>(by rw[h4]at h;cases h),fun _=>⟨_,rfl,rfl⟩⟩
  |true=>
  cases h5:inB g[i].2.2.2.1 0 5 with
  |false=>exact⟨fun⟨_,_,_,_,_,h,_⟩=>(by rw[h5]at h;cases h),fun _=>⟨_,rfl,rfl⟩⟩
  |true=>
  simp only[zXj,cond_false]
  rw[Ah hi (by omega)]
  by_cases h6:0<i
  ·have hlt:i-1<g.length:=by omega
   rw[decide_eq_true (show(i:Int)>0 by omega),show zXq.wrap ((i:Int)-1)=((i-1:Nat):Int)from by rw[Bn (by omega) (by omega)];omega,Ai hlt]
   simp only[cond_true,zQk]
   have e:=A6d (g[i-1]'hlt) g[i]
   erw [e]
   simp only[zQk]
   cases hx:ltE (g[i-1]'hlt) g[i]with
   |false=>
    exact⟨fun⟨_,_,_,_,_,_,h⟩=>(by have:=h h6;rw[hx]at this;cases this),fun _=>⟨_,rfl,rfl⟩⟩
   |true=>
    exact⟨fun _=>rfl,fun h=>absurd ⟨hi,h1,h2,h3,h4,h5,fun _=>hx⟩ h⟩
  ·rw[decide_eq_false (show ¬(i:Int)>0 by omega)]
   exact⟨fun _=>rfl,fun h=>absurd ⟨hi,h1,h2,h3,h4,h5,fun h=>absurd h h6⟩ h⟩
 ·unfold Fz
  simp only
  rw[decide_eq_false (by omega)];rfl
 ·unfold okG
  cases dec (∀i,i<g.length->aE g i)<;>rfl
theorem dE {g:List EDg}(h:okG g):∀e∈g,Rz e:=by
 intro e he
 obtain⟨i,hi,rfl⟩:=List.mem_iff_getElem.1 he
 obtain⟨_,h1,h2,_⟩:=h i hi
 simp only[inB,zJq,decide_eq_true_iff]at h1 h2
 exact⟨h1.1,h1.2,h2.1,h2.2⟩
def heE (g:List EDg)(a b:Int):Bool:=g.any fun e=>e.1==a&&e.2.1==b
theorem dL {l:List EDg}(hl:l.length<=100000000)(a b:Int):Cr (l,(some a,some b,()),())=some (fx (l.findIdx? fun e=>e.1==a&&e.2.1==b),()):=by
 unfold Cr
 have e:=J0 (l:=l) (B:=fun v=>Ba (l,(some a,some b,()),((l.length:Nat):Int),()) v _ some) (fun j=>((j:Int),())) (fun e=>e.1==a&&e.2.1==b) (fd:=fun j=>Sum.inl ((j:Int),())) (no:=Sum.inr ()) (fun j hj=>by
  unfold Ba KA
  simp only[Ai hj,zQk]
  rw[decide_eq_true (by omega),Ah hj (by omega)]
  simp only[cond_true]
  cases(l[j].1==a:Bool)<;>cases(l[j].2.1==b:Bool)<;>rfl) (by
  unfold Ba
  simp only
  rw[decide_eq_false (by omega)];rfl) (t0:=(0,())) rfl
 simp only
 rw[e]
 cases l.findIdx? (fun e=>e.1==a&&e.2.1==b)<;>rfl
theorem A6j {g:List EDg}(hg:g.length<=100000000)(a b:Int):Kg (g,a,b,())=some (heE g a b,()):=by
 unfold Kg D2
 simp only[dL hg,zQk,A83];rfl
theorem A65 {g:List EDg}(hg:g.length<=100000000)(a b:Int):K6 (g,a,b,())=some (heE g a b,()):=by
 unfold K6 heE
 have e:=Nl (l:=g) (p:=fun e=>e.1==a&&e.2.1==b) (B:=fun v=>F9 (g,a,b,()) v _ some) (k:=fun p=>Ap p (fun p=>some (true,())) fun p=>some (false,())) (yes:=fun e=>some (true,())) (no:=some (false,())) (fun i h=>by
  unfold F9
  simp only[Ai h,zQk]
  rw[decide_eq_true (by omega),Ah h (by omega)]
  simp only[cond_true]
  cases(g[i].1==a:Bool)<;>cases(g[i].2.1==b:Bool)<;>simp[Ap]) (by
  unfold F9
  simp only
  rw[decide_eq_false (by omega)];exact⟨_,rfl,rfl⟩)
 rw[e,show(g.any fun e=>e.1==a&&e.2.1==b)=(g.find? fun e=>e.1==a&&e.2.1==b).isSome from by rw[Bool.eq_iff_iff,List.any_eq_true,List.find?_isSome]]
 cases g.find? (fun e=>e.1==a&&e.2.1==b)<;>rfl
theorem Ol {l:List Int}(hl:l.length<=100000000)(x:Int):CM (l,x,())=some (l.contains x,()):=by
 unfold CM HQ
 have e:=J0 (l:=l) (B:=fun v=>BN (l,x,((l.length:Nat):Int),()) v _ some) (fun j=>((j:Int),())) (fun y=>x==y) (fd:=fun j=>Sum.inl ((j:Int),())) (no:=Sum.inr ()) (fun j hj=>by
  unfold BN
  simp only[Ai hj,zQk]
  rw[decide_eq_true (by omega),Ah hj (by omega)]
  simp only[cond_true]
  cases(x==l[j]:Bool)<;>rfl) (by
  unfold BN
  simp only
  rw[decide_eq_false (by omega)];rfl) (t0:=(0,())) rfl
 simp only
 rw[e]
 have h2:=Rp l (fun y=>x==y)
 rw[List.contains_eq_any_beq,<-h2]
 cases l.findIdx? (fun y=>x==y)with
 |none=>rfl
 |some i=>simp[Ap]
end Go.Ab
end
section
namespace Go.Ab
def Aj5 (L:List Int):Int×Int×Int×Int×Int×Int×Int×Int×Int×Int×Unit:=(L.getD 0 0,L.getD 1 0,L.getD 2 0,L.getD 3 0,L.getD 4 0,L.getD 5 0,L.getD 6 0,L.getD 7 0,L.getD 8 0,L.getD 9 0,())
def sS (t:Int×Int×Int×Int×Int×Int×Int×Int×Int×Int×Unit):List Int:=[t.1,t.2.1,t.2.2.1,t.2.2.2.1,t.2.2.2.2.1,t.2.2.2.2.2.1,t.2.2.2.2.2.2.1,t.2.2.2.2.2.2.2.1,t.2.2.2.2.2.2.2.2.1,t.2.2.2.2.2.2.2.2.2.1]
theorem Tn {L:List Int}(h:L.length=10):sS (Aj5 L)=L:=by
 match L,h with
 |[a,b,c,d,e,f,g,h,i,j],_=>rfl
theorem A90 {L:List Int}(h:L.length=10):((L[0]?).bind fun v=>(L[0+1]?).bind fun v_1=>(L[0+1+1]?).bind fun v_2=>(L[0+1+1+1]?).bind fun v_3=>(L[0+1+1+1+1]?).bind fun v_4=>(L[0+1+1+1+1+1]?).bind fun v_5=>(L[0+1+1+1+1+1+1]?).bind fun v_6=>(L[0+1+1+1+1+1+1+1]?).bind fun v_7=>(L[0+1+1+1+1+1+1+1+1]?).bind fun v_8=>(L[0+1+1+1+1+1+1+1+1+1]?).bind fun v_9=>some (v,v_1,v_2,v_3,v_4,v_5,v_6,v_7,v_8,v_9,()))=some (Aj5 L):=by
 match L,h with
 |[a,b,c,d,e,f,g,h,i,j],_=>rfl
theorem Rm {L:List Int}(h:L.length=10){k:Nat}(hk:k<10):L[k]? =some (L.getD k 0):=by
 rw[zKz,zQx (by omega)];rfl
theorem Aj7 {g:List EDg}(hG:∀e∈g,Rz e)(hg:g.length<=100000000)(A:List Int){far lay:List Int}(hf:far.length=10)(hl:lay.length<=100000000)(d:Int):
 Au (fun v_1=>Cu (g,d,g,((g.length:Nat):Int),A,lay,()) v_1 _ some) (0,far,[],())=some ((sw g (fun x=>lay.contains x) d far).1,(sw g (fun x=>lay.contains x) d far).2,()):=by
 refine Gi (l:=g) (fun(s:List Int×List Int) (i:Nat)=>((i:Int),s.1,s.2,())) (swS (fun x=>lay.contains x) d) (fun i s=>s.1.length=10/\s.2.length<=i) (s0:=(far,[])) ⟨hf,by simp⟩ (fun i h s hs=>?_) (r:=fun s=>(s.1,s.2,())) (fun s hs=>?_) rfl
 ·obtain⟨a1,a2,a3,a4⟩:=hG _ (zQz h)
  obtain⟨h1,h2⟩:=hs
  by_cases hc:lay.contains g[i].2.1=true
  case neg=>
   have e1:swS (fun x=>lay.contains x) d s g[i]=s:=by unfold swS;rw[if_neg (fun h=>hc h.1)]
   rw[e1]
   refine⟨?_,h1,by omega⟩
   unfold Cu
   simp only[Ai h,zQk,Ol hl]
   rw[decide_eq_true (by omega),Ah h (by omega),eq_false_of_ne_true hc];rfl
  by_cases hn:s.1.getD g[i].1.toNat 0<0
  ·have e1:swS (fun x=>lay.contains x) d s g[i]=(s.1.set g[i].1.toNat d,s.2++[g[i].1]):=by unfold swS;rw[if_pos ⟨hc,hn⟩]
   rw[e1]
   refine⟨?_,by simpa using h1,by simp;omega⟩
   unfold Cu
   simp only[Ai h,zQk,Ol hl]
   rw[decide_eq_true (by omega),Ah h (by omega),hc]
   simp only[cond_true]
   rw[if_pos ⟨trivial,by omega,by omega⟩,Rm h1 (by omega)]
   simp only[zQk]
   rw[decide_eq_true hn]
   simp only[cond_true]
   rw[if_pos ⟨trivial,by omega,by omega⟩]
   rw[if_pos (by simp;omega)]
  ·have e1:swS (fun x=>lay.contains x) d s g[i]=s:=by unfold swS;rw[if_neg (fun h=>hn h.2)]
   rw[e1]
   refine⟨?_,h1,by omega⟩
   unfold Cu
   simp only[Ai h,zQk,Ol hl]
   rw[decide_eq_true (by omega),Ah h (by omega),hc]
   simp only[cond_true]
   rw[if_pos ⟨trivial,by omega,by omega⟩,Rm h1 (by omega)]
   simp only[zQk]
   rw[decide_eq_false hn];rfl
 ·unfold Cu
  simp only
  rw[decide_eq_false (by omega)];rfl
theorem Alv {B:Int×List Int×Unit->Option ((Int×List Int×Unit) ⊕ (List Int×Unit))}(hB:∀i:Nat,i<10->∀L:List Int,L.length=10->B ((i:Int),L,())=some (.inl (((i+1:Nat):Int),L.set i (-1),())))(hend:∀L,B (10,L,())=some (.inr (L,()))):
 Au B (0,[0,0,0,0,0,0,0,0,0,0],())=some (zKq 10 (-1),()):=by
 refine Gz 10 (fun i=>((i:Int),zKq i (-1)++zKq (10-i) 0,())) rfl (fun i hi=>?_) (hend _)
 rw[hB i hi _ (by simp;omega)]
 congr 4
 rw[List.set_append_right _ _ (by simp),List.length_replicate,Nat.sub_self,show 10-i=(10-(i+1))+1 by omega,List.replicate_succ,List.set_cons_zero,List.replicate_succ',List.append_assoc];rfl
def far (g:List EDg)(to:Int):List Int:=(fr g to 9).1
theorem LZ (g:List EDg)(to:Int):(far g to).length=10:=Nj 9
theorem Aga {g:List EDg}{to:Int}:∀n,(fr g to n).2.length<=g.length+1
 |0=>by simp[fr]
 |n+1=>by
  rw[fr]
  unfold sw
  have:∀(l:List EDg) (p:Int->Bool) (d:Int) (s:List Int×List Int),(l.foldl (swS p d) s).2.length<=s.2.length+l.length:=by
   intro l p d
   induction l with
   |nil=>intro s;simp
   |cons e l ih=>
    intro s
    have h1:=ih (swS p d s e)
    have h2:(swS p d s e).2.length<=s.2.length+1:=by unfold swS;split<;>simp
    simp only[List.foldl_cons,zXk];omega
  have:=this g (fun x=>(fr g to n).2.contains x) ((n+1:Nat):Int) ((fr g to n).1,[])
  simp only[List.length_nil]at this
  omega
theorem A6t {g:List EDg}(hG:∀e∈g,Rz e)(hg:g.length<=10000000)(to:Int):Hv (g,to,())=some (Aj5 (far g to)):=by
 unfold Hv
 simp only
 rw[Alv (fun i hi L hL=>by
  unfold EW
  simp only
  rw[decide_eq_true (by omega),if_pos ⟨trivial,by omega,by omega⟩,Ah hi (by omega),show((i:Int)).toNat=i by omega,Rm hL hi];rfl) (fun L=>by unfold EW;rfl)]
 simp only[zQk]
 have ex:∃n,1<=n/\n<=10/\(fr g to n).2=[]:=by
  apply Classical.byContradiction
  intro h
  exact A84 (g:=g) (to:=to) hG fun j h1 h2 h3=>h ⟨j,h1,h2,h3⟩
 obtain⟨n,hn1,hn10,hn,hmin⟩:∃n,1<=n/\n<=10/\(fr g to n).2=[]/\∀m,m<n->(fr g to m).2≠[]:=by
  obtain⟨n0,h1,h2,h3⟩:=ex
  have:∀k,∀n0,n0<=k->1<=n0->n0<=10->(fr g to n0).2=[]->∃n,1<=n/\n<=10/\(fr g to n).2=[]/\∀m,m<n->(fr g to m).2≠[]:=by
   intro k
   induction k with
   |zero=>intro n0 h;omega
   |succ k ih=>
    intro n0 hk h1 h2 h3
    by_cases hex:∃m,m<n0/\(fr g to m).2=[]
    ·obtain⟨m,hm,hm2⟩:=hex
     have:m≠0:=by rintro rfl;simp[fr]at hm2
     exact ih m (by omega) (by omega) (by omega) hm2
    ·exact⟨n0,h1,h2,h3,fun m hm h=>hex ⟨m,hm,h⟩⟩
  exact this n0 n0 (zQq _) h1 h2 h3
 have e:=Gz (B:=fun v=>DY (g,[0,0,0,0,0,0,0,0,0,0],()) v _ some) (s0:=(1,zKq 10 (-1),[to],())) (r:=((fr g to n).1,(fr g to n).2,())) n (fun i=>(((i+1:Nat):Int),(fr g to i).1,(fr g to i).2,())) rfl (fun i hi=>by
  have h0:=hmin i hi
  have hl:=Aga (g:=g) (to:=to) i
  unfold DY
  simp only
  rw[decide_eq_true (by have:=List.length_pos_iff.2 h0;omega)]
  simp only[cond_true]
  rw[Aj7 hG (by omega) _ (Nj i) (by omega)]
  rw[Ah (i:=i+1) (n:=i+2) (by omega) (by omega)]
  rfl) (by
  unfold DY
  simp only
  rw[hn];rfl)
 rw[e]
 simp only[zQk]
 rw[A90 (Nj n),Amj hG hn hn10];rfl
theorem TJ {g:List EDg}(hG:∀e∈g,Rz e)(hg:g.length<=10000000)(to:Int):Jz (g,to,())=some (far g to,()):=by
 unfold Jz
 simp only
 have e0:=Gz (B:=fun v=>He (g,to,()) v _ some) (s0:=(0,[],())) (r:=(zKq 10 (-1),())) 10 (fun i=>((i:Int),zKq i (-1),())) rfl (fun i hi=>by
  unfold He
  simp only
  rw[decide_eq_true (by omega),if_pos (by simp;omega),Ah hi (by omega),<-List.replicate_succ'];rfl) rfl
 rw[e0]
 simp only[zQk]
 have e1:=Gz (B:=fun v=>Hc (g,to,()) v _ some) (s0:=(1,zKq 10 (-1),())) (r:=(far g to,())) 9 (fun i=>(((i+1:Nat):Int),(fr g to i).1,())) rfl (fun i hi=>by
  unfold Hc
  simp only
  rw[decide_eq_true (by omega),Ah (i:=i+1) (n:=i+2) (by omega) (by omega)]
  simp only[cond_true]
  have hq:∀(s:List Int),s.length=10->(∀x:Int,1<=x->x<=9->(s.getD x.toNat 0=(fr g to i).1.getD x.toNat 0\/((fr g to i).1.getD x.toNat 0<0/\s.getD x.toNat 0=((i+1:Nat):Int))))->∀x:Int,1<=x->x<=9->(fun(s:List Int) (x:Int)=>bif (((i+1:Nat):Int)==1)then x==to else s.getD x.toNat 0==(i:Int)) s x=(fr g to i).2.contains x:=by
   intro s _ h x h1 h2
   simp only
   match i with
   |0=>simp[fr,R5]
   |k+1=>
    rw[show((((k+1+1:Nat):Int))==1)=false from by simpa using(by omega:¬((k+1+1:Nat):Int)=1)]
    rw[Ami hG k x h1 h2]
    simp only[cond_false]
    rcases h x h1 h2 with h|⟨h,h'⟩
    ·rw[h]
    ·rw[h',Bool.eq_iff_iff]
     simp only[beq_iff_eq]
     omega
  have hsame:=A93 (g:=g) (p:=fun x=>(fr g to i).2.contains x) (d:=((i+1:Nat):Int)) (to:=to) (far:=(fr g to i).1) (q:=fun(s:List Int) (x:Int)=>bif (((i+1:Nat):Int)==1)then x==to else s.getD x.toNat 0==(i:Int)) (Nj i) hG hq
  have e2:=Gi (l:=g) (B:=fun v_1=>F8 (g,to,((i+1:Nat):Int),()) v_1 _ some) (fun(s:List Int) (j:Nat)=>((j:Int),s,())) (fun(s:List Int) (e:EDg)=>if s.getD e.1.toNat 0<0/\(bif (((i+1:Nat):Int)==1)then e.2.1==to else s.getD e.2.1.toNat 0==(i:Int))=true then s.set e.1.toNat ((i+1:Nat):Int)else s) (fun _ s=>s.length=10) (s0:=(fr g to i).1) (Nj i) (fun j hj s hs=>⟨by
   obtain⟨a1,a2,a3,a4⟩:=hG _ (zQz hj)
   unfold F8
   simp only[Ai hj,zQk]
   rw[decide_eq_true (by omega),Ah hj (by omega)]
   simp only[cond_true]
   rw[if_pos (by omega),show 0+g[j].1.toNat=g[j].1.toNat by omega,show 0+g[j].2.1.toNat=g[j].2.1.toNat by omega,Rm hs (by omega),Rm hs (show g[j].2.1.toNat<10 by omega)]
   simp only[zQk]
   rw[if_pos (by omega)]
   by_cases hn:s.getD g[j].1.toNat 0<0
   ·rw[decide_eq_true hn]
    simp only[cond_true]
    match i with
    |0=>
     simp only[Nat.zero_add,Int.natCast_one,beq_self_eq_true,cond_true,show decide ((1:Int)>1)=false from rfl,cond_false]
     by_cases ht:g[j].2.1=to
     ·rw[show(g[j].2.1==to)=true from by simpa using ht,if_pos ⟨hn,rfl⟩];rfl
     ·rw[show(g[j].2.1==to)=false from by simpa using ht,if_neg (fun h=>by simpa using h.2)];rfl
    |k+1=>
     rw[show((((k+1+1:Nat):Int))==1)=false from by simpa using(by omega:¬((k+1+1:Nat):Int)=1),decide_eq_true (show((k+1+1:Nat):Int)>1 by omega),show zXq.wrap (((k+1+1:Nat):Int)-1)=((k+1:Nat):Int)from by rw[Bn (by omega) (by omega)];omega]
     simp only[cond_true,cond_false]
     rw[if_pos (show 0<=g[j].2.1/\g[j].2.1<((s.length:Nat):Int) by omega)]
     cases hb:(s.getD g[j].2.1.toNat 0==((k+1:Nat):Int))with
     |true=>rw[if_pos ⟨hn,rfl⟩];rfl
     |false=>rw[if_neg (fun h=>by simpa using h.2)];rfl
   ·rw[decide_eq_false hn]
    simp only[cond_false]
    rw[if_neg (fun h=>hn h.1)],by
   split
   ·simpa using hs
   ·exact hs⟩) (r:=fun s=>(s,())) (fun s _=>by
   unfold F8
   simp only
   rw[decide_eq_false (by omega)];rfl) (t0:=(0,(fr g to i).1,())) rfl
  rw[e2,hsame]
  rfl) rfl
 rw[e1];rfl
def Wk:List Int:=(List.range 9).map fun k=>((k+1:Nat):Int)
theorem TU {ρ:Type}{B:Int×Unit->Option ((Int×Unit) ⊕ ρ)}{p:Int->Bool}{fd:Int->ρ}{no:ρ}
 (hB:∀j:Nat,1<=j->j<=9->B ((j:Int),())=some (if p (j:Int)=true then .inr (fd (j:Int))else .inl (((j+1:Nat):Int),())))(hend:B (10,())=some (.inr no)):
 Au B (1,())=some (match Wk.find? p with|some j=>fd j|none=>no):=by
 have key:∀m j:Nat,j+m=9->Au B (((j+1:Nat):Int),())=some (match(Wk.drop j).find? p with|some j=>fd j|none=>no):=by
  intro m
  induction m with
  |zero=>
   intro j hj
   obtain rfl:j=9:=by omega
   rw[AF]
   rw[show(((9+1:Nat):Int))=10 from rfl,hend];rfl
  |succ m ih=>
   intro j hj
   have hl:j<Wk.length:=by simp[Wk];omega
   have hv:Wk[j]=((j+1:Nat):Int):=by simp[Wk]
   rw[zXx hl,hv,List.find?_cons,AF,hB (j+1) (by omega) (by omega)]
   cases hp:p ((j+1:Nat):Int)with
   |true=>rfl
   |false=>
    simp only[Bool.false_eq_true,if_false,zQk]
    exact ih (j+1) (by omega)
 exact key 9 0 rfl
def dg (g:List EDg)(i:Int):Int:=(far g i).getD i.toNat 0
def scN (g:List EDg):Nat->Option (Int×Int)
 |0=>none
 |n+1=>if dg g ((n+1:Nat):Int)>0 then(match scN g n with|none=>some (((n+1:Nat):Int),dg g ((n+1:Nat):Int))|some b=>if dg g ((n+1:Nat):Int)<b.2 then some (((n+1:Nat):Int),dg g ((n+1:Nat):Int))else some b)else scN g n
theorem Ans (g:List EDg)(i:Int):dg g i<=9:=by
 unfold dg far
 have:=A85 (g:=g) (to:=i) 9 i.toNat
 omega
theorem S2 (g:List EDg):∀n b,scN g n=some b->1<=b.1/\b.1<=n/\0<b.2/\b.2<=9
 |0,b,h=>by cases h
 |n+1,b,h=>by
  have ih:=S2 g n
  have hd:=Ans g ((n+1:Nat):Int)
  rw[scN]at h
  split at h
  ·split at h
   ·obtain rfl:=Option.some.inj h
    exact⟨by simp only;omega,Int.le_refl _,by simp only;omega,hd⟩
   ·rename_i b' hb'
    split at h
    ·obtain rfl:=Option.some.inj h
     exact⟨by simp only;omega,Int.le_refl _,by simp only;omega,hd⟩
    ·obtain rfl:=Option.some.inj h
     have:=ih _ hb';omega
  ·have:=ih _ h;omega
def wkS (g:List EDg)(L:List Int)(d:Int)(s:Int×List Int):Int×List Int:=match Wk.find? (fun j=>heE g s.1 j&&L.getD j.toNat 0==d)with|some j=>(j,s.2++[j])|none=>s
def wk (g:List EDg)(L:List Int):Nat->Int×List Int->Int×List Int
 |0,s=>s
 |n+1,s=>wk g L n (wkS g L ((n+1:Nat):Int) s)
theorem ep (g:List EDg)(L:List Int)(d:Int)(s:Int×List Int):(wkS g L d s).2.length<=s.2.length+1:=by
 unfold wkS;split<;>simp
theorem sN {g:List EDg}{L:List Int}{d:Int}{s:Int×List Int}(h:s.2.getLast?=some s.1):(wkS g L d s).2.getLast?=some (wkS g L d s).1:=by
 unfold wkS;split
 ·simp
 ·exact h
def scP (g:List EDg):List Int:=match scN g 9 with|none=>[]|some b=>(wk g (far g b.1) (b.2.toNat-1) (b.1,[b.1])).2
noncomputable def sc (g:List EDg):List Int:=bif dec (okG g)then scP g else[]
theorem A6f {g:List EDg}(hg:g.length<=10000000):GC (g,())=some (sc g,()):=by
 unfold GC sc
 simp only[ZF (show g.length<=100000000 by omega),zQk]
 by_cases hO:okG g
 case neg=>rw[AI hO];rfl
 have hG:=dE hO
 rw[Ax hO]
 simp only[zXj,cond_false,cond_true]
 have e1:=Gz (B:=fun v=>Dj (g,()) v _ some) (s0:=(0,0,1,())) (r:=((match scN g 9 with|none=>(0:Int)|some b=>b.1),(match scN g 9 with|none=>(0:Int)|some b=>b.2),())) 9 (fun i=>((match scN g i with|none=>(0:Int)|some b=>b.1),(match scN g i with|none=>(0:Int)|some b=>b.2),((i+1:Nat):Int),())) rfl (fun i hi=>by
  unfold Dj
  simp only
  rw[decide_eq_true (by omega),Ah (i:=i+1) (n:=i+2) (by omega) (by omega),A6t hG hg]
  simp only[cond_true,zQk]
  rw[if_pos (by omega)]
  have hu:=Tn (LZ g ((i+1:Nat):Int))
  unfold sS at hu
  rw[hu,Ai (show i+1<(far g ((i+1:Nat):Int)).length by rw[LZ];omega)]
  simp only[zQk]
  have hd:(far g ((i+1:Nat):Int))[i+1]'(by rw[LZ];omega)=dg g ((i+1:Nat):Int):=by
   unfold dg
   rw[show(((i+1:Nat):Int)).toNat=i+1 by omega,zKz,zQx];rfl
  rw[hd,scN]
  by_cases h1:dg g ((i+1:Nat):Int)>0
  ·rw[decide_eq_true h1,if_pos h1]
   simp only[cond_true]
   cases hs:scN g i with
   |none=>rfl
   |some b=>
    have hb:=S2 g i b hs
    simp only
    rw[show(b.1==0)=false from by simpa using(by omega:¬b.1=0)]
    simp only[cond_false]
    by_cases h2:dg g ((i+1:Nat):Int)<b.2
    ·rw[decide_eq_true h2,if_pos h2];rfl
    ·rw[decide_eq_false h2,if_neg h2];rfl
  ·rw[decide_eq_false h1,if_neg h1];rfl) rfl
 rw[e1]
 simp only[zQk]
 unfold scP
 cases hs:scN g 9 with
 |none=>rfl
 |some b=>
  have hb:=S2 g 9 b hs
  simp only
  rw[show(b.1==0)=false from by simpa using(by omega:¬b.1=0)]
  simp only[cond_false]
  rw[A6t hG hg]
  simp only[zQk]
  have hu:=Tn (LZ g b.1)
  unfold sS at hu
  rw[hu]
  have hL:=LZ g b.1
  generalize far g b.1=L at hL
  have walk:∀n:Nat,n<=9->∀s:Int×List Int,s.2.getLast?=some s.1->s.2.length+n<=100->Au (fun v_1=>BV (g,L,()) v_1 _ some) ((n:Int),s.2,())=some ((wk g L n s).2,()):=by
   intro n
   induction n with
   |zero=>
    intro _ s _ _
    rw[AF]
    unfold BV
    rfl
   |succ n ih=>
    intro hn s hlast hlen
    have h0:s.2.length≠0:=by intro h;rw[List.eq_nil_of_length_eq_zero h]at hlast;cases hlast
    have hget:s.2[s.2.length-1]? =some s.1:=by rw[<-List.getLast?_eq_getElem?];exact hlast
    have e:=TU (B:=fun v_1=>D5 (g,((n+1:Nat):Int),s.2,L,()) v_1 _ some) (p:=fun j=>heE g s.1 j&&L.getD j.toNat 0==((n+1:Nat):Int)) (fd:=fun j=>Sum.inl ([j],s.2++[j],())) (no:=Sum.inr ()) (fun j h1 h2=>by
     unfold D5
     simp only
     rw[decide_eq_true (by omega),Ah (i:=j) (n:=j+1) (by omega) (by omega)]
     simp only[cond_true]
     rw[if_pos ⟨trivial,by omega,by omega⟩,show((j:Int)).toNat=j by omega,Rm hL (by omega)]
     simp only[zQk]
     cases hx:(L.getD j 0==((n+1:Nat):Int))with
     |false=>simp
     |true=>
      simp only[cond_true]
      rw[show zXq.wrap (((s.2.length:Nat):Int)-1)=((s.2.length-1:Nat):Int)from by rw[Bn (by omega) (by omega)];omega]
      rw[if_pos (by omega),show 0+(((s.2.length-1:Nat):Int)).toNat=s.2.length-1 by omega,hget]
      simp only[zQk]
      rw[A6j (by omega)]
      simp only[zQk]
      cases hy:heE g s.1 (j:Int)with
      |false=>simp
      |true=>
       simp only[cond_true,Bool.and_self,if_true]
       rw[if_pos (by simp;omega)]) rfl
    rw[AF]
    have step:BV (g,L,()) (((n+1:Nat):Int),s.2,()) ((Int×List Int×Unit) ⊕ (List Int×Unit)) some=some (.inl ((n:Int),(wkS g L ((n+1:Nat):Int) s).2,())):=by
     unfold BV
     simp only
     rw[decide_eq_true (by omega),show zXq.wrap (((n+1:Nat):Int)-1)=(n:Int)from by rw[Bn (by omega) (by omega)];omega]
     simp only[cond_true]
     rw[e]
     unfold wkS
     cases Wk.find? (fun j=>heE g s.1 j&&L.getD j.toNat 0==((n+1:Nat):Int))<;>rfl
    rw[step]
    exact ih (by omega) _ (sN hlast) (by have:=ep g L ((n+1:Nat):Int) s;omega)
  have:=walk (b.2.toNat-1) (by omega) (b.1,[b.1]) rfl (by simp;omega)
  rw[show zXq.wrap (b.2-1)=((b.2.toNat-1:Nat):Int)from by rw[Bn (by omega) (by omega)];omega,this]
  rfl
theorem SA {g:List EDg}(hg:g.length<=10000000){a b:Int}(ha:inB a 1 9=true)(hb:inB b 1 9=true):GV (g,a,b,())=some (bif dec (okG g)then(far g b).getD a.toNat 0 else-1,()):=by
 unfold GV
 simp only[Zq (show g.length<=100000000 by omega),zQk,DW,ha,hb]
 by_cases hO:okG g
 case neg=>rw[AI hO];rfl
 rw[Ax hO]
 simp only[zXj,cond_false,cond_true,TJ (dE hO) hg,zQk]
 simp only[inB,zJq,decide_eq_true_iff]at ha
 rw[if_pos (by rw[LZ];omega),show 0+a.toNat=a.toNat by omega,Rm (LZ g b) (by omega)];rfl
theorem A60 {g:List EDg}(hg:g.length<=10000000):Gp (g,())=some (sc g,()):=by
 unfold Gp sc
 by_cases hO:okG g
 case neg=>
  rw[AI hO]
  simp only
  have e1:=Gz (B:=fun v=>C7 (g,()) v _ some) (s0:=(0,-1,1,())) (r:=(0,-1,())) 9 (fun i=>(0,-1,((i+1:Nat):Int),())) rfl (fun i hi=>by
   unfold C7
   have hin:inB ((i+1:Nat):Int) 1 9=true:=by simp only[inB,zJq,decide_eq_true_iff];omega
   simp only
   rw[decide_eq_true (by omega),Ah (i:=i+1) (n:=i+2) (by omega) (by omega),SA hg hin hin,AI hO];rfl) rfl
  rw[e1];rfl
 have hG:=dE hO
 rw[Ax hO]
 simp only[cond_true]
 have e1:=Gz (B:=fun v=>C7 (g,()) v _ some) (s0:=(0,-1,1,())) (r:=((match scN g 9 with|none=>(0:Int)|some b=>b.1),(match scN g 9 with|none=>(-1:Int)|some b=>b.2),())) 9 (fun i=>((match scN g i with|none=>(0:Int)|some b=>b.1),(match scN g i with|none=>(-1:Int)|some b=>b.2),((i+1:Nat):Int),())) rfl (fun i hi=>by
  unfold C7
  have hin:inB ((i+1:Nat):Int) 1 9=true:=by simp only[inB,zJq,decide_eq_true_iff];omega
  simp only
  rw[decide_eq_true (by omega),Ah (i:=i+1) (n:=i+2) (by omega) (by omega),SA hg hin hin,Ax hO]
  simp only[cond_true,zQk]
  rw[show(far g ((i+1:Nat):Int)).getD ((i+1:Nat):Int).toNat 0=dg g ((i+1:Nat):Int)from rfl,scN]
  by_cases h1:dg g ((i+1:Nat):Int)>0
  ·rw[decide_eq_true h1,if_pos h1]
   simp only[cond_true]
   cases hs:scN g i with
   |none=>rfl
   |some b=>
    have hb:=S2 g i b hs
    simp only
    rw[decide_eq_false (by omega)]
    simp only[cond_false]
    by_cases h2:dg g ((i+1:Nat):Int)<b.2
    ·rw[decide_eq_true h2,if_pos h2];rfl
    ·rw[decide_eq_false h2,if_neg h2];rfl
  ·rw[decide_eq_false h1,if_neg h1];rfl) rfl
 rw[e1]
 simp only[zQk]
 unfold scP
 cases hs:scN g 9 with
 |none=>rfl
 |some b=>
  have hb:=S2 g 9 b hs
  simp only
  rw[decide_eq_false (by omega)]
  simp only[cond_false]
  rw[TJ hG hg]
  simp only[zQk]
  have hL:=LZ g b.1
  generalize far g b.1=L at hL
  have walk:∀n:Nat,n<=9->∀s:Int×List Int,s.2.length+n<=100->Au (fun v_1=>BR (g,L,()) v_1 _ some) (s.1,(n:Int),s.2,())=some ((wk g L n s).2,()):=by
   intro n
   induction n with
   |zero=>
    intro _ s _
    rw[AF]
    unfold BR
    rfl
   |succ n ih=>
    intro hn s hlen
    have e:=TU (B:=fun v_1=>D1 (g,s.1,((n+1:Nat):Int),L,s.2,()) v_1 _ some) (p:=fun j=>heE g s.1 j&&L.getD j.toNat 0==((n+1:Nat):Int)) (fd:=fun j=>Sum.inl (j,[j],s.2++[j],())) (no:=Sum.inr ()) (fun j h1 h2=>by
     unfold D1
     simp only
     rw[decide_eq_true (by omega),Ah (i:=j) (n:=j+1) (by omega) (by omega),A65 (by omega)]
     simp only[cond_true,zQk]
     cases hy:heE g s.1 (j:Int)with
     |false=>simp
     |true=>
      simp only[cond_true]
      rw[if_pos (by omega),show 0+((j:Int)).toNat=j by omega,show((j:Int)).toNat=j by omega,Rm hL (by omega)]
      simp only[zQk]
      cases hx:(L.getD j 0==((n+1:Nat):Int))with
      |false=>simp
      |true=>
       simp only[cond_true,Bool.and_self,if_true]
       rw[if_pos (by simp;omega)]) rfl
    rw[AF]
    have step:BR (g,L,()) (s.1,((n+1:Nat):Int),s.2,()) ((Int×Int×List Int×Unit) ⊕ (List Int×Unit)) some=some (.inl ((wkS g L ((n+1:Nat):Int) s).1,(n:Int),(wkS g L ((n+1:Nat):Int) s).2,())):=by
     unfold BR
     simp only
     rw[decide_eq_true (by omega),show zXq.wrap (((n+1:Nat):Int)-1)=(n:Int)from by rw[Bn (by omega) (by omega)];omega]
     simp only[cond_true]
     rw[e]
     unfold wkS
     cases Wk.find? (fun j=>heE g s.1 j&&L.getD j.toNat 0==((n+1:Nat):Int))<;>rfl
    rw[step]
    exact ih (by omega) _ (by have:=ep g L ((n+1:Nat):Int) s;omega)
  have:=walk (b.2.toNat-1) (by omega) (b.1,[b.1]) (by simp;omega)
  rw[show zXq.wrap (b.2-1)=((b.2.toNat-1:Nat):Int)from by rw[Bn (by omega) (by omega)];omega,this]
  rfl
end Go.Ab
end
section
namespace Go.Ab
theorem rf {l:List EN}(hl:PI l):(bgr l).length<=10000000:=by
 unfold bgr
 by_cases h:okH l
 ·rw[Ax h]
  have h9:=h.1
  have hb:∀e∈l,e.2.2.1.length<=60/\e.2.2.2.1.length<=1048576:=by
   intro e he
   obtain⟨i,hi,rfl⟩:=List.mem_iff_getElem.1 he
   obtain⟨_,h1,_⟩:=h.2.1 i hi
   unfold sd okT at h1
   simp only[zJq,decide_eq_true_iff]at h1
   exact⟨h1.2,(hl.at hi).2⟩
  have:=HB (f:=gX Kx l) (c:=1048696) l [] fun g e he=>by
   unfold gX
   have h1:=HB (f:=gR Kx l e.1) (c:=2) e.2.2.1 g fun g m _=>RT l e.1 g m
   have h2:=HB (f:=gW Kx l e.1 e.2.1) (c:=1) e.2.2.2.1 (e.2.2.1.foldl (gR Kx l e.1) g) fun g m _=>Mx _ _
   have h3:=(hb e he).1
   have h4:=(hb e he).2
   omega
  show(grS l).length<=_
  unfold grS gA
  simp only[List.length_nil]at this
  omega
 ·rw[AI h];simp
def rdy (g:List EDg)(done:List Int)(id:Int):Bool:=!(g.any fun e=>e.2.1==id&&!done.contains e.1)
def nxt (g:List EDg)(done:List Int)(e:EN):Bool:=!done.contains e.1&&rdy g done e.1
def soS (g:List EDg)(l:List EN):Nat->List Int->Option (List Int)
 |0,done=>some done
 |n+1,done=>match l.find? (nxt g done)with|none=>none|some e=>soS g l n (done++[e.1])
def soR (o:Option (List Int)):Bool×List Int×Unit:=match o with|none=>(false,[],())|some l=>(true,l,())
noncomputable def so (l:List EN):Bool×List Int×Unit:=bif dec (okH l)then soR (soS (grS l) l l.length [])else(false,[],())
end Go.Ab
end
section
namespace Go.Ab
def MG (x:EN)(l:List EN):List EN:=(l.takeWhile fun e=>decide (e.2.1<=x.2.1))++x::(l.dropWhile fun e=>decide (e.2.1<=x.2.1))
def srt (r:List EN):List EN:=r.foldl (fun l x=>MG x l) []
def sH (l:List EN):Prop:=l.Pairwise fun a b=>a.2.1<=b.2.1
theorem et {α:Type}{q:α->Bool}{p:α}(hp:q p=false):∀l:List α,(l++[p]).takeWhile q=l.takeWhile q/\(l++[p]).dropWhile q=l.dropWhile q++[p]
 |[]=>by simp[hp]
 |a::l=>by
  obtain⟨h1,h2⟩:=et hp l
  cases h:q a with
  |true=>simp[h,h1,h2]
  |false=>simp[h]
theorem To {α:Type}{q:α->Bool}{l:List α}(h:∀x∈l,q x=true):l.takeWhile q=l/\l.dropWhile q=[]:=by
 induction l with
 |nil=>simp
 |cons a l ih=>
  obtain⟨h1,h2⟩:=ih fun x hx=>h x (zKk _ hx)
  have:=h a (zKj ..)
  simp[this,h1,h2]
theorem A7q {x:EN}{l:List EN}(h:sH l):sH (MG x l):=by
 unfold MG sH at*
 have hsp:=h
 rw[<-List.takeWhile_append_dropWhile (p:=fun e:EN=>decide (e.2.1<=x.2.1)) (l:=l),List.pairwise_append]at hsp
 rw[List.pairwise_append,List.pairwise_cons]
 have hT:∀y∈l.takeWhile (fun e=>decide (e.2.1<=x.2.1)),y.2.1<=x.2.1:=fun y hy=>by simpa using aU y hy
 have hD:∀y∈l.dropWhile (fun e=>decide (e.2.1<=x.2.1)),x.2.1<=y.2.1:=by
  have hpd:=hsp.2.1
  cases hd:l.dropWhile (fun e=>decide (e.2.1<=x.2.1))with
  |nil=>intro y hy;cases hy
  |cons a r=>
   rw[hd]at hpd
   have ha:¬a.2.1<=x.2.1:=by
    have:=List.head?_dropWhile_not (fun e:EN=>decide (e.2.1<=x.2.1)) l
    rw[hd]at this
    simpa using this
   intro y hy
   rcases List.mem_cons.1 hy with rfl|hy
   ·omega
   ·have:=(List.pairwise_cons.1 hpd).1 y hy;omega
 refine⟨hsp.1,⟨hD,hsp.2.1⟩,fun a ha b hb=>?_⟩
 rcases List.mem_cons.1 hb with rfl|hb
 ·exact hT a ha
 ·exact hsp.2.2 a ha b hb
theorem A98 (r:List EN):sH (srt r):=Jr (I:=sH) r [] List.Pairwise.nil fun x _ s h=>A7q h
theorem ew (r:List EN):(srt r).length=r.length:=by
 unfold srt
 suffices ∀(r l:List EN),(r.foldl (fun l x=>MG x l) l).length=l.length+r.length by simpa using this r []
 intro r
 induction r with
 |nil=>intro l;rfl
 |cons x r ih=>
  intro l
  rw[List.foldl_cons,ih]
  have:=congrArg List.length (List.takeWhile_append_dropWhile (p:=fun e:EN=>decide (e.2.1<=x.2.1)) (l:=l))
  simp only[zJk]at this
  simp only[MG,zJk,zXk];omega
theorem WT (r:List EN)(x:EN):srt (r++[x])=MG x (srt r):=by simp[srt]
theorem A6u (a b:EN):I4 (a,b,())=some (cm1 a.2.1 b.2.1,()):=by
 unfold I4
 simp only[ZG,zQk];rfl
theorem A92 {α:Type}(P Q:List α)(p x:α):((P++p::x::Q).set (P.length+1) p).set P.length x=P++x::p::Q:=by
 rw[List.set_append_right _ _ (by omega),show P.length+1-P.length=1 by omega]
 simp
theorem A7m (n:Int)(i:Int)(x:EN):∀(k:Nat) (P Q:List EN),P.length=k->sH P->(P++x::Q).length<=1000000->
 ∃r,Au (fun v_1=>Aq (0,n,i,()) v_1 _ some) ((P.length:Int),P++x::Q,())=some r/\(r=.inl (MG x P++Q,())\/r=.inr (MG x P++Q,())):=by
 intro k
 induction k with
 |zero=>
  intro P Q hk _ _
  have:P=[]:=List.eq_nil_of_length_eq_zero hk
  subst this
  refine⟨.inr (x::Q,()),?_,.inr rfl⟩
  rw[AF]
  unfold Aq
  rfl
 |succ k ih=>
  intro P Q hk hP hlen
  obtain⟨P0,p,rfl⟩:∃P0 p,P=P0++[p]:=by
   rcases List.eq_nil_or_concat P with rfl|⟨P0,p,rfl⟩
   ·simp at hk
   ·exact⟨P0,p,by simp⟩
  have hk0:P0.length=k:=by simpa using hk
  have hrow:P0++[p]++x::Q=P0++p::x::Q:=by simp
  simp only[zJk,zXk,List.length_nil]at hlen
  have hl:(P0++p::x::Q).length=P0.length+2+Q.length:=by simp;omega
  have g1:(P0++p::x::Q)[P0.length+1]? =some x:=by rw[List.getElem?_append_right (by omega),show P0.length+1-P0.length=1 by omega];rfl
  have g0:(P0++p::x::Q)[P0.length]? =some p:=by rw[List.getElem?_append_right (by omega),Nat.sub_self];rfl
  have hcm:=SX x.2.1 p.2.1
  have hpl:(P0++[p]).length=P0.length+1:=by simp
  rw[hrow,hpl,AF]
  by_cases hc:x.2.1<p.2.1
  ·have step:Aq (0,n,i,()) (((P0.length+1:Nat):Int),P0++p::x::Q,()) ((Int×List EN×Unit) ⊕ ((List EN×Unit) ⊕ (List EN×Unit))) some=some (.inl ((P0.length:Int),P0++x::p::Q,())):=by
    unfold Aq
    simp only
    rw[decide_eq_true (by omega),show zXq.wrap (((P0.length+1:Nat):Int)-1)=(P0.length:Int)from by rw[Bn (by omega) (by omega)];omega]
    simp only[cond_true]
    rw[if_pos (by omega),show 0+(((P0.length+1:Nat):Int)).toNat=P0.length+1 by omega,show 0+((P0.length:Int)).toNat=P0.length by omega,g1,g0]
    simp only[zQk]
    rw[if_pos (by omega)]
    have e:=A6u x p
    erw [e]
    simp only[zQk]
    rw[decide_eq_true (hcm.2 hc)]
    simp only[cond_true]
    have c1:(0:Int)<=(P0.length:Int)/\(P0.length:Int)<(((P0++p::x::Q).length:Nat):Int):=by omega
    have c2:(0:Int)<=((P0.length+1:Nat):Int)/\((P0.length+1:Nat):Int)<(((P0++p::x::Q).length:Nat):Int):=by omega
    simp only[if_pos c1,if_pos c2,zQk,List.length_set]
    have g2:((P0++p::x::Q).set (P0.length+1) (p.1,p.2.1,p.2.2.1,p.2.2.2.1,()))[P0.length]? =some p:=by rw[List.getElem?_set_ne (by omega)];exact g0
    rw[g2]
    simp only[zQk]
    have hsw:=A92 P0 Q p x
    have hsw':((P0++p::x::Q).set (P0.length+1) (p.1,p.2.1,p.2.2.1,p.2.2.2.1,())).set P0.length (x.1,x.2.1,x.2.2.1,x.2.2.2.1,())=P0++x::p::Q:=hsw
    rw[hsw']
   rw[step]
   obtain⟨h3,h4⟩:=et (q:=fun e:EN=>decide (e.2.1<=x.2.1)) (p:=p) (by simpa using hc) P0
   have hins:MG x (P0++[p])++Q=MG x P0++p::Q:=by unfold MG;rw[h3,h4];simp
   rw[hins]
   exact ih P0 (p::Q) hk0 (List.pairwise_append.1 hP).1 (by simp;omega)
  ·have step:Aq (0,n,i,()) (((P0.length+1:Nat):Int),P0++p::x::Q,()) ((Int×List EN×Unit) ⊕ ((List EN×Unit) ⊕ (List EN×Unit))) some=some (.inr (.inl (P0++p::x::Q,()))):=by
    unfold Aq
    simp only
    rw[decide_eq_true (by omega),show zXq.wrap (((P0.length+1:Nat):Int)-1)=(P0.length:Int)from by rw[Bn (by omega) (by omega)];omega]
    simp only[cond_true]
    rw[if_pos (by omega),show 0+(((P0.length+1:Nat):Int)).toNat=P0.length+1 by omega,show 0+((P0.length:Int)).toNat=P0.length by omega,g1,g0]
    simp only[zQk]
    rw[if_pos (by omega)]
    have e:=A6u x p
    erw [e]
    simp only[zQk]
    rw[decide_eq_false (fun h=>hc (hcm.1 h))];rfl
   rw[step]
   refine⟨.inl (P0++p::x::Q,()),rfl,.inl ?_⟩
   have hall:∀y∈P0++[p],(fun e:EN=>decide (e.2.1<=x.2.1)) y=true:=by
    intro y hy
    rw[decide_eq_true_iff]
    rcases List.mem_append.1 hy with hy|hy
    ·have:=(List.pairwise_append.1 hP).2.2 y hy p (List.mem_singleton.2 rfl);omega
    ·rw[List.mem_singleton.1 hy];omega
   obtain⟨h3,h4⟩:=To hall
   unfold MG
   rw[h3,h4];simp
theorem Zr {r:List EN}(hr:r.length<=100000):Bo (0,(r.length:Int),r,())=some (srt r,()):=by
 unfold Bo
 match r,hr with
 |[],_=>
  simp only
  rw[AF]
  unfold Ay
  rfl
 |a::r',hr=>
 generalize hrr:a::r'=r at*
 have hpos:1<=r.length:=by rw[<-hrr];simp
 have key:∀m i:Nat,i+m=r.length->1<=i->Au (fun v=>Ay (0,(r.length:Int),()) v _ some) ((i:Int),srt (r.take i)++r.drop i,())=some (srt r,()):=by
  intro m
  induction m with
  |zero=>
   intro i hi _
   obtain rfl:i=r.length:=by omega
   rw[AF]
   unfold Ay
   simp only
   rw[decide_eq_false (by omega),List.take_length,List.drop_length,List.append_nil];rfl
  |succ m ih=>
   intro i hi h1
   have h:i<r.length:=by omega
   have hlen:(srt (r.take i)).length=i:=by rw[ew];simp;omega
   have hd:=zXx h
   obtain⟨q,e1,e2⟩:=A7m (r.length:Int) (i:Int) r[i] i (srt (r.take i)) (r.drop (i+1)) hlen (A98 _) (by simp[hlen];omega)
   rw[hlen,<-hd]at e1
   have hs:srt (r.take (i+1))=MG r[i] (srt (r.take i)):=by
    rw[List.take_add_one,zQx h];exact WT _ _
   have ih:=ih (i+1) (by omega) (by omega)
   rw[hs]at ih
   have step:Ay (0,(r.length:Int),()) ((i:Int),srt (r.take i)++r.drop i,()) ((Int×List EN×Unit) ⊕ (List EN×Unit)) some=some (.inl (((i+1:Nat):Int),MG r[i] (srt (r.take i))++r.drop (i+1),())):=by
    unfold Ay
    simp only
    rw[decide_eq_true (by omega),Ah h (by omega)]
    simp only[cond_true]
    rw[e1]
    rcases e2 with rfl|rfl<;>rfl
   rw[AF,step]
   exact ih
 have:=key (r.length-1) 1 (by omega) (zQq _)
 have h1:srt (r.take 1)++r.drop 1=r:=by rw[<-hrr];simp[srt,MG]
 rw[h1]at this
 have e0:zXq.wrap ((0:Int)+1)=((1:Nat):Int):=by rw[Bn (by omega) (by omega)];rfl
 simp only[e0,this,zQk]
theorem A5v {r:List EN}(hr:r.length<=19):Cb (r,())=some (srt r,()):=by
 unfold Cb Dl
 have e1:Au (fun v=>Bu ((r.length:Int),20,()) v _ some) (0,20,r,())=some (0,r,()):=by
  rw[AF]
  unfold Bu
  simp only
  rw[decide_eq_false (by omega)];rfl
 have e2:Au (fun v_1=>Bt ((r.length:Int),srt r,()) v_1 _ some) (20,())=some ():=by
  rw[AF]
  unfold Bt
  simp only
  rw[decide_eq_false (by omega)];rfl
 simp only[e1,zQk,Zr (show r.length<=100000 by omega),e2]
end Go.Ab
end
section
namespace Go.Ab
def enC (t:TX):EN:=(t.1,t.2.2.2.2.2.2.1,t.2.2.2.2.2.2.2.1,t.2.2.2.2.2.2.2.2.1,())
def com (t:TX):Bool:=t.2.2.1==2
def raw:List TX->List EN
 |[]=>[]
 |t::l=>bif com t then enC t::raw l else raw l
def bkt (r:List EN):Nat->List EN
 |0=>[]
 |n+1=>bkt r n++r.filter fun e=>e.2.1==((n+1:Nat):Int)
theorem RG:∀l:List TX,(raw l).length<=l.length
 |[]=>zQq _
 |t::l=>by
  have:=RG l
  rw[raw]
  cases com t with
  |true=>simp;omega
  |false=>simp;omega
theorem RE:∀(l:List TX) (e:EN),e∈raw l->∃t∈l,com t=true/\e=enC t
 |[],e,h=>by cases h
 |t::l,e,h=>by
  rw[raw]at h
  cases hc:com t with
  |true=>
   rw[hc]at h
   rcases List.mem_cons.1 h with rfl|h
   ·exact⟨t,zKj ..,hc,rfl⟩
   ·obtain⟨u,h1,h2⟩:=RE l e h
    exact⟨u,zKk _ h1,h2⟩
  |false=>
   rw[hc]at h
   obtain⟨u,h1,h2⟩:=RE l e h
   exact⟨u,zKk _ h1,h2⟩
theorem sW {α:Type}{q:α->Bool}{F:List α}(hF:∀x∈F,q x=false):∀A:List α,(A++F).takeWhile q=A.takeWhile q/\(A++F).dropWhile q=A.dropWhile q++F
 |[]=>by
  cases F with
  |nil=>simp
  |cons a F=>simp[hF a (zKj ..)]
 |a::l=>by
  obtain⟨h1,h2⟩:=sW hF l
  cases h:q a with
  |true=>simp[h,h1,h2]
  |false=>simp[h]
theorem rb (r:List EN):∀n,∀e∈bkt r n,e∈r/\e.2.1<=n
 |0,e,h=>by cases h
 |n+1,e,h=>by
  rw[bkt]at h
  rcases List.mem_append.1 h with h|h
  ·obtain⟨h1,h2⟩:=rb r n e h
   exact⟨h1,by omega⟩
  ·obtain⟨h1,h2⟩:=List.mem_filter.1 h
   have:e.2.1=((n+1:Nat):Int):=by simpa using h2
   exact⟨h1,by omega⟩
theorem rc (r:List EN):∀n,(bkt r n).length<=n*r.length
 |0=>by simp[bkt]
 |n+1=>by
  have h1:=rc r n
  have h2:=List.length_filter_le (fun e:EN=>e.2.1==((n+1:Nat):Int)) r
  rw[bkt,zJk,Nat.add_mul,Nat.one_mul];omega
theorem aK (r:List EN)(x:EN):∀n:Nat,(n:Int)<x.2.1->bkt (r++[x]) n=bkt r n
 |0,_=>rfl
 |n+1,h=>by
  rw[bkt,bkt,aK r x n (by omega),List.filter_append]
  have:([x].filter fun e:EN=>e.2.1==((n+1:Nat):Int))=[]:=by
   rw[List.filter_cons,show(x.2.1==((n+1:Nat):Int))=false from by rw[R5];exact decide_eq_false (by omega)];rfl
  rw[this,List.append_nil]
theorem aJ (r:List EN)(x:EN)(h1:1<=x.2.1):∀n:Nat,x.2.1<=n->bkt (r++[x]) n=MG x (bkt r n)
 |0,h=>by omega
 |n+1,h=>by
  rw[bkt,bkt,List.filter_append]
  by_cases hx:x.2.1=((n+1:Nat):Int)
  ·rw[aK r x n (by omega)]
   have hall:∀e∈bkt r n++r.filter (fun e=>e.2.1==((n+1:Nat):Int)),(fun e:EN=>decide (e.2.1<=x.2.1)) e=true:=by
    intro e he
    rw[decide_eq_true_iff]
    rcases List.mem_append.1 he with he|he
    ·have:=(rb r n e he).2;omega
    ·have:e.2.1=((n+1:Nat):Int):=by simpa using(List.mem_filter.1 he).2
     omega
   obtain⟨h3,h4⟩:=To hall
   unfold MG
   rw[h3,h4]
   simp[hx]
  ·rw[aJ r x h1 n (by omega)]
   have hF:∀e∈r.filter (fun e=>e.2.1==((n+1:Nat):Int)),(fun e:EN=>decide (e.2.1<=x.2.1)) e=false:=by
    intro e he
    have:e.2.1=((n+1:Nat):Int):=by simpa using(List.mem_filter.1 he).2
    exact decide_eq_false (by omega)
   obtain⟨h3,h4⟩:=sW hF (bkt r n)
   unfold MG
   rw[h3,h4]
   have:([x].filter fun e:EN=>e.2.1==((n+1:Nat):Int))=[]:=by
    rw[List.filter_cons,show(x.2.1==((n+1:Nat):Int))=false from by rw[R5];exact decide_eq_false hx];rfl
   rw[this,List.append_nil];simp
theorem A97 {n:Nat}:∀(k:Nat) (r:List EN),r.length=k->(∀e∈r,1<=e.2.1/\e.2.1<=n)->srt r=bkt r n:=by
 intro k
 induction k with
 |zero=>
  intro r hr _
  have:r=[]:=List.eq_nil_of_length_eq_zero hr
  subst this
  have:∀n,bkt [] n=[]:=by
   intro n
   induction n with
   |zero=>rfl
   |succ n ih=>rw[bkt,ih];rfl
  rw[this];rfl
 |succ k ih=>
  intro r hr h
  rcases List.eq_nil_or_concat r with rfl|⟨r,x,rfl⟩
  ·simp at hr
  ·rw[List.concat_eq_append]at hr h ⊢
   obtain⟨a,b⟩:=h x (by simp)
   rw[WT,aJ r x a n b,ih r (by simpa using hr) fun e he=>h e (by simp[he])]
section
variable {s:List (List VV)}{l:List TX}{lk wt:List VM}{stamp:Int}
noncomputable def dP (s:List (List VV))(l:List TX)(lk wt:List VM)(stamp:Int):List EN:=bif okE s l lk wt stamp then srt (raw l)else[]
theorem sy (hE:okE s l lk wt stamp=true):∀t∈l,com t=true->1<=t.2.2.2.2.2.2.1/\t.2.2.2.2.2.2.1<=stamp:=by
 intro t ht hc
 obtain⟨_,h2,_,_,_⟩:=P7 hE
 obtain⟨i,hi,rfl⟩:=List.mem_iff_getElem.1 ht
 obtain⟨_,h3,_,_,h4,_⟩:=h2 i hi
 refine⟨?_,h4⟩
 unfold Md okT at h3
 simp only[zJq]at h3
 have h5:=h3.1.1.2
 unfold com at hc
 rw[hc]at h5
 have:decide (l[i].2.2.2.2.2.2.1>0)=true:=by simpa using h5
 have:=of_decide_eq_true this
 omega
theorem du (h:SmallE s l lk wt)(ce:Bool):Jo ((ce,(s,()),l,lk,wt,stamp,()),())=some (dP s l lk wt stamp,()):=by
 unfold Jo dP
 simp only[Aeu h,zQk]
 cases hE:okE s l lk wt stamp with
 |false=>rfl
 |true=>
  obtain⟨_,_,_,_,h6⟩:=P7 hE
  simp only[zXj,cond_false,cond_true]
  have e:=Gi (l:=l) (B:=fun v=>E4 (l,((l.length:Nat):Int),()) v _ some) (fun(r:List EN) (i:Nat)=>((i:Int),r,())) (fun r t=>bif com t then r++[enC t]else r) (fun i r=>r.length<=i) (s0:=[]) (zQq _) (fun i hi r hr=>⟨by
   unfold E4 com
   simp only[Ai hi,zQk,cX _ (h.ft _ (zQz hi))]
   rw[decide_eq_true (by omega),Ah hi (by omega)]
   simp only[cond_true]
   cases(l[i].2.2.1==2:Bool)with
   |false=>rfl
   |true=>
    simp only[cond_true]
    rw[if_pos (by simp;omega)];rfl,by
   cases com l[i]with
   |true=>simp;omega
   |false=>simp;omega⟩) (r:=fun r=>(r,())) (fun r _=>by
   unfold E4
   simp only
   rw[decide_eq_false (by omega)];rfl) (t0:=(0,[],())) rfl
  have hraw:∀(l:List TX) (r:List EN),l.foldl (fun r t=>bif com t then r++[enC t]else r) r=r++raw l:=by
   intro l
   induction l with
   |nil=>intro r;simp[raw]
   |cons t l ih=>
    intro r
    rw[List.foldl_cons,ih,raw]
    cases com t<;>simp
  rw[hraw,List.nil_append]at e
  rw[e]
  have:=RG l
  simp only[zQk,A5v (show(raw l).length<=19 by omega)]
theorem df (h:SmallE s l lk wt)(ce:Bool):Jf ((ce,(s,()),l,lk,wt,stamp,()),())=some (dP s l lk wt stamp,()):=by
 unfold Jf dP
 simp only[qz h,zQk]
 cases hE:okE s l lk wt stamp with
 |false=>rfl
 |true=>
  obtain⟨_,_,h0,h9,h6⟩:=P7 hE
  simp only[zXj,cond_false,cond_true]
  obtain⟨n,rfl⟩:∃n:Nat,stamp=(n:Int):=⟨stamp.toNat,by omega⟩
  have hrl:=RG l
  have e:=Gz (B:=fun v=>DS (ce,s,l,lk,wt,(n:Int),()) v _ some) (s0:=(1,[],())) (r:=(bkt (raw l) n,())) n (fun i=>(((i+1:Nat):Int),bkt (raw l) i,())) rfl (fun i hi=>by
   have hb:=rc (raw l) i
   have hb2:i*(raw l).length<=999*6:=Nat.mul_le_mul (by omega) (by omega)
   have ei:=Gi (l:=l) (B:=fun v_1=>DR (((i+1:Nat):Int),ce,s,l,lk,wt,(n:Int),()) v_1 _ some) (fun(r:List EN) (i:Nat)=>((i:Int),r,())) (fun r t=>bif com t&&t.2.2.2.2.2.2.1==((i+1:Nat):Int)then r++[enC t]else r) (fun j r=>r.length<=(bkt (raw l) i).length+j) (s0:=bkt (raw l) i) (zQq _) (fun j hj r hr=>⟨by
    have hs:=h.ft _ (zQz hj)
    have hs1:=hs.1
    have hs2:=hs.2
    unfold DR com Lt
    simp only[Ai hj,zQk]
    rw[decide_eq_true (by omega),Ah hj (by omega)]
    simp only[cond_true]
    cases(l[j].2.2.1==2:Bool)with
    |false=>rfl
    |true=>
     simp only[cond_true,Bool.true_and]
     cases hc:(l[j].2.2.2.2.2.2.1==((i+1:Nat):Int))with
     |false=>rfl
     |true=>
      have hc':l[j].2.2.2.2.2.2.1=((i+1:Nat):Int):=by simpa using hc
      simp only[cond_true]
      rw[if_pos (by omega),if_pos (by omega)]
      simp only[zQk]
      rw[if_pos (by simp;omega)]
      unfold enC
      rw[hc'],by
    cases(com l[j]&&l[j].2.2.2.2.2.2.1==((i+1:Nat):Int))with
    |true=>simp;omega
    |false=>simp;omega⟩) (r:=fun r=>(r,())) (fun r _=>by
    unfold DR
    simp only
    rw[decide_eq_false (by omega)];rfl) (t0:=(0,bkt (raw l) i,())) rfl
   have hfl:∀(l:List TX) (r:List EN),l.foldl (fun r t=>bif com t&&t.2.2.2.2.2.2.1==((i+1:Nat):Int)then r++[enC t]else r) r=r++(raw l).filter fun e=>e.2.1==((i+1:Nat):Int):=by
    intro l
    induction l with
    |nil=>intro r;simp[raw]
    |cons t l ih=>
     intro r
     rw[List.foldl_cons,ih,raw]
     cases com t with
     |false=>simp
     |true=>
      have hf:(enC t::raw l).filter (fun e=>e.2.1==((i+1:Nat):Int))=bif t.2.2.2.2.2.2.1==((i+1:Nat):Int)then enC t::(raw l).filter (fun e=>e.2.1==((i+1:Nat):Int))else(raw l).filter (fun e=>e.2.1==((i+1:Nat):Int)):=by
       rw[List.filter_cons]
       show(if(t.2.2.2.2.2.2.1==((i+1:Nat):Int))=true then _ else _)=_
       cases(t.2.2.2.2.2.2.1==((i+1:Nat):Int))<;>rfl
      simp only[Bool.true_and,cond_true]
      rw[hf]
      cases(t.2.2.2.2.2.2.1==((i+1:Nat):Int))with
      |true=>simp only[cond_true];rw[List.append_assoc];rfl
      |false=>rfl
   rw[hfl]at ei
   unfold DS
   simp only
   rw[decide_eq_true (by omega),Ah (i:=i+1) (n:=i+2) (by omega) (by omega)]
   simp only[cond_true]
   rw[ei];rfl) (by
   unfold DS
   simp only
   rw[decide_eq_false (by omega)];rfl)
  rw[e]
  have hr:∀e∈raw l,1<=e.2.1/\e.2.1<=((n:Nat):Int):=by
   intro e he
   obtain⟨t,ht,hc,rfl⟩:=RE l e he
   exact sy hE t ht hc
  rw[A97 _ (raw l) rfl hr];rfl
theorem A7p {x e:EN}{r:List EN}(h:e∈MG x r):e=x\/e∈r:=by
 unfold MG at h
 rcases List.mem_append.1 h with h|h
 ·exact .inr ((List.takeWhile_sublist _).mem h)
 ·rcases List.mem_cons.1 h with h|h
  ·exact .inl h
  ·exact .inr ((List.dropWhile_sublist _).mem h)
theorem A96 (r:List EN):∀e∈srt r,e∈r:=by
 refine Jr (I:=fun s:List EN=>∀e∈s,e∈r) r [] (fun e he=>by cases he) fun x hx s hs e he=>?_
 rcases A7p he with rfl|he
 ·exact hx
 ·exact hs e he
theorem qN (h:SmallE s l lk wt):PI (dP s l lk wt stamp):=by
 unfold dP
 cases hE:okE s l lk wt stamp with
 |false=>exact⟨by simp,fun e he=>by cases he⟩
 |true=>
  obtain⟨_,_,_,_,h6⟩:=P7 hE
  have:=RG l
  refine⟨by simp only[cond_true,ew];omega,fun e he=>?_⟩
  obtain⟨t,ht,_,rfl⟩:=RE l e (A96 _ e he)
  exact h.ft t ht
end
end Go.Ab
end
section
namespace Go.Ab
theorem Pd {α:Type}{R:α->α->Prop}(ht:∀a b c,R a b->R b c->R a c){P:α->Prop}(l:List α):
 (∀i,i<l.length->∃h:i<l.length,P l[i]/\∀h2:0<i,R (l[i-1]'(by omega)) l[i])↔(∀x∈l,P x)/\l.Pairwise R:=by
 constructor
 ·intro h
  refine⟨fun x hx=>?_,?_⟩
  ·obtain⟨i,hi,rfl⟩:=zJz hx
   exact(h i hi).2.1
  ·rw[List.pairwise_iff_getElem]
   intro i j hi hj hij
   induction j with
   |zero=>omega
   |succ j ih=>
    have h1:=(h (j+1) hj).2.2 (by omega)
    simp only[Nat.add_sub_cancel]at h1
    by_cases e:i=j
    ·subst e;exact h1
    ·exact ht _ _ _ (ih (by omega) (by omega)) h1
 ·rintro⟨h1,h2⟩ i hi
  refine⟨hi,h1 _ (zQz hi),fun h0=>?_⟩
  exact List.pairwise_iff_getElem.1 h2 (i-1) i (by omega) hi (by omega)
abbrev J6 {α:Type}(f:α->Int)(l:List α):Prop:=l.Pairwise fun a b=>f a<f b
def CZ {α:Type}(f:α->Int)(l:List α)(m:α):List α:=
 (l.takeWhile fun x=>decide (f x<f m))++m::(match l.dropWhile fun x=>decide (f x<f m)with|[]=>[]|x::r=>if f x=f m then r else x::r)
theorem OP {α:Type}{f:α->Int}:∀{l:List α} (h:J6 f l) (n:Int),∀x∈l.dropWhile (fun x=>decide (f x<n)),n<=f x
 |[],_,_,x,hx=>by simp at hx
 |a::l,h,n,x,hx=>by
  have h1:=List.pairwise_cons.1 h
  simp only[List.dropWhile_cons]at hx
  split at hx
  ·exact OP h1.2 n x hx
  ·rename_i hn
   simp only[decide_eq_true_eq]at hn
   rcases List.mem_cons.1 hx with rfl|hx
   ·omega
   ·have:=h1.1 x hx;omega
theorem Jj {α:Type}{f:α->Int}{l:List α}(h:J6 f l){m x:α}:x∈CZ f l m↔x=m\/(x∈l/\f x≠f m):=by
 have hd:=OP h (f m)
 have hu:J6 f (l.dropWhile fun x=>decide (f x<f m)):=h.sublist (List.dropWhile_sublist _)
 have hl:x∈l↔x∈(l.takeWhile fun x=>decide (f x<f m))\/x∈(l.dropWhile fun x=>decide (f x<f m)):=by
  rw[<-List.mem_append,List.takeWhile_append_dropWhile]
 have htk:∀y∈(l.takeWhile fun x=>decide (f x<f m)),f y<f m:=fun y hy=>by
  have:=List.all_takeWhile (l:=l) (p:=fun x=>decide (f x<f m))
  have:=List.all_eq_true.1 this y hy
  simpa using this
 unfold CZ
 cases hb:(l.dropWhile fun x=>decide (f x<f m))with
 |nil=>
  rw[hb]at hl
  simp only[List.mem_append,List.mem_cons,List.not_mem_nil,or_false]at hl ⊢
  rw[hl]
  constructor
  ·rintro(h1|h1)
   ·exact .inr ⟨h1,by have:=htk x h1;omega⟩
   ·exact .inl h1
  ·rintro(h1|⟨h1,_⟩)
   ·exact .inr h1
   ·exact .inl h1
 |cons y r=>
  rw[hb]at hl hd hu
  have hyr:=List.pairwise_cons.1 hu
  have hy:=hd y (zKj)
  simp only
  by_cases e:f y=f m
  ·rw[if_pos e]
   simp only[List.mem_append,List.mem_cons]at hl ⊢
   rw[hl]
   constructor
   ·rintro(h1|h1|h1)
    ·exact .inr ⟨.inl h1,by have:=htk x h1;omega⟩
    ·exact .inl h1
    ·exact .inr ⟨.inr (.inr h1),by have:=hyr.1 x h1;omega⟩
   ·rintro(h1|⟨h1|h1|h1,h2⟩)
    ·exact .inr (.inl h1)
    ·exact .inl h1
    ·subst h1;exact absurd e h2
    ·exact .inr (.inr h1)
  ·rw[if_neg e]
   simp only[List.mem_append,List.mem_cons]at hl ⊢
   rw[hl]
   constructor
   ·rintro(h1|h1|h1|h1)
    ·exact .inr ⟨.inl h1,by have:=htk x h1;omega⟩
    ·exact .inl h1
    ·subst h1;exact .inr ⟨.inr (.inl rfl),e⟩
    ·exact .inr ⟨.inr (.inr h1),by have:=hyr.1 x h1;omega⟩
   ·rintro(h1|⟨h1|h1|h1,h2⟩)
    ·exact .inr (.inl h1)
    ·exact .inl h1
    ·exact .inr (.inr (.inl h1))
    ·exact .inr (.inr (.inr h1))
theorem My {α:Type}{f:α->Int}{l:List α}(h:J6 f l)(m:α):J6 f (CZ f l m):=by
 have hd:=OP h (f m)
 have hu:J6 f (l.dropWhile fun x=>decide (f x<f m)):=h.sublist (List.dropWhile_sublist _)
 have ht:J6 f (l.takeWhile fun x=>decide (f x<f m)):=h.sublist (List.takeWhile_sublist _)
 have htk:∀y∈(l.takeWhile fun x=>decide (f x<f m)),f y<f m:=fun y hy=>by
  have:=List.all_takeWhile (l:=l) (p:=fun x=>decide (f x<f m))
  have:=List.all_eq_true.1 this y hy
  simpa using this
 unfold CZ
 have key:∀r:List α,J6 f r->(∀x∈r,f m<f x)->J6 f ((l.takeWhile fun x=>decide (f x<f m))++m::r):=by
  intro r hr h1
  refine List.pairwise_append.2 ⟨ht,List.pairwise_cons.2 ⟨h1,hr⟩,fun a ha b hb=>?_⟩
  have h2:=htk a ha
  rcases List.mem_cons.1 hb with rfl|hb
  ·exact h2
  ·have:=h1 b hb;omega
 cases hb:(l.dropWhile fun x=>decide (f x<f m))with
 |nil=>exact key [] .nil (by simp)
 |cons y r=>
  rw[hb]at hd hu
  have hyr:=List.pairwise_cons.1 hu
  have hy:=hd y (zKj)
  simp only
  by_cases e:f y=f m
  ·rw[if_pos e];exact key r hyr.2 fun x hx=>by have:=hyr.1 x hx;omega
  ·rw[if_neg e]
   refine key _ hu fun x hx=>?_
   have h0:f m<f y:=by omega
   rcases List.mem_cons.1 hx with rfl|hx
   ·exact h0
   ·have:=hyr.1 x hx;omega
theorem QR {α:Type}{f:α->Int}(l:List α)(m:α):(CZ f l m).length<=l.length+1:=by
 have e:=congrArg List.length (List.takeWhile_append_dropWhile (p:=fun x=>decide (f x<f m)) (l:=l))
 rw[zJk]at e
 unfold CZ
 split
 ·rename_i h1;simp only[zJk,zXk,List.length_nil];omega
 ·rename_i y r h1
  rw[h1]at e
  simp only[zXk]at e
  split<;>simp only[zJk,zXk]<;>omega
theorem Ot (l:List VM):Ry l↔(∀x∈l,inB x.1 0 5=true/\inB x.2.1 1 9=true)/\J6 (·.1) l:=by
 unfold Ry Af3
 refine Iff.trans ?_ (Pd (R:=fun a b:VM=>a.1<b.1) (P:=fun x=>inB x.1 0 5=true/\inB x.2.1 1 9=true) (fun a b c h1 h2=>Int.lt_trans h1 h2) l)
 simp only[and_assoc]
theorem K9 (l:List VM):NU l↔(∀x∈l,inB x.1 1 9=true/\inB x.2.1 1 9=true/\x.1≠x.2.1)/\J6 (·.1) l:=by
 unfold NU A8v
 refine Iff.trans ?_ (Pd (R:=fun a b:VM=>a.1<b.1) (P:=fun x=>inB x.1 1 9=true/\inB x.2.1 1 9=true/\x.1≠x.2.1) (fun a b c h1 h2=>Int.lt_trans h1 h2) l)
 simp only[and_assoc]
theorem LC (l:List VM):Rx l↔(∀x∈l,inB x.1 0 5=true/\inB x.2.1 (-1) 99=true)/\J6 (·.1) l:=by
 unfold Rx A8w
 refine Iff.trans ?_ (Pd (R:=fun a b:VM=>a.1<b.1) (P:=fun x=>inB x.1 0 5=true/\inB x.2.1 (-1) 99=true) (fun a b c h1 h2=>Int.lt_trans h1 h2) l)
 simp only[and_assoc]
theorem Kj (a b c:VM)(h1:CC a b)(h2:CC b c):CC a c:=by unfold CC at*;omega
theorem Oo (l:List VM):Oq l↔(∀x∈l,inB x.1 0 5=true/\inB x.2.1 0 999=true)/\l.Pairwise CC:=by
 unfold Oq A9d
 rw[<-Pd Kj]
 simp only[and_assoc]
theorem TS (s:List (List VV))(stamp:Int)(l:List TX):Nw s stamp l↔(∀t∈l,Md t=true/\t.2.2.2.1<=stamp/\t.2.2.2.2.2.2.1<=stamp/\(t.2.2.1=1->∀m∈t.2.2.2.2.2.2.2.1,I6 s m))/\J6 (·.1) l:=by
 unfold Nw A8z
 refine Iff.trans ?_ (Pd (R:=fun a b:TX=>a.1<b.1) (P:=fun t=>Md t=true/\t.2.2.2.1<=stamp/\t.2.2.2.2.2.2.1<=stamp/\(t.2.2.1=1->∀m∈t.2.2.2.2.2.2.2.1,I6 s m)) (fun a b c h1 h2=>Int.lt_trans h1 h2) l)
 constructor
 ·intro h i hi
  obtain⟨h0,h1,h2,h3,h4,h5⟩:=h i hi
  exact⟨h0,⟨h1,h3,h4,h5⟩,h2⟩
 ·intro h i hi
  obtain⟨h0,⟨h1,h3,h4,h5⟩,h2⟩:=h i hi
  exact⟨h0,h1,h2,h3,h4,h5⟩
theorem qV {l:List TX}(h:J6 (·.1) l){k:Nat}(hk:k<l.length):l.findIdx? (fun t=>t.1==l[k].1)=some k:=by
 rw[List.findIdx?_eq_some_iff_getElem]
 refine⟨hk,by simp,fun j hj=>?_⟩
 have:l[j].1<l[k].1:=List.pairwise_iff_getElem.1 h j k (by omega) hk hj
 simp;omega
theorem KY {l:List TX}(h:J6 (·.1) l)(id:Int):EC l id=true↔∃t∈l,t.1=id/\t.2.2.1=1:=by
 unfold EC
 constructor
 ·intro h1
  split at h1
  ·rename_i i hi
   split at h1
   ·rename_i t ht
    obtain⟨h2,h3,_⟩:=List.findIdx?_eq_some_iff_getElem.1 hi
    rw[zQx h2]at ht
    obtain rfl:l[i]=t:=by simpa using ht
    exact⟨_,zQz h2,by simpa using h3,by simpa using h1⟩
   ·cases h1
  ·cases h1
 ·rintro⟨t,ht,rfl,h2⟩
  obtain⟨k,hk,rfl⟩:=zJz ht
  rw[qV h hk]
  simp[zQx hk,h2]
end Go.Ab
end
section
namespace Go.Ab
noncomputable section
def Gw (t:TX)(n:Int):TX:=(t.1,t.2.1,n,t.2.2.2.1,t.2.2.2.2.1,t.2.2.2.2.2.1,t.2.2.2.2.2.2.1,t.2.2.2.2.2.2.2.1,t.2.2.2.2.2.2.2.2.1,())
def ez (t:TX)(lo hi:Int)(rd:List VM):TX:=(t.1,t.2.1,t.2.2.1,t.2.2.2.1,lo,hi,t.2.2.2.2.2.2.1,rd,t.2.2.2.2.2.2.2.2.1,())
def Pw (t:TX)(lo:Int)(wr:List VM):TX:=(t.1,t.2.1,t.2.2.1,t.2.2.2.1,lo,t.2.2.2.2.2.1,t.2.2.2.2.2.2.1,t.2.2.2.2.2.2.2.1,wr,())
def Nu (t:TX)(lo hi co:Int):TX:=(t.1,t.2.1,2,t.2.2.2.1,lo,hi,co,t.2.2.2.2.2.2.2.1,t.2.2.2.2.2.2.2.2.1,())
def Nx (id sc be:Int):TX:=(id,sc,1,be,0,1000,0,[],[],())
abbrev EG:=List (List VV)×List TX×List VM×List VM×Int
def X9 (lk:List VM)(id:Int):List VM:=lk.filter fun m=>!(m.2.1==id)
def aD (wt:List VM)(id:Int):List VM:=wt.filter fun m=>!(m.1==id)&&!(m.2.1==id)
def wkW (wt:List VM)(id:Int):List VM:=wt.filter fun m=>!(m.1==id)
def Ko (e:EG)(k:Nat)(t:TX):EG:=(e.1,e.2.1.set k t,X9 e.2.2.1 t.1,aD e.2.2.2.1 t.1,e.2.2.2.2)
def Df (lk:List VM)(key:Int):Int:=match lk.find? fun m=>m.1==key with|some m=>m.2.1|none=>0
def eo (t:TX)(key:Int):Option Int:=(t.2.2.2.2.2.2.2.2.1.find? fun m=>m.1==key).map (·.2.1)
def Ff (s:List (List VV))(key:Int):Option VV:=(s[key.toNat]?).bind fun l=>l[l.length-1]?
def crV (o:Option VV):Int:=match o with|some v=>v.2.2.1|none=>0
def Mw (o:Option VV):Int:=match o with|some v=>v.2.2.2.1|none=>0
def KM (s:List (List VV))(t:TX)(key:Int):Option VV:=
 (s[key.toNat]?).bind fun l=>
   let i:Int:=bif t.2.1==2 then vA l t.2.2.2.1 l.length else(l.length:Int)-1
   bif decide (i<0)then none else(l[i.toNat]?).bind fun v=>bif t.2.1==4&&decide (v.2.2.1>t.2.2.2.1)then none else some v
def IQ (a b:VM):Bool:=dec (CC a b)
def LA (rd:List VM)(m:VM):List VM:=
 (rd.takeWhile fun x=>IQ x m)++m::(match rd.dropWhile fun x=>IQ x m with|[]=>[]|x::r=>if x=m then r else x::r)
def O5 (t:TX)(key:Int)(v:VV):Option TX:=
 bif t.2.2.2.2.2.2.2.1.length==60 then none else some (ez t (mx t.2.2.2.2.1 v.2.2.1) (mn t.2.2.2.2.2.1 v.2.2.2.2.1) (LA t.2.2.2.2.2.2.2.1 (key,v.2.2.1,())))
def Hr (e:EG)(k:Nat)(key:Int):Int×Int×EG:=match e.2.1[k]? with
 |none=>(0,6,e)
 |some t=>match eo t key with
  |some x=>(x,0,e)
  |none=>match KM e.1 t key with
   |none=>(0,3,Ko e k (Gw t 3))
   |some v=>match O5 t key v with
    |none=>(0,6,e)
    |some t'=>(v.2.1,0,(e.1,e.2.1.set k t',e.2.2))
def Fu (k:Nat):Nat->Int->List Int->EG->Int×List Int×EG
 |0,_,out,e=>(0,out,e)
 |n+1,key,out,e=>let r:=Hr e k key
  bif r.2.1==0 then Fu k n (key+1) (out++[r.1]) r.2.2 else(r.2.1,[],r.2.2)
def GI (s:List (List VV))(lk:List VM)(t:TX)(key:Int):Int:=
 let o:=Df lk key
 let f:=!(o==0)&&!(o==t.1)
 bif t.2.1==1&&f then 1
 else bif t.2.1==2&&(f||decide (crV (Ff s key)>t.2.2.2.1))then 2
 else bif t.2.1==4&&decide (Mw (Ff s key)>t.2.2.2.1)then 3 else 0
def Wy (wt:List VM)(id:Int):Option Int:=(wt.find? fun m=>m.1==id).map (·.2.1)
def Iz (wt:List VM):Nat->List Int->Int->List Int
 |0,out,_=>out
 |n+1,out,x=>match Wy wt x with
  |none=>out
  |some y=>if y∈out then out++[y]else Iz wt n (out++[y]) y
def Rs (wt:List VM)(id o:Int):Bool:=(Iz (CZ (·.1) wt (id,o,())) 10 [id] id).getLast?==some id
def MM (e:EG)(k:Nat)(key val:Int):Int×EG:=match e.2.1[k]? with
 |none=>(6,e)
 |some t=>
  let c:=GI e.1 e.2.2.1 t key
  bif c==1 then(bif Rs e.2.2.2.1 t.1 (Df e.2.2.1 key)then(4,Ko e k (Gw t 3))else(1,e.1,e.2.1,e.2.2.1,CZ (·.1) e.2.2.2.1 (t.1,Df e.2.2.1 key,()),e.2.2.2.2))
  else bif c==0 then(0,e.1,e.2.1.set k (Pw t (mx t.2.2.2.2.1 (Mw (Ff e.1 key))) (CZ (·.1) t.2.2.2.2.2.2.2.2.1 (key,val,()))),(bif t.2.1==1||t.2.1==2 then CZ (·.1) e.2.2.1 (key,t.1,())else e.2.2.1),e.2.2.2.1,e.2.2.2.2)
  else(c,Ko e k (Gw t 3))
def Nq (s:List (List VV))(t:TX):Int:=
 bif t.2.2.2.2.2.2.2.2.1.any fun m=>decide (crV (Ff s m.1)>t.2.2.2.1)then(bif t.2.1==2 then 2 else bif t.2.1==4 then 3 else 0)else 0
def rlP (s:List (List VV))(t:TX):Int:=t.2.2.2.2.2.2.2.2.1.foldl (fun n m=>mx n (Mw (Ff s m.1))) (t.2.2.2.2.2.2.2.1.foldl (fun n m=>mx n m.2.1) 0)
def loP (s:List (List VV))(t:TX):Int:=mx t.2.2.2.2.1 (rlP s t)
def hiP (s:List (List VV))(t:TX)(stamp:Int):Int:=mn (mn t.2.2.2.2.2.1 (rfH s t.2.2.2.2.2.2.2.1)) stamp
def OG (s:List (List VV))(t:TX):Bool:=t.2.2.2.2.2.2.2.2.1.any fun m=>match s[m.1.toNat]? with|some l=>decide (l.length>=50)|none=>false
def Qy (s:List (List VV))(t:TX)(stamp hi:Int):List (List VV):=t.2.2.2.2.2.2.2.2.1.foldl (Qa stamp t.1 hi) (t.2.2.2.2.2.2.2.1.foldl (Nz stamp) s)
def Jt (ce:Bool)(e:EG)(k:Nat):Int×EG:=match e.2.1[k]? with
 |none=>(6,e)
 |some t=>
  let c:=Nq e.1 t
  bif !(c==0)then(c,Ko e k (Gw t 3))
  else bif e.2.2.2.2==999 then(6,e)
  else
   let st:=e.2.2.2.2+1
   bif (ce&&decide (loP e.1 t>=hiP e.1 t st))||OG e.1 t then(5,Ko e k (Gw t 3))
   else(0,Ko (Qy e.1 t st (hiP e.1 t st),e.2.1,e.2.2.1,e.2.2.2.1,st) k (Nu t (loP e.1 t) (hiP e.1 t st) st))
def LM (e:EG)(id sc:Int):Int×EG:=
 bif (e.2.1.any fun t=>t.1==id)||e.2.1.length==6 then(6,e)else(0,e.1,CZ (·.1) e.2.1 (Nx id sc e.2.2.2.2),e.2.2)
abbrev OPt:=Int×Int×Int×Int×Int×Int×Unit
def JR (ce:Bool)(e:EG)(o:OPt):Int×List Int×EG:=
 bif o.1==1 then(let r:=LM e o.2.1 o.2.2.1;(r.1,[],r.2))
 else match e.2.1.findIdx? fun t=>t.1==o.2.1 with
  |none=>(6,[],e)
  |some k=>bif EC e.2.1 o.2.1 then
    (let e':EG:=(e.1,e.2.1,e.2.2.1,wkW e.2.2.2.1 o.2.1,e.2.2.2.2)
    bif o.1==2 then Fu k 1 o.2.2.2.1 [] e'
    else bif o.1==4 then Fu k (o.2.2.2.2.1-o.2.2.2.1+1).toNat o.2.2.2.1 [] e'
    else bif o.1==3 then(let r:=MM e' k o.2.2.2.1 o.2.2.2.2.2.1;(r.1,[],r.2))
    else bif o.1==5 then(let r:=Jt ce e' k;(r.1,[],r.2))
    else match e.2.1[k]? with
     |some t=>(0,[],Ko e' k (Gw t 3))
     |none=>(6,[],e'))
   else(6,[],e)
def N9 (o:OPt):Bool:=
 inB o.1 1 6&&inB o.2.1 1 9&&(bif o.1==1 then inB o.2.2.1 1 4 else o.2.2.1==0)&&(bif o.1==2||o.1==3||o.1==4 then inB o.2.2.2.1 0 5 else o.2.2.2.1==0)&&(bif o.1==4 then inB o.2.2.2.2.1 o.2.2.2.1 5 else o.2.2.2.2.1==0)&&(bif o.1==3 then inB o.2.2.2.2.2.1 (-1) 99 else o.2.2.2.2.2.1==0)
structure OkG (e:EG):Prop where
 st:LD e.1
 last:e.1.foldl Jv 0<=e.2.2.2.2
 stamp:e.2.2.2.2<=999
 lkA:∀m∈e.2.2.1,inB m.1 0 5=true/\inB m.2.1 1 9=true
 lkU:J6 (·.1) e.2.2.1
 wtA:∀m∈e.2.2.2.1,inB m.1 1 9=true/\inB m.2.1 1 9=true/\m.1≠m.2.1
 wtU:J6 (·.1) e.2.2.2.1
 txA:∀t∈e.2.1,Md t=true/\t.2.2.2.1<=e.2.2.2.2/\t.2.2.2.2.2.2.1<=e.2.2.2.2/\(t.2.2.1=1->∀m∈t.2.2.2.2.2.2.2.1,I6 e.1 m)
 txU:J6 (·.1) e.2.1
 len:e.2.1.length<=6
 lkO:∀m∈e.2.2.1,EC e.2.1 m.2.1=true
 wtO:∀m∈e.2.2.2.1,EC e.2.1 m.1=true/\EC e.2.1 m.2.1=true
theorem Mi {p:Prop}(h:dec p=true):p:=by
 by_cases e:p
 ·exact e
 ·rw[AI e]at h;cases h
theorem qD (e:EG):okE e.1 e.2.1 e.2.2.1 e.2.2.2.1 e.2.2.2.2=true↔OkG e:=by
 unfold okE inB
 simp only[zJq,decide_eq_true_eq]
 constructor
 ·rintro⟨⟨⟨⟨⟨⟨⟨h1,h2⟩,h3⟩,h4⟩,h5⟩,h6⟩,h7⟩,h8⟩
  have a2:=(Ot _).1 (Mi h2)
  have a3:=(K9 _).1 (Mi h3)
  have a5:=(TS _ _ _).1 (Mi h5)
  exact⟨Mi h1,h4.1,h4.2,a2.1,a2.2,a3.1,a3.2,a5.1,a5.2,h6,Mi h7,Mi h8⟩
 ·rintro⟨h1,h2,h3,h4,h5,h6,h7,h8,h9,h10,h11,h12⟩
  exact⟨⟨⟨⟨⟨⟨⟨Ax h1,Ax ((Ot _).2 ⟨h4,h5⟩)⟩,Ax ((K9 _).2 ⟨h6,h7⟩)⟩,h2,h3⟩,Ax ((TS _ _ _).2 ⟨h8,h9⟩)⟩,h10⟩,Ax h11⟩,Ax h12⟩
end
end Go.Ab
end
section
namespace Go.Ab
theorem Br {x a b:Int}:inB x a b=true↔a<=x/\x<=b:=by unfold inB;simp
theorem A75 {a b n:Int}:mx a b<=n↔a<=n/\b<=n:=by unfold mx;split<;>omega
theorem A7e {a b n:Int}:n<=mn a b↔n<=a/\n<=b:=by unfold mn;split<;>omega
theorem rZ (a b c:VV)(h1:okP a b)(h2:okP b c):okP a c:=by unfold okP at*;omega
theorem KG (l:List VV):LQ l↔(∀v∈l,okV v=true)/\l.Pairwise okP/\∃v,l.getLast?=some v/\v.2.2.2.2.1=1000:=by
 unfold LQ
 rw[ZP]
 have h1:=Pd (R:=okP) (P:=fun v=>okV v=true) rZ l
 have h2:(∀i,i<l.length->A71 l i)↔(∀x∈l,okV x=true)/\l.Pairwise okP:=h1
 rw[h2,and_assoc]
 have h3:(∃h:0<l.length,(l[l.length-1]'(by omega)).2.2.2.2.1=1000)↔∃v,l.getLast?=some v/\v.2.2.2.2.1=1000:=by
  constructor
  ·rintro⟨h,e⟩
   exact⟨_,by rw[List.getLast?_eq_getElem?,zQx (by omega)],e⟩
  ·rintro⟨v,e1,e2⟩
   rw[List.getLast?_eq_getElem?]at e1
   obtain⟨h,e3⟩:=zQj.1 e1
   exact⟨by omega,by rw[e3];exact e2⟩
 rw[h3]
theorem N8 (v:VV):okV v=true↔inB v.2.1 (-1) 99=true/\inB v.2.2.1 0 999=true/\inB v.2.2.2.1 v.2.2.1 999=true/\inB v.2.2.2.2.1 1 1000=true/\(bif v.2.2.1==0 then(bif v.1==0 then v.2.1==-1 else false)else inB v.1 1 9)=true:=by
 unfold okV
 simp only[zJq,and_assoc]
theorem mem_set {α:Type}{l:List α}{k:Nat}{t x:α}(h:x∈l.set k t):x=t\/∃j,∃hj:j<l.length,j≠k/\x=l[j]:=by
 obtain⟨j,hj,rfl⟩:=zJz h
 rw[List.length_set]at hj
 rw[List.getElem_set]
 by_cases e:k=j
 ·rw[if_pos e];exact .inl rfl
 ·rw[if_neg e];exact .inr ⟨j,hj,fun h=>e h.symm,rfl⟩
theorem cT {α:Type}{R:α->α->Prop}{l:List α}{k:Nat}(hk:k<l.length){t:α}(h:l.Pairwise R)(h1:∀x,R x l[k]->R x t)(h2:∀x,R l[k] x->R t x):(l.set k t).Pairwise R:=by
 rw[List.pairwise_iff_getElem]at h ⊢
 intro i j hi hj hij
 rw[List.length_set]at hi hj
 rw[List.getElem_set,List.getElem_set]
 have h3:=h i j hi hj hij
 by_cases e1:k=i
 ·subst e1;rw[if_pos rfl,if_neg (by omega)];exact h2 _ h3
 ·rw[if_neg e1]
  by_cases e2:k=j
  ·subst e2;rw[if_pos rfl];exact h1 _ h3
  ·rw[if_neg e2];exact h3
theorem Alr {l:List VV}{j:Nat}{v:VV}(h:LQ l)(hj:l[j]? =some v){st:Int}(hs:st<=999):LQ (l.set j (T9 st v)):=by
 obtain⟨hjl,rfl⟩:=zQj.1 hj
 rw[KG]at h ⊢
 obtain⟨h1,h2,w,h3,h4⟩:=h
 refine⟨fun x hx=>?_,cT hjl h2 (fun x hx=>hx) (fun x hx=>hx),?_⟩
 ·rcases mem_set hx with rfl|⟨i,hi,_,rfl⟩
  ·have:=h1 _ (zQz hjl)
   rw[N8]at this ⊢
   obtain⟨a1,a2,a3,a4,a5⟩:=this
   refine⟨a1,a2,?_,a4,a5⟩
   rw[Br]at a3 ⊢
   show l[j].2.2.1<=mx l[j].2.2.2.1 st/\mx l[j].2.2.2.1 st<=999
   unfold mx;split<;>omega
  ·exact h1 _ (zQz hi)
 ·rw[List.getLast?_eq_getElem?,List.length_set,List.getElem?_set]
  rw[List.getLast?_eq_getElem?]at h3
  by_cases e:j=l.length-1
  ·rw[if_pos e,if_pos (by omega)]
   refine⟨_,rfl,?_⟩
   subst e
   rw[zQx (by omega)]at h3
   obtain rfl:=Option.some.inj h3
   exact h4
  ·rw[if_neg e];exact⟨w,h3,h4⟩
theorem Alq {l:List VV}{v:VV}(h:LQ l)(hl:l[l.length-1]? =some v){st hi id val:Int}(hs:1<=st/\st<=999)(hh:1<=hi/\hi<=st)(hid:inB id 1 9=true)(hval:inB val (-1) 99=true)(hc:∀x∈l,x.2.2.1<st):
 LQ (l.set (l.length-1) (ta hi v)++[(id,val,st,st,1000,())]):=by
 obtain⟨hjl,rfl⟩:=zQj.1 hl
 rw[KG]at h ⊢
 obtain⟨h1,h2,w,h3,h4⟩:=h
 have hpos:0<l.length:=by omega
 refine⟨fun x hx=>?_,?_,_,by rw[List.getLast?_append];rfl,rfl⟩
 ·rcases List.mem_append.1 hx with hx|hx
  ·rcases mem_set hx with rfl|⟨i,hi,_,rfl⟩
   ·have:=h1 _ (zQz hjl)
    rw[N8]at this ⊢
    obtain⟨a1,a2,a3,a4,a5⟩:=this
    exact⟨a1,a2,a3,by rw[Br];show 1<=hi/\hi<=1000;omega,a5⟩
   ·exact h1 _ (zQz hi)
  ·obtain rfl:=by simpa using hx
   rw[N8]
   refine⟨hval,by rw[Br];show 0<=st/\st<=999;omega,by rw[Br];show st<=st/\st<=999;omega,by rw[Br];show(1:Int)<=1000/\(1000:Int)<=1000;omega,?_⟩
   show(bif st==0 then _ else inB id 1 9)=true
   rw[show(st==0)=false by simp;omega]
   exact hid
 ·rw[List.pairwise_append]
  refine⟨?_,List.pairwise_singleton _ _,fun a ha b hb=>?_⟩
  ·
   rw[List.pairwise_iff_getElem]at h2 ⊢
   intro i j hi hj hij
   rw[List.length_set]at hi hj
   rw[List.getElem_set,List.getElem_set,if_neg (by omega)]
   have h5:=h2 i j hi hj hij
   by_cases e:l.length-1=j
   ·subst e;rw[if_pos rfl];exact h5
   ·rw[if_neg e];exact h5
  ·obtain rfl:=by simpa using hb
   rcases mem_set ha with rfl|⟨i,hi',hne,rfl⟩
   ·exact⟨show l[l.length-1].2.2.1<st from hc _ (zQz hjl),hh.2⟩
   ·have h6:okP l[i] (l[l.length-1]'(by omega)):=List.pairwise_iff_getElem.1 h2 i (l.length-1) hi' (by omega) (by omega)
    have h7:=hc _ (zQz hi')
    have h8:=hc _ (zQz hjl)
    exact⟨h7,by have:=h6.2;show l[i].2.2.2.2.1<=st;omega⟩
theorem aa {n:Int}:∀(l:List VV) (a:Int),Jv a l<=n↔a<=n/\∀v∈l,v.2.2.2.1<=n
 |[],a=>by simp[Jv]
 |v::l,a=>by
  show Jv (mx a v.2.2.2.1) l<=n↔_
  rw[aa l,A75]
  simp[and_assoc]
theorem Qu {n:Int}:∀(s:List (List VV)) (a:Int),s.foldl Jv a<=n↔a<=n/\∀l∈s,∀v∈l,v.2.2.2.1<=n
 |[],a=>by simp
 |l::s,a=>by
  rw[List.foldl_cons,Qu s,aa]
  simp[and_assoc]
structure GdS (s:List (List VV))(n:Int):Prop where
 six:s.length=6
 ok:∀l∈s,LQ l/\l.length<=50
 rd:∀l∈s,∀v∈l,v.2.2.2.1<=n
theorem GdS.of {s:List (List VV)}{n:Int}(h:LD s)(hn:s.foldl Jv 0<=n):GdS s n:=⟨h.1,h.2,((Qu s 0).1 hn).2⟩
theorem GdS.last {s:List (List VV)}{n:Int}(h:GdS s n)(h0:0<=n):LD s/\s.foldl Jv 0<=n:=⟨⟨h.six,h.ok⟩,(Qu s 0).2 ⟨h0,h.rd⟩⟩
theorem GdS.set {s:List (List VV)}{n:Int}(h:GdS s n){k:Nat}{l:List VV}(h1:LQ l)(h2:l.length<=50)(h3:∀v∈l,v.2.2.2.1<=n):GdS (s.set k l) n:=by
 refine⟨by simpa using h.six,fun x hx=>?_,fun x hx=>?_⟩
 ·rcases List.mem_or_eq_of_mem_set hx with h4|rfl
  ·exact h.ok x h4
  ·exact⟨h1,h2⟩
 ·rcases List.mem_or_eq_of_mem_set hx with h4|rfl
  ·exact h.rd x h4
  ·exact h3
theorem SY {s:List (List VV)}{m x:VM}{l:List VV}:Ki (s.set m.1.toNat l) x=if m.1.toNat=x.1.toNat then(Ki s m).map fun _=>l else Ki s x:=by
 unfold Ki
 rw[List.getElem?_set]
 by_cases e:m.1.toNat=x.1.toNat
 ·rw[if_pos e,if_pos e]
  by_cases e2:m.1.toNat<s.length
  ·rw[if_pos e2,zQx e2];rfl
  ·rw[if_neg e2,List.getElem?_eq_none (by omega)];rfl
 ·rw[if_neg e,if_neg e]
theorem Agh {l:List VV}{j:Nat}{v:VV}(hj:l[j]? =some v){v':VV}(e:v'.2.2.1=v.2.2.1):(l.set j v').map (fun v=>v.2.2.1)=l.map fun v=>v.2.2.1:=by
 obtain⟨hjl,rfl⟩:=zQj.1 hj
 apply List.ext_getElem (by simp)
 intro i h1 h2
 simp only[List.length_map,List.length_set]at h1 h2
 simp only[List.getElem_map,List.getElem_set]
 split
 ·rename_i h;subst h;exact e
 ·rfl
theorem Afc {s:List (List VV)}{n st:Int}(h:GdS s n)(hn:n<=st)(hs:st<=999)(m:VM):GdS (Nz st s m) st/\∀x,(Ki (Nz st s m) x).map (List.map fun v:VV=>v.2.2.1)=(Ki s x).map (List.map fun v:VV=>v.2.2.1):=by
 have h':GdS s st:=⟨h.six,h.ok,fun l hl v hv=>Int.le_trans (h.rd l hl v hv) hn⟩
 unfold Nz
 cases hc:Ki s m with
 |none=>exact⟨h',fun x=>rfl⟩
 |some l=>
  have hl:l∈s:=List.mem_of_getElem? hc
  simp only
  cases hf:fvI l m.2.1 with
  |none=>exact⟨h',fun x=>rfl⟩
  |some j=>
   simp only
   cases hj:l[j]? with
   |none=>exact⟨h',fun x=>rfl⟩
   |some v=>
    simp only
    refine⟨h'.set (Alr (h.ok l hl).1 hj hs) (by simpa using(h.ok l hl).2) (fun x hx=>?_),fun x=>?_⟩
    ·rcases List.mem_or_eq_of_mem_set hx with h4|rfl
     ·exact h'.rd l hl x h4
     ·have:=h'.rd l hl v (List.mem_of_getElem? hj)
      show mx _ st<=st
      rw[A75];exact⟨this,Int.le_refl _⟩
    ·rw[SY]
     split
     ·rename_i e
      have:Ki s x=some l:=by rw[<-hc];unfold Ki;rw[e]
      rw[this,hc]
      simp only[Option.map_some]
      rw[Agh (v':=T9 st v) hj rfl]
     ·rfl
theorem A7u {n st:Int}(hn:n<=st)(hs:st<=999):∀(rd:List VM) {s:List (List VV)},GdS s n->(GdS (rd.foldl (Nz st) s) st)/\∀x,(Ki (rd.foldl (Nz st) s) x).map (List.map fun v:VV=>v.2.2.1)=(Ki s x).map (List.map fun v:VV=>v.2.2.1)
 |[],s,h=>⟨⟨h.six,h.ok,fun l hl v hv=>Int.le_trans (h.rd l hl v hv) hn⟩,fun x=>rfl⟩
 |m::rd,s,h=>by
  obtain⟨h1,h2⟩:=Afc h hn hs m
  obtain⟨h3,h4⟩:=A7u (Int.le_refl st) hs rd h1
  exact⟨h3,fun x=>(h4 x).trans (h2 x)⟩
theorem Afb {s:List (List VV)}{st id hi:Int}(h:GdS s st)(hs:1<=st/\st<=999)(hh:1<=hi/\hi<=st)(hid:inB id 1 9=true){m:VM}(hv:inB m.2.1 (-1) 99=true)(hf:∀l,Ki s m=some l->l.length<50/\∀v∈l,v.2.2.1<st):
 GdS (Qa st id hi s m) st/\(∀x:VM,m.1.toNat≠x.1.toNat->Ki (Qa st id hi s m) x=Ki s x):=by
 unfold Qa
 cases hc:Ki s m with
 |none=>exact⟨h,fun x _=>rfl⟩
 |some l=>
  have hl:l∈s:=List.mem_of_getElem? hc
  obtain⟨g1,g2⟩:=hf l hc
  simp only
  cases hj:l[l.length-1]? with
  |none=>exact⟨h,fun x _=>rfl⟩
  |some v=>
   simp only
   refine⟨h.set (Alq (h.ok l hl).1 hj hs hh hid hv g2) (by simp;omega) (fun x hx=>?_),fun x hx=>?_⟩
   ·rcases List.mem_append.1 hx with hx|hx
    ·rcases List.mem_or_eq_of_mem_set hx with h4|rfl
     ·exact h.rd l hl x h4
     ·exact h.rd l hl v (List.mem_of_getElem? hj)
    ·obtain rfl:=by simpa using hx
     exact Int.le_refl _
   ·rw[SY,if_neg hx]
theorem A7t {st id hi:Int}(hs:1<=st/\st<=999)(hh:1<=hi/\hi<=st)(hid:inB id 1 9=true):∀(wr:List VM) {s:List (List VV)},GdS s st->(∀m∈wr,0<=m.1/\inB m.2.1 (-1) 99=true)->J6 (·.1) wr->(∀m∈wr,∀l,Ki s m=some l->l.length<50/\∀v∈l,v.2.2.1<st)->GdS (wr.foldl (Qa st id hi) s) st
 |[],s,h,_,_,_=>h
 |m::wr,s,h,hv,hu,hf=>by
  obtain⟨h1,h2⟩:=Afb h hs hh hid (hv m zKj).2 (hf m zKj)
  have hp:=List.pairwise_cons.1 hu
  refine A7t hs hh hid wr h1 (fun x hx=>hv x (zKk _ hx)) hp.2 (fun x hx l hl=>?_)
  have h3:m.1<x.1:=hp.1 x hx
  have h4:=(hv m zKj).1
  have h5:=(hv x (zKk _ hx)).1
  rw[h2 x (by omega)]at hl
  exact hf x (zKk _ hx) l hl
theorem ap {l:List VV}{c:Int}:(∃j,fvI l c=some j)↔∃v∈l,v.2.2.1=c:=by
 unfold fvI
 rw[<-Option.isSome_iff_exists,List.findIdx?_isSome]
 simp
theorem ay {s:List (List VV)}{m:VM}:I6 s m↔∃l,Ki s m=some l/\∃v∈l,v.2.2.1=m.2.1:=by
 unfold I6
 constructor
 ·rintro⟨l,j,h1,h2⟩;exact⟨l,h1,ap.1 ⟨j,h2⟩⟩
 ·rintro⟨l,h1,h2⟩;obtain⟨j,h3⟩:=ap.2 h2;exact⟨l,j,h1,h3⟩
theorem su {s:List (List VV)}{m x:VM}(st id hi:Int)(hx:I6 s x):I6 (Qa st id hi s m) x:=by
 rw[ay]at hx ⊢
 obtain⟨l,h1,v,h2,h3⟩:=hx
 unfold Qa
 cases hc:Ki s m with
 |none=>exact⟨l,h1,v,h2,h3⟩
 |some r=>
  simp only
  cases hj:r[r.length-1]? with
  |none=>exact⟨l,h1,v,h2,h3⟩
  |some w=>
   simp only
   rw[SY]
   split
   ·rename_i e
    have:Ki s x=some r:=by rw[<-hc];unfold Ki;rw[e]
    rw[this]at h1
    obtain rfl:r=l:=by simpa using h1
    rw[hc]
    refine⟨_,rfl,?_⟩
    obtain⟨i,hi',rfl⟩:=zJz h2
    obtain⟨hl,rfl⟩:=zQj.1 hj
    by_cases e2:r.length-1=i
    ·subst e2
     refine⟨ta hi _,?_,h3⟩
     rw[List.mem_append];left
     exact List.mem_set hl _
    ·refine⟨r[i],?_,h3⟩
     rw[List.mem_append];left
     rw[List.mem_iff_getElem]
     exact⟨i,by simpa using hi',by rw[List.getElem_set,if_neg e2]⟩
   ·exact⟨l,h1,v,h2,h3⟩
theorem sv {s:List (List VV)}{t:TX}{st hi:Int}{x:VM}(hx:I6 s x):I6 (Qy s t st hi) x:=by
 unfold Qy
 have h1:∀(rd:List VM) (s:List (List VV)),I6 s x->I6 (rd.foldl (Nz st) s) x:=by
  intro rd
  induction rd with
  |nil=>intro s h;exact h
  |cons m rd ih=>intro s h;exact ih _ (R4 st h)
 have h2:∀(wr:List VM) (s:List (List VV)),I6 s x->I6 (wr.foldl (Qa st t.1 hi) s) x:=by
  intro wr
  induction wr with
  |nil=>intro s h;exact h
  |cons m wr ih=>intro s h;exact ih _ (su st t.1 hi h)
 exact h2 _ _ (h1 _ _ hx)
end Go.Ab
end
section
namespace Go.Ab
theorem DG (t:TX):Md t=true↔Oq t.2.2.2.2.2.2.2.1/\Rx t.2.2.2.2.2.2.2.2.1/\inB t.1 1 9=true/\inB t.2.1 1 4=true/\inB t.2.2.2.1 0 999=true/\inB t.2.2.1 1 3=true/\inB t.2.2.2.2.1 0 999=true/\inB t.2.2.2.2.2.1 1 1000=true/\(t.2.2.1=2↔t.2.2.2.2.2.2.1>0)/\inB t.2.2.2.2.2.2.1 0 999=true/\t.2.2.2.2.2.2.2.1.length<=60:=by
 unfold Md okT
 simp only[zJq,decide_eq_true_eq,and_assoc]
 have e:∀(a b:Prop) [Decidable b] (x:Bool),(x=true↔a)->(((x==decide b)=true)↔(a↔b)):=by
  intro a b _ x hx
  cases x<;>by_cases hb:b<;>simp[hb]at hx ⊢<;>exact hx
 rw[e (t.2.2.1=2) (t.2.2.2.2.2.2.1>0) (t.2.2.1==2) (by simp)]
 constructor
 ·rintro⟨h1,h2,h3⟩;exact⟨Mi h1,Mi h2,h3⟩
 ·rintro⟨h1,h2,h3⟩;exact⟨Ax h1,Ax h2,h3⟩
section
variable {e:EG}(H:OkG e)
include H
theorem OkG.stamp0:0<=e.2.2.2.2:=Int.le_trans ((Qu e.1 0).1 (Int.le_refl _)).1 H.last
theorem OkG.gd:GdS e.1 e.2.2.2.2:=GdS.of H.st H.last
theorem rk {k:Nat}(hk:k<e.2.1.length){t':TX}(ht:t'.1=e.2.1[k].1)(id:Int):EC (e.2.1.set k t') id=true↔(id≠t'.1/\EC e.2.1 id=true)\/(id=t'.1/\t'.2.2.1=1):=by
 have hu:J6 (·.1) (e.2.1.set k t'):=cT hk H.txU (fun x h=>by show x.1<t'.1;rw[ht];exact h) (fun x h=>by show t'.1<x.1;rw[ht];exact h)
 rw[KY hu,KY H.txU]
 constructor
 ·rintro⟨t,h1,rfl,h2⟩
  rcases mem_set h1 with rfl|⟨j,hj,hne,rfl⟩
  ·exact .inr ⟨rfl,h2⟩
  ·refine .inl ⟨fun he=>?_,_,zQz hj,rfl,h2⟩
   rw[ht]at he
   rcases Nat.lt_or_gt_of_ne hne with h3|h3
   ·have:e.2.1[j].1<e.2.1[k].1:=List.pairwise_iff_getElem.1 H.txU j k hj hk h3;omega
   ·have:e.2.1[k].1<e.2.1[j].1:=List.pairwise_iff_getElem.1 H.txU k j hk hj h3;omega
 ·rintro(⟨h1,t,h2,rfl,h3⟩|⟨rfl,h2⟩)
  ·obtain⟨j,hj,rfl⟩:=zJz h2
   have hne:k≠j:=fun he=>by subst he;exact h1 ht.symm
   refine⟨e.2.1[j],?_,rfl,h3⟩
   rw[List.mem_iff_getElem]
   exact⟨j,by simpa using hj,by rw[List.getElem_set,if_neg hne]⟩
  ·exact⟨t',List.mem_set hk _,rfl,h2⟩
theorem er {k:Nat}(hk:k<e.2.1.length){t':TX}(ht:t'.1=e.2.1[k].1):J6 (·.1) (e.2.1.set k t'):=
 cT hk H.txU (fun x h=>by show x.1<t'.1;rw[ht];exact h) (fun x h=>by show t'.1<x.1;rw[ht];exact h)
theorem OkG.ends {k:Nat}(hk:k<e.2.1.length){t':TX}(ht:t'.1=e.2.1[k].1){s':List (List VV)}{stamp':Int}(hs:LD s')(hl:s'.foldl Jv 0<=stamp')(hst:e.2.2.2.2<=stamp'/\stamp'<=999)(hx:∀m,I6 e.1 m->I6 s' m)
 (ok:Md t'=true)(hbe:t'.2.2.2.1<=stamp')(hco:t'.2.2.2.2.2.2.1<=stamp')(hna:t'.2.2.1≠1):OkG (Ko (s',e.2.1,e.2.2.1,e.2.2.2.1,stamp') k t'):=by
 have hact:=rk H hk ht
 refine⟨hs,hl,hst.2,fun m hm=>H.lkA m ((List.mem_filter.1 hm).1),H.lkU.filter _,fun m hm=>H.wtA m ((List.mem_filter.1 hm).1),H.wtU.filter _,fun t h=>?_,er H hk ht,by show(e.2.1.set k t').length<=6;simpa using H.len,fun m hm=>?_,fun m hm=>?_⟩
 ·rcases mem_set h with rfl|⟨j,hj,_,rfl⟩
  ·exact⟨ok,hbe,hco,fun h=>absurd h hna⟩
  ·obtain⟨h1,h2,h3,h4⟩:=H.txA _ (zQz hj)
   exact⟨h1,Int.le_trans h2 hst.1,Int.le_trans h3 hst.1,fun h m hm=>hx m (h4 h m hm)⟩
 ·obtain⟨h1,h2⟩:=List.mem_filter.1 hm
  have h3:¬m.2.1=t'.1:=by simpa using h2
  exact(hact _).2 (.inl ⟨h3,H.lkO m h1⟩)
 ·obtain⟨h1,h2⟩:=List.mem_filter.1 hm
  have h3:¬m.1=t'.1/\¬m.2.1=t'.1:=by simpa using h2
  exact⟨(hact _).2 (.inl ⟨h3.1,(H.wtO m h1).1⟩),(hact _).2 (.inl ⟨h3.2,(H.wtO m h1).2⟩)⟩
theorem OkG.goes {k:Nat}(hk:k<e.2.1.length){t':TX}(ht:t'.1=e.2.1[k].1)(hact0:e.2.1[k].2.2.1=1)(hact1:t'.2.2.1=1)(ok:Md t'=true)(hbe:t'.2.2.2.1<=e.2.2.2.2)(hco:t'.2.2.2.2.2.2.1<=e.2.2.2.2)(hx:∀m∈t'.2.2.2.2.2.2.2.1,I6 e.1 m)
 {lk:List VM}(hlA:∀m∈lk,inB m.1 0 5=true/\inB m.2.1 1 9=true)(hlU:J6 (·.1) lk)(hlO:∀m∈lk,EC e.2.1 m.2.1=true):OkG (e.1,e.2.1.set k t',lk,e.2.2.2.1,e.2.2.2.2):=by
 have hact:=rk H hk ht
 have hk1:EC e.2.1 t'.1=true:=(KY H.txU _).2 ⟨_,zQz hk,ht.symm,hact0⟩
 have hall:∀id,EC e.2.1 id=true->EC (e.2.1.set k t') id=true:=fun id h=>(hact id).2 (by
  by_cases e1:id=t'.1
  ·exact .inr ⟨e1,hact1⟩
  ·exact .inl ⟨e1,h⟩)
 refine⟨H.st,H.last,H.stamp,hlA,hlU,H.wtA,H.wtU,fun t h=>?_,er H hk ht,by show(e.2.1.set k t').length<=6;simpa using H.len,fun m hm=>hall _ (hlO m hm),fun m hm=>⟨hall _ (H.wtO m hm).1,hall _ (H.wtO m hm).2⟩⟩
 rcases mem_set h with rfl|⟨j,hj,_,rfl⟩
 ·exact⟨ok,hbe,hco,fun _=>hx⟩
 ·exact H.txA _ (zQz hj)
theorem OkG.aborts {k:Nat}{t:TX}(hk:e.2.1[k]? =some t)(ha:t.2.2.1=1):OkG (Ko e k (Gw t 3)):=by
 obtain⟨hk2,rfl⟩:∃h:k<e.2.1.length,e.2.1[k]=t:=zQj.1 hk
 obtain⟨h1,h2,h3,h4⟩:=H.txA _ (zQz hk2)
 refine OkG.ends H hk2 (t':=Gw e.2.1[k] 3) rfl H.st H.last ⟨Int.le_refl _,H.stamp⟩ (fun m h=>h) ?_ h2 h3 (by show(3:Int)≠1;decide)
 rw[DG]at h1 ⊢
 obtain⟨a1,a2,a3,a4,a5,a6,a7,a8,a9,a10,a11⟩:=h1
 refine⟨a1,a2,a3,a4,a5,by show inB 3 1 3=true;decide,a7,a8,?_,a10,a11⟩
 show(3:Int)=2↔_
 rw[ha]at a9
 constructor
 ·intro h;omega
 ·intro h;have:=a9.2 h;omega
end
theorem ML {a b:VM}:IQ a b=true↔CC a b:=by unfold IQ;exact⟨Mi,Ax⟩
theorem Aem {rd:List VM}(h:rd.Pairwise CC)(m:VM):∀x∈rd.dropWhile (fun x=>IQ x m),¬CC x m:=by
 induction rd with
 |nil=>simp
 |cons a rd ih=>
  have hp:=List.pairwise_cons.1 h
  intro x hx
  rw[List.dropWhile_cons]at hx
  split at hx
  ·exact ih hp.2 x hx
  ·rename_i hn
   rw[ML]at hn
   rcases List.mem_cons.1 hx with rfl|hx
   ·exact hn
   ·intro hb;exact hn (Kj _ _ _ (hp.1 x hx) hb)
theorem dY (a b:VM):CC a b\/a=b\/CC b a:=by
 obtain⟨a1,a2,a3⟩:=a;obtain⟨b1,b2,b3⟩:=b
 unfold CC
 simp only[Prod.mk.injEq,and_true]
 omega
theorem TG {rd:List VM}{m x:VM}(hx:x∈LA rd m):x=m\/x∈rd:=by
 unfold LA at hx
 have hl:∀y,y∈(rd.takeWhile fun x=>IQ x m)\/y∈(rd.dropWhile fun x=>IQ x m)->y∈rd:=fun y hy=>by
  rw[<-List.mem_append,List.takeWhile_append_dropWhile]at hy;exact hy
 rw[List.mem_append,List.mem_cons]at hx
 rcases hx with hx|hx|hx
 ·exact .inr (hl x (.inl hx))
 ·exact .inl hx
 ·split at hx
  ·cases hx
  ·rename_i y r hd
   right
   apply hl;right;rw[hd]
   split at hx
   ·exact zKk _ hx
   ·exact hx
theorem A5n {rd:List VM}(h:rd.Pairwise CC)(m:VM):(LA rd m).Pairwise CC:=by
 have hd:=Aem h m
 have hu:(rd.dropWhile fun x=>IQ x m).Pairwise CC:=h.sublist (List.dropWhile_sublist _)
 have ht:(rd.takeWhile fun x=>IQ x m).Pairwise CC:=h.sublist (List.takeWhile_sublist _)
 have htk:∀y∈(rd.takeWhile fun x=>IQ x m),CC y m:=fun y hy=>by
  have h1:=List.all_takeWhile (l:=rd) (p:=fun x=>IQ x m)
  exact ML.1 (List.all_eq_true.1 h1 y hy)
 unfold LA
 have key:∀r:List VM,r.Pairwise CC->(∀x∈r,CC m x)->((rd.takeWhile fun x=>IQ x m)++m::r).Pairwise CC:=by
  intro r hr h1
  refine List.pairwise_append.2 ⟨ht,List.pairwise_cons.2 ⟨h1,hr⟩,fun a ha b hb=>?_⟩
  have h2:=htk a ha
  rcases List.mem_cons.1 hb with rfl|hb
  ·exact h2
  ·exact Kj _ _ _ h2 (h1 b hb)
 cases hb:(rd.dropWhile fun x=>IQ x m)with
 |nil=>exact key [] .nil (by simp)
 |cons y r=>
  rw[hb]at hd hu
  have hyr:=List.pairwise_cons.1 hu
  have hy:=hd y (zKj)
  simp only
  by_cases e:y=m
  ·rw[if_pos e];exact key r hyr.2 fun x hx=>by rw[<-e];exact hyr.1 x hx
  ·rw[if_neg e]
   have h0:CC m y:=by
    rcases dY y m with h1|h1|h1
    ·exact absurd h1 hy
    ·exact absurd h1 e
    ·exact h1
   refine key _ hu fun x hx=>?_
   rcases List.mem_cons.1 hx with rfl|hx
   ·exact h0
   ·exact Kj _ _ _ h0 (hyr.1 x hx)
theorem rF (rd:List VM)(m:VM):(LA rd m).length<=rd.length+1:=by
 have e:=congrArg List.length (List.takeWhile_append_dropWhile (p:=fun x=>IQ x m) (l:=rd))
 rw[zJk]at e
 unfold LA
 split
 ·rename_i h1;simp only[zJk,zXk,List.length_nil];omega
 ·rename_i y r h1
  rw[h1]at e
  simp only[zXk]at e
  split<;>simp only[zJk,zXk]<;>omega
theorem Rt {s:List (List VV)}{t:TX}{key:Int}{v:VV}(h:KM s t key=some v):∃l,s[key.toNat]? =some l/\v∈l:=by
 unfold KM at h
 obtain⟨l,h1,h2⟩:=Option.bind_eq_some_iff.1 h
 refine⟨l,h1,?_⟩
 simp only at h2
 cases hd:decide ((bif t.2.1==2 then vA l t.2.2.2.1 l.length else(l.length:Int)-1)<0)with
 |true=>rw[hd]at h2;cases h2
 |false=>
  rw[hd]at h2
  obtain⟨w,h3,h4⟩:=Option.bind_eq_some_iff.1 h2
  cases h5:(t.2.1==4&&decide (w.2.2.1>t.2.2.2.1))with
  |true=>rw[h5]at h4;cases h4
  |false=>
   rw[h5]at h4
   obtain rfl:=Option.some.inj h4
   exact List.mem_of_getElem? h3
section
variable {e:EG}(H:OkG e){k:Nat}{t:TX}(hk:e.2.1[k]? =some t)(ha:t.2.2.1=1)
include H
theorem OkG.wake (id:Int):OkG (e.1,e.2.1,e.2.2.1,wkW e.2.2.2.1 id,e.2.2.2.2):=
 ⟨H.st,H.last,H.stamp,H.lkA,H.lkU,fun m hm=>H.wtA m ((List.mem_filter.1 hm).1),H.wtU.filter _,H.txA,H.txU,H.len,H.lkO,fun m hm=>H.wtO m ((List.mem_filter.1 hm).1)⟩
include hk ha
theorem OkG.read {key:Int}(hkey:inB key 0 5=true):OkG (Hr e k key).2.2/\((Hr e k key).2.1=0->∃t',(Hr e k key).2.2.2.1[k]? =some t'/\t'.2.2.1=1/\t'.1=t.1)/\(Hr e k key).2.2.2.1.length=e.2.1.length:=by
 unfold Hr
 rw[hk]
 simp only
 cases hw:eo t key with
 |some x=>exact⟨H,fun _=>⟨t,hk,ha,rfl⟩,rfl⟩
 |none=>
  simp only
  cases hc:KM e.1 t key with
  |none=>exact⟨H.aborts hk ha,fun h=>by exact absurd h (by show ¬((3:Int)=0);decide),by show(e.2.1.set k _).length=_;simp⟩
  |some v=>
   simp only
   unfold O5
   cases hl:(t.2.2.2.2.2.2.2.1.length==60)with
   |true=>exact⟨H,fun h=>by exact absurd h (by show ¬((6:Int)=0);decide),rfl⟩
   |false=>
    simp only[cond_false]
    obtain⟨hk2,rfl⟩:=zQj.1 hk
    obtain⟨h1,h2,h3,h4⟩:=H.txA _ (zQz hk2)
    obtain⟨l,q1,q2⟩:=Rt hc
    have hlm:l∈e.1:=List.mem_of_getElem? q1
    have hv:=((KG l).1 (H.st.2 l hlm).1).1 v q2
    rw[N8]at hv
    obtain⟨v1,v2,v3,v4,v5⟩:=hv
    rw[Br]at v2 v3 v4
    rw[DG]at h1
    obtain⟨a1,a2,a3,a4,a5,a6,a7,a8,a9,a10,a11⟩:=h1
    rw[Br]at a7 a8
    refine⟨OkG.goes H hk2 (t':=ez e.2.1[k] (mx e.2.1[k].2.2.2.2.1 v.2.2.1) (mn e.2.1[k].2.2.2.2.2.1 v.2.2.2.2.1) (LA e.2.1[k].2.2.2.2.2.2.2.1 (key,v.2.2.1,()))) rfl ha ha ?_ h2 h3 (fun m hm=>?_) H.lkA H.lkU H.lkO,fun _=>⟨ez e.2.1[k] (mx e.2.1[k].2.2.2.2.1 v.2.2.1) (mn e.2.1[k].2.2.2.2.2.1 v.2.2.2.2.1) (LA e.2.1[k].2.2.2.2.2.2.2.1 (key,v.2.2.1,())),by rw[List.getElem?_set,if_pos rfl,if_pos hk2],ha,rfl⟩,by simp⟩
    ·rw[DG]
     rw[Oo]at a1
     refine⟨(Oo _).2 ⟨fun x hx=>?_,A5n a1.2 _⟩,a2,a3,a4,a5,a6,?_,?_,a9,a10,?_⟩
     ·rcases TG hx with rfl|hx
      ·exact⟨hkey,by rw[Br];exact v2⟩
      ·exact a1.1 x hx
     ·rw[Br];show 0<=mx _ _/\mx _ _<=999
      unfold mx;split<;>omega
     ·rw[Br];show 1<=mn _ _/\mn _ _<=1000
      unfold mn;split<;>omega
     ·have:=rF e.2.1[k].2.2.2.2.2.2.2.1 (key,v.2.2.1,())
      have h60:¬e.2.1[k].2.2.2.2.2.2.2.1.length=60:=by simpa using hl
      show(LA _ _).length<=60
      omega
    ·rcases TG hm with rfl|hm
     ·rw[ay];exact⟨l,q1,v,q2,rfl⟩
     ·exact h4 ha m hm
end
theorem OkG.scan {k:Nat}:∀(n:Nat) {key:Int} {out:List Int} {e:EG} {t:TX},OkG e->e.2.1[k]? =some t->t.2.2.1=1->0<=key->key+n<=6->OkG (Fu k n key out e).2.2
 |0,key,out,e,t,H,_,_,_,_=>H
 |n+1,key,out,e,t,H,hk,ha,h0,h1=>by
  obtain⟨g1,g2,g3⟩:=H.read hk ha (key:=key) (by rw[Br];omega)
  unfold Fu
  simp only
  cases hc:((Hr e k key).2.1==0)with
  |false=>exact g1
  |true=>
   obtain⟨t',q1,q2,_⟩:=g2 (by simpa using hc)
   exact OkG.scan n g1 q1 q2 (by omega) (by omega)
section
variable {e:EG}(H:OkG e){k:Nat}{t:TX}(hk:e.2.1[k]? =some t)(ha:t.2.2.1=1)
include H hk ha
theorem OkG.getV {key:Int}(hkey:inB key 0 5=true):∃l v,e.1[key.toNat]? =some l/\l∈e.1/\Ff e.1 key=some v/\v∈l/\okV v=true:=by
 rw[Br]at hkey
 have h6:=H.st.1
 have hlt:key.toNat<e.1.length:=by omega
 have hl:e.1[key.toNat]∈e.1:=zQz hlt
 have hok:=(KG _).1 (H.st.2 _ hl).1
 obtain⟨w,h1,h2⟩:=hok.2.2
 refine⟨e.1[key.toNat],w,zQx hlt,hl,?_,List.mem_of_getLast? h1,hok.1 w (List.mem_of_getLast? h1)⟩
 unfold Ff
 rw[zQx hlt]
 simpa[List.getLast?_eq_getElem?]using h1
theorem OkG.write {key val:Int}(hkey:inB key 0 5=true)(hval:inB val (-1) 99=true):OkG (MM e k key val).2:=by
 unfold MM
 rw[hk]
 simp only
 have hk1:EC e.2.1 t.1=true:=(KY H.txU _).2 ⟨_,List.mem_of_getElem? hk,rfl,ha⟩
 cases hc:(GI e.1 e.2.2.1 t key==1)with
 |true=>
  simp only[cond_true]
  cases hd:Rs e.2.2.2.1 t.1 (Df e.2.2.1 key)with
  |true=>exact H.aborts hk ha
  |false=>
   simp only[cond_false]
   have hf:∃m∈e.2.2.1,m.2.1=Df e.2.2.1 key/\m.2.1≠t.1:=by
    have h1:GI e.1 e.2.2.1 t key=1:=by simpa using hc
    unfold GI at h1
    simp only at h1
    have h2:(!(Df e.2.2.1 key==0)&&!(Df e.2.2.1 key==t.1))=true:=by
     cases hx:(!(Df e.2.2.1 key==0)&&!(Df e.2.2.1 key==t.1))with
     |true=>rfl
     |false=>
      rw[hx]at h1
      simp only[Bool.and_false,cond_false,Bool.false_or]at h1
      exfalso
      revert h1
      cases(t.2.1==2&&decide (crV (Ff e.1 key)>t.2.2.2.1))<;>cases(t.2.1==4&&decide (Mw (Ff e.1 key)>t.2.2.2.1))<;>simp
    simp only[zJq,Bool.not_eq_true',beq_eq_false_iff_ne]at h2
    unfold Df at h2 ⊢
    cases hfd:e.2.2.1.find? (fun m=>m.1==key)with
    |none=>rw[hfd]at h2;exact absurd rfl h2.1
    |some m=>rw[hfd]at h2;exact⟨m,List.mem_of_find?_eq_some hfd,rfl,h2.2⟩
   obtain⟨m,hm,hme,hne⟩:=hf
   have hmb:=H.lkA m hm
   have hma:=H.lkO m hm
   have htok:=(DG _).1 (H.txA t (List.mem_of_getElem? hk)).1
   refine⟨H.st,H.last,H.stamp,H.lkA,H.lkU,fun x hx=>?_,My H.wtU _,H.txA,H.txU,H.len,H.lkO,fun x hx=>?_⟩
   ·rcases(Jj H.wtU).1 hx with rfl|⟨hx,_⟩
    ·exact⟨htok.2.2.1,by rw[<-hme];exact hmb.2,by show t.1≠Df _ _;rw[<-hme];exact Ne.symm hne⟩
    ·exact H.wtA x hx
   ·rcases(Jj H.wtU).1 hx with rfl|⟨hx,_⟩
    ·exact⟨hk1,by rw[<-hme];exact hma⟩
    ·exact H.wtO x hx
 |false=>
  simp only[cond_false]
  cases hc0:(GI e.1 e.2.2.1 t key==0)with
  |false=>exact H.aborts hk ha
  |true=>
   simp only[cond_true]
   obtain⟨l,v,q1,q2,q3,q4,q5⟩:=H.getV hk ha hkey
   obtain⟨hk2,rfl⟩:∃h:k<e.2.1.length,e.2.1[k]=t:=zQj.1 hk
   obtain⟨h1,h2,h3,h4⟩:=H.txA _ (zQz hk2)
   rw[DG]at h1
   obtain⟨a1,a2,a3,a4,a5,a6,a7,a8,a9,a10,a11⟩:=h1
   rw[N8]at q5
   obtain⟨v1,v2,v3,v4,v5⟩:=q5
   rw[Br]at v2 v3 a7
   have hrd:Mw (Ff e.1 key)=v.2.2.2.1:=by rw[q3];rfl
   have htx:Md (Pw e.2.1[k] (mx e.2.1[k].2.2.2.2.1 (Mw (Ff e.1 key))) (CZ (·.1) e.2.1[k].2.2.2.2.2.2.2.2.1 (key,val,())))=true:=by
    rw[DG]
    rw[LC]at a2
    refine⟨a1,(LC _).2 ⟨fun x hx=>?_,My a2.2 _⟩,a3,a4,a5,a6,?_,a8,a9,a10,a11⟩
    ·rcases(Jj a2.2).1 hx with rfl|⟨hx,_⟩
     ·exact⟨hkey,hval⟩
     ·exact a2.1 x hx
    ·rw[Br];show 0<=mx _ _/\mx _ _<=999
     rw[hrd];unfold mx;split<;>omega
   refine OkG.goes H hk2 (t':=Pw e.2.1[k] (mx e.2.1[k].2.2.2.2.1 (Mw (Ff e.1 key))) (CZ (·.1) e.2.1[k].2.2.2.2.2.2.2.2.1 (key,val,()))) rfl ha ha htx h2 h3 (h4 ha) (fun m hm=>?_) ?_ (fun m hm=>?_)
   ·cases hb:(e.2.1[k].2.1==1||e.2.1[k].2.1==2)with
    |false=>rw[hb]at hm;exact H.lkA m hm
    |true=>
     rw[hb]at hm
     rcases(Jj H.lkU).1 hm with rfl|⟨hm,_⟩
     ·exact⟨hkey,a3⟩
     ·exact H.lkA m hm
   ·cases hb:(e.2.1[k].2.1==1||e.2.1[k].2.1==2)with
    |false=>exact H.lkU
    |true=>exact My H.lkU _
   ·cases hb:(e.2.1[k].2.1==1||e.2.1[k].2.1==2)with
    |false=>rw[hb]at hm;exact H.lkO m hm
    |true=>
     rw[hb]at hm
     rcases(Jj H.lkU).1 hm with rfl|⟨hm,_⟩
     ·exact hk1
     ·exact H.lkO m hm
theorem aq {α:Type}(f:α->Int)(n:Int):∀(l:List α) (a:Int),a<=n->(∀x∈l,f x<=n)->l.foldl (fun n x=>mx n (f x)) a<=n:=by
 clear H hk ha
 intro l
 induction l with
 |nil=>intro a h _;exact h
 |cons x l ih=>intro a h h2;exact ih _ (A75.2 ⟨h,h2 x zKj⟩) fun y hy=>h2 y (zKk _ hy)
theorem U3 {α:Type}(f:α->Int):∀(l:List α) (a:Int),a<=l.foldl (fun n x=>mx n (f x)) a:=by
 clear H hk ha
 intro l
 induction l with
 |nil=>intro a;exact Int.le_refl _
 |cons x l ih=>intro a;refine Int.le_trans ?_ (ih _);show a<=mx a (f x);unfold mx;split<;>omega
theorem OkG.rl:0<=rlP e.1 t/\rlP e.1 t<=999:=by
 have htok:=(DG _).1 (H.txA t (List.mem_of_getElem? hk)).1
 have hr:=((Oo _).1 htok.1).1
 have hw:=((LC _).1 htok.2.1).1
 unfold rlP
 refine⟨Int.le_trans (U3 H hk ha (fun m:VM=>m.2.1) _ 0) (U3 H hk ha (fun m:VM=>Mw (Ff e.1 m.1)) _ _),aq H hk ha _ _ _ _ (aq H hk ha _ _ _ _ (by decide) fun x hx=>(Br.1 (hr x hx).2).2) fun x hx=>?_⟩
 obtain⟨l,v,q1,q2,q3,q4,q5⟩:=H.getV hk ha (hw x hx).1
 rw[q3]
 rw[N8]at q5
 have:=Br.1 q5.2.2.1
 exact this.2
theorem OkG.sucB {m:VM}(hx:I6 e.1 m):1<=Pu e.1 m/\Pu e.1 m<=1000:=by
 obtain⟨l,j,h1,h2⟩:=hx
 unfold Pu
 rw[h1]
 have hl:l∈e.1:=List.mem_of_getElem? h1
 have hok:=((KG l).1 (H.st.2 l hl).1).1
 simp only[h2]
 have hj:=R3 h2
 rw[zQx hj]
 exact Br.1 ((N8 _).1 (hok _ (zQz hj))).2.2.2.1
theorem OkG.rh:1<=rfH e.1 t.2.2.2.2.2.2.2.1:=by
 have htok:=(DG _).1 (H.txA t (List.mem_of_getElem? hk)).1
 have hr:=((Oo _).1 htok.1).1
 unfold rfH
 have hex:=(H.txA t (List.mem_of_getElem? hk)).2.2.2 ha
 have key:∀(l:List VM) (a:Int),(∀x∈l,I6 e.1 x)->1<=a->1<=l.foldl (fun n m=>mn n (Pu e.1 m)) a:=by
  intro l
  induction l with
  |nil=>intro a _ h;exact h
  |cons x l ih=>intro a h1 h2;exact ih _ (fun y hy=>h1 y (zKk _ hy)) (A7e.2 ⟨h2,(H.sucB hk ha (h1 x zKj)).1⟩)
 exact key _ _ hex (by decide)
theorem OkG.commit (ce:Bool):OkG (Jt ce e k).2:=by
 unfold Jt
 rw[hk]
 simp only
 cases hc:(Nq e.1 t==0)with
 |false=>exact H.aborts hk ha
 |true=>
  simp only[zXj,cond_false]
  cases hs:(e.2.2.2.2==999)with
  |true=>exact H
  |false=>
   simp only[cond_false]
   cases hf:((ce&&decide (loP e.1 t>=hiP e.1 t (e.2.2.2.2+1)))||OG e.1 t)with
   |true=>exact H.aborts hk ha
   |false=>
    simp only[cond_false]
    have hst0:=H.stamp0
    have hst1:=H.stamp
    have hst2:¬e.2.2.2.2=999:=by simpa using hs
    have hrl:=H.rl hk ha
    have hrh:=H.rh hk ha
    have hfull:OG e.1 t=false:=(Bool.or_eq_false_iff.1 hf).2
    obtain⟨hk2,rfl⟩:∃h:k<e.2.1.length,e.2.1[k]=t:=zQj.1 hk
    obtain⟨h1,h2,h3,h4⟩:=H.txA _ (zQz hk2)
    rw[DG]at h1
    obtain⟨a1,a2,a3,a4,a5,a6,a7,a8,a9,a10,a11⟩:=h1
    rw[Br]at a7 a8
    have hlo:0<=loP e.1 e.2.1[k]/\loP e.1 e.2.1[k]<=999:=by unfold loP mx;split<;>omega
    have hhi:1<=hiP e.1 e.2.1[k] (e.2.2.2.2+1)/\hiP e.1 e.2.1[k] (e.2.2.2.2+1)<=e.2.2.2.2+1:=by
     unfold hiP
     exact⟨A7e.2 ⟨A7e.2 ⟨a8.1,hrh⟩,by omega⟩,by unfold mn;split<;>omega⟩
    have hwr:=(LC _).1 a2
    obtain⟨g1,g2⟩:=A7u (n:=e.2.2.2.2) (st:=e.2.2.2.2+1) (by omega) (by omega) e.2.1[k].2.2.2.2.2.2.2.1 H.gd
    have g3:GdS (Qy e.1 e.2.1[k] (e.2.2.2.2+1) (hiP e.1 e.2.1[k] (e.2.2.2.2+1))) (e.2.2.2.2+1):=by
     refine A7t (by omega) hhi a3 _ g1 (fun m hm=>⟨(Br.1 (hwr.1 m hm).1).1,(hwr.1 m hm).2⟩) hwr.2 (fun m hm l hl=>?_)
     have h5:=g2 m
     rw[hl]at h5
     cases hr:Ki e.1 m with
     |none=>rw[hr]at h5;cases h5
     |some r=>
      rw[hr]at h5
      simp only[Option.map_some,Option.some.injEq]at h5
      have hrm:r∈e.1:=List.mem_of_getElem? hr
      have hlen:l.length=r.length:=by simpa using congrArg List.length h5
      refine⟨?_,fun v hv=>?_⟩
      ·have h6:=List.any_eq_false.1 hfull m hm
       have hr':e.1[m.1.toNat]? =some r:=hr
       rw[hr']at h6
       have:¬r.length>=50:=by simpa using h6
       omega
      ·have:v.2.2.1∈r.map fun v=>v.2.2.1:=by rw[<-h5];exact List.mem_map_of_mem hv
       obtain⟨w,hw1,hw2⟩:=List.mem_map.1 this
       have h7:=dC (((KG r).1 (H.st.2 r hrm).1).1 w hw1)
       have h8:=H.gd.rd r hrm w hw1
       omega
    obtain⟨g4,g5⟩:=g3.last (by omega)
    refine OkG.ends H hk2 (t':=Nu e.2.1[k] _ _ _) rfl g4 g5 ⟨by omega,by omega⟩ (fun m hm=>sv hm) ?_ (by show e.2.1[k].2.2.2.1<=_;omega) (by show e.2.2.2.2+1<=_;omega) (by show(2:Int)≠1;decide)
    rw[DG]
    refine⟨a1,a2,a3,a4,a5,by show inB 2 1 3=true;decide,by rw[Br];exact hlo,by rw[Br];exact⟨hhi.1,Int.le_trans hhi.2 (by omega)⟩,?_,by rw[Br];show 0<=e.2.2.2.2+1/\e.2.2.2.2+1<=999;omega,a11⟩
    show(2:Int)=2↔e.2.2.2.2+1>0
    exact⟨fun _=>by omega,fun _=>rfl⟩
end
theorem OkG.begin {e:EG}(H:OkG e){id sc:Int}(hid:inB id 1 9=true)(hsc:inB sc 1 4=true):OkG (LM e id sc).2:=by
 unfold LM
 cases hc:((e.2.1.any fun t=>t.1==id)||e.2.1.length==6)with
 |true=>exact H
 |false=>
  simp only[cond_false]
  obtain⟨h1,h2⟩:=Bool.or_eq_false_iff.1 hc
  have hno:∀t∈e.2.1,t.1≠id:=fun t ht=>by simpa using List.any_eq_false.1 h1 t ht
  have hlen:¬e.2.1.length=6:=by simpa using h2
  have hst0:=H.stamp0
  have hst1:=H.stamp
  have hu:=My H.txU (Nx id sc e.2.2.2.2)
  have hmem:∀t,t∈CZ (·.1) e.2.1 (Nx id sc e.2.2.2.2)↔t=Nx id sc e.2.2.2.2\/t∈e.2.1:=fun t=>by
   rw[Jj H.txU]
   exact⟨fun h=>h.imp (fun h=>h) (·.1),fun h=>h.imp (fun h=>h) fun h=>⟨h,hno t h⟩⟩
  have hact:∀id',EC e.2.1 id'=true->EC (CZ (·.1) e.2.1 (Nx id sc e.2.2.2.2)) id'=true:=fun id' h=>by
   rw[KY H.txU]at h
   obtain⟨t,q1,q2,q3⟩:=h
   exact(KY hu _).2 ⟨t,(hmem t).2 (.inr q1),q2,q3⟩
  refine⟨H.st,H.last,H.stamp,H.lkA,H.lkU,H.wtA,H.wtU,fun t ht=>?_,hu,?_,fun m hm=>hact _ (H.lkO m hm),fun m hm=>⟨hact _ (H.wtO m hm).1,hact _ (H.wtO m hm).2⟩⟩
  ·rcases(hmem t).1 ht with rfl|ht
   ·refine⟨?_,Int.le_refl _,hst0,fun _ m hm=>by cases hm⟩
    rw[DG]
    refine⟨fun i hi=>absurd hi (Nat.not_lt_zero _),fun i hi=>absurd hi (Nat.not_lt_zero _),hid,hsc,by rw[Br];exact⟨hst0,hst1⟩,by show inB 1 1 3=true;decide,by show inB 0 0 999=true;decide,by show inB 1000 1 1000=true;decide,?_,by show inB 0 0 999=true;decide,Nat.zero_le _⟩
    show(1:Int)=2↔(0:Int)>0
    omega
   ·exact H.txA t ht
  ·have:=QR (f:=(·.1)) e.2.1 (Nx id sc e.2.2.2.2)
   have:=H.len
   show(CZ _ _ _).length<=6
   omega
theorem OkG.step {e:EG}(H:OkG e)(ce:Bool){o:OPt}(ho:N9 o=true):OkG (JR ce e o).2.2:=by
 unfold N9 at ho
 simp only[zJq]at ho
 obtain⟨⟨⟨⟨⟨o1,o2⟩,o3⟩,o4⟩,o5⟩,o6⟩:=ho
 unfold JR
 cases hb:(o.1==1)with
 |true=>
  rw[hb]at o3
  exact H.begin o2 o3
 |false=>
  simp only[cond_false]
  cases hk:e.2.1.findIdx? (fun t=>t.1==o.2.1)with
  |none=>exact H
  |some k=>
   simp only
   cases hact:EC e.2.1 o.2.1 with
   |false=>exact H
   |true=>
    simp only[cond_true]
    obtain⟨hk2,hk3,_⟩:=List.findIdx?_eq_some_iff_getElem.1 hk
    have ht:e.2.1[k]? =some e.2.1[k]:=zQx hk2
    have ha:e.2.1[k].2.2.1=1:=by
     unfold EC at hact
     rw[hk]at hact
     simp only[ht]at hact
     simpa using hact
    have HW:=H.wake o.2.1
    cases h2:(o.1==2)with
    |true=>
     rw[h2]at o4
     simp only[Bool.true_or,cond_true]at o4 ⊢
     rw[Br]at o4
     exact OkG.scan 1 HW ht ha (by omega) (by omega)
    |false=>
     simp only[cond_false]
     cases h4:(o.1==4)with
     |true=>
      rw[h4]at o4 o5
      simp only[Bool.or_true,cond_true]at o4 o5 ⊢
      rw[Br]at o4 o5
      exact OkG.scan _ HW ht ha (by omega) (by omega)
     |false=>
      simp only[cond_false]
      cases h3:(o.1==3)with
      |true=>
       rw[h3]at o4 o6
       simp only[Bool.or_true,Bool.true_or,cond_true]at o4 o6 ⊢
       exact HW.write ht ha o4 o6
      |false=>
       simp only[cond_false]
       cases h5:(o.1==5)with
       |true=>exact HW.commit ht ha ce
       |false=>
        simp only[cond_false,ht]
        exact HW.aborts ht ha
end Go.Ab
end
section
namespace Go.Ab
theorem MI {i j:Nat}(h:i+j<4611686018427387904):IntKind.wrap zXq (Int.fdiv (IntKind.wrap IntKind.u64 (IntKind.wrap zXq ((i:Int)+(j:Int)))) (2 ^ min (Int.toNat 1) (IntKind.bits IntKind.u64)))=(((i+j) / 2:Nat):Int):=by
 have h1:IntKind.wrap zXq ((i:Int)+(j:Int))=(i:Int)+(j:Int):=by rw[IntKind.wrap_i64];omega
 have h2:IntKind.wrap IntKind.u64 ((i:Int)+(j:Int))=(i:Int)+(j:Int):=by
  have e:((i:Int)+(j:Int)) % 18446744073709551616=(i:Int)+(j:Int):=by omega
  show IntKind.wrap IntKind.u64 _=_
  unfold IntKind.wrap
  simp[IntKind.bits,IntKind.signed,e]
 rw[h1,h2]
 have h3:(2:Int) ^ min (Int.toNat 1) (IntKind.bits IntKind.u64)=2:=by decide
 rw[h3]
 have h4:Int.fdiv ((i:Int)+(j:Int)) 2=(((i+j) / 2:Nat):Int):=by
  rw[Int.fdiv_eq_ediv_of_nonneg _ (by omega)]
  omega
 rw[h4,IntKind.wrap_i64];omega
theorem QJ {n:Nat}{B:Int×Int×Unit->Option ((Int×Int×Unit) ⊕ (Int×Unit))}{p:Nat->Bool}(mono:∀i j,i<=j->j<n->p j=true->p i=true)
 (hB:∀i j:Nat,i<j->j<=n->B ((i:Int),(j:Int),())=some (.inl (if p ((i+j) / 2)=true then((((i+j) / 2+1:Nat):Int),(j:Int),())else((i:Int),(((i+j) / 2:Nat):Int),()))))
 (hE:∀i:Nat,i<=n->B ((i:Int),(i:Int),())=some (.inr ((i:Int),()))):
 ∃c:Nat,c<=n/\Au B (0,(n:Int),())=some ((c:Int),())/\(∀k,k<c->p k=true)/\(∀k,c<=k->k<n->p k=false):=by
 have key:∀m i j:Nat,j-i=m->i<=j->j<=n->(∀k,k<i->p k=true)->(∀k,j<=k->k<n->p k=false)->∃c:Nat,c<=n/\Au B ((i:Int),(j:Int),())=some ((c:Int),())/\(∀k,k<c->p k=true)/\(∀k,c<=k->k<n->p k=false):=by
  intro m
  induction m using Nat.strongRecOn with
  |_ m ih=>
   intro i j hm hij hj h1 h2
   by_cases e:i=j
   ·subst e
    refine⟨i,hj,?_,h1,h2⟩
    rw[AF,hE i hj];rfl
   ·have hlt:i<j:=by omega
    have hs:=hB i j hlt hj
    cases hp:p ((i+j) / 2)with
    |true=>
     rw[hp,if_pos rfl]at hs
     obtain⟨c,g1,g2,g3⟩:=ih (j-((i+j) / 2+1)) (by omega) ((i+j) / 2+1) j rfl (by omega) hj (fun k hk=>mono k ((i+j) / 2) (by omega) (by omega) hp) h2
     refine⟨c,g1,?_,g3⟩
     rw[AF,hs];exact g2
    |false=>
     rw[hp,if_neg (by decide)]at hs
     obtain⟨c,g1,g2,g3⟩:=ih ((i+j) / 2-i) (by omega) i ((i+j) / 2) rfl (by omega) (by omega) h1 (fun k hk hkn=>by
      cases hq:p k with
      |false=>rfl
      |true=>rw[mono ((i+j) / 2) k hk hkn hq]at hp;cases hp)
     refine⟨c,g1,?_,g3⟩
     rw[AF,hs];exact g2
 exact key n 0 n rfl (Nat.zero_le _) (zQq _) (fun k hk=>absurd hk (Nat.not_lt_zero _)) (fun k hk hkn=>by omega)
theorem QM {α:Type}{l:List α}{p:α->Bool}{c:Nat}(hc:c<=l.length)(h1:∀k (hk:k<l.length),k<c->p l[k]=true)(h2:∀k (hk:k<l.length),c<=k->p l[k]=false):l.take c=l.takeWhile p/\l.drop c=l.dropWhile p:=by
 induction l generalizing c with
 |nil=>simp
 |cons a l ih=>
  cases c with
  |zero=>
   have:=h2 0 (by simp) (zQq _)
   simp only[List.getElem_cons_zero]at this
   simp[List.takeWhile_cons,List.dropWhile_cons,this]
  |succ c=>
   have h0:=h1 0 (by simp) (Nat.succ_pos _)
   simp only[List.getElem_cons_zero]at h0
   obtain⟨g1,g2⟩:=ih (c:=c) (by simpa using hc) (fun k hk hkc=>by have:=h1 (k+1) (by simpa using hk) (by omega);rwa [List.getElem_cons_succ]at this) (fun k hk hkc=>by have:=h2 (k+1) (by simpa using hk) (by omega);rwa [List.getElem_cons_succ]at this)
   simp[List.takeWhile_cons,List.dropWhile_cons,h0,g1,g2]
end Go.Ab
end
section
namespace Go.Ab
theorem SS {α:Type}{l:List α}{q:α->Bool}{B:Int×Int×List α×Unit->Option ((Int×Int×List α×Unit) ⊕ (Int×List α×Unit))}
 (hB:∀(i j:Nat) (xs:List α) (hi:i<j) (hj:j<l.length) (h:xs.length=l.length),B ((i:Int),(j:Int),xs,())=some (.inl (if q (xs[j]'(by omega))=true then((i:Int),((j+1:Nat):Int),xs,())else(((i+1:Nat):Int),((j+1:Nat):Int),xs.set i (xs[j]'(by omega)),()))))
 (hE:∀(i:Nat) (xs:List α),xs.length=l.length->i<=l.length->B ((i:Int),((l.length:Nat):Int),xs,())=some (.inr ((i:Int),xs,())))
 {i0:Nat}(h0:i0<l.length)(hq:q l[i0]=true)(hlt:∀k (hk:k<i0),q (l[k]'(by omega))=false):
 ∃(i:Nat) (xs:List α),Au B ((i0:Int),((i0+1:Nat):Int),l,())=some ((i:Int),xs,())/\i<=xs.length/\xs.length=l.length/\xs.take i=l.filter fun x=>!q x:=by
 have key:∀m (i j:Nat) (xs:List α),l.length-j=m->i<j->j<=l.length->xs.length=l.length->xs.take i=(l.take j).filter (fun x=>!q x)->xs.drop j=l.drop j->
  ∃(i':Nat) (xs':List α),Au B ((i:Int),(j:Int),xs,())=some ((i':Int),xs',())/\i'<=xs'.length/\xs'.length=l.length/\xs'.take i'=l.filter fun x=>!q x:=by
  intro m
  induction m with
  |zero=>
   intro i j xs hm hij hj hl h1 h2
   obtain rfl:j=l.length:=by omega
   refine⟨i,xs,?_,by omega,hl,by rw[h1,List.take_length]⟩
   rw[AF,hE i xs hl (by omega)];rfl
  |succ m ih=>
   intro i j xs hm hij hj hl h1 h2
   have hjl:j<l.length:=by omega
   have e:xs[j]'(by omega)=l[j]:=by
    have h3:(xs.drop j)[0]? =(l.drop j)[0]?:=by rw[h2]
    rw[List.getElem?_drop,List.getElem?_drop,Nat.add_zero,zQx (by omega),zQx hjl]at h3
    exact Option.some.inj h3
   have hs:=hB i j xs hij hjl hl
   have hf:(l.take (j+1)).filter (fun x=>!q x)=(l.take j).filter (fun x=>!q x)++(if q l[j]=true then[]else[l[j]]):=by
    rw[List.take_succ_eq_append_getElem hjl,List.filter_append]
    congr 1
    cases hqq:q l[j]<;>simp[hqq]
   have hd:xs.drop (j+1)=l.drop (j+1):=by have h3:=congrArg (List.drop 1) h2;simpa[List.drop_drop,Nat.add_comm]using h3
   cases hqj:q l[j]with
   |true=>
    rw[e,hqj,if_pos rfl]at hs
    obtain⟨i',xs',g1,g2⟩:=ih i (j+1) xs (by omega) (by omega) (by omega) hl (by rw[hf,hqj,if_pos rfl,List.append_nil];exact h1) hd
    refine⟨i',xs',?_,g2⟩
    rw[AF,hs];exact g1
   |false=>
    rw[e,hqj,if_neg (by decide)]at hs
    obtain⟨i',xs',g1,g2⟩:=ih (i+1) (j+1) (xs.set i l[j]) (by omega) (by omega) (by omega) (by simpa using hl) (by
     rw[hf,hqj,if_neg (by decide),<-h1]
     rw[List.take_succ_eq_append_getElem (by simp;omega),List.getElem_set_self,List.take_set_of_le (by omega)]) (by rw[List.drop_set_of_lt (by omega)];exact hd)
    refine⟨i',xs',?_,g2⟩
    rw[AF,hs];exact g1
 refine key _ i0 (i0+1) l rfl (by omega) (by omega) rfl ?_ rfl
 rw[List.take_succ_eq_append_getElem h0,List.filter_append]
 have h5:[l[i0]].filter (fun x=>!q x)=[]:=by simp[hq]
 rw[h5,List.append_nil]
 symm
 rw[List.filter_eq_self]
 intro x hx
 obtain⟨k,hk,rfl⟩:=zJz hx
 rw[List.length_take]at hk
 rw[List.getElem_take]
 simp[hlt k (by omega)]
theorem WG {α:Type}{z:α}{i:Nat}{xs:List α}(hi:i<=xs.length){τ:Type}(f:List α->Option τ):
 (if(0:Int)<=((i:Nat):Int)/\((i:Nat):Int)<=((xs.length:Nat):Int)/\((xs.length:Nat):Int)<=((xs.length:Nat):Int)then
   (if(0:Int)<=0/\(0:Int)<=((i:Nat):Int)/\((i:Nat):Int)<=(((List.take (0+Int.toNat ((i:Nat):Int)) xs++zKq (Int.toNat ((xs.length:Nat):Int)-Int.toNat ((i:Nat):Int)) z++List.drop (0+Int.toNat ((i:Nat):Int)+(Int.toNat ((xs.length:Nat):Int)-Int.toNat ((i:Nat):Int))) xs).length:Nat):Int)then
     f (List.take (Int.toNat ((i:Nat):Int)-Int.toNat 0) (List.take (0+Int.toNat ((i:Nat):Int)) xs++zKq (Int.toNat ((xs.length:Nat):Int)-Int.toNat ((i:Nat):Int)) z++List.drop (0+Int.toNat ((i:Nat):Int)+(Int.toNat ((xs.length:Nat):Int)-Int.toNat ((i:Nat):Int))) xs))else none)else none)=f (xs.take i):=by
 have e:(List.take i xs++zKq (xs.length-i) z++List.drop (i+(xs.length-i)) xs).take i=xs.take i:=by
  rw[List.append_assoc,List.take_append_of_le_length (by simp;omega),List.take_take,Nat.min_self]
 rw[if_pos (by omega),if_pos (by simp;omega)]
 simp only[Int.toNat_natCast,Nat.zero_add,Int.toNat_zero,Nat.sub_zero,e]
theorem JG {α:Type}{l:List α}{k:Nat}(hk:k<l.length)(a:α):(l.set k a)[k]? =some a:=by rw[List.getElem?_set,if_pos rfl,if_pos hk]
theorem KO {α:Type}(l:List α)(k:Nat)(a b:α):(l.set k a).set k b=l.set k b:=by simp
end Go.Ab
end
section
namespace Go.Ab
def Im {α:Type}(q:α->Bool):List α->Bool|[]=>false|x::_=>q x
theorem an (o:Option Nat):decide (fx o>=0)=o.isSome:=by
 cases o with
 |none=>rfl
 |some i=>simp[fx]
theorem A81 (o:Option Nat):decide (fx o<0)=o.isNone:=by
 cases o with
 |none=>rfl
 |some i=>exact decide_eq_false (by simp[fx])
theorem Wz {α:Type}(p:α->Bool)(l out:List α):l.foldl (fun s x=>bif p x then s++[x]else s) out=out++l.filter p:=by
 induction l generalizing out with
 |nil=>simp
 |cons a l ih=>
  rw[List.foldl_cons,ih,List.filter_cons]
  cases p a<;>simp
theorem OI {α:Type}{l:List α}{p:α->Bool}(hn:l.length<=1048576){B:Int×List α×Unit->Option ((Int×List α×Unit) ⊕ (List α×Unit))}
 (hB:∀i (h:i<l.length) out,out.length<=i->B ((i:Int),out,())=some (.inl (((i+1:Nat):Int),bif p l[i]then out++[l[i]]else out,())))(hend:∀out,B ((l.length:Int),out,())=some (.inr (out,()))):
 Au B (0,[],())=some (l.filter p,()):=by
 have:=Gi (B:=B) (l:=l) (st:=fun s i=>((i:Int),s,())) (f:=fun s x=>bif p x then s++[x]else s) (J:=fun i s=>s.length<=i) (s0:=[]) (by simp)
  (fun i h s hs=>⟨hB i h s hs,by cases p l[i]<;>simp<;>omega⟩) (r:=fun s=>(s,())) (fun s _=>hend s) (t0:=(0,[],())) rfl
 rw[this,Wz];rfl
theorem cY {l:List VM}(hl:l.length<=1048576)(id:Int):K4 (l,id,())=some (wkW l id,()):=by
 unfold K4
 rw[OI (p:=fun m:VM=>!(m.1==id)) hl]
 ·rfl
 ·intro i hi out ho
  have h1:out.length+1<=2199023255552:=by omega
  simp only[Ge,Ai hi,zQk,Ah hi (by omega:l.length<9223372036854775808),zJk,zXk,List.length_nil,h1,if_true,decide_eq_true (by omega:(i:Int)<(l.length:Int)),cond_true,bne]
  cases l[i].1==id<;>rfl
 ·intro out
  simp[Ge]
theorem Px {l:List VM}(hl:l.length<=1048576)(id:Int):Fe (l,id,())=some (X9 l id,()):=by
 unfold Fe
 rw[OI (p:=fun m:VM=>!(m.2.1==id)) hl]
 ·rfl
 ·intro i hi out ho
  have h1:out.length+1<=2199023255552:=by omega
  simp only[DC,Ai hi,zQk,Ah hi (by omega:l.length<9223372036854775808),zJk,zXk,List.length_nil,h1,if_true,decide_eq_true (by omega:(i:Int)<(l.length:Int)),cond_true,bne]
  cases l[i].2.1==id<;>rfl
 ·intro out
  simp[DC]
theorem Rh {l:List VM}(hl:l.length<=1048576)(id:Int):Gr (l,id,())=some (aD l id,()):=by
 unfold Gr
 rw[OI (p:=fun m:VM=>!(m.1==id)&&!(m.2.1==id)) hl]
 ·rfl
 ·intro i hi out ho
  have h1:out.length+1<=2199023255552:=by omega
  simp only[Ew,Ai hi,zQk,Ah hi (by omega:l.length<9223372036854775808),zJk,zXk,List.length_nil,h1,if_true,decide_eq_true (by omega:(i:Int)<(l.length:Int)),cond_true,bne]
  cases l[i].1==id<;>cases l[i].2.1==id<;>rfl
 ·intro out
  simp[Ew]
theorem JT {e:EG}{k:Nat}(hk:k<e.2.1.length)(hl:e.2.2.1.length<=1048576)(hw:e.2.2.2.1.length<=1048576)(ce:Bool)(ha:e.2.1[k].2.2.1=1):
 Bv ((k:Int),ce,e.2.2.2.2,e.1,e.2.1,e.2.2.1,e.2.2.2.1,())=some (ce,e.2.2.2.2,e.1,e.2.1.set k (Gw e.2.1[k] 3),e.2.2.1,e.2.2.2.1,X9 e.2.2.1 e.2.1[k].1,aD e.2.2.2.1 e.2.1[k].1,()):=by
 have h1:(0:Int)<=(k:Int)/\(k:Int)<(e.2.1.length:Int):=by omega
 simp only[Bv,h1,and_self,if_true,Nat.zero_add,Int.toNat_natCast,zQx hk,zQk,ha,beq_self_eq_true,cond_true,Px hl,Rh hw,Nat.zero_add,Int.toNat_natCast,Gw]
theorem dh {e:EG}{k:Nat}(hk:k<e.2.1.length)(hl:e.2.2.1.length<=1048576)(hw:e.2.2.2.1.length<=1048576)(ce:Bool)(ha:e.2.1[k].2.2.1≠1):
 Bv ((k:Int),ce,e.2.2.2.2,e.1,e.2.1,e.2.2.1,e.2.2.2.1,())=some (ce,e.2.2.2.2,e.1,e.2.1,e.2.2.1,e.2.2.2.1,X9 e.2.2.1 e.2.1[k].1,aD e.2.2.2.1 e.2.1[k].1,()):=by
 have h1:(0:Int)<=(k:Int)/\(k:Int)<(e.2.1.length:Int):=by omega
 have h2:(e.2.1[k].2.2.1==1)=false:=by simpa using ha
 simp only[Bv,h1,and_self,if_true,Nat.zero_add,Int.toNat_natCast,zQx hk,zQk,h2,cond_false,Px hl,Rh hw]
end Go.Ab
end
