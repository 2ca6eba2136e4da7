import Derived.Test.YtchkllapojehpaaGreatSp2
set_option linter.all false
section
namespace Go.Ab
abbrev VM:=Int×Int×Unit
abbrev VV:=Int×Int×Int×Int×Int×Unit
def mkL {α:Type}(f:Int->α)(c:Int)(k:Int):Nat->List α
 |0=>[]
 |n+1=>f k::mkL f c (k+c) n
theorem AK {α:Type}(f:Int->α)(c k:Int)(n:Nat):(mkL f c k n).length=n:=by
 induction n generalizing k with
 |zero=>rfl
 |succ n ih=>simp[mkL,ih]
theorem Ow {α:Type}(f:Int->α)(c k:Int)(n i:Nat)(h:i<n):(mkL f c k n)[i]?=some (f (k+c*i)):=by
 induction n generalizing k i with
 |zero=>omega
 |succ n ih=>
  cases i with
  |zero=>simp[mkL]
  |succ i=>
   simp only[mkL,List.getElem?_cons_succ]
   rw[ih (k+c) i (by omega)]
   congr 2
   push_cast
   rw[Int.mul_add,Int.mul_one];omega
theorem g8 {α:Type}(f:Int->α)(c k:Int)(n:Nat):mkL f c k (n+1)=mkL f c k n++[f (k+c*n)]:=by
 induction n generalizing k with
 |zero=>simp[mkL]
 |succ n ih=>
  rw[mkL,ih (k+c),mkL]
  simp only[List.cons_append]
  congr 4
  push_cast
  rw[Int.mul_add,Int.mul_one];omega
def mkd {α:Type}(f:Int->α)(c k:Int)(row:List α)(j:Nat):List α:=mkL f c k j++row.drop j
theorem KT {α:Type}(f:Int->α)(c k:Int)(row:List α):mkd f c k row 0=row:=by simp[mkd,mkL]
theorem Iy {α:Type}(f:Int->α)(c k:Int)(row:List α)(j:Nat)(h:j<=row.length):(mkd f c k row j).length=row.length:=by
 simp[mkd,AK];omega
theorem MV {α:Type}(f:Int->α)(c k:Int)(row:List α):mkd f c k row row.length=mkL f c k row.length:=by simp[mkd]
theorem MU {α:Type}(f:Int->α)(c k:Int)(row:List α)(j:Nat)(h:j<row.length):(mkd f c k row j)[j]?=some row[j]:=by
 unfold mkd
 rw[List.getElem?_append_right (by rw[AK];omega)]
 simp[AK,h]
theorem MT {α:Type}(f:Int->α)(c k:Int)(row:List α)(j:Nat)(h:j<row.length):(mkd f c k row j).set j (f (k+c*j))=mkd f c k row (j+1):=by
 unfold mkd
 rw[g8,List.set_append_right _ _ (by rw[AK];omega),AK,Nat.sub_self]
 rw[show row.drop j=row[j]::row.drop (j+1)from List.drop_eq_getElem_cons h,List.set_cons_zero]
 simp
theorem wr1 {k:Int}(h0:0<=k)(h:k<9223372036854775807):IntKind.wrap IntKind.i64 (k+1)=k+1:=CI (by omega) (by omega)
theorem GE {σ ρ:Type}{B:σ->Option (σ ⊕ ρ)}{s0:σ}{r:ρ}(n:Nat)(st:Nat->σ)(h0:s0=st 0)(hstep:∀i,i<n->B (st i)=some (.inl (st (i+1))))(hend:B (st n)=some (.inr r)):AC B s0=some r:=by
 subst h0;exact pw st hstep hend
theorem D5 {σ ρ τ:Type}{B:σ->Option (σ ⊕ ρ)}{s0:σ}{k:ρ->Option τ}{q:Option τ}(n:Nat)(st:Nat->σ)(h0:s0=st 0)(hstep:∀i,i<n->B (st i)=some (.inl (st (i+1))))(hend:∃r,B (st n)=some (.inr r)/\k r=q):(AC B s0).bind k=q:=by
 obtain⟨r,h1,h2⟩:=hend
 rw[GE n st h0 hstep h1];exact h2
def Fs:Int->List (List VV)->Int
 |k,[]=>k
 |k,r::rs=>Fs (k+5*r.length) rs
theorem PU (k:Int)(xss:List (List VV)):k<=Fs k xss:=by
 induction xss generalizing k with
 |nil=>exact Int.le_refl k
 |cons r rs ih=>have:=ih (k+5*r.length);simp only[Fs];omega
end Go.Ab
end
section
namespace Go.Ab
theorem Cj {ρ τ:Type}{B:Int×Unit->Option ((Int×Unit) ⊕ ρ)}{k:ρ->Option τ}{n:Nat}{c:Nat->Prop}{X no:Option τ}
 (hB:∀i,i<n->(c i->B ((i:Int),())=some (.inl (((i+1:Nat):Int),())))/\(¬c i->∃r,B ((i:Int),())=some (.inr r)/\k r=no))
 (hend:∃r,B ((n:Int),())=some (.inr r)/\k r=X):
 (AC B (0,())).bind k=bif dec (∀i,i<n->c i)then X else no:=by
 have key:∀m i:Nat,i+m=n->(AC B ((i:Int),())).bind k=bif dec (∀j,i<=j->j<n->c j)then X else no:=by
  intro m
  induction m with
  |zero=>
   intro i hi
   obtain rfl:i=n:=by omega
   obtain⟨r,h1,h2⟩:=hend
   rw[AZ,h1,AH (fun j h1 h2=>by omega)];exact h2
  |succ m ih=>
   intro i hi
   by_cases hc:c i
   ·rw[AZ,(hB i (by omega)).1 hc]
    simp only[Option.bind_some]
    rw[ih (i+1) (by omega)]
    congr 1
    apply Jk
    constructor
    ·intro h j h1 h2
     by_cases e:j=i
     ·rw[e];exact hc
     ·exact h j (by omega) h2
    ·intro h j h1 h2;exact h j (by omega) h2
   ·obtain⟨r,h1,h2⟩:=(hB i (by omega)).2 hc
    rw[AZ,h1,BM (fun h=>hc (h i (Nat.le_refl _) (by omega)))];exact h2
 have:=key n 0 (by omega)
 simp only[Int.natCast_zero,Nat.zero_le,true_implies]at this
 exact this
theorem G9 {σ α ρ τ:Type}{l:List α}{f:σ->α->σ}{B:σ×Int×Unit->Option ((σ×Int×Unit) ⊕ ρ)}{k:ρ->Option τ}{X:σ->Option τ}{q:Option τ}(n0:σ)(hB:∀(i:Nat) (h:i<l.length) (n:σ),B (n,(i:Int),())=some (.inl (f n l[i],((i+1:Nat):Int),())))
 (hend:∀n,∃r,B (n,(l.length:Int),())=some (.inr r)/\k r=X n)(hq:X (l.foldl f n0)=q):(AC B (n0,0,())).bind k=q:=by
 have key:∀m i:Nat,i+m=l.length->∀n,(AC B (n,(i:Int),())).bind k=X ((l.drop i).foldl f n):=by
  intro m
  induction m with
  |zero=>
   intro i hi n
   obtain rfl:i=l.length:=by omega
   obtain⟨r,h1,h2⟩:=hend n
   rw[AZ,h1];simpa using h2
  |succ m ih=>
   intro i hi n
   have h:i<l.length:=by omega
   rw[AZ,hB i h,List.drop_eq_getElem_cons h]
   simp only[Option.bind_some]
   rw[ih (i+1) (by omega)];rfl
 have:=key l.length 0 (by omega) n0
 simpa[hq]using this
def Hg (a:List VV):Prop:=a.length<=1048576
def DK (a:List (List VV)):Prop:=a.length<=1048576/\∀e∈a,Hg e
theorem Dq (x lo hi:Int):Ak (x,lo,hi,())=some (inB x lo hi,()):=by
 unfold Ak inB
 by_cases h:lo<=x<;>simp[h]
theorem Ix (x lo hi:Int):BL (x,lo,hi,())=some (inB x lo hi,()):=by
 unfold BL inB
 by_cases h:lo<=x<;>simp[h]
theorem Ou (x:Int):Dl (x,())=some (inB x 0 5,()):=by simp[Dl,Ix]
theorem Nk (x:Int):BC (x,())=some (inB x 1 9,()):=by simp[BC,Ix]
theorem R8 (x:Int):Gc (x,())=some (inB x (-1) 99,()):=by simp[Gc,Ix]
def okV (v:VV):Bool:=inB v.2.1 (-1) 99&&inB v.2.2.1 0 999&&inB v.2.2.2.1 v.2.2.1 999&&inB v.2.2.2.2.1 1 1000&&(bif v.2.2.1==0 then(bif v.1==0 then v.2.1==-1 else false)else inB v.1 1 9)
theorem Yw (v:VV):Da (v,())=some (okV v,()):=by
 unfold Da okV
 simp only[Dq,Option.bind_some]
 cases inB v.2.1 (-1) 99<;>cases inB v.2.2.1 0 999<;>cases inB v.2.2.2.1 v.2.2.1 999<;>cases inB v.2.2.2.2.1 1 1000<;>cases(v.2.2.1==0:Bool)<;>cases(v.1==0:Bool)<;>simp
theorem Xb {v:VV}(h:okV v=true):v.2.2.1<=v.2.2.2.1:=by
 unfold okV at h
 simp only[Bool.and_eq_true]at h
 have:=h.1.1.2
 unfold inB at this
 simp only[Bool.and_eq_true,decide_eq_true_eq]at this
 exact this.1
def okP (v w:VV):Prop:=v.2.2.1<w.2.2.1/\v.2.2.2.2.1<=w.2.2.1
def Za (l:List VV)(i:Nat):Prop:=∃h:i<l.length,okV l[i]=true/\∀h2:i+1<l.length,okP l[i] l[i+1]
def pr (l:List VV)(i:Nat):Prop:=∃h:i<l.length,okV l[i]=true/\∀h2:0<i,okP (l[i-1]'(by omega)) l[i]
theorem ZQ (l:List VV):(∀i,i<l.length->Za l i)↔∀i,i<l.length->pr l i:=by
 constructor
 ·intro H i h
  obtain⟨_,h1,_⟩:=H i h
  refine⟨h,h1,fun h2=>?_⟩
  obtain⟨_,_,h4⟩:=H (i-1) (by omega)
  have:=h4 (by omega)
  simpa[show i-1+1=i by omega]using this
 ·intro H i h
  obtain⟨_,h1,_⟩:=H i h
  refine⟨h,h1,fun h2=>?_⟩
  obtain⟨_,_,h4⟩:=H (i+1) h2
  exact h4 (by omega)
def VL (l:List VV):Option (Bool×Unit):=bif decide (((l.length:Nat):Int)>0)then(lAt l (IntKind.i64.wrap (((l.length:Nat):Int)-1))).bind fun e=>some ((e.2.2.2.2.1==1000),())else some (false,())
theorem fJ {l:List VV}(hl:Hg l):Ck (l,())=bif dec (∀i,i<l.length->Za l i)then VL l else some (false,()):=by
 unfold Hg at hl
 unfold Ck
 refine Cj (n:=l.length) (c:=Za l) (fun i hi=>?_) ⟨.inr (.inr (.inr ())),?_,rfl⟩
 ·unfold CD
  simp only[Al hi,Option.bind_some,Yw]
  rw[decide_eq_true (by omega)]
  simp only[cond_true,Option.bind_some]
  cases hv:okV l[i]with
  |false=>
   refine⟨fun⟨_,h,_⟩=>?_,fun _=>⟨.inl (),rfl,rfl⟩⟩
   rw[hv]at h;cases h
  |true=>
   simp only[Bool.not_true,cond_false]
   rw[An hi (by omega)]
   by_cases h2:i+1<l.length
   ·rw[decide_eq_true (by omega),Al h2]
    simp only[cond_true,Option.bind_some]
    by_cases p1:l[i].2.2.1>=l[i+1].2.2.1
    ·rw[decide_eq_true p1]
     refine⟨fun⟨_,_,h⟩=>?_,fun _=>⟨.inr (.inl ()),rfl,rfl⟩⟩
     exact(Int.not_lt.2 p1 (h h2).1).elim
    ·rw[decide_eq_false p1]
     simp only[cond_false]
     by_cases p2:l[i].2.2.2.2.1>l[i+1].2.2.1
     ·rw[decide_eq_true p2]
      refine⟨fun⟨_,_,h⟩=>?_,fun _=>⟨.inr (.inr (.inl ())),rfl,rfl⟩⟩
      exact(Int.not_le.2 p2 (h h2).2).elim
     ·rw[decide_eq_false p2]
      refine⟨fun _=>rfl,fun h=>absurd ⟨hi,hv,fun _=>⟨Int.not_le.1 p1,Int.not_lt.1 p2⟩⟩ h⟩
   ·rw[decide_eq_false (by omega)]
    refine⟨fun _=>rfl,fun h=>absurd ⟨hi,hv,fun h3=>absurd h3 h2⟩ h⟩
 ·unfold CD
  simp only
  rw[decide_eq_false (by omega)];rfl
def LJ (l:List VV):Prop:=(∀i,i<l.length->Za l i)/\∃h:0<l.length,(l[l.length-1]'(by omega)).2.2.2.2.1=1000
theorem il {l:List VV}(hl:Hg l):(bif dec (∀i,i<l.length->Za l i)then VL l else some (false,()))=some (dec (LJ l),()):=by
 unfold Hg at hl
 by_cases h:∀i,i<l.length->Za l i
 ·rw[AH h]
  unfold VL
  simp only[cond_true]
  by_cases h0:0<l.length
  ·have hlt:l.length-1<l.length:=by omega
   rw[decide_eq_true (by omega),show IntKind.i64.wrap (((l.length:Nat):Int)-1)=((l.length-1:Nat):Int)from by rw[CI (by omega) (by omega)];omega,Al hlt]
   simp only[cond_true,Option.bind_some,c7]
   rw[gE]
   congr 2
   apply Jk
   exact⟨fun e=>⟨h,h0,e⟩,fun⟨_,_,e⟩=>e⟩
  ·rw[decide_eq_false (show ¬((l.length:Nat):Int)>0 by omega),BM (fun⟨_,h1,_⟩=>h0 h1)];rfl
 ·rw[BM h,BM (fun h1=>h h1.1)];rfl
theorem SQ {l:List VV}(hl:Hg l):Ck (l,())=some (dec (LJ l),()):=(fJ hl).trans (il hl)
def Nh (s:List (List VV)):Prop:=s.length=6/\∀c∈s,LJ c/\c.length<=50
theorem Lj {s:List (List VV)}(hs:DK s):Bk ((s,()),())=some (dec (Nh s),()):=by
 have hn:=hs.1
 have e:Bk ((s,()),())=bif dec (∀i,i<s.length->(∃h:i<s.length,LJ s[i]/\s[i].length<=50))then some ((((s.length:Nat):Int)==6),())else some (false,()):=by
  unfold Bk
  refine Cj (n:=s.length) (fun i hi=>?_) ⟨.inr (.inr (.inr (.inr ()))),?_,rfl⟩
  ·unfold CC
   have hsm:=hs.2 _ (List.getElem_mem hi)
   simp only[Al hi,Option.bind_some,SQ hsm]
   rw[decide_eq_true (by omega)]
   simp only[cond_true]
   by_cases hc:LJ s[i]
   ·have h0:0<s[i].length:=hc.2.1
    rw[AH hc,An hi (by omega),show lAt s[i] 0=some s[i][0]from Al h0]
    simp only[Bool.not_true,cond_false,Option.bind_some]
    by_cases hl:s[i].length<=50
    ·refine⟨fun _=>?_,fun h=>absurd ⟨hi,hc,hl⟩ h⟩
     rw[decide_eq_false (show ¬((s[i].length:Nat):Int)>50 by omega)]
     cases decide ((s[i][0]).2.2.1>0)<;>rfl
    ·refine⟨fun⟨_,_,h⟩=>absurd h hl,fun _=>?_⟩
     rw[decide_eq_true (show((s[i].length:Nat):Int)>50 by omega)]
     cases decide ((s[i][0]).2.2.1>0)
     ·exact⟨.inr (.inr (.inr (.inl ()))),rfl,rfl⟩
     ·exact⟨.inr (.inl ()),rfl,rfl⟩
   ·rw[BM hc]
    exact⟨fun⟨_,h,_⟩=>absurd h hc,fun _=>⟨.inl (),rfl,rfl⟩⟩
  ·unfold CC
   simp only
   rw[decide_eq_false (by omega)];rfl
 rw[e]
 by_cases h:∀i,i<s.length->(∃h:i<s.length,LJ s[i]/\s[i].length<=50)
 ·rw[AH h,c7,gE]
  simp only[cond_true]
  congr 2
  apply Jk
  constructor
  ·intro e
   refine⟨by omega,fun c hc=>?_⟩
   obtain⟨i,hi,rfl⟩:=List.getElem_of_mem hc
   exact(h i hi).2
  ·rintro⟨e,_⟩;omega
 ·rw[BM h,BM (fun h1:Nh s=>h fun i hi=>⟨hi,h1.2 _ (List.getElem_mem hi)⟩)];rfl
theorem Rc {α ρ:Type}{l:List α}{p:α->Prop}(hn:l.length<=1048576){B:Int×Unit->Option ((Int×Unit) ⊕ ((Int×Unit) ⊕ Unit))}
 (hB:∀i (h:i<l.length),B ((i:Int),())=some (bif dec (p l[i])then .inr (.inl ((i:Int),()))else .inl (((i+1:Nat):Int),())))(hend:B ((l.length:Int),())=some (.inr (.inr ()))):
 ∃n:Int,((AC B (0,())).bind fun q=>Az q (fun q=>some (q.1,())) fun _=>some (-1,()))=some (n,())/\((∃i:Nat,∃h:i<l.length,n=(i:Int)/\p l[i]/\∀j (hj:j<i),¬p (l[j]'(by omega)))\/(n=-1/\∀x∈l,¬p x)):=by
 have key:∀m i:Nat,i+m=l.length->(∀j (hj:j<l.length),j<i->¬p l[j])->∃n:Int,((AC B ((i:Int),())).bind fun q=>Az q (fun q=>some (q.1,())) fun _=>some (-1,()))=some (n,())/\((∃i:Nat,∃h:i<l.length,n=(i:Int)/\p l[i]/\∀j (hj:j<i),¬p (l[j]'(by omega)))\/(n=-1/\∀x∈l,¬p x)):=by
  intro m
  induction m with
  |zero=>
   intro i hi hno
   obtain rfl:i=l.length:=by omega
   rw[AZ,hend]
   refine⟨-1,rfl,.inr ⟨rfl,fun x hx=>?_⟩⟩
   obtain⟨j,hj,rfl⟩:=List.getElem_of_mem hx
   exact hno j hj hj
  |succ m ih=>
   intro i hi hno
   have hlt:i<l.length:=by omega
   rw[AZ,hB i hlt]
   by_cases hp:p l[i]
   ·rw[AH hp]
    exact⟨(i:Int),rfl,.inl ⟨i,hlt,rfl,hp,fun j hj=>hno j (by omega) hj⟩⟩
   ·rw[BM hp]
    refine ih (i+1) (by omega) fun j hj h=>?_
    by_cases e:j=i
    ·subst e;exact hp
    ·exact hno j hj (by omega)
 exact key l.length 0 (by omega) (fun j hj h=>by omega)
end Go.Ab
end
section
namespace Go.Ab
def IW (n:Int)(l:List VV):Int:=l.foldl (fun n v=>mx n v.2.2.2.1) n
theorem Sn {α σ:Type}{f g:σ->α->σ}:(l:List α)->(∀x∈l,∀n,f n x=g n x)->∀n,l.foldl f n=l.foldl g n
 |[],_,_=>rfl
 |x::l,h,n=>by
  simp only[List.foldl_cons]
  rw[h x (by simp)]
  exact Sn l (fun y hy=>h y (by simp[hy])) _
theorem Aas {n a b:Int}(h:a<=b):mx (mx n a) b=mx n b:=by
 unfold mx;repeat' split
 all_goals omega
theorem QC {s:List (List VV)}(hs:DK s)(hok:Nh s):Fy ((s,()),())=some (s.foldl IW 0,()):=by
 have hn:=hs.1
 unfold Fy
 refine G9 (l:=s) (f:=IW) (X:=fun n=>some (n,())) 0 (fun i h n=>?_) (fun n=>⟨.inr (n,()),?_,rfl⟩) rfl
 ·unfold Dv
  have hsm:s[i].length<=1048576:=hs.2 _ (List.getElem_mem h)
  simp only[Lj hs,AH hok,Option.bind_some]
  rw[decide_eq_true (by omega),An h (by omega)]
  simp only[cond_true]
  have hc:=(hok.2 _ (List.getElem_mem h)).1
  refine G9 (l:=s[i]) (f:=fun n v=>mx (mx n v.2.2.1) v.2.2.2.1) (X:=fun n=>some (.inl (n,((i+1:Nat):Int),()))) n (fun j hj n=>?_) (fun n=>⟨(n,()),?_,rfl⟩) ?_
  ·unfold Du
   simp only[Al h,Al hj,Option.bind_some]
   rw[decide_eq_true (by omega),An hj (by omega)];rfl
  ·unfold Du
   simp only[Al h,Option.bind_some]
   rw[decide_eq_false (by omega)];rfl
  ·rw[Sn (g:=fun n (v:VV)=>mx n v.2.2.2.1) s[i] (fun v hv n=>?_) n]
   ·rfl
   ·obtain⟨k,hk,rfl⟩:=List.getElem_of_mem hv
    obtain⟨_,h1,_⟩:=hc.1 k hk
    exact Aas (Xb h1)
 ·unfold Dv
  simp only
  rw[decide_eq_false (by omega)];rfl
noncomputable def vA (l:List VV)(stamp:Int):Nat->Int
 |0=>-1
 |k+1=>bif dec (∃h:k<l.length,l[k].2.2.1<=stamp)then(k:Int)else vA l stamp k
theorem Ql (l:List VV)(stamp:Int):∀k,-1<=vA l stamp k/\vA l stamp k<k
 |0=>by simp[vA]
 |k+1=>by
  have:=Ql l stamp k
  unfold vA
  cases dec (∃h:k<l.length,l[k].2.2.1<=stamp)<;>simp<;>omega
theorem fK {l:List VV}(hl:Hg l)(hok:LJ l)(stamp:Int):GL (l,stamp,())=some (vA l stamp l.length,()):=by
 have hl':l.length<=1048576:=hl
 unfold GL
 refine D5 l.length (fun i=>(vA l stamp i,(i:Int),())) rfl (fun i hi=>?_) ⟨.inr (vA l stamp l.length,()),?_,rfl⟩
 ·unfold Dt
  simp only[SQ hl,AH hok,Al hi,Option.bind_some]
  rw[decide_eq_true (by omega),An hi (by omega)]
  simp only[cond_true]
  by_cases h:l[i].2.2.1<=stamp
  ·rw[decide_eq_true h]
   simp only[cond_true,vA]
   rw[AH ⟨hi,h⟩];rfl
  ·rw[decide_eq_false h]
   simp only[cond_false,vA]
   rw[BM fun⟨_,h2⟩=>h h2];rfl
 ·unfold Dt
  simp only
  rw[decide_eq_false (by omega)];rfl
theorem fS {l:List VV}(hl:Hg l)(stamp:Int):GR (l,stamp,())=some (vA l stamp l.length,()):=by
 have hl':l.length<=1048576:=hl
 unfold GR
 have key:∀k:Nat,k<=l.length->((AC (fun v=>Cr (l,stamp,()) v _ some) ((k:Int)-1,())).bind fun p=>Az p (fun p=>some (p.1,())) fun p=>some (p.1,()))=some (vA l stamp k,()):=by
  intro k
  induction k with
  |zero=>
   intro _
   rw[AZ];unfold Cr
   rfl
  |succ k ih=>
   intro hk
   have hlt:k<l.length:=by omega
   rw[AZ]
   have hB:Cr (l,stamp,()) (((k+1:Nat):Int)-1,()) _ some=some (bif decide (l[k].2.2.1<=stamp)then .inr (.inl ((k:Int),()))else .inl ((k:Int)-1,())):=by
    unfold Cr
    simp only[show((k+1:Nat):Int)-1=(k:Int) by omega,Al hlt,Option.bind_some]
    rw[decide_eq_true (show(k:Int)>=0 by omega),CI (by omega) (by omega)]
    by_cases h:l[k].2.2.1<=stamp
    ·rw[decide_eq_false (show ¬l[k].2.2.1>stamp from Int.not_lt.2 h),decide_eq_true h];rfl
    ·rw[decide_eq_true (show l[k].2.2.1>stamp from Int.not_le.1 h),decide_eq_false h];rfl
   rw[hB]
   by_cases h:l[k].2.2.1<=stamp
   ·rw[decide_eq_true h]
    simp only[cond_true,Option.bind_some,vA]
    rw[AH ⟨hlt,h⟩];rfl
   ·rw[decide_eq_false h]
    simp only[cond_false,Option.bind_some,vA]
    rw[BM fun⟨_,h2⟩=>h h2];exact ih (by omega)
 simp only
 rw[CI (by omega) (by omega)]
 exact key l.length (Nat.le_refl _)
end Go.Ab
end
section
namespace Go.Ab
theorem Mb {α:Type}{a:List α}{z:α}(ha:a.length<=1048576){B:Int×List α×Unit->Option ((Int×List α×Unit) ⊕ (List α×Unit))}
 (hB:∀(i:Nat) (h:i<a.length) (out:List α),out.length=a.length->B ((i:Int),out,())=some (.inl (((i+1:Nat):Int),out.set i a[i],())))(hend:∀out,B ((a.length:Int),out,())=some (.inr (out,()))):
 ((AC B (0,List.replicate a.length z,())).bind fun p=>some (p.1,()))=some (a,()):=by
 rw[GE (r:=(a,())) a.length (fun i=>((i:Int),a.take i++List.replicate (a.length-i) z,()))]
 ·rfl
 ·simp
 ·intro i hi
  rw[hB i hi _ (by simp;omega)]
  congr 3
  congr 1
  apply List.ext_getElem
  ·simp;omega
  ·intro j h1 h2
   simp at h1 h2
   rw[List.getElem_set]
   by_cases he:i=j
   ·subst he
    simp only[if_true]
    rw[List.getElem_append_left (by simp;omega)]
    simp
   ·rw[if_neg he]
    by_cases hlt:j<i
    ·rw[List.getElem_append_left (by simp;omega),List.getElem_append_left (by simp;omega)];simp
    ·rw[List.getElem_append_right (by simp;omega),List.getElem_append_right (by simp;omega)];simp
 ·simp[hend]
theorem d4 {α:Type}{Small:α->Prop}{F:α->Int->Option (Int×Unit)}{a:List α}(ha:a.length<=maxLen)(hF:∀e∈a,∀l,0<=l->l<=1048576->Na (Small e) (F e l)){B:Int×Int×Unit->Option ((Int×Int×Unit) ⊕ ((Int×Unit) ⊕ (Int×Unit)))}
 (hB:∀l i:Int,B (l,i,())=bif decide (i<((a.length:Nat):Int))then(lAt a i).bind fun e=>(F e l).bind fun r=>bif decide (r.1<0)then some (.inr (.inl (r.1,())))else some (.inl (r.1,IntKind.i64.wrap (i+1),()))else some (.inr (.inr (l,())))){l:Int}(h0:0<=l)(h1:l<=1048576):
 Na (a.length<=1048576/\∀e∈a,Small e) (bif decide (IntKind.i64.wrap (l-((a.length:Nat):Int))<0)then some (-1,())else(AC B (IntKind.i64.wrap (l-((a.length:Nat):Int)),0,())).bind fun q=>Az q (fun _=>some (-1,())) fun b=>some (b.1,())):=by
 unfold maxLen at ha
 rw[CI (by omega) (by omega)]
 by_cases h:l-(a.length:Int)<0
 ·rw[decide_eq_true h];exact⟨_,rfl,.inl (by omega)⟩
 rw[decide_eq_false h]
 have key:∀k i:Nat,i+k=a.length->∀l:Int,0<=l->l<=1048576->∃p,AC B (l,(i:Int),())=some p/\((∃n,p=.inl n)\/∃n,p=.inr (n,())/\0<=n/\n<=1048576/\∀e∈a.drop i,Small e):=by
  intro k
  induction k with
  |zero=>
   intro i hi l h0 h1
   rw[AZ,hB,decide_eq_false (by omega)]
   exact⟨_,rfl,.inr ⟨l,rfl,h0,h1,fun e he=>by rw[List.drop_eq_nil_iff.2 (by omega)]at he;cases he⟩⟩
  |succ k ih=>
   intro i hi l h0 h1
   have hlt:i<a.length:=by omega
   rw[AZ,hB,decide_eq_true (by omega),Al hlt]
   obtain⟨n,e1,h2⟩:=hF a[i] (List.getElem_mem hlt) l h0 h1
   simp only[cond_true,Option.bind_some,e1]
   rcases h2 with h2|⟨h2,h3,h4⟩
   ·rw[decide_eq_true h2];exact⟨_,rfl,.inl ⟨(n,()),rfl⟩⟩
   ·rw[decide_eq_false (show ¬n<0 by omega),An hlt (by omega)]
    obtain⟨p,e2,h5⟩:=ih (i+1) (by omega) n h2 h3
    refine⟨p,e2,h5.imp id ?_⟩
    rintro⟨m,rfl,h6,h7,h8⟩
    refine⟨m,rfl,h6,h7,fun e he=>?_⟩
    rw[List.drop_eq_getElem_cons hlt]at he
    rcases List.mem_cons.1 he with rfl|he
    ·exact h4
    ·exact h8 e he
 obtain⟨p,e1,h2⟩:=key a.length 0 (by omega) (l-a.length) (by omega) (by omega)
 simp only[Int.natCast_zero]at e1
 have e1':AC B (l-(a.length:Int),0,())=some p:=e1
 rw[cond_false,e1']
 rcases h2 with⟨n,rfl⟩|⟨n,rfl,h3,h4,h5⟩
 ·exact⟨_,rfl,.inl (by omega)⟩
 ·exact⟨_,rfl,.inr ⟨h3,h4,by omega,by simpa using h5⟩⟩
theorem Zl {a:List (List VV)}:∀(k:Int),(∀e∈a,e.length<=1048576)->Fs k a<=k+5242880*a.length:=by
 induction a with
 |nil=>intro k _;simp[Fs]
 |cons r rs ih=>
  intro k h
  have h1:=ih (k+5*r.length) (fun e he=>h e (List.mem_cons_of_mem _ he))
  have h2:=h r (List.mem_cons_self ..)
  simp only[Fs,List.length_cons]
  push_cast
  omega
def Ws (a:List (List VV)):Prop:=a.length<9223372036854775000/\Fs 1 a<9223372036854775000
theorem DK.small {a:List (List VV)}(h:DK a):Ws a:=by
 have h1:=Zl 1 h.2
 have h2:=h.1
 exact⟨by omega,by omega⟩
theorem gD {a:List (List VV)}{r:List VV}(h:r∈a)(k:Int):k+5*r.length<=Fs k a:=by
 induction a generalizing k with
 |nil=>cases h
 |cons s rs ih=>
  simp only[Fs]
  rcases List.mem_cons.1 h with rfl|h
  ·exact PU _ _
  ·have:=ih h (k+5*s.length);omega
theorem Ws.row {a:List (List VV)}(h:Ws a):∀r∈a,r.length<9223372036854775000:=fun r hr=>by
 have:=gD hr 1;have:=h.2;omega
end Go.Ab
end
section
namespace Go.Ab
end Go.Ab
end
section
namespace Go.Ab
def C1 (a b:VM):Prop:=a.1<b.1\/(a.1=b.1/\a.2.1<b.2.1)
instance (a b:VM):Decidable (C1 a b):=by unfold C1;infer_instance
theorem UU (a b:VM):G3 ((a.1,a.2.1,()),(b.1,b.2.1,()),())=some (decide (C1 a b),()):=by
 unfold G3 C1
 by_cases h1:a.1<b.1
 ·simp[h1]
 ·by_cases h2:a.1=b.1
  ·simp[h2]
  ·have h3:(a.1==b.1)=false:=by simpa using h2
   simp[h1,h2,h3]
theorem fU (a b:Int):BO (a,b,())=some (if a<b then-1 else if a>b then 1 else 0,()):=by
 unfold BO Hr
 by_cases h1:a<b
 ·simp[h1]
 ·by_cases h2:a>b<;>simp[h1,h2]
theorem Aam (a b:Int):Jy ([a,b],())=some (if a≠0 then a else b,()):=by
 unfold Jy
 have l0:lAt [a,b] 0=some a:=rfl
 have l1:lAt [a,b] 1=some b:=rfl
 have w0:IntKind.i64.wrap ((0:Int)+1)=1:=wr1 (by omega) (by omega)
 have w1:IntKind.i64.wrap ((1:Int)+1)=2:=wr1 (by omega) (by omega)
 have B0:CO (0,[a,b],2,()) (0,()) ((Int×Unit) ⊕ ((Int×Unit) ⊕ Unit)) some=some (bif a != 0 then .inr (.inl (a,()))else .inl (1,())):=by
  unfold CO
  simp only[l0,Option.bind_some,w0]
  cases(a != 0:Bool)<;>rfl
 have B1:CO (0,[a,b],2,()) (1,()) ((Int×Unit) ⊕ ((Int×Unit) ⊕ Unit)) some=some (bif b != 0 then .inr (.inl (b,()))else .inl (2,())):=by
  unfold CO
  simp only[l1,Option.bind_some,w1]
  cases(b != 0:Bool)<;>rfl
 have B2:CO (0,[a,b],2,()) (2,()) ((Int×Unit) ⊕ ((Int×Unit) ⊕ Unit)) some=some (.inr (.inr ())):=by
  unfold CO
  rfl
 have e:(((List.length [a,b]:Nat):Int))=2:=rfl
 simp only[e]
 rw[AZ,B0]
 by_cases ha:a=0
 ·subst ha
  simp only[bne_self_eq_false,cond_false,Option.bind_some]
  rw[AZ,B1]
  by_cases hb:b=0
  ·subst hb
   simp only[bne_self_eq_false,cond_false,Option.bind_some]
   rw[AZ,B2];rfl
  ·have:(b != 0)=true:=by simpa using hb
   rw[this];simp[Az]
 ·have:(a != 0)=true:=by simpa using ha
  rw[this];simp[Az,ha]
theorem Mp (a b:VM):∃n:Int,BI ((a.1,a.2.1,()),(b.1,b.2.1,()),())=some (n,())/\(n>=0↔¬C1 a b):=by
 unfold BI
 simp only[fU,Aam,Option.bind_some]
 refine⟨_,rfl,?_⟩
 unfold C1
 by_cases h1:a.1<b.1
 ·simp[h1]
 ·by_cases h2:a.1>b.1
  ·simp[h1,h2];omega
  ·have h3:a.1=b.1:=by omega
   simp[h3]
   by_cases h4:a.2.1<b.2.1
   ·simp[h4]
   ·by_cases h5:a.2.1>b.2.1<;>simp[h4,h5]<;>omega
def kl (l:List VM)(i:Nat):Prop:=∃h:i<l.length,inB l[i].1 0 5=true/\inB l[i].2.1 0 999=true/\∀h2:0<i,C1 (l[i-1]'(by omega)) l[i]
def ke (l:List VM)(i:Nat):Prop:=∃h:i<l.length,inB l[i].1 0 5=true/\inB l[i].2.1 (-1) 99=true/\∀h2:0<i,(l[i-1]'(by omega)).1<l[i].1
def Ny (l:List VM):Prop:=∀i,i<l.length->kl l i
def QJ (l:List VM):Prop:=∀i,i<l.length->ke l i
theorem UO {l:List VM}(hl:l.length<=1048576):D6 (l,())=some (dec (Ny l)&&decide (l.length<=60),()):=by
 have e:D6 (l,())=bif dec (Ny l)then some (decide (((l.length:Nat):Int)<=60),())else some (false,()):=by
  unfold D6
  refine Cj (n:=l.length) (c:=kl l) (fun i hi=>?_) ⟨.inr (.inr (.inr ())),?_,rfl⟩
  ·unfold Ef
   simp only[Al hi,Option.bind_some,Ou,Ix]
   rw[decide_eq_true (by omega)]
   simp only[cond_true]
   cases h1:inB l[i].1 0 5 with
   |false=>exact⟨fun⟨_,h,_⟩=>(by rw[h1]at h;cases h),fun _=>⟨.inl _,rfl,rfl⟩⟩
   |true=>
    simp only[Bool.not_true,cond_false]
    cases h2:inB l[i].2.1 0 999 with
    |false=>exact⟨fun⟨_,_,h,_⟩=>(by rw[h2]at h;cases h),fun _=>⟨.inr (.inl _),rfl,rfl⟩⟩
    |true=>
     simp only[Bool.not_true,cond_false]
     rw[An hi (by omega)]
     by_cases h3:0<i
     ·have hlt:i-1<l.length:=by omega
      rw[decide_eq_true (show(i:Int)>0 by omega),show IntKind.i64.wrap ((i:Int)-1)=((i-1:Nat):Int)from by rw[CI (by omega) (by omega)];omega,Al hlt]
      obtain⟨n,e1,e2⟩:=Mp l[i-1] l[i]
      simp only[cond_true,Option.bind_some,e1]
      by_cases hb:C1 l[i-1] l[i]
      ·rw[decide_eq_false (fun h=>e2.1 h hb)]
       exact⟨fun _=>rfl,fun h=>absurd ⟨hi,h1,h2,fun _=>hb⟩ h⟩
      ·rw[decide_eq_true (e2.2 hb)]
       exact⟨fun⟨_,_,_,h⟩=>absurd (h h3) hb,fun _=>⟨.inr (.inr (.inl _)),rfl,rfl⟩⟩
     ·rw[decide_eq_false (show ¬(i:Int)>0 by omega)]
      exact⟨fun _=>rfl,fun h=>absurd ⟨hi,h1,h2,fun h=>absurd h h3⟩ h⟩
  ·unfold Ef
   simp only
   rw[decide_eq_false (by omega)];rfl
 rw[e]
 have d:decide (((l.length:Nat):Int)<=60)=decide (l.length<=60):=decide_eq_decide.2 (by omega)
 rw[d]
 cases dec (Ny l)<;>simp
theorem SU {l:List VM}(hl:l.length<=1048576):CG (l,())=some (dec (QJ l),()):=by
 have e:CG (l,())=bif dec (QJ l)then some (true,())else some (false,()):=by
  unfold CG
  refine Cj (n:=l.length) (c:=ke l) (fun i hi=>?_) ⟨.inr (.inr (.inr ())),?_,rfl⟩
  ·unfold Dz
   simp only[Al hi,Option.bind_some,Ou,R8]
   rw[decide_eq_true (by omega)]
   simp only[cond_true]
   cases h1:inB l[i].1 0 5 with
   |false=>exact⟨fun⟨_,h,_⟩=>(by rw[h1]at h;cases h),fun _=>⟨.inl _,rfl,rfl⟩⟩
   |true=>
    simp only[Bool.not_true,cond_false]
    cases h2:inB l[i].2.1 (-1) 99 with
    |false=>exact⟨fun⟨_,_,h,_⟩=>(by rw[h2]at h;cases h),fun _=>⟨.inr (.inl _),rfl,rfl⟩⟩
    |true=>
     simp only[Bool.not_true,cond_false]
     rw[An hi (by omega)]
     by_cases h3:0<i
     ·have hlt:i-1<l.length:=by omega
      rw[decide_eq_true (show(i:Int)>0 by omega),show IntKind.i64.wrap ((i:Int)-1)=((i-1:Nat):Int)from by rw[CI (by omega) (by omega)];omega,Al hlt]
      simp only[cond_true,Option.bind_some]
      by_cases hb:l[i-1].1<l[i].1
      ·rw[decide_eq_false (by omega)]
       exact⟨fun _=>rfl,fun h=>absurd ⟨hi,h1,h2,fun _=>hb⟩ h⟩
      ·rw[decide_eq_true (by omega)]
       exact⟨fun⟨_,_,_,h⟩=>absurd (h h3) hb,fun _=>⟨.inr (.inr (.inl _)),rfl,rfl⟩⟩
     ·rw[decide_eq_false (show ¬(i:Int)>0 by omega)]
      exact⟨fun _=>rfl,fun h=>absurd ⟨hi,h1,h2,fun h=>absurd h h3⟩ h⟩
  ·unfold Dz
   simp only
   rw[decide_eq_false (by omega)];rfl
 rw[e]
 cases dec (QJ l)<;>rfl
noncomputable def okT (id sc st be lo hi co:Int)(rd wr:List VM):Bool:=
 dec (Ny rd)&&dec (QJ wr)&&inB id 1 9&&inB sc 1 4&&inB be 0 999&&inB st 1 3&&inB lo 0 999&&inB hi 1 1000&&((st==2)==decide (co>0))&&inB co 0 999&&decide (rd.length<=60)
theorem Q7 {id sc st be lo hi co:Int}{rd wr:List VM}(hr:rd.length<=1048576)(hw:wr.length<=1048576):AJ ((id,sc,st,be,lo,hi,co,rd,wr,()),())=some (okT id sc st be lo hi co rd wr,()):=by
 unfold AJ
 simp only
 refine(Cj (n:=rd.length) (c:=kl rd) (no:=some (false,())) (X:=bif dec (QJ wr)then some (inB id 1 9&&inB sc 1 4&&inB be 0 999&&inB st 1 3&&inB lo 0 999&&inB hi 1 1000&&((st==2)==decide (co>0))&&inB co 0 999&&decide (rd.length<=60),())else some (false,())) (fun i hi'=>?_) ⟨.inr (.inr (.inr ())),?_,?_⟩).trans ?_
 ·unfold BK
  simp only[Al hi',Option.bind_some,Dq]
  rw[decide_eq_true (by omega)]
  simp only[cond_true]
  cases h1:inB rd[i].1 0 5 with
  |false=>exact⟨fun⟨_,h,_⟩=>(by rw[h1]at h;cases h),fun _=>⟨.inl _,rfl,rfl⟩⟩
  |true=>
   simp only[Bool.not_true,cond_false]
   cases h2:inB rd[i].2.1 0 999 with
   |false=>exact⟨fun⟨_,_,h,_⟩=>(by rw[h2]at h;cases h),fun _=>⟨.inr (.inl _),rfl,rfl⟩⟩
   |true=>
    simp only[Bool.not_true,cond_false]
    rw[An hi' (by omega)]
    by_cases h3:0<i
    ·have hlt:i-1<rd.length:=by omega
     rw[decide_eq_true (show(i:Int)>0 by omega),show IntKind.i64.wrap ((i:Int)-1)=((i-1:Nat):Int)from by rw[CI (by omega) (by omega)];omega,Al hlt]
     simp only[cond_true,Option.bind_some,UU]
     by_cases hb:C1 rd[i-1] rd[i]
     ·rw[decide_eq_true hb]
      exact⟨fun _=>rfl,fun h=>absurd ⟨hi',h1,h2,fun _=>hb⟩ h⟩
     ·rw[decide_eq_false hb]
      exact⟨fun⟨_,_,_,h⟩=>absurd (h h3) hb,fun _=>⟨.inr (.inr (.inl _)),rfl,rfl⟩⟩
    ·rw[decide_eq_false (show ¬(i:Int)>0 by omega)]
     exact⟨fun _=>rfl,fun h=>absurd ⟨hi',h1,h2,fun h=>absurd h h3⟩ h⟩
 ·unfold BK
  simp only
  rw[decide_eq_false (by omega)];rfl
 ·refine Cj (n:=wr.length) (c:=ke wr) (fun i hi'=>?_) ⟨.inr (.inr (.inr ())),?_,?_⟩
  ·unfold BJ
   simp only[Al hi',Option.bind_some,Dq]
   rw[decide_eq_true (by omega)]
   simp only[cond_true]
   cases h1:inB wr[i].1 0 5 with
   |false=>exact⟨fun⟨_,h,_⟩=>(by rw[h1]at h;cases h),fun _=>⟨.inl _,rfl,rfl⟩⟩
   |true=>
    simp only[Bool.not_true,cond_false]
    cases h2:inB wr[i].2.1 (-1) 99 with
    |false=>exact⟨fun⟨_,_,h,_⟩=>(by rw[h2]at h;cases h),fun _=>⟨.inr (.inl _),rfl,rfl⟩⟩
    |true=>
     simp only[Bool.not_true,cond_false]
     rw[An hi' (by omega)]
     by_cases h3:0<i
     ·have hlt:i-1<wr.length:=by omega
      rw[decide_eq_true (show(i:Int)>0 by omega),show IntKind.i64.wrap ((i:Int)-1)=((i-1:Nat):Int)from by rw[CI (by omega) (by omega)];omega,Al hlt]
      simp only[cond_true,Option.bind_some]
      by_cases hb:wr[i-1].1<wr[i].1
      ·rw[decide_eq_false (by omega)]
       exact⟨fun _=>rfl,fun h=>absurd ⟨hi',h1,h2,fun _=>hb⟩ h⟩
      ·rw[decide_eq_true (by omega)]
       exact⟨fun⟨_,_,_,h⟩=>absurd (h h3) hb,fun _=>⟨.inr (.inr (.inl _)),rfl,rfl⟩⟩
     ·rw[decide_eq_false (show ¬(i:Int)>0 by omega)]
      exact⟨fun _=>rfl,fun h=>absurd ⟨hi',h1,h2,fun h=>absurd h h3⟩ h⟩
  ·unfold BJ
   simp only
   rw[decide_eq_false (by omega)];rfl
  ·simp only[Az,Dq,Option.bind_some]
   have d:decide (((rd.length:Nat):Int)<=60)=decide (rd.length<=60):=decide_eq_decide.2 (by omega)
   rw[d]
   cases inB id 1 9<;>cases inB sc 1 4<;>cases inB be 0 999<;>cases inB st 1 3<;>cases inB lo 0 999<;>cases inB hi 1 1000<;>cases((st==2)==decide (co>0):Bool)<;>cases inB co 0 999<;>rfl
 ·unfold okT
  show(bif dec (Ny rd)then _ else _)=_
  cases dec (Ny rd)<;>cases dec (QJ wr)<;>simp
end Go.Ab
end
section
namespace Go.Ab
theorem Rd {α:Type}{a:List α}(ha:a.length<=1048576){B:Int×List α×Unit->Option ((Int×List α×Unit) ⊕ (List α×Unit))}
 (hB:∀(i:Nat) (h:i<a.length) (out:List α),out.length=i->B ((i:Int),out,())=some (.inl (((i+1:Nat):Int),out++[a[i]],())))(hend:∀out,B ((a.length:Int),out,())=some (.inr (out,()))):
 ((AC B (0,[],())).bind fun p=>some (p.1,()))=some (a,()):=by
 rw[GE (r:=(a,())) a.length (fun i=>((i:Int),a.take i,()))]
 ·rfl
 ·simp
 ·intro i hi
  rw[hB i hi _ (by simp;omega)]
  have e:a.take i++[a[i]]=a.take (i+1):=by rw[List.take_append_getElem hi]
  rw[e]
 ·simp[hend]
theorem QG {s:List (List VV)}(hs:DK s):Hi ((s,()),())=some (s,()):=by
 have hn:=hs.1
 unfold Hi
 refine Rd hn (fun i h out ho=>?_) fun out=>?_
 ·have hsm:s[i].length<=1048576:=hs.2 _ (List.getElem_mem h)
  unfold Fu Kh
  simp only[Al h,Option.bind_some]
  rw[decide_eq_true (by omega),if_pos (by omega)]
  simp only[cond_true,Option.bind_some,List.length_append,List.length_cons,List.length_nil]
  rw[if_pos (by omega),An h (by omega)]
 ·unfold Fu
  simp only
  rw[decide_eq_false (by omega)];rfl
theorem fu {id sc st be lo hi co:Int}{rd wr:List VM}(hr:rd.length<=1048576)(hw:wr.length<=1048576):E5 ((id,sc,st,be,lo,hi,co,rd,wr,()),())=some (id,sc,st,be,lo,hi,co,rd,wr,()):=by
 unfold E5
 simp only
 rw[if_pos (by omega),if_pos (by omega)]
def fvI (l:List VV)(c:Int):Option Nat:=(l.map (fun v=>v.2.2.1)).findIdx? (fun x=>x==c)
def fx:Option Nat->Int|some i=>(i:Int)|none=>-1
theorem gF (b:Bool):dec (b=true)=b:=by
 cases b
 ·exact BM (by simp)
 ·exact AH rfl
theorem DD {α:Type}{l:List α}{p:α->Bool}(hn:l.length<=1048576){B:Int×Unit->Option ((Int×Unit) ⊕ ((Int×Unit) ⊕ Unit))}
 (hB:∀i (h:i<l.length),B ((i:Int),())=some (bif p l[i]then .inr (.inl ((i:Int),()))else .inl (((i+1:Nat):Int),())))(hend:B ((l.length:Int),())=some (.inr (.inr ()))):
 ((AC B (0,())).bind fun q=>Az q (fun q=>some (q.1,())) fun _=>some (-1,()))=some (fx (l.findIdx? p),()):=by
 obtain⟨n,e,h⟩:=Rc (ρ:=Unit) (l:=l) (p:=fun x=>p x=true) hn (B:=B) (fun i h=>by rw[hB i h,gF]) hend
 rw[e]
 rcases h with⟨i,hi,rfl,hp,hq⟩|⟨rfl,hq⟩
 ·have:l.findIdx? p=some i:=List.findIdx?_eq_some_iff_getElem.2 ⟨hi,hp,fun j hj=>by simpa using hq j hj⟩
  rw[this];rfl
 ·have:l.findIdx? p=none:=List.findIdx?_eq_none_iff.2 fun x hx=>by simpa using hq x hx
  rw[this];rfl
theorem QE {l:List VV}(hl:l.length<=1048576)(c:Int):Dh (l,c,())=some (fx (fvI l c),()):=by
 unfold Dh fvI
 rw[List.findIdx?_map]
 refine DD hl (fun i h=>?_) ?_
 ·unfold D1
  simp only[Al h,Option.bind_some]
  rw[decide_eq_true (by omega),An h (by omega)]
  simp only[cond_true,Function.comp]
  cases(l[i].2.2.1==c:Bool)<;>rfl
 ·unfold D1
  simp only
  rw[decide_eq_false (by omega)];rfl
theorem SV {l:List VV}(hl:l.length<=1048576)(c:Int):Er (l,c,())=some (fx (fvI l c),()):=by
 unfold Er Cb fvI
 rw[List.findIdx?_map]
 have:=DD hl (p:=(fun x=>x==c)∘fun v:VV=>v.2.2.1) (B:=fun v=>AF (l,(some c,()),((l.length:Nat):Int),()) v _ some) (fun i h=>by
  unfold AF GC
  simp only[Al h,Option.bind_some]
  rw[decide_eq_true (by omega),An h (by omega)]
  simp only[cond_true,Function.comp]
  cases(l[i].2.2.1==c:Bool)<;>rfl) (by
  unfold AF
  simp only
  rw[decide_eq_false (by omega)];rfl)
 simp only[this,Option.bind_some]
theorem Q2 {l:List VV}{c:Int}{j:Nat}(h:fvI l c=some j):j<l.length:=by
 unfold fvI at h
 obtain⟨h1,_⟩:=List.findIdx?_eq_some_iff_getElem.1 h
 simpa using h1
theorem bZ (o:Option Nat):decide (fx o<0)=o.isNone:=by
 cases o with
 |none=>rfl
 |some i=>exact decide_eq_false (by simp only[fx];omega)
def I8 (s:List (List VV))(m:VM):Option (List VV):=s[m.1.toNat]?
def Gt (s:List (List VV))(m:VM):Prop:=∃l j,I8 s m=some l/\fvI l m.2.1=some j
theorem Jz {s:List (List VV)}{m:VM}(h6:s.length=6)(hm:inB m.1 0 5=true):∃k:Nat,m.1=(k:Int)/\k<s.length/\∃l,s[k]?=some l/\lAt s m.1=some l/\I8 s m=some l/\l∈s:=by
 unfold inB at hm
 simp only[Bool.and_eq_true,decide_eq_true_eq]at hm
 obtain⟨k,hk⟩:=Int.eq_ofNat_of_zero_le hm.1
 have hlt:k<s.length:=by omega
 refine⟨k,hk,hlt,s[k],by simp[hlt],by rw[hk];exact Al hlt,?_,List.getElem_mem hlt⟩
 unfold I8
 rw[hk];simp[hlt]
theorem QF {s:List (List VV)}(hs:DK s)(hok:Nh s){id sc st be lo hi co:Int}{rd wr:List VM}(hr:rd.length<=1048576)(hw:wr.length<=1048576)(hT:okT id sc st be lo hi co rd wr=true)(hrd:Ny rd):
 CR ((s,()),(id,sc,st,be,lo,hi,co,rd,wr,()),())=some (dec (∀m∈rd,Gt s m),()):=by
 unfold CR
 simp only[Lj hs,AH hok,Q7 hr hw,hT,Option.bind_some,Bool.not_true,cond_false]
 refine(Cj (n:=rd.length) (c:=fun i=>∃h:i<rd.length,Gt s rd[i]) (X:=some (true,())) (no:=some (false,())) (fun i hi'=>?_) ⟨.inr (),?_,rfl⟩).trans ?_
 ·obtain⟨_,h1,_⟩:=hrd i hi'
  obtain⟨k,hk,hlt,l,e1,e2,e3,hm⟩:=Jz hok.1 h1
  unfold Dg
  simp only[Al hi',Option.bind_some,e2,QE (hs.2 _ hm),bZ]
  rw[decide_eq_true (by omega),An hi' (by omega)]
  simp only[cond_true]
  cases hf:fvI l rd[i].2.1 with
  |none=>
   refine⟨fun⟨_,l',j,h2,h3⟩=>?_,fun _=>⟨.inl (),rfl,rfl⟩⟩
   rw[e3]at h2;obtain rfl:l=l':=by simpa using h2
   rw[hf]at h3;cases h3
  |some j=>exact⟨fun _=>rfl,fun h=>absurd ⟨hi',l,j,e3,hf⟩ h⟩
 ·unfold Dg
  simp only
  rw[decide_eq_false (by omega)];rfl
 ·rw[Jk (q:=∀m∈rd,Gt s m)]
  ·cases dec (∀m∈rd,Gt s m)<;>rfl
  ·constructor
   ·intro h m hm
    obtain⟨i,hi',rfl⟩:=List.getElem_of_mem hm
    exact(h i hi').2
   ·intro h i hi';exact⟨hi',h _ (List.getElem_mem hi')⟩
end Go.Ab
end
section
namespace Go.Ab
theorem Lw {σ α:Type}{l:List α}{f:σ->α->σ}{Inv:σ->Nat->Prop}{n0:σ}{B:Int×σ×Unit->Option ((Int×σ×Unit) ⊕ (σ×Unit))}
 (hB:∀(i:Nat) (h:i<l.length) (n:σ),Inv n i->B ((i:Int),n,())=some (.inl (((i+1:Nat):Int),f n l[i],())))(hI:∀(i:Nat) (h:i<l.length) n,Inv n i->Inv (f n l[i]) (i+1))(h0:Inv n0 0)
 (hend:∀n,B ((l.length:Int),n,())=some (.inr (n,()))):AC B (0,n0,())=some (l.foldl f n0,())/\Inv (l.foldl f n0) l.length:=by
 have key:∀m i:Nat,i+m=l.length->∀n,Inv n i->AC B ((i:Int),n,())=some ((l.drop i).foldl f n,())/\Inv ((l.drop i).foldl f n) l.length:=by
  intro m
  induction m with
  |zero=>
   intro i hi n hn
   obtain rfl:i=l.length:=by omega
   rw[AZ,hend];simpa using hn
  |succ m ih=>
   intro i hi n hn
   have h:i<l.length:=by omega
   rw[AZ,hB i h n hn,List.drop_eq_getElem_cons h]
   simp only[Option.bind_some]
   exact ih (i+1) (by omega) _ (hI i h n hn)
 simpa using key l.length 0 (by omega) n0 h0
def Rk (st:Int)(v:VV):VV:=(v.1,v.2.1,v.2.2.1,mx v.2.2.2.1 st,v.2.2.2.2.1,())
def LO (st:Int)(s:List (List VV))(m:VM):List (List VV):=match I8 s m with
 |some l=>match fvI l m.2.1 with
  |some j=>match l[j]? with
   |some v=>s.set m.1.toNat (l.set j (Rk st v))
   |none=>s
  |none=>s
 |none=>s
def d6 (hi:Int)(v:VV):VV:=(v.1,v.2.1,v.2.2.1,v.2.2.2.1,hi,())
def Oi (st id hi:Int)(s:List (List VV))(m:VM):List (List VV):=match I8 s m with
 |some l=>match l[l.length-1]? with
  |some v=>s.set m.1.toNat (l.set (l.length-1) (d6 hi v)++[(id,m.2.1,st,st,1000,())])
  |none=>s
 |none=>s
def stOK (s:List (List VV))(n:Nat):Prop:=s.length=6/\∀l∈s,0<l.length/\l.length<=50+n
theorem stOK.set {s:List (List VV)}{n k:Nat}{l:List VV}(h:stOK s n){n':Nat}(hn:n<=n')(h0:0<l.length)(h1:l.length<=50+n'):stOK (s.set k l) n':=by
 refine⟨by simpa using h.1,fun x hx=>?_⟩
 rcases List.mem_or_eq_of_mem_set hx with h2|rfl
 ·have:=h.2 x h2;omega
 ·exact⟨h0,h1⟩
theorem stOK.small {s:List (List VV)}{n:Nat}(h:stOK s n)(hn:n<=1000):DK s:=
 ⟨by have:=h.1;omega,fun l hl=>by have:=h.2 l hl;unfold Hg;omega⟩
theorem qd {l:List VV}{j:Nat}{v:VV}(c:Int)(h:l[j]?=some v)(st:Int):fvI (l.set j (Rk st v)) c=fvI l c:=by
 have e:(l.set j (Rk st v)).map (fun v=>v.2.2.1)=l.map (fun v=>v.2.2.1):=by
  rw[List.map_set]
  obtain⟨hlt,h2⟩:=List.getElem?_eq_some_iff.1 h
  apply List.ext_getElem
  ·simp
  ·intro i h3 h4
   rw[List.getElem_set]
   split
   ·rename_i e;subst e;simp[h2,Rk]
   ·rfl
 unfold fvI
 rw[e]
theorem Pl {s:List (List VV)}{m x:VM}(st:Int)(hx:Gt s x):Gt (LO st s m) x:=by
 unfold LO
 split
 ·rename_i l hl
  split
  ·rename_i j hj
   split
   ·rename_i v hv
    obtain⟨l',j',h1,h2⟩:=hx
    unfold Gt I8 at*
    by_cases e:m.1.toNat=x.1.toNat
    ·rw[<-e,hl]at h1
     obtain rfl:l=l':=by simpa using h1
     refine⟨l.set j (Rk st v),j',?_,by rw[qd _ hv];exact h2⟩
     rw[<-e]
     have:=(List.getElem?_eq_some_iff.1 hl).1
     simp[this]
    ·exact⟨l',j',by rw[List.getElem?_set_ne e];exact h1,h2⟩
   ·exact hx
  ·exact hx
 ·exact hx
theorem RV {s:List (List VV)}{n:Nat}{m:VM}(st:Int)(h:stOK s n):stOK (LO st s m) n:=by
 unfold LO
 split
 ·rename_i l hl
  have hm:=h.2 l (List.mem_of_getElem? hl)
  split
  ·split
   ·exact h.set (Nat.le_refl _) (by simpa using hm.1) (by simpa using hm.2)
   ·exact h
  ·exact h
 ·exact h
theorem RU {s:List (List VV)}{n:Nat}{m:VM}(st id hi:Int)(h:stOK s n):stOK (Oi st id hi s m) (n+1):=by
 unfold Oi
 split
 ·rename_i l hl
  have hm:=h.2 l (List.mem_of_getElem? hl)
  split
  ·exact h.set (Nat.le_succ _) (by simp) (by simp;omega)
  ·exact⟨h.1,fun x hx=>by have:=h.2 x hx;omega⟩
 ·exact⟨h.1,fun x hx=>by have:=h.2 x hx;omega⟩
theorem Nh.stOK {s:List (List VV)}(h:Nh s):stOK s 0:=⟨h.1,fun l hl=>⟨(h.2 l hl).1.2.1,by have:=(h.2 l hl).2;omega⟩⟩
end Go.Ab
end
section
namespace Go.Ab
end Go.Ab
end
section
namespace Go.Ab
end Go.Ab
end
section
namespace Go.Ab
def pu (l:List VM)(i:Nat):Prop:=∃h:i<l.length,inB l[i].1 0 5=true/\inB l[i].2.1 1 9=true/\∀h2:0<i,(l[i-1]'(by omega)).1<l[i].1
def Qh (l:List VM):Prop:=∀i,i<l.length->pu l i
def ka (l:List VM)(i:Nat):Prop:=∃h:i<l.length,inB l[i].1 1 9=true/\inB l[i].2.1 1 9=true/\l[i].1≠l[i].2.1/\∀h2:0<i,(l[i-1]'(by omega)).1<l[i].1
def Md (l:List VM):Prop:=∀i,i<l.length->ka l i
theorem Ob {l:List VM}(hl:l.length<=1048576):Eu (l,())=some (dec (Qh l),()):=by
 have e:Eu (l,())=bif dec (Qh l)then some (true,())else some (false,()):=by
  unfold Eu
  refine Cj (n:=l.length) (c:=pu l) (fun i hi=>?_) ⟨.inr (.inr (.inr ())),?_,rfl⟩
  ·unfold Eh
   simp only[Al hi,Option.bind_some,Ou,Nk]
   rw[decide_eq_true (by omega)]
   simp only[cond_true]
   cases h1:inB l[i].1 0 5 with
   |false=>exact⟨fun⟨_,h,_⟩=>(by rw[h1]at h;cases h),fun _=>⟨_,rfl,rfl⟩⟩
   |true=>
    simp only[Bool.not_true,cond_false]
    cases h2:inB l[i].2.1 1 9 with
    |false=>exact⟨fun⟨_,_,h,_⟩=>(by rw[h2]at h;cases h),fun _=>⟨_,rfl,rfl⟩⟩
    |true=>
    simp only[Bool.not_true,cond_false]
    rw[An hi (by omega)]
    by_cases h3:0<i
    ·have hlt:i-1<l.length:=by omega
     rw[decide_eq_true (show(i:Int)>0 by omega),show IntKind.i64.wrap ((i:Int)-1)=((i-1:Nat):Int)from by rw[CI (by omega) (by omega)];omega,Al hlt]
     simp only[cond_true,Option.bind_some]
     by_cases hb:l[i-1].1<l[i].1
     ·rw[decide_eq_false (by omega)]
      exact⟨fun _=>rfl,fun h=>absurd ⟨hi,h1,h2,fun _=>hb⟩ h⟩
     ·rw[decide_eq_true (by omega)]
      exact⟨fun⟨_,_,_,h⟩=>absurd (h h3) hb,fun _=>⟨_,rfl,rfl⟩⟩
    ·rw[decide_eq_false (show ¬(i:Int)>0 by omega)]
     exact⟨fun _=>rfl,fun h=>absurd ⟨hi,h1,h2,fun h=>absurd h h3⟩ h⟩
  ·unfold Eh
   simp only
   rw[decide_eq_false (by omega)];rfl
 rw[e]
 cases dec (Qh l)<;>rfl
theorem Jd {l:List VM}(hl:l.length<=1048576):DF (l,())=some (dec (Qh l),()):=by
 have e:DF (l,())=bif dec (Qh l)then some (true,())else some (false,()):=by
  unfold DF
  refine Cj (n:=l.length) (c:=pu l) (fun i hi=>?_) ⟨.inr (.inr (.inr ())),?_,rfl⟩
  ·unfold Ed
   simp only[Al hi,Option.bind_some,Dq]
   rw[decide_eq_true (by omega)]
   simp only[cond_true]
   cases h1:inB l[i].1 0 5 with
   |false=>exact⟨fun⟨_,h,_⟩=>(by rw[h1]at h;cases h),fun _=>⟨_,rfl,rfl⟩⟩
   |true=>
    simp only[Bool.not_true,cond_false]
    cases h2:inB l[i].2.1 1 9 with
    |false=>exact⟨fun⟨_,_,h,_⟩=>(by rw[h2]at h;cases h),fun _=>⟨_,rfl,rfl⟩⟩
    |true=>
    simp only[Bool.not_true,cond_false]
    rw[An hi (by omega)]
    by_cases h3:0<i
    ·have hlt:i-1<l.length:=by omega
     rw[decide_eq_true (show(i:Int)>0 by omega),show IntKind.i64.wrap ((i:Int)-1)=((i-1:Nat):Int)from by rw[CI (by omega) (by omega)];omega,Al hlt]
     simp only[cond_true,Option.bind_some]
     by_cases hb:l[i-1].1<l[i].1
     ·rw[decide_eq_false (by omega)]
      exact⟨fun _=>rfl,fun h=>absurd ⟨hi,h1,h2,fun _=>hb⟩ h⟩
     ·rw[decide_eq_true (by omega)]
      exact⟨fun⟨_,_,_,h⟩=>absurd (h h3) hb,fun _=>⟨_,rfl,rfl⟩⟩
    ·rw[decide_eq_false (show ¬(i:Int)>0 by omega)]
     exact⟨fun _=>rfl,fun h=>absurd ⟨hi,h1,h2,fun h=>absurd h h3⟩ h⟩
  ·unfold Ed
   simp only
   rw[decide_eq_false (by omega)];rfl
 rw[e]
 cases dec (Qh l)<;>rfl
theorem Im {l:List VM}(hl:l.length<=1048576):Dn (l,())=some (dec (Md l),()):=by
 have e:Dn (l,())=bif dec (Md l)then some (true,())else some (false,()):=by
  unfold Dn
  refine Cj (n:=l.length) (c:=ka l) (fun i hi=>?_) ⟨.inr (.inr (.inr (.inr ()))),?_,rfl⟩
  ·unfold Eg
   simp only[Al hi,Option.bind_some,Nk]
   rw[decide_eq_true (by omega)]
   simp only[cond_true]
   cases h1:inB l[i].1 1 9 with
   |false=>exact⟨fun⟨_,h,_⟩=>(by rw[h1]at h;cases h),fun _=>⟨_,rfl,rfl⟩⟩
   |true=>
    simp only[Bool.not_true,cond_false]
    cases h2:inB l[i].2.1 1 9 with
    |false=>exact⟨fun⟨_,_,h,_⟩=>(by rw[h2]at h;cases h),fun _=>⟨_,rfl,rfl⟩⟩
    |true=>
    simp only[Bool.not_true,cond_false]
    by_cases hq:l[i].1=l[i].2.1
    ·rw[show(l[i].1==l[i].2.1)=true from by simpa using hq]
     exact⟨fun⟨_,_,_,h,_⟩=>absurd hq h,fun _=>⟨_,rfl,rfl⟩⟩
    rw[show(l[i].1==l[i].2.1)=false from by simpa using hq]
    simp only[cond_false]
    rw[An hi (by omega)]
    by_cases h3:0<i
    ·have hlt:i-1<l.length:=by omega
     rw[decide_eq_true (show(i:Int)>0 by omega),show IntKind.i64.wrap ((i:Int)-1)=((i-1:Nat):Int)from by rw[CI (by omega) (by omega)];omega,Al hlt]
     simp only[cond_true,Option.bind_some]
     by_cases hb:l[i-1].1<l[i].1
     ·rw[decide_eq_false (by omega)]
      exact⟨fun _=>rfl,fun h=>absurd ⟨hi,h1,h2,hq,fun _=>hb⟩ h⟩
     ·rw[decide_eq_true (by omega)]
      exact⟨fun⟨_,_,_,_,h⟩=>absurd (h h3) hb,fun _=>⟨_,rfl,rfl⟩⟩
    ·rw[decide_eq_false (show ¬(i:Int)>0 by omega)]
     exact⟨fun _=>rfl,fun h=>absurd ⟨hi,h1,h2,hq,fun h=>absurd h h3⟩ h⟩
  ·unfold Eg
   simp only
   rw[decide_eq_false (by omega)];rfl
 rw[e]
 cases dec (Md l)<;>rfl
theorem Jc {l:List VM}(hl:l.length<=1048576):DE (l,())=some (dec (Md l),()):=by
 have e:DE (l,())=bif dec (Md l)then some (true,())else some (false,()):=by
  unfold DE
  refine Cj (n:=l.length) (c:=ka l) (fun i hi=>?_) ⟨.inr (.inr (.inr (.inr ()))),?_,rfl⟩
  ·unfold Eb
   simp only[Al hi,Option.bind_some,Dq]
   rw[decide_eq_true (by omega)]
   simp only[cond_true]
   cases h1:inB l[i].1 1 9 with
   |false=>exact⟨fun⟨_,h,_⟩=>(by rw[h1]at h;cases h),fun _=>⟨_,rfl,rfl⟩⟩
   |true=>
    simp only[Bool.not_true,cond_false]
    cases h2:inB l[i].2.1 1 9 with
    |false=>exact⟨fun⟨_,_,h,_⟩=>(by rw[h2]at h;cases h),fun _=>⟨_,rfl,rfl⟩⟩
    |true=>
    simp only[Bool.not_true,cond_false]
    by_cases hq:l[i].1=l[i].2.1
    ·rw[show(l[i].1==l[i].2.1)=true from by simpa using hq]
     exact⟨fun⟨_,_,_,h,_⟩=>absurd hq h,fun _=>⟨_,rfl,rfl⟩⟩
    rw[show(l[i].1==l[i].2.1)=false from by simpa using hq]
    simp only[cond_false]
    rw[An hi (by omega)]
    by_cases h3:0<i
    ·have hlt:i-1<l.length:=by omega
     rw[decide_eq_true (show(i:Int)>0 by omega),show IntKind.i64.wrap ((i:Int)-1)=((i-1:Nat):Int)from by rw[CI (by omega) (by omega)];omega,Al hlt]
     simp only[cond_true,Option.bind_some]
     by_cases hb:l[i-1].1<l[i].1
     ·rw[decide_eq_false (by omega)]
      exact⟨fun _=>rfl,fun h=>absurd ⟨hi,h1,h2,hq,fun _=>hb⟩ h⟩
     ·rw[decide_eq_true (by omega)]
      exact⟨fun⟨_,_,_,_,h⟩=>absurd (h h3) hb,fun _=>⟨_,rfl,rfl⟩⟩
    ·rw[decide_eq_false (show ¬(i:Int)>0 by omega)]
     exact⟨fun _=>rfl,fun h=>absurd ⟨hi,h1,h2,hq,fun h=>absurd h h3⟩ h⟩
  ·unfold Eb
   simp only
   rw[decide_eq_false (by omega)];rfl
 rw[e]
 cases dec (Md l)<;>rfl
abbrev TX:=Int×Int×Int×Int×Int×Int×Int×List VM×List VM×Unit
noncomputable def M2 (t:TX):Bool:=okT t.1 t.2.1 t.2.2.1 t.2.2.2.1 t.2.2.2.2.1 t.2.2.2.2.2.1 t.2.2.2.2.2.2.1 t.2.2.2.2.2.2.2.1 t.2.2.2.2.2.2.2.2.1
def smT (t:TX):Prop:=t.2.2.2.2.2.2.2.1.length<=1048576/\t.2.2.2.2.2.2.2.2.1.length<=1048576
theorem ic {id sc st be lo hi co:Int}{rd wr:List VM}(hr:rd.length<=1048576)(hw:wr.length<=1048576):CL ((id,sc,st,be,lo,hi,co,rd,wr,()),())=some (okT id sc st be lo hi co rd wr,()):=by
 unfold CL ER JT
 simp only[Nk,Ix,UO hr,SU hw,Option.bind_some]
 unfold okT
 have e1:∀n:Int,inB n 1 999=(inB n 0 999&&decide (n>0)):=fun n=>by
  unfold inB
  rw[Bool.eq_iff_iff]
  simp only[Bool.and_eq_true,decide_eq_true_eq]
  omega
 have e2:(co==0)=(inB co 0 999&&!decide (co>0)):=by
  unfold inB
  rw[Bool.eq_iff_iff]
  simp only[beq_iff_eq,Bool.and_eq_true,decide_eq_true_eq,Bool.not_eq_true',decide_eq_false_iff_not]
  omega
 simp only[e1,e2,bne]
 cases inB id 1 9<;>cases inB sc 1 4<;>cases inB be 0 999<;>cases inB st 1 3<;>cases inB lo 0 999<;>cases inB hi 1 1000<;>cases(st==2:Bool)<;>cases inB co 0 999<;>cases decide (co>0)<;>cases dec (Ny rd)<;>cases decide (rd.length<=60)<;>cases dec (QJ wr)<;>rfl
theorem bS {id sc st be lo hi co:Int}{rd wr:List VM}(h:okT id sc st be lo hi co rd wr=true):Ny rd:=by
 unfold okT at h
 simp only[Bool.and_eq_true]at h
 by_cases h2:Ny rd
 ·exact h2
 ·have:=h.1.1.1.1.1.1.1.1.1.1
  rw[BM h2]at this;cases this
def rA (s:List (List VV))(stamp:Int)(l:List TX)(i:Nat):Prop:=∃h:i<l.length,M2 l[i]=true/\(∀h2:0<i,(l[i-1]'(by omega)).1<l[i].1)/\l[i].2.2.2.1<=stamp/\l[i].2.2.2.2.2.2.1<=stamp/\(l[i].2.2.1=1->∀m∈l[i].2.2.2.2.2.2.2.1,Gt s m)
def Rq (s:List (List VV))(stamp:Int)(l:List TX):Prop:=∀i,i<l.length->rA s stamp l i
end Go.Ab
end
section
namespace Go.Ab
section
variable {s:List (List VV)}(hs:DK s)(hok:Nh s){l:List TX}(hl:l.length<=1048576)(hsm:∀t∈l,smT t)
include hs hok hl hsm
theorem ZH (ce:Bool)(lk wt:List VM)(stamp:Int){τ:Type}(X no:Option τ):((AC (fun v=>C5 (ce,s,l,lk,wt,stamp,()) v _ some) (0,())).bind fun p=>Az p (fun p=>no) fun p=>Az p (fun p=>no) fun p=>Az p (fun p=>no) fun p=>Az p (fun p=>no) fun p=>Az p (fun p=>no) fun p=>Az p (fun p=>no) fun p=>Az p (fun p=>no) fun p=>Az p (fun p=>no) fun p=>X)=bif dec (Rq s stamp l)then X else no:=by
 refine Cj (n:=l.length) (c:=rA s stamp l) (fun i hi=>?_) ⟨.inr (.inr (.inr (.inr (.inr (.inr (.inr (.inr ()))))))),?_,rfl⟩
 ·have hm:=hsm _ (List.getElem_mem hi)
  unfold C5
  simp only[Al hi,Option.bind_some,Q7 hm.1 hm.2]
  rw[decide_eq_true (by omega)]
  simp only[cond_true]
  cases h1:M2 l[i]with
  |false=>
   have h1':=h1
   unfold M2 at h1'
   rw[h1']
   exact⟨fun⟨_,h,_⟩=>(by rw[h1]at h;cases h),fun _=>⟨_,rfl,rfl⟩⟩
  |true=>
   have h1':=h1
   unfold M2 at h1'
   rw[h1']
   simp only[Bool.not_true,cond_false,QF hs hok hm.1 hm.2 h1' (bS h1'),Option.bind_some]
   rw[An hi (by omega)]
   by_cases h3:0<i
   ·have hlt:i-1<l.length:=by omega
    rw[decide_eq_true (show(i:Int)>0 by omega),show IntKind.i64.wrap ((i:Int)-1)=((i-1:Nat):Int)from by rw[CI (by omega) (by omega)];omega,Al hlt]
    simp only[cond_true,Option.bind_some]
    by_cases hb:l[i-1].1<l[i].1
    case neg=>
     rw[decide_eq_true (by omega)]
     exact⟨fun⟨_,_,h,_⟩=>absurd (h h3) hb,fun _=>⟨_,rfl,rfl⟩⟩
    rw[decide_eq_false (by omega)]
    simp only[cond_false]
    by_cases q1:l[i].2.2.2.1<=stamp
    case neg=>
     rw[decide_eq_true (by omega)]
     exact⟨fun⟨_,_,_,h,_⟩=>absurd h q1,fun _=>⟨_,rfl,rfl⟩⟩
    rw[decide_eq_false (by omega)]
    simp only[cond_false]
    by_cases q2:l[i].2.2.2.2.2.2.1<=stamp
    case neg=>
     rw[decide_eq_true (by omega)]
     exact⟨fun⟨_,_,_,_,h,_⟩=>absurd h q2,fun _=>⟨_,rfl,rfl⟩⟩
    rw[decide_eq_false (by omega)]
    simp only[cond_false]
    by_cases q3:l[i].2.2.1=1
    ·rw[show(l[i].2.2.1==1)=true from by simpa using q3]
     simp only[cond_true]
     by_cases q4:∀m∈l[i].2.2.2.2.2.2.2.1,Gt s m
     ·rw[AH q4]
      exact⟨fun _=>rfl,fun h=>absurd ⟨hi,h1,fun _=>hb,q1,q2,fun _=>q4⟩ h⟩
     ·rw[BM q4]
      exact⟨fun⟨_,_,_,_,_,h⟩=>absurd (h q3) q4,fun _=>⟨_,rfl,rfl⟩⟩
    ·rw[show(l[i].2.2.1==1)=false from by simpa using q3]
     exact⟨fun _=>rfl,fun h=>absurd ⟨hi,h1,fun _=>hb,q1,q2,fun h=>absurd h q3⟩ h⟩
   ·rw[decide_eq_false (show ¬(i:Int)>0 by omega)]
    simp only[cond_false]
    by_cases q1:l[i].2.2.2.1<=stamp
    case neg=>
     rw[decide_eq_true (by omega)]
     exact⟨fun⟨_,_,_,h,_⟩=>absurd h q1,fun _=>⟨_,rfl,rfl⟩⟩
    rw[decide_eq_false (by omega)]
    simp only[cond_false]
    by_cases q2:l[i].2.2.2.2.2.2.1<=stamp
    case neg=>
     rw[decide_eq_true (by omega)]
     exact⟨fun⟨_,_,_,_,h,_⟩=>absurd h q2,fun _=>⟨_,rfl,rfl⟩⟩
    rw[decide_eq_false (by omega)]
    simp only[cond_false]
    by_cases q3:l[i].2.2.1=1
    ·rw[show(l[i].2.2.1==1)=true from by simpa using q3]
     simp only[cond_true]
     by_cases q4:∀m∈l[i].2.2.2.2.2.2.2.1,Gt s m
     ·rw[AH q4]
      exact⟨fun _=>rfl,fun h=>absurd ⟨hi,h1,fun h=>absurd h h3,q1,q2,fun _=>q4⟩ h⟩
     ·rw[BM q4]
      exact⟨fun⟨_,_,_,_,_,h⟩=>absurd (h q3) q4,fun _=>⟨_,rfl,rfl⟩⟩
    ·rw[show(l[i].2.2.1==1)=false from by simpa using q3]
     exact⟨fun _=>rfl,fun h=>absurd ⟨hi,h1,fun h=>absurd h h3,q1,q2,fun h=>absurd h q3⟩ h⟩
 ·unfold C5
  simp only
  rw[decide_eq_false (by omega)];rfl
end
def EB (l:List TX)(id:Int):Bool:=match l.findIdx? (fun t=>t.1==id)with
 |some i=>match l[i]? with
  |some t=>t.2.2.1==1
  |none=>false
 |none=>false
theorem TE {s:List (List VV)}{l:List TX}(hl:l.length<=1048576)(ce:Bool)(lk wt:List VM)(stamp id:Int):CJ ((ce,(s,()),l,lk,wt,stamp,()),id,())=some (fx (l.findIdx? (fun t=>t.1==id)),()):=by
 unfold CJ
 refine DD hl (fun i h=>?_) ?_
 ·unfold C9
  simp only[Al h,Option.bind_some]
  rw[decide_eq_true (by omega),An h (by omega)]
  simp only[cond_true]
  cases(l[i].1==id:Bool)<;>rfl
 ·unfold C9
  simp only
  rw[decide_eq_false (by omega)];rfl
theorem UR {s:List (List VV)}{l:List TX}(hl:l.length<=1048576)(ce:Bool)(lk wt:List VM)(stamp id:Int):CX ((ce,(s,()),l,lk,wt,stamp,()),id,())=some (fx (l.findIdx? (fun t=>t.1==id)),()):=by
 unfold CX BU
 have:=DD hl (p:=fun t:TX=>t.1==id) (B:=fun v=>AD (l,(some id,()),((l.length:Nat):Int),()) v _ some) (fun i h=>by
  unfold AD Fh
  simp only[Al h,Option.bind_some]
  rw[decide_eq_true (by omega),An h (by omega)]
  simp only[cond_true]
  cases(l[i].1==id:Bool)<;>rfl) (by
  unfold AD
  simp only
  rw[decide_eq_false (by omega)];rfl)
 simp only[this,Option.bind_some]
theorem Vw (l:List TX)(id:Int):(bif decide (fx (l.findIdx? (fun t=>t.1==id))>=0)then(lAt l (fx (l.findIdx? (fun t=>t.1==id)))).bind fun v=>some (v.2.2.1==1,())else some (false,()))=some (EB l id,()):=by
 unfold EB
 cases h:l.findIdx? (fun t=>t.1==id)with
 |none=>rfl
 |some i=>
  obtain⟨hi,_⟩:=List.findIdx?_eq_some_iff_getElem.1 h
  have e1:decide (fx (some i)>=0)=true:=decide_eq_true (by simp only[fx];omega)
  have e2:lAt l (fx (some i))=some l[i]:=Al hi
  rw[e1,e2]
  simp[hi]
theorem S9 {s:List (List VV)}{l:List TX}(hl:l.length<=1048576)(ce:Bool)(lk wt:List VM)(stamp id:Int):E8 ((ce,(s,()),l,lk,wt,stamp,()),id,())=some (EB l id,()):=by
 unfold E8
 simp only[TE hl,Option.bind_some]
 exact Vw l id
theorem PX {s:List (List VV)}{l:List TX}(hl:l.length<=1048576)(ce:Bool)(lk wt:List VM)(stamp id:Int):CY ((ce,(s,()),l,lk,wt,stamp,()),id,())=some (EB l id,()):=by
 unfold CY
 simp only[UR hl,Option.bind_some]
 exact Vw l id
section
variable {s:List (List VV)}{l:List TX}(hl:l.length<=1048576)
include hl
theorem ZI (ce:Bool)(lk wt:List VM)(hk:lk.length<=1048576)(stamp:Int){τ:Type}(X no:Option τ):((AC (fun v=>BT (ce,s,l,lk,wt,stamp,()) v _ some) (0,())).bind fun p=>Az p (fun p=>no) fun p=>X)=bif dec (∀m∈lk,EB l m.2.1=true)then X else no:=by
 refine(Cj (n:=lk.length) (c:=fun i=>∃h:i<lk.length,EB l lk[i].2.1=true) (X:=X) (no:=no) (fun i hi=>?_) ⟨.inr (),?_,rfl⟩).trans ?_
 ·unfold BT
  simp only[Al hi,Option.bind_some,S9 hl]
  rw[decide_eq_true (by omega),An hi (by omega)]
  cases h:EB l lk[i].2.1 with
  |true=>exact⟨fun _=>rfl,fun hh=>absurd ⟨hi,h⟩ hh⟩
  |false=>exact⟨fun⟨_,hh⟩=>(by rw[h]at hh;cases hh),fun _=>⟨_,rfl,rfl⟩⟩
 ·unfold BT
  simp only
  rw[decide_eq_false (by omega)];rfl
 ·rw[Jk (q:=∀m∈lk,EB l m.2.1=true)]
  constructor
  ·intro h m hm
   obtain⟨i,hi',rfl⟩:=List.getElem_of_mem hm
   exact(h i hi').2
  ·intro h i hi';exact⟨hi',h _ (List.getElem_mem hi')⟩
theorem ZG (ce:Bool)(lk wt:List VM)(hk:wt.length<=1048576)(stamp:Int){τ:Type}(X no:Option τ):((AC (fun v=>BS (ce,s,l,lk,wt,stamp,()) v _ some) (0,())).bind fun p=>Az p (fun p=>no) fun p=>Az p (fun p=>no) fun p=>X)=bif dec (∀m∈wt,EB l m.1=true/\EB l m.2.1=true)then X else no:=by
 refine(Cj (n:=wt.length) (c:=fun i=>∃h:i<wt.length,EB l wt[i].1=true/\EB l wt[i].2.1=true) (X:=X) (no:=no) (fun i hi=>?_) ⟨.inr (.inr ()),?_,rfl⟩).trans ?_
 ·unfold BS
  simp only[Al hi,Option.bind_some,S9 hl]
  rw[decide_eq_true (by omega),An hi (by omega)]
  cases h:EB l wt[i].1 with
  |false=>exact⟨fun⟨_,hh,_⟩=>(by rw[h]at hh;cases hh),fun _=>⟨_,rfl,rfl⟩⟩
  |true=>
   cases h':EB l wt[i].2.1 with
   |true=>exact⟨fun _=>rfl,fun hh=>absurd ⟨hi,h,h'⟩ hh⟩
   |false=>exact⟨fun⟨_,_,hh⟩=>(by rw[h']at hh;cases hh),fun _=>⟨_,rfl,rfl⟩⟩
 ·unfold BS
  simp only
  rw[decide_eq_false (by omega)];rfl
 ·rw[Jk (q:=∀m∈wt,EB l m.1=true/\EB l m.2.1=true)]
  constructor
  ·intro h m hm
   obtain⟨i,hi',rfl⟩:=List.getElem_of_mem hm
   exact(h i hi').2
  ·intro h i hi';exact⟨hi',h _ (List.getElem_mem hi')⟩
end
noncomputable def okE (s:List (List VV))(l:List TX)(lk wt:List VM)(stamp:Int):Bool:=
 dec (Nh s)&&dec (Qh lk)&&dec (Md wt)&&inB stamp (s.foldl IW 0) 999&&dec (Rq s stamp l)&&decide (l.length<=6)&&dec (∀m∈lk,EB l m.2.1=true)&&dec (∀m∈wt,EB l m.1=true/\EB l m.2.1=true)
structure SmallE (s:List (List VV))(l:List TX)(lk wt:List VM):Prop where
 fs:DK s
 fl:l.length<=1048576
 ft:∀t∈l,smT t
 fk:lk.length<=1048576
 fw:wt.length<=1048576
theorem iI {s:List (List VV)}{l:List TX}{lk wt:List VM}(h:SmallE s l lk wt)(ce:Bool)(stamp:Int):EF ((ce,(s,()),l,lk,wt,stamp,()),())=some (okE s l lk wt stamp,()):=by
 unfold EF okE
 simp only[Lj h.fs,Jd h.fk,Jc h.fw,Dq,Option.bind_some]
 by_cases h1:Nh s
 case neg=>rw[BM h1];rfl
 rw[AH h1]
 simp only[QC h.fs h1,Dq,Option.bind_some,ZH h.fs h1 h.fl h.ft,ZI h.fl _ _ _ h.fk,ZG h.fl _ _ _ h.fw]
 have d:decide (((l.length:Nat):Int)>6)=!decide (l.length<=6):=by
  rw[Bool.eq_iff_iff]
  simp only[decide_eq_true_eq,Bool.not_eq_true',decide_eq_false_iff_not]
  omega
 rw[d]
 cases dec (Qh lk)<;>cases dec (Md wt)<;>cases inB stamp (s.foldl IW 0) 999<;>cases dec (Rq s stamp l)<;>cases decide (l.length<=6)<;>cases dec (∀m∈lk,EB l m.2.1=true)<;>cases dec (∀m∈wt,EB l m.1=true/\EB l m.2.1=true)<;>rfl
end Go.Ab
end
section
namespace Go.Ab
end Go.Ab
end
section
namespace Go.Ab
theorem T1 {l:List VM}(hl:l.length<=1048576):Cg (l,())=some (l,()):=by
 unfold Cg
 simp only
 rw[if_pos (by omega)]
 cases l with
 |nil=>exact Mc _
 |cons a l=>rfl
theorem PV {l:List VM}(hl:l.length<=1048576):BP (l,())=some (l,()):=by
 unfold BP
 simp only
 rw[if_pos (by omega)]
 cases l with
 |nil=>exact Mc _
 |cons a l=>rfl
theorem SZ {l:List VM}(hl:l.length<=1048576):Ch (l,())=some (l,()):=by
 unfold Ch
 simp only
 rw[if_pos (by omega)]
 cases l with
 |nil=>exact Mc _
 |cons a l=>rfl
theorem Wm {l:List VM}(hl:l.length<=1048576):CK (l,())=some (l,()):=by
 unfold CK
 simp only
 rw[if_pos (by omega)]
 cases l with
 |nil=>exact Mc _
 |cons a l=>rfl
theorem MR (t:TX)(h:smT t):E5 ((t.1,t.2.1,t.2.2.1,t.2.2.2.1,t.2.2.2.2.1,t.2.2.2.2.2.1,t.2.2.2.2.2.2.1,t.2.2.2.2.2.2.2.1,t.2.2.2.2.2.2.2.2.1,()),())=some t:=fu h.1 h.2
theorem TC {ce:Bool}{s:List (List VV)}{t:List TX}{lk wt:List VM}{stamp:Int}(h:SmallE s t lk wt):HU ((ce,(s,()),t,lk,wt,stamp,()),())=some (ce,stamp,s,t,lk,wt,()):=by
 have hl:=h.fl
 have hk:=h.fk
 have hw:=h.fw
 unfold HU Fx
 simp only[QG h.fs]
 rw[if_pos (show lk.length<=2199023255552 by omega)]
 simp only[Option.bind_some]
 rw[if_pos (show wt.length<=2199023255552 by omega)]
 rw[GE (r:=(t,())) t.length (fun i=>((i:Int),t.take i,()))]
 ·rfl
 ·simp
 ·intro i hi
  unfold EM
  simp only[Al hi,Option.bind_some,MR _ (h.ft _ (List.getElem_mem hi)),List.length_append,List.length_cons,List.length_nil,List.length_take]
  rw[decide_eq_true (by omega),if_pos (by omega),An hi (by omega)]
  have e:t.take i++[t[i]]=t.take (i+1):=by rw[List.take_append_getElem hi]
  simp only[cond_true]
  rw[<-e]
 ·unfold EM
  simp only[List.take_length]
  rw[decide_eq_false (by omega)];rfl
def Ns (s:List (List VV))(m:VM):Int:=match I8 s m with
 |some l=>match fvI l m.2.1 with
  |some j=>match l[j]? with
   |some v=>v.2.2.2.2.1
   |none=>0
  |none=>0
 |none=>0
def rfH (s:List (List VV))(rd:List VM):Int:=rd.foldl (fun n m=>mn n (Ns s m)) 1000
theorem UQ {s:List (List VV)}(hs:DK s)(h6:s.length=6){m:VM}(hm:inB m.1 0 5=true)(hx:Gt s m):∃v:VV,F7 ((s,()),(m.1,m.2.1,()),())=some (some v,())/\v.2.2.2.2.1=Ns s m:=by
 obtain⟨k,hk,hlt,l,e1,e2,e3,hl⟩:=Jz h6 hm
 obtain⟨l',j,x1,x2⟩:=hx
 rw[e3]at x1;obtain rfl:l=l':=by simpa using x1
 have hj:=Q2 x2
 refine⟨l[j],?_,?_⟩
 ·unfold F7
  simp only[e2,Option.bind_some,SV (hs.2 _ hl),bZ,x2,Option.isNone_some,cond_false,fx]
  rw[Al hj];rfl
 ·unfold Ns
  simp[e3,x2,hj]
theorem fO {s:List (List VV)}(hs:DK s)(h6:s.length=6)(t:TX)(ht:smT t)(hrd:Ny t.2.2.2.2.2.2.2.1)(hx:∀m∈t.2.2.2.2.2.2.2.1,Gt s m):Dm ((s,()),(t.1,t.2.1,t.2.2.1,t.2.2.2.1,t.2.2.2.2.1,t.2.2.2.2.2.1,t.2.2.2.2.2.2.1,t.2.2.2.2.2.2.2.1,t.2.2.2.2.2.2.2.2.1,()),())=some (rfH s t.2.2.2.2.2.2.2.1,()):=by
 have hl:=ht.1
 unfold Dm
 simp only
 generalize t.2.2.2.2.2.2.2.1=rd at*
 refine G9 (l:=rd) (f:=fun n m=>mn n (Ns s m)) (X:=fun n=>some (n,())) 1000 (fun i h n=>?_) (fun n=>⟨(n,()),?_,rfl⟩) rfl
 ·obtain⟨_,h1,_⟩:=hrd i h
  obtain⟨v,e1,e2⟩:=UQ hs h6 h1 (hx _ (List.getElem_mem h))
  unfold BQ
  simp only[Al h,Option.bind_some,e1,e2]
  rw[decide_eq_true (by omega),An h (by omega)];rfl
 ·unfold BQ
  simp only
  rw[decide_eq_false (by omega)];rfl
theorem fD {s:List (List VV)}(hs:DK s)(hok:Nh s)(t:TX)(ht:smT t)(hT:M2 t=true)(hx:∀m∈t.2.2.2.2.2.2.2.1,Gt s m):FQ ((s,()),(t.1,t.2.1,t.2.2.1,t.2.2.2.1,t.2.2.2.2.1,t.2.2.2.2.2.1,t.2.2.2.2.2.2.1,t.2.2.2.2.2.2.2.1,t.2.2.2.2.2.2.2.2.1,()),())=some (rfH s t.2.2.2.2.2.2.2.1,()):=by
 have hl:=ht.1
 have hrd:=bS hT
 unfold FQ
 simp only[QF hs hok ht.1 ht.2 hT hrd,AH hx,Option.bind_some,Bool.not_true,cond_false]
 generalize t.2.2.2.2.2.2.2.1=rd at*
 refine G9 (l:=rd) (f:=fun n m=>mn n (Ns s m)) (X:=fun n=>some (n,())) 1000 (fun i h n=>?_) (fun n=>⟨(n,()),?_,rfl⟩) rfl
 ·obtain⟨_,h1,_⟩:=hrd i h
  obtain⟨k,hk,hlt,l,e1,e2,e3,hm⟩:=Jz hok.1 h1
  obtain⟨l',j,x1,x2⟩:=hx _ (List.getElem_mem h)
  rw[e3]at x1;obtain rfl:l=l':=by simpa using x1
  have hj:=Q2 x2
  have e4:lAt l (fx (some j))=some l[j]:=Al hj
  unfold D0
  simp only[Al h,Option.bind_some,e2,QE (hs.2 _ hm),x2,e4]
  rw[decide_eq_true (by omega),An h (by omega)]
  simp[Ns,e3,x2,hj]
 ·unfold D0
  simp only
  rw[decide_eq_false (by omega)];rfl
end Go.Ab
end
section
namespace Go.Ab
end Go.Ab
end
section
namespace Go.Ab
end Go.Ab
end
section
namespace Go.Ab
end Go.Ab
end
section
namespace Go.Ab
end Go.Ab
end
section
namespace Go.Ab
end Go.Ab
end
section
namespace Go.Ab
theorem ZX {α σ τ ρ:Type}{B:τ->Option (τ ⊕ ρ)}{l:List α}(st:σ->Nat->τ)(f:σ->α->σ)(J:Nat->σ->Prop){s0:σ}(h0:J 0 s0)
 (hB:∀i (h:i<l.length) s,J i s->B (st s i)=some (.inl (st (f s l[i]) (i+1)))/\J (i+1) (f s l[i])){r:σ->ρ}(hend:∀s,J l.length s->B (st s l.length)=some (.inr (r s))){t0:τ}(ht:t0=st s0 0):AC B t0=some (r (l.foldl f s0)):=by
 subst ht
 have key:∀m i:Nat,i+m=l.length->∀s,J i s->AC B (st s i)=some (r ((l.drop i).foldl f s)):=by
  intro m
  induction m with
  |zero=>
   intro i hi s hs
   obtain rfl:i=l.length:=by omega
   rw[AZ,hend s hs];simp
  |succ m ih=>
   intro i hi s hs
   have h:i<l.length:=by omega
   obtain⟨h1,h2⟩:=hB i h s hs
   rw[AZ,h1,List.drop_eq_getElem_cons h]
   simp only[Option.bind_some]
   rw[ih (i+1) (by omega) _ h2];rfl
 have:=key l.length 0 (by omega) s0 h0
 simpa using this
theorem Lt {α τ ρ:Type}{B:τ->Option (τ ⊕ ρ)}{l:List α}(st:Nat->τ)(p:α->Bool){fd:Nat->ρ}{no:ρ}
 (hB:∀i (h:i<l.length),B (st i)=some (if p l[i]=true then .inr (fd i)else .inl (st (i+1))))(hend:B (st l.length)=some (.inr no)){t0:τ}(ht:t0=st 0):
 AC B t0=some (match l.findIdx? p with|some i=>fd i|none=>no):=by
 subst ht
 have key:∀m i:Nat,i+m=l.length->AC B (st i)=some (match(l.drop i).findIdx? p with|some j=>fd (i+j)|none=>no):=by
  intro m
  induction m with
  |zero=>
   intro i hi
   obtain rfl:i=l.length:=by omega
   rw[AZ,hend];simp
  |succ m ih=>
   intro i hi
   have h:i<l.length:=by omega
   rw[AZ,hB i h,List.drop_eq_getElem_cons h,List.findIdx?_cons]
   by_cases hp:p l[i]=true
   ·simp[hp]
   ·simp only[hp,if_false,Option.bind_some,Bool.false_eq_true]
    rw[ih (i+1) (by omega)]
    cases(l.drop (i+1)).findIdx? p with
    |none=>rfl
    |some j=>simp only[Option.map_some];congr 2;omega
 have:=key l.length 0 (by omega)
 simpa using this
end Go.Ab
end
section
namespace Go.Ab
theorem N5 {α:Type}{R:α->α->Prop}(ht:∀a b c,R a b->R b c->R a c){P:α->Prop}(l:List α):
 (∀i,i<l.length->∃h:i<l.length,P l[i]/\∀h2:0<i,R (l[i-1]'(by omega)) l[i])↔(∀x∈l,P x)/\l.Pairwise R:=by
 constructor
 ·intro h
  refine⟨fun x hx=>?_,?_⟩
  ·obtain⟨i,hi,rfl⟩:=List.getElem_of_mem hx
   exact(h i hi).2.1
  ·rw[List.pairwise_iff_getElem]
   intro i j hi hj hij
   induction j with
   |zero=>omega
   |succ j ih=>
    have h1:=(h (j+1) hj).2.2 (by omega)
    simp only[Nat.add_sub_cancel]at h1
    by_cases e:i=j
    ·subst e;exact h1
    ·exact ht _ _ _ (ih (by omega) (by omega)) h1
 ·rintro⟨h1,h2⟩ i hi
  refine⟨hi,h1 _ (List.getElem_mem hi),fun h0=>?_⟩
  exact List.pairwise_iff_getElem.1 h2 (i-1) i (by omega) hi (by omega)
abbrev GH {α:Type}(f:α->Int)(l:List α):Prop:=l.Pairwise fun a b=>f a<f b
def Ce {α:Type}(f:α->Int)(l:List α)(m:α):List α:=
 (l.takeWhile fun x=>decide (f x<f m))++m::(match l.dropWhile fun x=>decide (f x<f m)with|[]=>[]|x::r=>if f x=f m then r else x::r)
theorem MH {α:Type}{f:α->Int}:∀{l:List α} (h:GH f l) (n:Int),∀x∈l.dropWhile (fun x=>decide (f x<n)),n<=f x
 |[],_,_,x,hx=>by simp at hx
 |a::l,h,n,x,hx=>by
  have h1:=List.pairwise_cons.1 h
  simp only[List.dropWhile_cons]at hx
  split at hx
  ·exact MH h1.2 n x hx
  ·rename_i hn
   simp only[decide_eq_true_eq]at hn
   rcases List.mem_cons.1 hx with rfl|hx
   ·omega
   ·have:=h1.1 x hx;omega
theorem GQ {α:Type}{f:α->Int}{l:List α}(h:GH f l){m x:α}:x∈Ce f l m↔x=m\/(x∈l/\f x≠f m):=by
 have hd:=MH h (f m)
 have hu:GH f (l.dropWhile fun x=>decide (f x<f m)):=h.sublist (List.dropWhile_sublist _)
 have hl:x∈l↔x∈(l.takeWhile fun x=>decide (f x<f m))\/x∈(l.dropWhile fun x=>decide (f x<f m)):=by
  rw[<-List.mem_append,List.takeWhile_append_dropWhile]
 have htk:∀y∈(l.takeWhile fun x=>decide (f x<f m)),f y<f m:=fun y hy=>by
  have:=List.all_takeWhile (l:=l) (p:=fun x=>decide (f x<f m))
  have:=List.all_eq_true.1 this y hy
  simpa using this
 unfold Ce
 cases hb:(l.dropWhile fun x=>decide (f x<f m))with
 |nil=>
  rw[hb]at hl
  simp only[List.mem_append,List.mem_cons,List.not_mem_nil,or_false]at hl ⊢
  rw[hl]
  constructor
  ·rintro(h1|h1)
   ·exact .inr ⟨h1,by have:=htk x h1;omega⟩
   ·exact .inl h1
  ·rintro(h1|⟨h1,_⟩)
   ·exact .inr h1
   ·exact .inl h1
 |cons y r=>
  rw[hb]at hl hd hu
  have hyr:=List.pairwise_cons.1 hu
  have hy:=hd y (List.mem_cons_self)
  simp only
  by_cases e:f y=f m
  ·rw[if_pos e]
   simp only[List.mem_append,List.mem_cons]at hl ⊢
   rw[hl]
   constructor
   ·rintro(h1|h1|h1)
    ·exact .inr ⟨.inl h1,by have:=htk x h1;omega⟩
    ·exact .inl h1
    ·exact .inr ⟨.inr (.inr h1),by have:=hyr.1 x h1;omega⟩
   ·rintro(h1|⟨h1|h1|h1,h2⟩)
    ·exact .inr (.inl h1)
    ·exact .inl h1
    ·subst h1;exact absurd e h2
    ·exact .inr (.inr h1)
  ·rw[if_neg e]
   simp only[List.mem_append,List.mem_cons]at hl ⊢
   rw[hl]
   constructor
   ·rintro(h1|h1|h1|h1)
    ·exact .inr ⟨.inl h1,by have:=htk x h1;omega⟩
    ·exact .inl h1
    ·subst h1;exact .inr ⟨.inr (.inl rfl),e⟩
    ·exact .inr ⟨.inr (.inr h1),by have:=hyr.1 x h1;omega⟩
   ·rintro(h1|⟨h1|h1|h1,h2⟩)
    ·exact .inr (.inl h1)
    ·exact .inl h1
    ·exact .inr (.inr (.inl h1))
    ·exact .inr (.inr (.inr h1))
theorem KN {α:Type}{f:α->Int}{l:List α}(h:GH f l)(m:α):GH f (Ce f l m):=by
 have hd:=MH h (f m)
 have hu:GH f (l.dropWhile fun x=>decide (f x<f m)):=h.sublist (List.dropWhile_sublist _)
 have ht:GH f (l.takeWhile fun x=>decide (f x<f m)):=h.sublist (List.takeWhile_sublist _)
 have htk:∀y∈(l.takeWhile fun x=>decide (f x<f m)),f y<f m:=fun y hy=>by
  have:=List.all_takeWhile (l:=l) (p:=fun x=>decide (f x<f m))
  have:=List.all_eq_true.1 this y hy
  simpa using this
 unfold Ce
 have key:∀r:List α,GH f r->(∀x∈r,f m<f x)->GH f ((l.takeWhile fun x=>decide (f x<f m))++m::r):=by
  intro r hr h1
  refine List.pairwise_append.2 ⟨ht,List.pairwise_cons.2 ⟨h1,hr⟩,fun a ha b hb=>?_⟩
  have h2:=htk a ha
  rcases List.mem_cons.1 hb with rfl|hb
  ·exact h2
  ·have:=h1 b hb;omega
 cases hb:(l.dropWhile fun x=>decide (f x<f m))with
 |nil=>exact key [] .nil (by simp)
 |cons y r=>
  rw[hb]at hd hu
  have hyr:=List.pairwise_cons.1 hu
  have hy:=hd y (List.mem_cons_self)
  simp only
  by_cases e:f y=f m
  ·rw[if_pos e];exact key r hyr.2 fun x hx=>by have:=hyr.1 x hx;omega
  ·rw[if_neg e]
   refine key _ hu fun x hx=>?_
   have h0:f m<f y:=by omega
   rcases List.mem_cons.1 hx with rfl|hx
   ·exact h0
   ·have:=hyr.1 x hx;omega
theorem Pb {α:Type}{f:α->Int}(l:List α)(m:α):(Ce f l m).length<=l.length+1:=by
 have e:=congrArg List.length (List.takeWhile_append_dropWhile (p:=fun x=>decide (f x<f m)) (l:=l))
 rw[List.length_append]at e
 unfold Ce
 split
 ·rename_i h1;simp only[List.length_append,List.length_cons,List.length_nil];omega
 ·rename_i y r h1
  rw[h1]at e
  simp only[List.length_cons]at e
  split<;>simp only[List.length_append,List.length_cons]<;>omega
theorem Mr (l:List VM):Qh l↔(∀x∈l,inB x.1 0 5=true/\inB x.2.1 1 9=true)/\GH (·.1) l:=by
 unfold Qh pu
 refine Iff.trans ?_ (N5 (R:=fun a b:VM=>a.1<b.1) (P:=fun x=>inB x.1 0 5=true/\inB x.2.1 1 9=true) (fun a b c h1 h2=>Int.lt_trans h1 h2) l)
 simp only[and_assoc]
theorem I3 (l:List VM):Md l↔(∀x∈l,inB x.1 1 9=true/\inB x.2.1 1 9=true/\x.1≠x.2.1)/\GH (·.1) l:=by
 unfold Md ka
 refine Iff.trans ?_ (N5 (R:=fun a b:VM=>a.1<b.1) (P:=fun x=>inB x.1 1 9=true/\inB x.2.1 1 9=true/\x.1≠x.2.1) (fun a b c h1 h2=>Int.lt_trans h1 h2) l)
 simp only[and_assoc]
theorem JO (l:List VM):QJ l↔(∀x∈l,inB x.1 0 5=true/\inB x.2.1 (-1) 99=true)/\GH (·.1) l:=by
 unfold QJ ke
 refine Iff.trans ?_ (N5 (R:=fun a b:VM=>a.1<b.1) (P:=fun x=>inB x.1 0 5=true/\inB x.2.1 (-1) 99=true) (fun a b c h1 h2=>Int.lt_trans h1 h2) l)
 simp only[and_assoc]
theorem I9 (a b c:VM)(h1:C1 a b)(h2:C1 b c):C1 a c:=by unfold C1 at*;omega
theorem Mq (l:List VM):Ny l↔(∀x∈l,inB x.1 0 5=true/\inB x.2.1 0 999=true)/\l.Pairwise C1:=by
 unfold Ny kl
 rw[<-N5 I9]
 simp only[and_assoc]
theorem Se (s:List (List VV))(stamp:Int)(l:List TX):Rq s stamp l↔(∀t∈l,M2 t=true/\t.2.2.2.1<=stamp/\t.2.2.2.2.2.2.1<=stamp/\(t.2.2.1=1->∀m∈t.2.2.2.2.2.2.2.1,Gt s m))/\GH (·.1) l:=by
 unfold Rq rA
 refine Iff.trans ?_ (N5 (R:=fun a b:TX=>a.1<b.1) (P:=fun t=>M2 t=true/\t.2.2.2.1<=stamp/\t.2.2.2.2.2.2.1<=stamp/\(t.2.2.1=1->∀m∈t.2.2.2.2.2.2.2.1,Gt s m)) (fun a b c h1 h2=>Int.lt_trans h1 h2) l)
 constructor
 ·intro h i hi
  obtain⟨h0,h1,h2,h3,h4,h5⟩:=h i hi
  exact⟨h0,⟨h1,h3,h4,h5⟩,h2⟩
 ·intro h i hi
  obtain⟨h0,⟨h1,h3,h4,h5⟩,h2⟩:=h i hi
  exact⟨h0,h1,h2,h3,h4,h5⟩
theorem YV {l:List TX}(h:GH (·.1) l){k:Nat}(hk:k<l.length):l.findIdx? (fun t=>t.1==l[k].1)=some k:=by
 rw[List.findIdx?_eq_some_iff_getElem]
 refine⟨hk,by simp,fun j hj=>?_⟩
 have:l[j].1<l[k].1:=List.pairwise_iff_getElem.1 h j k (by omega) hk hj
 simp;omega
theorem J2 {l:List TX}(h:GH (·.1) l)(id:Int):EB l id=true↔∃t∈l,t.1=id/\t.2.2.1=1:=by
 unfold EB
 constructor
 ·intro h1
  split at h1
  ·rename_i i hi
   split at h1
   ·rename_i t ht
    obtain⟨h2,h3,_⟩:=List.findIdx?_eq_some_iff_getElem.1 hi
    rw[List.getElem?_eq_getElem h2]at ht
    obtain rfl:l[i]=t:=by simpa using ht
    exact⟨_,List.getElem_mem h2,by simpa using h3,by simpa using h1⟩
   ·cases h1
  ·cases h1
 ·rintro⟨t,ht,rfl,h2⟩
  obtain⟨k,hk,rfl⟩:=List.getElem_of_mem ht
  rw[YV h hk]
  simp[List.getElem?_eq_getElem hk,h2]
end Go.Ab
end
section
namespace Go.Ab
noncomputable section
def EX (t:TX)(n:Int):TX:=(t.1,t.2.1,n,t.2.2.2.1,t.2.2.2.2.1,t.2.2.2.2.2.1,t.2.2.2.2.2.2.1,t.2.2.2.2.2.2.2.1,t.2.2.2.2.2.2.2.2.1,())
def XM (t:TX)(lo hi:Int)(rd:List VM):TX:=(t.1,t.2.1,t.2.2.1,t.2.2.2.1,lo,hi,t.2.2.2.2.2.2.1,rd,t.2.2.2.2.2.2.2.2.1,())
def Nu (t:TX)(lo:Int)(wr:List VM):TX:=(t.1,t.2.1,t.2.2.1,t.2.2.2.1,lo,t.2.2.2.2.2.1,t.2.2.2.2.2.2.1,t.2.2.2.2.2.2.2.1,wr,())
def LF (t:TX)(lo hi co:Int):TX:=(t.1,t.2.1,2,t.2.2.2.1,lo,hi,co,t.2.2.2.2.2.2.2.1,t.2.2.2.2.2.2.2.2.1,())
def LG (id sc be:Int):TX:=(id,sc,1,be,0,1000,0,[],[],())
abbrev EG:=List (List VV)×List TX×List VM×List VM×Int
def Uc (lk:List VM)(id:Int):List VM:=lk.filter fun m=>!(m.2.1==id)
def Vn (wt:List VM)(id:Int):List VM:=wt.filter fun m=>!(m.1==id)&&!(m.2.1==id)
def wkW (wt:List VM)(id:Int):List VM:=wt.filter fun m=>!(m.1==id)
def Ik (e:EG)(k:Nat)(t:TX):EG:=(e.1,e.2.1.set k t,Uc e.2.2.1 t.1,Vn e.2.2.2.1 t.1,e.2.2.2.2)
def Cq (lk:List VM)(key:Int):Int:=match lk.find? fun m=>m.1==key with|some m=>m.2.1|none=>0
def XK (t:TX)(key:Int):Option Int:=(t.2.2.2.2.2.2.2.2.1.find? fun m=>m.1==key).map (·.2.1)
def DM (s:List (List VV))(key:Int):Option VV:=(s[key.toNat]?).bind fun l=>l[l.length-1]?
def crV (o:Option VV):Int:=match o with|some v=>v.2.2.1|none=>0
def KL (o:Option VV):Int:=match o with|some v=>v.2.2.2.1|none=>0
def IL (s:List (List VV))(t:TX)(key:Int):Option VV:=
 (s[key.toNat]?).bind fun l=>
   let i:Int:=bif t.2.1==2 then vA l t.2.2.2.1 l.length else(l.length:Int)-1
   bif decide (i<0)then none else(l[i.toNat]?).bind fun v=>bif t.2.1==4&&decide (v.2.2.1>t.2.2.2.1)then none else some v
def Gs (a b:VM):Bool:=dec (C1 a b)
def JM (rd:List VM)(m:VM):List VM:=
 (rd.takeWhile fun x=>Gs x m)++m::(match rd.dropWhile fun x=>Gs x m with|[]=>[]|x::r=>if x=m then r else x::r)
def Mh (t:TX)(key:Int)(v:VV):Option TX:=
 bif t.2.2.2.2.2.2.2.1.length==60 then none else some (XM t (mx t.2.2.2.2.1 v.2.2.1) (mn t.2.2.2.2.2.1 v.2.2.2.2.1) (JM t.2.2.2.2.2.2.2.1 (key,v.2.2.1,())))
def Fc (e:EG)(k:Nat)(key:Int):Int×Int×EG:=match e.2.1[k]? with
 |none=>(0,6,e)
 |some t=>match XK t key with
  |some x=>(x,0,e)
  |none=>match IL e.1 t key with
   |none=>(0,3,Ik e k (EX t 3))
   |some v=>match Mh t key v with
    |none=>(0,6,e)
    |some t'=>(v.2.1,0,(e.1,e.2.1.set k t',e.2.2))
def DJ (k:Nat):Nat->Int->List Int->EG->Int×List Int×EG
 |0,_,out,e=>(0,out,e)
 |n+1,key,out,e=>let r:=Fc e k key
  bif r.2.1==0 then DJ k n (key+1) (out++[r.1]) r.2.2 else(r.2.1,[],r.2.2)
def Fd (s:List (List VV))(lk:List VM)(t:TX)(key:Int):Int:=
 let o:=Cq lk key
 let f:=!(o==0)&&!(o==t.1)
 bif t.2.1==1&&f then 1
 else bif t.2.1==2&&(f||decide (crV (DM s key)>t.2.2.2.1))then 2
 else bif t.2.1==4&&decide (KL (DM s key)>t.2.2.2.1)then 3 else 0
def Tm (wt:List VM)(id:Int):Option Int:=(wt.find? fun m=>m.1==id).map (·.2.1)
def Gd (wt:List VM):Nat->List Int->Int->List Int
 |0,out,_=>out
 |n+1,out,x=>match Tm wt x with
  |none=>out
  |some y=>if y∈out then out++[y]else Gd wt n (out++[y]) y
def PG (wt:List VM)(id o:Int):Bool:=(Gd (Ce (·.1) wt (id,o,())) 10 [id] id).getLast?==some id
def L8 (e:EG)(k:Nat)(key val:Int):Int×EG:=match e.2.1[k]? with
 |none=>(6,e)
 |some t=>
  let c:=Fd e.1 e.2.2.1 t key
  bif c==1 then(bif PG e.2.2.2.1 t.1 (Cq e.2.2.1 key)then(4,Ik e k (EX t 3))else(1,e.1,e.2.1,e.2.2.1,Ce (·.1) e.2.2.2.1 (t.1,Cq e.2.2.1 key,()),e.2.2.2.2))
  else bif c==0 then(0,e.1,e.2.1.set k (Nu t (mx t.2.2.2.2.1 (KL (DM e.1 key))) (Ce (·.1) t.2.2.2.2.2.2.2.2.1 (key,val,()))),(bif t.2.1==1||t.2.1==2 then Ce (·.1) e.2.2.1 (key,t.1,())else e.2.2.1),e.2.2.2.1,e.2.2.2.2)
  else(c,Ik e k (EX t 3))
def Ly (s:List (List VV))(t:TX):Int:=
 bif t.2.2.2.2.2.2.2.2.1.any fun m=>decide (crV (DM s m.1)>t.2.2.2.1)then(bif t.2.1==2 then 2 else bif t.2.1==4 then 3 else 0)else 0
def rlP (s:List (List VV))(t:TX):Int:=t.2.2.2.2.2.2.2.2.1.foldl (fun n m=>mx n (KL (DM s m.1))) (t.2.2.2.2.2.2.2.1.foldl (fun n m=>mx n m.2.1) 0)
def loP (s:List (List VV))(t:TX):Int:=mx t.2.2.2.2.1 (rlP s t)
def hiP (s:List (List VV))(t:TX)(stamp:Int):Int:=mn (mn t.2.2.2.2.2.1 (rfH s t.2.2.2.2.2.2.2.1)) stamp
def Mz (s:List (List VV))(t:TX):Bool:=t.2.2.2.2.2.2.2.2.1.any fun m=>match s[m.1.toNat]? with|some l=>decide (l.length>=50)|none=>false
def OH (s:List (List VV))(t:TX)(stamp hi:Int):List (List VV):=t.2.2.2.2.2.2.2.2.1.foldl (Oi stamp t.1 hi) (t.2.2.2.2.2.2.2.1.foldl (LO stamp) s)
def GU (ce:Bool)(e:EG)(k:Nat):Int×EG:=match e.2.1[k]? with
 |none=>(6,e)
 |some t=>
  let c:=Ly e.1 t
  bif !(c==0)then(c,Ik e k (EX t 3))
  else bif e.2.2.2.2==999 then(6,e)
  else
   let st:=e.2.2.2.2+1
   bif (ce&&decide (loP e.1 t>=hiP e.1 t st))||Mz e.1 t then(5,Ik e k (EX t 3))
   else(0,Ik (OH e.1 t st (hiP e.1 t st),e.2.1,e.2.2.1,e.2.2.2.1,st) k (LF t (loP e.1 t) (hiP e.1 t st) st))
def JW (e:EG)(id sc:Int):Int×EG:=
 bif (e.2.1.any fun t=>t.1==id)||e.2.1.length==6 then(6,e)else(0,e.1,Ce (·.1) e.2.1 (LG id sc e.2.2.2.2),e.2.2)
abbrev OPt:=Int×Int×Int×Int×Int×Int×Unit
def JX (ce:Bool)(e:EG)(o:OPt):Int×List Int×EG:=
 bif o.1==1 then(let r:=JW e o.2.1 o.2.2.1;(r.1,[],r.2))
 else match e.2.1.findIdx? fun t=>t.1==o.2.1 with
  |none=>(6,[],e)
  |some k=>bif EB e.2.1 o.2.1 then
    (let e':EG:=(e.1,e.2.1,e.2.2.1,wkW e.2.2.2.1 o.2.1,e.2.2.2.2)
    bif o.1==2 then DJ k 1 o.2.2.2.1 [] e'
    else bif o.1==4 then DJ k (o.2.2.2.2.1-o.2.2.2.1+1).toNat o.2.2.2.1 [] e'
    else bif o.1==3 then(let r:=L8 e' k o.2.2.2.1 o.2.2.2.2.2.1;(r.1,[],r.2))
    else bif o.1==5 then(let r:=GU ce e' k;(r.1,[],r.2))
    else match e.2.1[k]? with
     |some t=>(0,[],Ik e' k (EX t 3))
     |none=>(6,[],e'))
   else(6,[],e)
def Lo (o:OPt):Bool:=
 inB o.1 1 6&&inB o.2.1 1 9&&(bif o.1==1 then inB o.2.2.1 1 4 else o.2.2.1==0)&&(bif o.1==2||o.1==3||o.1==4 then inB o.2.2.2.1 0 5 else o.2.2.2.1==0)&&(bif o.1==4 then inB o.2.2.2.2.1 o.2.2.2.1 5 else o.2.2.2.2.1==0)&&(bif o.1==3 then inB o.2.2.2.2.2.1 (-1) 99 else o.2.2.2.2.2.1==0)
structure OkG (e:EG):Prop where
 st:Nh e.1
 last:e.1.foldl IW 0<=e.2.2.2.2
 stamp:e.2.2.2.2<=999
 lkA:∀m∈e.2.2.1,inB m.1 0 5=true/\inB m.2.1 1 9=true
 lkU:GH (·.1) e.2.2.1
 wtA:∀m∈e.2.2.2.1,inB m.1 1 9=true/\inB m.2.1 1 9=true/\m.1≠m.2.1
 wtU:GH (·.1) e.2.2.2.1
 txA:∀t∈e.2.1,M2 t=true/\t.2.2.2.1<=e.2.2.2.2/\t.2.2.2.2.2.2.1<=e.2.2.2.2/\(t.2.2.1=1->∀m∈t.2.2.2.2.2.2.2.1,Gt e.1 m)
 txU:GH (·.1) e.2.1
 len:e.2.1.length<=6
 lkO:∀m∈e.2.2.1,EB e.2.1 m.2.1=true
 wtO:∀m∈e.2.2.2.1,EB e.2.1 m.1=true/\EB e.2.1 m.2.1=true
theorem KD {p:Prop}(h:dec p=true):p:=by
 by_cases e:p
 ·exact e
 ·rw[BM e]at h;cases h
theorem TD (e:EG):okE e.1 e.2.1 e.2.2.1 e.2.2.2.1 e.2.2.2.2=true↔OkG e:=by
 unfold okE inB
 simp only[Bool.and_eq_true,decide_eq_true_eq]
 constructor
 ·rintro⟨⟨⟨⟨⟨⟨⟨h1,h2⟩,h3⟩,h4⟩,h5⟩,h6⟩,h7⟩,h8⟩
  have a2:=(Mr _).1 (KD h2)
  have a3:=(I3 _).1 (KD h3)
  have a5:=(Se _ _ _).1 (KD h5)
  exact⟨KD h1,h4.1,h4.2,a2.1,a2.2,a3.1,a3.2,a5.1,a5.2,h6,KD h7,KD h8⟩
 ·rintro⟨h1,h2,h3,h4,h5,h6,h7,h8,h9,h10,h11,h12⟩
  exact⟨⟨⟨⟨⟨⟨⟨AH h1,AH ((Mr _).2 ⟨h4,h5⟩)⟩,AH ((I3 _).2 ⟨h6,h7⟩)⟩,h2,h3⟩,AH ((Se _ _ _).2 ⟨h8,h9⟩)⟩,h10⟩,AH h11⟩,AH h12⟩
end
end Go.Ab
end
section
namespace Go.Ab
theorem Bc {x a b:Int}:inB x a b=true↔a<=x/\x<=b:=by unfold inB;simp
theorem g6 {a b n:Int}:mx a b<=n↔a<=n/\b<=n:=by unfold mx;split<;>omega
theorem gf {a b n:Int}:n<=mn a b↔n<=a/\n<=b:=by unfold mn;split<;>omega
theorem ZP (a b c:VV)(h1:okP a b)(h2:okP b c):okP a c:=by unfold okP at*;omega
theorem J7 (l:List VV):LJ l↔(∀v∈l,okV v=true)/\l.Pairwise okP/\∃v,l.getLast?=some v/\v.2.2.2.2.1=1000:=by
 unfold LJ
 rw[ZQ]
 have h1:=N5 (R:=okP) (P:=fun v=>okV v=true) ZP l
 have h2:(∀i,i<l.length->pr l i)↔(∀x∈l,okV x=true)/\l.Pairwise okP:=h1
 rw[h2,and_assoc]
 have h3:(∃h:0<l.length,(l[l.length-1]'(by omega)).2.2.2.2.1=1000)↔∃v,l.getLast?=some v/\v.2.2.2.2.1=1000:=by
  constructor
  ·rintro⟨h,e⟩
   exact⟨_,by rw[List.getLast?_eq_getElem?,List.getElem?_eq_getElem (by omega)],e⟩
  ·rintro⟨v,e1,e2⟩
   rw[List.getLast?_eq_getElem?]at e1
   obtain⟨h,e3⟩:=List.getElem?_eq_some_iff.1 e1
   exact⟨by omega,by rw[e3];exact e2⟩
 rw[h3]
theorem Ln (v:VV):okV v=true↔inB v.2.1 (-1) 99=true/\inB v.2.2.1 0 999=true/\inB v.2.2.2.1 v.2.2.1 999=true/\inB v.2.2.2.2.1 1 1000=true/\(bif v.2.2.1==0 then(bif v.1==0 then v.2.1==-1 else false)else inB v.1 1 9)=true:=by
 unfold okV
 simp only[Bool.and_eq_true,and_assoc]
theorem mem_set {α:Type}{l:List α}{k:Nat}{t x:α}(h:x∈l.set k t):x=t\/∃j,∃hj:j<l.length,j≠k/\x=l[j]:=by
 obtain⟨j,hj,rfl⟩:=List.getElem_of_mem h
 rw[List.length_set]at hj
 rw[List.getElem_set]
 by_cases e:k=j
 ·rw[if_pos e];exact .inl rfl
 ·rw[if_neg e];exact .inr ⟨j,hj,fun h=>e h.symm,rfl⟩
theorem WR {α:Type}{R:α->α->Prop}{l:List α}{k:Nat}(hk:k<l.length){t:α}(h:l.Pairwise R)(h1:∀x,R x l[k]->R x t)(h2:∀x,R l[k] x->R t x):(l.set k t).Pairwise R:=by
 rw[List.pairwise_iff_getElem]at h ⊢
 intro i j hi hj hij
 rw[List.length_set]at hi hj
 rw[List.getElem_set,List.getElem_set]
 have h3:=h i j hi hj hij
 by_cases e1:k=i
 ·subst e1;rw[if_pos rfl,if_neg (by omega)];exact h2 _ h3
 ·rw[if_neg e1]
  by_cases e2:k=j
  ·subst e2;rw[if_pos rfl];exact h1 _ h3
  ·rw[if_neg e2];exact h3
theorem yn {l:List VV}{j:Nat}{v:VV}(h:LJ l)(hj:l[j]?=some v){st:Int}(hs:st<=999):LJ (l.set j (Rk st v)):=by
 obtain⟨hjl,rfl⟩:=List.getElem?_eq_some_iff.1 hj
 rw[J7]at h ⊢
 obtain⟨h1,h2,w,h3,h4⟩:=h
 refine⟨fun x hx=>?_,WR hjl h2 (fun x hx=>hx) (fun x hx=>hx),?_⟩
 ·rcases mem_set hx with rfl|⟨i,hi,_,rfl⟩
  ·have:=h1 _ (List.getElem_mem hjl)
   rw[Ln]at this ⊢
   obtain⟨a1,a2,a3,a4,a5⟩:=this
   refine⟨a1,a2,?_,a4,a5⟩
   rw[Bc]at a3 ⊢
   show l[j].2.2.1<=mx l[j].2.2.2.1 st/\mx l[j].2.2.2.1 st<=999
   unfold mx;split<;>omega
  ·exact h1 _ (List.getElem_mem hi)
 ·rw[List.getLast?_eq_getElem?,List.length_set,List.getElem?_set]
  rw[List.getLast?_eq_getElem?]at h3
  by_cases e:j=l.length-1
  ·rw[if_pos e,if_pos (by omega)]
   refine⟨_,rfl,?_⟩
   subst e
   rw[List.getElem?_eq_getElem (by omega)]at h3
   obtain rfl:=Option.some.inj h3
   exact h4
  ·rw[if_neg e];exact⟨w,h3,h4⟩
theorem ym {l:List VV}{v:VV}(h:LJ l)(hl:l[l.length-1]?=some v){st hi id val:Int}(hs:1<=st/\st<=999)(hh:1<=hi/\hi<=st)(hid:inB id 1 9=true)(hval:inB val (-1) 99=true)(hc:∀x∈l,x.2.2.1<st):
 LJ (l.set (l.length-1) (d6 hi v)++[(id,val,st,st,1000,())]):=by
 obtain⟨hjl,rfl⟩:=List.getElem?_eq_some_iff.1 hl
 rw[J7]at h ⊢
 obtain⟨h1,h2,w,h3,h4⟩:=h
 have hpos:0<l.length:=by omega
 refine⟨fun x hx=>?_,?_,_,by rw[List.getLast?_append];rfl,rfl⟩
 ·rcases List.mem_append.1 hx with hx|hx
  ·rcases mem_set hx with rfl|⟨i,hi,_,rfl⟩
   ·have:=h1 _ (List.getElem_mem hjl)
    rw[Ln]at this ⊢
    obtain⟨a1,a2,a3,a4,a5⟩:=this
    exact⟨a1,a2,a3,by rw[Bc];show 1<=hi/\hi<=1000;omega,a5⟩
   ·exact h1 _ (List.getElem_mem hi)
  ·obtain rfl:=by simpa using hx
   rw[Ln]
   refine⟨hval,by rw[Bc];show 0<=st/\st<=999;omega,by rw[Bc];show st<=st/\st<=999;omega,by rw[Bc];show(1:Int)<=1000/\(1000:Int)<=1000;omega,?_⟩
   show(bif st==0 then _ else inB id 1 9)=true
   rw[show(st==0)=false by simp;omega]
   exact hid
 ·rw[List.pairwise_append]
  refine⟨?_,List.pairwise_singleton _ _,fun a ha b hb=>?_⟩
  ·
   rw[List.pairwise_iff_getElem]at h2 ⊢
   intro i j hi hj hij
   rw[List.length_set]at hi hj
   rw[List.getElem_set,List.getElem_set,if_neg (by omega)]
   have h5:=h2 i j hi hj hij
   by_cases e:l.length-1=j
   ·subst e;rw[if_pos rfl];exact h5
   ·rw[if_neg e];exact h5
  ·obtain rfl:=by simpa using hb
   rcases mem_set ha with rfl|⟨i,hi',hne,rfl⟩
   ·exact⟨show l[l.length-1].2.2.1<st from hc _ (List.getElem_mem hjl),hh.2⟩
   ·have h6:okP l[i] (l[l.length-1]'(by omega)):=List.pairwise_iff_getElem.1 h2 i (l.length-1) hi' (by omega) (by omega)
    have h7:=hc _ (List.getElem_mem hi')
    have h8:=hc _ (List.getElem_mem hjl)
    exact⟨h7,by have:=h6.2;show l[i].2.2.2.2.1<=st;omega⟩
theorem V6 {n:Int}:∀(l:List VV) (a:Int),IW a l<=n↔a<=n/\∀v∈l,v.2.2.2.1<=n
 |[],a=>by simp[IW]
 |v::l,a=>by
  show IW (mx a v.2.2.2.1) l<=n↔_
  rw[V6 l,g6]
  simp[and_assoc]
theorem OC {n:Int}:∀(s:List (List VV)) (a:Int),s.foldl IW a<=n↔a<=n/\∀l∈s,∀v∈l,v.2.2.2.1<=n
 |[],a=>by simp
 |l::s,a=>by
  rw[List.foldl_cons,OC s,V6]
  simp[and_assoc]
structure GdS (s:List (List VV))(n:Int):Prop where
 six:s.length=6
 ok:∀l∈s,LJ l/\l.length<=50
 rd:∀l∈s,∀v∈l,v.2.2.2.1<=n
theorem GdS.of {s:List (List VV)}{n:Int}(h:Nh s)(hn:s.foldl IW 0<=n):GdS s n:=⟨h.1,h.2,((OC s 0).1 hn).2⟩
theorem GdS.last {s:List (List VV)}{n:Int}(h:GdS s n)(h0:0<=n):Nh s/\s.foldl IW 0<=n:=⟨⟨h.six,h.ok⟩,(OC s 0).2 ⟨h0,h.rd⟩⟩
theorem GdS.set {s:List (List VV)}{n:Int}(h:GdS s n){k:Nat}{l:List VV}(h1:LJ l)(h2:l.length<=50)(h3:∀v∈l,v.2.2.2.1<=n):GdS (s.set k l) n:=by
 refine⟨by simpa using h.six,fun x hx=>?_,fun x hx=>?_⟩
 ·rcases List.mem_or_eq_of_mem_set hx with h4|rfl
  ·exact h.ok x h4
  ·exact⟨h1,h2⟩
 ·rcases List.mem_or_eq_of_mem_set hx with h4|rfl
  ·exact h.rd x h4
  ·exact h3
theorem QV {s:List (List VV)}{m x:VM}{l:List VV}:I8 (s.set m.1.toNat l) x=if m.1.toNat=x.1.toNat then(I8 s m).map fun _=>l else I8 s x:=by
 unfold I8
 rw[List.getElem?_set]
 by_cases e:m.1.toNat=x.1.toNat
 ·rw[if_pos e,if_pos e]
  by_cases e2:m.1.toNat<s.length
  ·rw[if_pos e2,List.getElem?_eq_getElem e2];rfl
  ·rw[if_neg e2,List.getElem?_eq_none (by omega)];rfl
 ·rw[if_neg e,if_neg e]
theorem qh {l:List VV}{j:Nat}{v:VV}(hj:l[j]?=some v){v':VV}(e:v'.2.2.1=v.2.2.1):(l.set j v').map (fun v=>v.2.2.1)=l.map fun v=>v.2.2.1:=by
 obtain⟨hjl,rfl⟩:=List.getElem?_eq_some_iff.1 hj
 apply List.ext_getElem (by simp)
 intro i h1 h2
 simp only[List.length_map,List.length_set]at h1 h2
 simp only[List.getElem_map,List.getElem_set]
 split
 ·rename_i h;subst h;exact e
 ·rfl
theorem pF {s:List (List VV)}{n st:Int}(h:GdS s n)(hn:n<=st)(hs:st<=999)(m:VM):GdS (LO st s m) st/\∀x,(I8 (LO st s m) x).map (List.map fun v:VV=>v.2.2.1)=(I8 s x).map (List.map fun v:VV=>v.2.2.1):=by
 have h':GdS s st:=⟨h.six,h.ok,fun l hl v hv=>Int.le_trans (h.rd l hl v hv) hn⟩
 unfold LO
 cases hc:I8 s m with
 |none=>exact⟨h',fun x=>rfl⟩
 |some l=>
  have hl:l∈s:=List.mem_of_getElem? hc
  simp only
  cases hf:fvI l m.2.1 with
  |none=>exact⟨h',fun x=>rfl⟩
  |some j=>
   simp only
   cases hj:l[j]? with
   |none=>exact⟨h',fun x=>rfl⟩
   |some v=>
    simp only
    refine⟨h'.set (yn (h.ok l hl).1 hj hs) (by simpa using(h.ok l hl).2) (fun x hx=>?_),fun x=>?_⟩
    ·rcases List.mem_or_eq_of_mem_set hx with h4|rfl
     ·exact h'.rd l hl x h4
     ·have:=h'.rd l hl v (List.mem_of_getElem? hj)
      show mx _ st<=st
      rw[g6];exact⟨this,Int.le_refl _⟩
    ·rw[QV]
     split
     ·rename_i e
      have:I8 s x=some l:=by rw[<-hc];unfold I8;rw[e]
      rw[this,hc]
      simp only[Option.map_some]
      rw[qh (v':=Rk st v) hj rfl]
     ·rfl
theorem gu {n st:Int}(hn:n<=st)(hs:st<=999):∀(rd:List VM) {s:List (List VV)},GdS s n->(GdS (rd.foldl (LO st) s) st)/\∀x,(I8 (rd.foldl (LO st) s) x).map (List.map fun v:VV=>v.2.2.1)=(I8 s x).map (List.map fun v:VV=>v.2.2.1)
 |[],s,h=>⟨⟨h.six,h.ok,fun l hl v hv=>Int.le_trans (h.rd l hl v hv) hn⟩,fun x=>rfl⟩
 |m::rd,s,h=>by
  obtain⟨h1,h2⟩:=pF h hn hs m
  obtain⟨h3,h4⟩:=gu (Int.le_refl st) hs rd h1
  exact⟨h3,fun x=>(h4 x).trans (h2 x)⟩
theorem pE {s:List (List VV)}{st id hi:Int}(h:GdS s st)(hs:1<=st/\st<=999)(hh:1<=hi/\hi<=st)(hid:inB id 1 9=true){m:VM}(hv:inB m.2.1 (-1) 99=true)(hf:∀l,I8 s m=some l->l.length<50/\∀v∈l,v.2.2.1<st):
 GdS (Oi st id hi s m) st/\(∀x:VM,m.1.toNat≠x.1.toNat->I8 (Oi st id hi s m) x=I8 s x):=by
 unfold Oi
 cases hc:I8 s m with
 |none=>exact⟨h,fun x _=>rfl⟩
 |some l=>
  have hl:l∈s:=List.mem_of_getElem? hc
  obtain⟨g1,g2⟩:=hf l hc
  simp only
  cases hj:l[l.length-1]? with
  |none=>exact⟨h,fun x _=>rfl⟩
  |some v=>
   simp only
   refine⟨h.set (ym (h.ok l hl).1 hj hs hh hid hv g2) (by simp;omega) (fun x hx=>?_),fun x hx=>?_⟩
   ·rcases List.mem_append.1 hx with hx|hx
    ·rcases List.mem_or_eq_of_mem_set hx with h4|rfl
     ·exact h.rd l hl x h4
     ·exact h.rd l hl v (List.mem_of_getElem? hj)
    ·obtain rfl:=by simpa using hx
     exact Int.le_refl _
   ·rw[QV,if_neg hx]
theorem gt {st id hi:Int}(hs:1<=st/\st<=999)(hh:1<=hi/\hi<=st)(hid:inB id 1 9=true):∀(wr:List VM) {s:List (List VV)},GdS s st->(∀m∈wr,0<=m.1/\inB m.2.1 (-1) 99=true)->GH (·.1) wr->(∀m∈wr,∀l,I8 s m=some l->l.length<50/\∀v∈l,v.2.2.1<st)->GdS (wr.foldl (Oi st id hi) s) st
 |[],s,h,_,_,_=>h
 |m::wr,s,h,hv,hu,hf=>by
  obtain⟨h1,h2⟩:=pE h hs hh hid (hv m List.mem_cons_self).2 (hf m List.mem_cons_self)
  have hp:=List.pairwise_cons.1 hu
  refine gt hs hh hid wr h1 (fun x hx=>hv x (List.mem_cons_of_mem _ hx)) hp.2 (fun x hx l hl=>?_)
  have h3:m.1<x.1:=hp.1 x hx
  have h4:=(hv m List.mem_cons_self).1
  have h5:=(hv x (List.mem_cons_of_mem _ hx)).1
  rw[h2 x (by omega)]at hl
  exact hf x (List.mem_cons_of_mem _ hx) l hl
theorem Vf {l:List VV}{c:Int}:(∃j,fvI l c=some j)↔∃v∈l,v.2.2.1=c:=by
 unfold fvI
 rw[<-Option.isSome_iff_exists,List.findIdx?_isSome]
 simp
theorem Vk {s:List (List VV)}{m:VM}:Gt s m↔∃l,I8 s m=some l/\∃v∈l,v.2.2.1=m.2.1:=by
 unfold Gt
 constructor
 ·rintro⟨l,j,h1,h2⟩;exact⟨l,h1,Vf.1 ⟨j,h2⟩⟩
 ·rintro⟨l,h1,h2⟩;obtain⟨j,h3⟩:=Vf.2 h2;exact⟨l,j,h1,h3⟩
theorem ag {s:List (List VV)}{m x:VM}(st id hi:Int)(hx:Gt s x):Gt (Oi st id hi s m) x:=by
 rw[Vk]at hx ⊢
 obtain⟨l,h1,v,h2,h3⟩:=hx
 unfold Oi
 cases hc:I8 s m with
 |none=>exact⟨l,h1,v,h2,h3⟩
 |some r=>
  simp only
  cases hj:r[r.length-1]? with
  |none=>exact⟨l,h1,v,h2,h3⟩
  |some w=>
   simp only
   rw[QV]
   split
   ·rename_i e
    have:I8 s x=some r:=by rw[<-hc];unfold I8;rw[e]
    rw[this]at h1
    obtain rfl:r=l:=by simpa using h1
    rw[hc]
    refine⟨_,rfl,?_⟩
    obtain⟨i,hi',rfl⟩:=List.getElem_of_mem h2
    obtain⟨hl,rfl⟩:=List.getElem?_eq_some_iff.1 hj
    by_cases e2:r.length-1=i
    ·subst e2
     refine⟨d6 hi _,?_,h3⟩
     rw[List.mem_append];left
     exact List.mem_set hl _
    ·refine⟨r[i],?_,h3⟩
     rw[List.mem_append];left
     rw[List.mem_iff_getElem]
     exact⟨i,by simpa using hi',by rw[List.getElem_set,if_neg e2]⟩
   ·exact⟨l,h1,v,h2,h3⟩
theorem ah {s:List (List VV)}{t:TX}{st hi:Int}{x:VM}(hx:Gt s x):Gt (OH s t st hi) x:=by
 unfold OH
 have h1:∀(rd:List VM) (s:List (List VV)),Gt s x->Gt (rd.foldl (LO st) s) x:=by
  intro rd
  induction rd with
  |nil=>intro s h;exact h
  |cons m rd ih=>intro s h;exact ih _ (Pl st h)
 have h2:∀(wr:List VM) (s:List (List VV)),Gt s x->Gt (wr.foldl (Oi st t.1 hi) s) x:=by
  intro wr
  induction wr with
  |nil=>intro s h;exact h
  |cons m wr ih=>intro s h;exact ih _ (ag st t.1 hi h)
 exact h2 _ _ (h1 _ _ hx)
end Go.Ab
end
section
namespace Go.Ab
theorem CF (t:TX):M2 t=true↔Ny t.2.2.2.2.2.2.2.1/\QJ t.2.2.2.2.2.2.2.2.1/\inB t.1 1 9=true/\inB t.2.1 1 4=true/\inB t.2.2.2.1 0 999=true/\inB t.2.2.1 1 3=true/\inB t.2.2.2.2.1 0 999=true/\inB t.2.2.2.2.2.1 1 1000=true/\(t.2.2.1=2↔t.2.2.2.2.2.2.1>0)/\inB t.2.2.2.2.2.2.1 0 999=true/\t.2.2.2.2.2.2.2.1.length<=60:=by
 unfold M2 okT
 simp only[Bool.and_eq_true,decide_eq_true_eq,and_assoc]
 have e:∀(a b:Prop) [Decidable b] (x:Bool),(x=true↔a)->(((x==decide b)=true)↔(a↔b)):=by
  intro a b _ x hx
  cases x<;>by_cases hb:b<;>simp[hb]at hx ⊢<;>exact hx
 rw[e (t.2.2.1=2) (t.2.2.2.2.2.2.1>0) (t.2.2.1==2) (by simp)]
 constructor
 ·rintro⟨h1,h2,h3⟩;exact⟨KD h1,KD h2,h3⟩
 ·rintro⟨h1,h2,h3⟩;exact⟨AH h1,AH h2,h3⟩
section
variable {e:EG}(H:OkG e)
include H
theorem OkG.stamp0:0<=e.2.2.2.2:=Int.le_trans ((OC e.1 0).1 (Int.le_refl _)).1 H.last
theorem OkG.gd:GdS e.1 e.2.2.2.2:=GdS.of H.st H.last
theorem Z3 {k:Nat}(hk:k<e.2.1.length){t':TX}(ht:t'.1=e.2.1[k].1)(id:Int):EB (e.2.1.set k t') id=true↔(id≠t'.1/\EB e.2.1 id=true)\/(id=t'.1/\t'.2.2.1=1):=by
 have hu:GH (·.1) (e.2.1.set k t'):=WR hk H.txU (fun x h=>by show x.1<t'.1;rw[ht];exact h) (fun x h=>by show t'.1<x.1;rw[ht];exact h)
 rw[J2 hu,J2 H.txU]
 constructor
 ·rintro⟨t,h1,rfl,h2⟩
  rcases mem_set h1 with rfl|⟨j,hj,hne,rfl⟩
  ·exact .inr ⟨rfl,h2⟩
  ·refine .inl ⟨fun he=>?_,_,List.getElem_mem hj,rfl,h2⟩
   rw[ht]at he
   rcases Nat.lt_or_gt_of_ne hne with h3|h3
   ·have:e.2.1[j].1<e.2.1[k].1:=List.pairwise_iff_getElem.1 H.txU j k hj hk h3;omega
   ·have:e.2.1[k].1<e.2.1[j].1:=List.pairwise_iff_getElem.1 H.txU k j hk hj h3;omega
 ·rintro(⟨h1,t,h2,rfl,h3⟩|⟨rfl,h2⟩)
  ·obtain⟨j,hj,rfl⟩:=List.getElem_of_mem h2
   have hne:k≠j:=fun he=>by subst he;exact h1 ht.symm
   refine⟨e.2.1[j],?_,rfl,h3⟩
   rw[List.mem_iff_getElem]
   exact⟨j,by simpa using hj,by rw[List.getElem_set,if_neg hne]⟩
  ·exact⟨t',List.mem_set hk _,rfl,h2⟩
theorem XL {k:Nat}(hk:k<e.2.1.length){t':TX}(ht:t'.1=e.2.1[k].1):GH (·.1) (e.2.1.set k t'):=
 WR hk H.txU (fun x h=>by show x.1<t'.1;rw[ht];exact h) (fun x h=>by show t'.1<x.1;rw[ht];exact h)
theorem OkG.ends {k:Nat}(hk:k<e.2.1.length){t':TX}(ht:t'.1=e.2.1[k].1){s':List (List VV)}{stamp':Int}(hs:Nh s')(hl:s'.foldl IW 0<=stamp')(hst:e.2.2.2.2<=stamp'/\stamp'<=999)(hx:∀m,Gt e.1 m->Gt s' m)
 (ok:M2 t'=true)(hbe:t'.2.2.2.1<=stamp')(hco:t'.2.2.2.2.2.2.1<=stamp')(hna:t'.2.2.1≠1):OkG (Ik (s',e.2.1,e.2.2.1,e.2.2.2.1,stamp') k t'):=by
 have hact:=Z3 H hk ht
 refine⟨hs,hl,hst.2,fun m hm=>H.lkA m ((List.mem_filter.1 hm).1),H.lkU.filter _,fun m hm=>H.wtA m ((List.mem_filter.1 hm).1),H.wtU.filter _,fun t h=>?_,XL H hk ht,by show(e.2.1.set k t').length<=6;simpa using H.len,fun m hm=>?_,fun m hm=>?_⟩
 ·rcases mem_set h with rfl|⟨j,hj,_,rfl⟩
  ·exact⟨ok,hbe,hco,fun h=>absurd h hna⟩
  ·obtain⟨h1,h2,h3,h4⟩:=H.txA _ (List.getElem_mem hj)
   exact⟨h1,Int.le_trans h2 hst.1,Int.le_trans h3 hst.1,fun h m hm=>hx m (h4 h m hm)⟩
 ·obtain⟨h1,h2⟩:=List.mem_filter.1 hm
  have h3:¬m.2.1=t'.1:=by simpa using h2
  exact(hact _).2 (.inl ⟨h3,H.lkO m h1⟩)
 ·obtain⟨h1,h2⟩:=List.mem_filter.1 hm
  have h3:¬m.1=t'.1/\¬m.2.1=t'.1:=by simpa using h2
  exact⟨(hact _).2 (.inl ⟨h3.1,(H.wtO m h1).1⟩),(hact _).2 (.inl ⟨h3.2,(H.wtO m h1).2⟩)⟩
theorem OkG.goes {k:Nat}(hk:k<e.2.1.length){t':TX}(ht:t'.1=e.2.1[k].1)(hact0:e.2.1[k].2.2.1=1)(hact1:t'.2.2.1=1)(ok:M2 t'=true)(hbe:t'.2.2.2.1<=e.2.2.2.2)(hco:t'.2.2.2.2.2.2.1<=e.2.2.2.2)(hx:∀m∈t'.2.2.2.2.2.2.2.1,Gt e.1 m)
 {lk:List VM}(hlA:∀m∈lk,inB m.1 0 5=true/\inB m.2.1 1 9=true)(hlU:GH (·.1) lk)(hlO:∀m∈lk,EB e.2.1 m.2.1=true):OkG (e.1,e.2.1.set k t',lk,e.2.2.2.1,e.2.2.2.2):=by
 have hact:=Z3 H hk ht
 have hk1:EB e.2.1 t'.1=true:=(J2 H.txU _).2 ⟨_,List.getElem_mem hk,ht.symm,hact0⟩
 have hall:∀id,EB e.2.1 id=true->EB (e.2.1.set k t') id=true:=fun id h=>(hact id).2 (by
  by_cases e1:id=t'.1
  ·exact .inr ⟨e1,hact1⟩
  ·exact .inl ⟨e1,h⟩)
 refine⟨H.st,H.last,H.stamp,hlA,hlU,H.wtA,H.wtU,fun t h=>?_,XL H hk ht,by show(e.2.1.set k t').length<=6;simpa using H.len,fun m hm=>hall _ (hlO m hm),fun m hm=>⟨hall _ (H.wtO m hm).1,hall _ (H.wtO m hm).2⟩⟩
 rcases mem_set h with rfl|⟨j,hj,_,rfl⟩
 ·exact⟨ok,hbe,hco,fun _=>hx⟩
 ·exact H.txA _ (List.getElem_mem hj)
theorem OkG.aborts {k:Nat}{t:TX}(hk:e.2.1[k]?=some t)(ha:t.2.2.1=1):OkG (Ik e k (EX t 3)):=by
 obtain⟨hk2,rfl⟩:∃h:k<e.2.1.length,e.2.1[k]=t:=List.getElem?_eq_some_iff.1 hk
 obtain⟨h1,h2,h3,h4⟩:=H.txA _ (List.getElem_mem hk2)
 refine OkG.ends H hk2 (t':=EX e.2.1[k] 3) rfl H.st H.last ⟨Int.le_refl _,H.stamp⟩ (fun m h=>h) ?_ h2 h3 (by show(3:Int)≠1;decide)
 rw[CF]at h1 ⊢
 obtain⟨a1,a2,a3,a4,a5,a6,a7,a8,a9,a10,a11⟩:=h1
 refine⟨a1,a2,a3,a4,a5,by show inB 3 1 3=true;decide,a7,a8,?_,a10,a11⟩
 show(3:Int)=2↔_
 rw[ha]at a9
 constructor
 ·intro h;omega
 ·intro h;have:=a9.2 h;omega
end
theorem L2 {a b:VM}:Gs a b=true↔C1 a b:=by unfold Gs;exact⟨KD,AH⟩
theorem pl {rd:List VM}(h:rd.Pairwise C1)(m:VM):∀x∈rd.dropWhile (fun x=>Gs x m),¬C1 x m:=by
 induction rd with
 |nil=>simp
 |cons a rd ih=>
  have hp:=List.pairwise_cons.1 h
  intro x hx
  rw[List.dropWhile_cons]at hx
  split at hx
  ·exact ih hp.2 x hx
  ·rename_i hn
   rw[L2]at hn
   rcases List.mem_cons.1 hx with rfl|hx
   ·exact hn
   ·intro hb;exact hn (I9 _ _ _ (hp.1 x hx) hb)
theorem Xs (a b:VM):C1 a b\/a=b\/C1 b a:=by
 obtain⟨a1,a2,a3⟩:=a;obtain⟨b1,b2,b3⟩:=b
 unfold C1
 simp only[Prod.mk.injEq,and_true]
 omega
theorem S7 {rd:List VM}{m x:VM}(hx:x∈JM rd m):x=m\/x∈rd:=by
 unfold JM at hx
 have hl:∀y,y∈(rd.takeWhile fun x=>Gs x m)\/y∈(rd.dropWhile fun x=>Gs x m)->y∈rd:=fun y hy=>by
  rw[<-List.mem_append,List.takeWhile_append_dropWhile]at hy;exact hy
 rw[List.mem_append,List.mem_cons]at hx
 rcases hx with hx|hx|hx
 ·exact .inr (hl x (.inl hx))
 ·exact .inl hx
 ·split at hx
  ·cases hx
  ·rename_i y r hd
   right
   apply hl;right;rw[hd]
   split at hx
   ·exact List.mem_cons_of_mem _ hx
   ·exact hx
theorem fm {rd:List VM}(h:rd.Pairwise C1)(m:VM):(JM rd m).Pairwise C1:=by
 have hd:=pl h m
 have hu:(rd.dropWhile fun x=>Gs x m).Pairwise C1:=h.sublist (List.dropWhile_sublist _)
 have ht:(rd.takeWhile fun x=>Gs x m).Pairwise C1:=h.sublist (List.takeWhile_sublist _)
 have htk:∀y∈(rd.takeWhile fun x=>Gs x m),C1 y m:=fun y hy=>by
  have h1:=List.all_takeWhile (l:=rd) (p:=fun x=>Gs x m)
  exact L2.1 (List.all_eq_true.1 h1 y hy)
 unfold JM
 have key:∀r:List VM,r.Pairwise C1->(∀x∈r,C1 m x)->((rd.takeWhile fun x=>Gs x m)++m::r).Pairwise C1:=by
  intro r hr h1
  refine List.pairwise_append.2 ⟨ht,List.pairwise_cons.2 ⟨h1,hr⟩,fun a ha b hb=>?_⟩
  have h2:=htk a ha
  rcases List.mem_cons.1 hb with rfl|hb
  ·exact h2
  ·exact I9 _ _ _ h2 (h1 b hb)
 cases hb:(rd.dropWhile fun x=>Gs x m)with
 |nil=>exact key [] .nil (by simp)
 |cons y r=>
  rw[hb]at hd hu
  have hyr:=List.pairwise_cons.1 hu
  have hy:=hd y (List.mem_cons_self)
  simp only
  by_cases e:y=m
  ·rw[if_pos e];exact key r hyr.2 fun x hx=>by rw[<-e];exact hyr.1 x hx
  ·rw[if_neg e]
   have h0:C1 m y:=by
    rcases Xs y m with h1|h1|h1
    ·exact absurd h1 hy
    ·exact absurd h1 e
    ·exact h1
   refine key _ hu fun x hx=>?_
   rcases List.mem_cons.1 hx with rfl|hx
   ·exact h0
   ·exact I9 _ _ _ h0 (hyr.1 x hx)
theorem ZF (rd:List VM)(m:VM):(JM rd m).length<=rd.length+1:=by
 have e:=congrArg List.length (List.takeWhile_append_dropWhile (p:=fun x=>Gs x m) (l:=rd))
 rw[List.length_append]at e
 unfold JM
 split
 ·rename_i h1;simp only[List.length_append,List.length_cons,List.length_nil];omega
 ·rename_i y r h1
  rw[h1]at e
  simp only[List.length_cons]at e
  split<;>simp only[List.length_append,List.length_cons]<;>omega
theorem PH {s:List (List VV)}{t:TX}{key:Int}{v:VV}(h:IL s t key=some v):∃l,s[key.toNat]?=some l/\v∈l:=by
 unfold IL at h
 obtain⟨l,h1,h2⟩:=Option.bind_eq_some_iff.1 h
 refine⟨l,h1,?_⟩
 simp only at h2
 cases hd:decide ((bif t.2.1==2 then vA l t.2.2.2.1 l.length else(l.length:Int)-1)<0)with
 |true=>rw[hd]at h2;cases h2
 |false=>
  rw[hd]at h2
  obtain⟨w,h3,h4⟩:=Option.bind_eq_some_iff.1 h2
  cases h5:(t.2.1==4&&decide (w.2.2.1>t.2.2.2.1))with
  |true=>rw[h5]at h4;cases h4
  |false=>
   rw[h5]at h4
   obtain rfl:=Option.some.inj h4
   exact List.mem_of_getElem? h3
section
variable {e:EG}(H:OkG e){k:Nat}{t:TX}(hk:e.2.1[k]?=some t)(ha:t.2.2.1=1)
include H
theorem OkG.wake (id:Int):OkG (e.1,e.2.1,e.2.2.1,wkW e.2.2.2.1 id,e.2.2.2.2):=
 ⟨H.st,H.last,H.stamp,H.lkA,H.lkU,fun m hm=>H.wtA m ((List.mem_filter.1 hm).1),H.wtU.filter _,H.txA,H.txU,H.len,H.lkO,fun m hm=>H.wtO m ((List.mem_filter.1 hm).1)⟩
include hk ha
theorem OkG.read {key:Int}(hkey:inB key 0 5=true):OkG (Fc e k key).2.2/\((Fc e k key).2.1=0->∃t',(Fc e k key).2.2.2.1[k]?=some t'/\t'.2.2.1=1/\t'.1=t.1)/\(Fc e k key).2.2.2.1.length=e.2.1.length:=by
 unfold Fc
 rw[hk]
 simp only
 cases hw:XK t key with
 |some x=>exact⟨H,fun _=>⟨t,hk,ha,rfl⟩,rfl⟩
 |none=>
  simp only
  cases hc:IL e.1 t key with
  |none=>exact⟨H.aborts hk ha,fun h=>by exact absurd h (by show ¬((3:Int)=0);decide),by show(e.2.1.set k _).length=_;simp⟩
  |some v=>
   simp only
   unfold Mh
   cases hl:(t.2.2.2.2.2.2.2.1.length==60)with
   |true=>exact⟨H,fun h=>by exact absurd h (by show ¬((6:Int)=0);decide),rfl⟩
   |false=>
    simp only[cond_false]
    obtain⟨hk2,rfl⟩:=List.getElem?_eq_some_iff.1 hk
    obtain⟨h1,h2,h3,h4⟩:=H.txA _ (List.getElem_mem hk2)
    obtain⟨l,q1,q2⟩:=PH hc
    have hlm:l∈e.1:=List.mem_of_getElem? q1
    have hv:=((J7 l).1 (H.st.2 l hlm).1).1 v q2
    rw[Ln]at hv
    obtain⟨v1,v2,v3,v4,v5⟩:=hv
    rw[Bc]at v2 v3 v4
    rw[CF]at h1
    obtain⟨a1,a2,a3,a4,a5,a6,a7,a8,a9,a10,a11⟩:=h1
    rw[Bc]at a7 a8
    refine⟨OkG.goes H hk2 (t':=XM e.2.1[k] (mx e.2.1[k].2.2.2.2.1 v.2.2.1) (mn e.2.1[k].2.2.2.2.2.1 v.2.2.2.2.1) (JM e.2.1[k].2.2.2.2.2.2.2.1 (key,v.2.2.1,()))) rfl ha ha ?_ h2 h3 (fun m hm=>?_) H.lkA H.lkU H.lkO,fun _=>⟨XM e.2.1[k] (mx e.2.1[k].2.2.2.2.1 v.2.2.1) (mn e.2.1[k].2.2.2.2.2.1 v.2.2.2.2.1) (JM e.2.1[k].2.2.2.2.2.2.2.1 (key,v.2.2.1,())),by rw[List.getElem?_set,if_pos rfl,if_pos hk2],ha,rfl⟩,by simp⟩
    ·rw[CF]
     rw[Mq]at a1
     refine⟨(Mq _).2 ⟨fun x hx=>?_,fm a1.2 _⟩,a2,a3,a4,a5,a6,?_,?_,a9,a10,?_⟩
     ·rcases S7 hx with rfl|hx
      ·exact⟨hkey,by rw[Bc];exact v2⟩
      ·exact a1.1 x hx
     ·rw[Bc];show 0<=mx _ _/\mx _ _<=999
      unfold mx;split<;>omega
     ·rw[Bc];show 1<=mn _ _/\mn _ _<=1000
      unfold mn;split<;>omega
     ·have:=ZF e.2.1[k].2.2.2.2.2.2.2.1 (key,v.2.2.1,())
      have h60:¬e.2.1[k].2.2.2.2.2.2.2.1.length=60:=by simpa using hl
      show(JM _ _).length<=60
      omega
    ·rcases S7 hm with rfl|hm
     ·rw[Vk];exact⟨l,q1,v,q2,rfl⟩
     ·exact h4 ha m hm
end
theorem OkG.scan {k:Nat}:∀(n:Nat) {key:Int} {out:List Int} {e:EG} {t:TX},OkG e->e.2.1[k]?=some t->t.2.2.1=1->0<=key->key+n<=6->OkG (DJ k n key out e).2.2
 |0,key,out,e,t,H,_,_,_,_=>H
 |n+1,key,out,e,t,H,hk,ha,h0,h1=>by
  obtain⟨g1,g2,g3⟩:=H.read hk ha (key:=key) (by rw[Bc];omega)
  unfold DJ
  simp only
  cases hc:((Fc e k key).2.1==0)with
  |false=>exact g1
  |true=>
   obtain⟨t',q1,q2,_⟩:=g2 (by simpa using hc)
   exact OkG.scan n g1 q1 q2 (by omega) (by omega)
section
variable {e:EG}(H:OkG e){k:Nat}{t:TX}(hk:e.2.1[k]?=some t)(ha:t.2.2.1=1)
include H hk ha
theorem OkG.getV {key:Int}(hkey:inB key 0 5=true):∃l v,e.1[key.toNat]?=some l/\l∈e.1/\DM e.1 key=some v/\v∈l/\okV v=true:=by
 rw[Bc]at hkey
 have h6:=H.st.1
 have hlt:key.toNat<e.1.length:=by omega
 have hl:e.1[key.toNat]∈e.1:=List.getElem_mem hlt
 have hok:=(J7 _).1 (H.st.2 _ hl).1
 obtain⟨w,h1,h2⟩:=hok.2.2
 refine⟨e.1[key.toNat],w,List.getElem?_eq_getElem hlt,hl,?_,List.mem_of_getLast? h1,hok.1 w (List.mem_of_getLast? h1)⟩
 unfold DM
 rw[List.getElem?_eq_getElem hlt]
 simpa[List.getLast?_eq_getElem?]using h1
theorem OkG.write {key val:Int}(hkey:inB key 0 5=true)(hval:inB val (-1) 99=true):OkG (L8 e k key val).2:=by
 unfold L8
 rw[hk]
 simp only
 have hk1:EB e.2.1 t.1=true:=(J2 H.txU _).2 ⟨_,List.mem_of_getElem? hk,rfl,ha⟩
 cases hc:(Fd e.1 e.2.2.1 t key==1)with
 |true=>
  simp only[cond_true]
  cases hd:PG e.2.2.2.1 t.1 (Cq e.2.2.1 key)with
  |true=>exact H.aborts hk ha
  |false=>
   simp only[cond_false]
   have hf:∃m∈e.2.2.1,m.2.1=Cq e.2.2.1 key/\m.2.1≠t.1:=by
    have h1:Fd e.1 e.2.2.1 t key=1:=by simpa using hc
    unfold Fd at h1
    simp only at h1
    have h2:(!(Cq e.2.2.1 key==0)&&!(Cq e.2.2.1 key==t.1))=true:=by
     cases hx:(!(Cq e.2.2.1 key==0)&&!(Cq e.2.2.1 key==t.1))with
     |true=>rfl
     |false=>
      rw[hx]at h1
      simp only[Bool.and_false,cond_false,Bool.false_or]at h1
      exfalso
      revert h1
      cases(t.2.1==2&&decide (crV (DM e.1 key)>t.2.2.2.1))<;>cases(t.2.1==4&&decide (KL (DM e.1 key)>t.2.2.2.1))<;>simp
    simp only[Bool.and_eq_true,Bool.not_eq_true',beq_eq_false_iff_ne]at h2
    unfold Cq at h2 ⊢
    cases hfd:e.2.2.1.find? (fun m=>m.1==key)with
    |none=>rw[hfd]at h2;exact absurd rfl h2.1
    |some m=>rw[hfd]at h2;exact⟨m,List.mem_of_find?_eq_some hfd,rfl,h2.2⟩
   obtain⟨m,hm,hme,hne⟩:=hf
   have hmb:=H.lkA m hm
   have hma:=H.lkO m hm
   have htok:=(CF _).1 (H.txA t (List.mem_of_getElem? hk)).1
   refine⟨H.st,H.last,H.stamp,H.lkA,H.lkU,fun x hx=>?_,KN H.wtU _,H.txA,H.txU,H.len,H.lkO,fun x hx=>?_⟩
   ·rcases(GQ H.wtU).1 hx with rfl|⟨hx,_⟩
    ·exact⟨htok.2.2.1,by rw[<-hme];exact hmb.2,by show t.1≠Cq _ _;rw[<-hme];exact Ne.symm hne⟩
    ·exact H.wtA x hx
   ·rcases(GQ H.wtU).1 hx with rfl|⟨hx,_⟩
    ·exact⟨hk1,by rw[<-hme];exact hma⟩
    ·exact H.wtO x hx
 |false=>
  simp only[cond_false]
  cases hc0:(Fd e.1 e.2.2.1 t key==0)with
  |false=>exact H.aborts hk ha
  |true=>
   simp only[cond_true]
   obtain⟨l,v,q1,q2,q3,q4,q5⟩:=H.getV hk ha hkey
   obtain⟨hk2,rfl⟩:∃h:k<e.2.1.length,e.2.1[k]=t:=List.getElem?_eq_some_iff.1 hk
   obtain⟨h1,h2,h3,h4⟩:=H.txA _ (List.getElem_mem hk2)
   rw[CF]at h1
   obtain⟨a1,a2,a3,a4,a5,a6,a7,a8,a9,a10,a11⟩:=h1
   rw[Ln]at q5
   obtain⟨v1,v2,v3,v4,v5⟩:=q5
   rw[Bc]at v2 v3 a7
   have hrd:KL (DM e.1 key)=v.2.2.2.1:=by rw[q3];rfl
   have htx:M2 (Nu e.2.1[k] (mx e.2.1[k].2.2.2.2.1 (KL (DM e.1 key))) (Ce (·.1) e.2.1[k].2.2.2.2.2.2.2.2.1 (key,val,())))=true:=by
    rw[CF]
    rw[JO]at a2
    refine⟨a1,(JO _).2 ⟨fun x hx=>?_,KN a2.2 _⟩,a3,a4,a5,a6,?_,a8,a9,a10,a11⟩
    ·rcases(GQ a2.2).1 hx with rfl|⟨hx,_⟩
     ·exact⟨hkey,hval⟩
     ·exact a2.1 x hx
    ·rw[Bc];show 0<=mx _ _/\mx _ _<=999
     rw[hrd];unfold mx;split<;>omega
   refine OkG.goes H hk2 (t':=Nu e.2.1[k] (mx e.2.1[k].2.2.2.2.1 (KL (DM e.1 key))) (Ce (·.1) e.2.1[k].2.2.2.2.2.2.2.2.1 (key,val,()))) rfl ha ha htx h2 h3 (h4 ha) (fun m hm=>?_) ?_ (fun m hm=>?_)
   ·cases hb:(e.2.1[k].2.1==1||e.2.1[k].2.1==2)with
    |false=>rw[hb]at hm;exact H.lkA m hm
    |true=>
     rw[hb]at hm
     rcases(GQ H.lkU).1 hm with rfl|⟨hm,_⟩
     ·exact⟨hkey,a3⟩
     ·exact H.lkA m hm
   ·cases hb:(e.2.1[k].2.1==1||e.2.1[k].2.1==2)with
    |false=>exact H.lkU
    |true=>exact KN H.lkU _
   ·cases hb:(e.2.1[k].2.1==1||e.2.1[k].2.1==2)with
    |false=>rw[hb]at hm;exact H.lkO m hm
    |true=>
     rw[hb]at hm
     rcases(GQ H.lkU).1 hm with rfl|⟨hm,_⟩
     ·exact hk1
     ·exact H.lkO m hm
theorem Vg {α:Type}(f:α->Int)(n:Int):∀(l:List α) (a:Int),a<=n->(∀x∈l,f x<=n)->l.foldl (fun n x=>mx n (f x)) a<=n:=by
 clear H hk ha
 intro l
 induction l with
 |nil=>intro a h _;exact h
 |cons x l ih=>intro a h h2;exact ih _ (g6.2 ⟨h,h2 x List.mem_cons_self⟩) fun y hy=>h2 y (List.mem_cons_of_mem _ hy)
theorem Sm {α:Type}(f:α->Int):∀(l:List α) (a:Int),a<=l.foldl (fun n x=>mx n (f x)) a:=by
 clear H hk ha
 intro l
 induction l with
 |nil=>intro a;exact Int.le_refl _
 |cons x l ih=>intro a;refine Int.le_trans ?_ (ih _);show a<=mx a (f x);unfold mx;split<;>omega
theorem OkG.rl:0<=rlP e.1 t/\rlP e.1 t<=999:=by
 have htok:=(CF _).1 (H.txA t (List.mem_of_getElem? hk)).1
 have hr:=((Mq _).1 htok.1).1
 have hw:=((JO _).1 htok.2.1).1
 unfold rlP
 refine⟨Int.le_trans (Sm H hk ha (fun m:VM=>m.2.1) _ 0) (Sm H hk ha (fun m:VM=>KL (DM e.1 m.1)) _ _),Vg H hk ha _ _ _ _ (Vg H hk ha _ _ _ _ (by decide) fun x hx=>(Bc.1 (hr x hx).2).2) fun x hx=>?_⟩
 obtain⟨l,v,q1,q2,q3,q4,q5⟩:=H.getV hk ha (hw x hx).1
 rw[q3]
 rw[Ln]at q5
 have:=Bc.1 q5.2.2.1
 exact this.2
theorem OkG.sucB {m:VM}(hx:Gt e.1 m):1<=Ns e.1 m/\Ns e.1 m<=1000:=by
 obtain⟨l,j,h1,h2⟩:=hx
 unfold Ns
 rw[h1]
 have hl:l∈e.1:=List.mem_of_getElem? h1
 have hok:=((J7 l).1 (H.st.2 l hl).1).1
 simp only[h2]
 have hj:=Q2 h2
 rw[List.getElem?_eq_getElem hj]
 exact Bc.1 ((Ln _).1 (hok _ (List.getElem_mem hj))).2.2.2.1
theorem OkG.rh:1<=rfH e.1 t.2.2.2.2.2.2.2.1:=by
 have htok:=(CF _).1 (H.txA t (List.mem_of_getElem? hk)).1
 have hr:=((Mq _).1 htok.1).1
 unfold rfH
 have hex:=(H.txA t (List.mem_of_getElem? hk)).2.2.2 ha
 have key:∀(l:List VM) (a:Int),(∀x∈l,Gt e.1 x)->1<=a->1<=l.foldl (fun n m=>mn n (Ns e.1 m)) a:=by
  intro l
  induction l with
  |nil=>intro a _ h;exact h
  |cons x l ih=>intro a h1 h2;exact ih _ (fun y hy=>h1 y (List.mem_cons_of_mem _ hy)) (gf.2 ⟨h2,(H.sucB hk ha (h1 x List.mem_cons_self)).1⟩)
 exact key _ _ hex (by decide)
theorem OkG.commit (ce:Bool):OkG (GU ce e k).2:=by
 unfold GU
 rw[hk]
 simp only
 cases hc:(Ly e.1 t==0)with
 |false=>exact H.aborts hk ha
 |true=>
  simp only[Bool.not_true,cond_false]
  cases hs:(e.2.2.2.2==999)with
  |true=>exact H
  |false=>
   simp only[cond_false]
   cases hf:((ce&&decide (loP e.1 t>=hiP e.1 t (e.2.2.2.2+1)))||Mz e.1 t)with
   |true=>exact H.aborts hk ha
   |false=>
    simp only[cond_false]
    have hst0:=H.stamp0
    have hst1:=H.stamp
    have hst2:¬e.2.2.2.2=999:=by simpa using hs
    have hrl:=H.rl hk ha
    have hrh:=H.rh hk ha
    have hfull:Mz e.1 t=false:=(Bool.or_eq_false_iff.1 hf).2
    obtain⟨hk2,rfl⟩:∃h:k<e.2.1.length,e.2.1[k]=t:=List.getElem?_eq_some_iff.1 hk
    obtain⟨h1,h2,h3,h4⟩:=H.txA _ (List.getElem_mem hk2)
    rw[CF]at h1
    obtain⟨a1,a2,a3,a4,a5,a6,a7,a8,a9,a10,a11⟩:=h1
    rw[Bc]at a7 a8
    have hlo:0<=loP e.1 e.2.1[k]/\loP e.1 e.2.1[k]<=999:=by unfold loP mx;split<;>omega
    have hhi:1<=hiP e.1 e.2.1[k] (e.2.2.2.2+1)/\hiP e.1 e.2.1[k] (e.2.2.2.2+1)<=e.2.2.2.2+1:=by
     unfold hiP
     exact⟨gf.2 ⟨gf.2 ⟨a8.1,hrh⟩,by omega⟩,by unfold mn;split<;>omega⟩
    have hwr:=(JO _).1 a2
    obtain⟨g1,g2⟩:=gu (n:=e.2.2.2.2) (st:=e.2.2.2.2+1) (by omega) (by omega) e.2.1[k].2.2.2.2.2.2.2.1 H.gd
    have g3:GdS (OH e.1 e.2.1[k] (e.2.2.2.2+1) (hiP e.1 e.2.1[k] (e.2.2.2.2+1))) (e.2.2.2.2+1):=by
     refine gt (by omega) hhi a3 _ g1 (fun m hm=>⟨(Bc.1 (hwr.1 m hm).1).1,(hwr.1 m hm).2⟩) hwr.2 (fun m hm l hl=>?_)
     have h5:=g2 m
     rw[hl]at h5
     cases hr:I8 e.1 m with
     |none=>rw[hr]at h5;cases h5
     |some r=>
      rw[hr]at h5
      simp only[Option.map_some,Option.some.injEq]at h5
      have hrm:r∈e.1:=List.mem_of_getElem? hr
      have hlen:l.length=r.length:=by simpa using congrArg List.length h5
      refine⟨?_,fun v hv=>?_⟩
      ·have h6:=List.any_eq_false.1 hfull m hm
       have hr':e.1[m.1.toNat]?=some r:=hr
       rw[hr']at h6
       have:¬r.length>=50:=by simpa using h6
       omega
      ·have:v.2.2.1∈r.map fun v=>v.2.2.1:=by rw[<-h5];exact List.mem_map_of_mem hv
       obtain⟨w,hw1,hw2⟩:=List.mem_map.1 this
       have h7:=Xb (((J7 r).1 (H.st.2 r hrm).1).1 w hw1)
       have h8:=H.gd.rd r hrm w hw1
       omega
    obtain⟨g4,g5⟩:=g3.last (by omega)
    refine OkG.ends H hk2 (t':=LF e.2.1[k] _ _ _) rfl g4 g5 ⟨by omega,by omega⟩ (fun m hm=>ah hm) ?_ (by show e.2.1[k].2.2.2.1<=_;omega) (by show e.2.2.2.2+1<=_;omega) (by show(2:Int)≠1;decide)
    rw[CF]
    refine⟨a1,a2,a3,a4,a5,by show inB 2 1 3=true;decide,by rw[Bc];exact hlo,by rw[Bc];exact⟨hhi.1,Int.le_trans hhi.2 (by omega)⟩,?_,by rw[Bc];show 0<=e.2.2.2.2+1/\e.2.2.2.2+1<=999;omega,a11⟩
    show(2:Int)=2↔e.2.2.2.2+1>0
    exact⟨fun _=>by omega,fun _=>rfl⟩
end
theorem OkG.begin {e:EG}(H:OkG e){id sc:Int}(hid:inB id 1 9=true)(hsc:inB sc 1 4=true):OkG (JW e id sc).2:=by
 unfold JW
 cases hc:((e.2.1.any fun t=>t.1==id)||e.2.1.length==6)with
 |true=>exact H
 |false=>
  simp only[cond_false]
  obtain⟨h1,h2⟩:=Bool.or_eq_false_iff.1 hc
  have hno:∀t∈e.2.1,t.1≠id:=fun t ht=>by simpa using List.any_eq_false.1 h1 t ht
  have hlen:¬e.2.1.length=6:=by simpa using h2
  have hst0:=H.stamp0
  have hst1:=H.stamp
  have hu:=KN H.txU (LG id sc e.2.2.2.2)
  have hmem:∀t,t∈Ce (·.1) e.2.1 (LG id sc e.2.2.2.2)↔t=LG id sc e.2.2.2.2\/t∈e.2.1:=fun t=>by
   rw[GQ H.txU]
   exact⟨fun h=>h.imp (fun h=>h) (·.1),fun h=>h.imp (fun h=>h) fun h=>⟨h,hno t h⟩⟩
  have hact:∀id',EB e.2.1 id'=true->EB (Ce (·.1) e.2.1 (LG id sc e.2.2.2.2)) id'=true:=fun id' h=>by
   rw[J2 H.txU]at h
   obtain⟨t,q1,q2,q3⟩:=h
   exact(J2 hu _).2 ⟨t,(hmem t).2 (.inr q1),q2,q3⟩
  refine⟨H.st,H.last,H.stamp,H.lkA,H.lkU,H.wtA,H.wtU,fun t ht=>?_,hu,?_,fun m hm=>hact _ (H.lkO m hm),fun m hm=>⟨hact _ (H.wtO m hm).1,hact _ (H.wtO m hm).2⟩⟩
  ·rcases(hmem t).1 ht with rfl|ht
   ·refine⟨?_,Int.le_refl _,hst0,fun _ m hm=>by cases hm⟩
    rw[CF]
    refine⟨fun i hi=>absurd hi (Nat.not_lt_zero _),fun i hi=>absurd hi (Nat.not_lt_zero _),hid,hsc,by rw[Bc];exact⟨hst0,hst1⟩,by show inB 1 1 3=true;decide,by show inB 0 0 999=true;decide,by show inB 1000 1 1000=true;decide,?_,by show inB 0 0 999=true;decide,Nat.zero_le _⟩
    show(1:Int)=2↔(0:Int)>0
    omega
   ·exact H.txA t ht
  ·have:=Pb (f:=(·.1)) e.2.1 (LG id sc e.2.2.2.2)
   have:=H.len
   show(Ce _ _ _).length<=6
   omega
theorem OkG.step {e:EG}(H:OkG e)(ce:Bool){o:OPt}(ho:Lo o=true):OkG (JX ce e o).2.2:=by
 unfold Lo at ho
 simp only[Bool.and_eq_true]at ho
 obtain⟨⟨⟨⟨⟨o1,o2⟩,o3⟩,o4⟩,o5⟩,o6⟩:=ho
 unfold JX
 cases hb:(o.1==1)with
 |true=>
  rw[hb]at o3
  exact H.begin o2 o3
 |false=>
  simp only[cond_false]
  cases hk:e.2.1.findIdx? (fun t=>t.1==o.2.1)with
  |none=>exact H
  |some k=>
   simp only
   cases hact:EB e.2.1 o.2.1 with
   |false=>exact H
   |true=>
    simp only[cond_true]
    obtain⟨hk2,hk3,_⟩:=List.findIdx?_eq_some_iff_getElem.1 hk
    have ht:e.2.1[k]?=some e.2.1[k]:=List.getElem?_eq_getElem hk2
    have ha:e.2.1[k].2.2.1=1:=by
     unfold EB at hact
     rw[hk]at hact
     simp only[ht]at hact
     simpa using hact
    have HW:=H.wake o.2.1
    cases h2:(o.1==2)with
    |true=>
     rw[h2]at o4
     simp only[Bool.true_or,cond_true]at o4 ⊢
     rw[Bc]at o4
     exact OkG.scan 1 HW ht ha (by omega) (by omega)
    |false=>
     simp only[cond_false]
     cases h4:(o.1==4)with
     |true=>
      rw[h4]at o4 o5
      simp only[Bool.or_true,cond_true]at o4 o5 ⊢
      rw[Bc]at o4 o5
      exact OkG.scan _ HW ht ha (by omega) (by omega)
     |false=>
      simp only[cond_false]
      cases h3:(o.1==3)with
      |true=>
       rw[h3]at o4 o6
       simp only[Bool.or_true,Bool.true_or,cond_true]at o4 o6 ⊢
       exact HW.write ht ha o4 o6
      |false=>
       simp only[cond_false]
       cases h5:(o.1==5)with
       |true=>exact HW.commit ht ha ce
       |false=>
        simp only[cond_false,ht]
        exact HW.aborts ht ha
end Go.Ab
end
section
namespace Go.Ab
theorem KZ {i j:Nat}(h:i+j<4611686018427387904):IntKind.wrap IntKind.i64 (Int.fdiv (IntKind.wrap IntKind.u64 (IntKind.wrap IntKind.i64 ((i:Int)+(j:Int)))) (2 ^ min (Int.toNat 1) (IntKind.bits IntKind.u64)))=(((i+j) / 2:Nat):Int):=by
 have h1:IntKind.wrap IntKind.i64 ((i:Int)+(j:Int))=(i:Int)+(j:Int):=by rw[IntKind.wrap_i64];omega
 have h2:IntKind.wrap IntKind.u64 ((i:Int)+(j:Int))=(i:Int)+(j:Int):=by
  have e:((i:Int)+(j:Int)) % 18446744073709551616=(i:Int)+(j:Int):=by omega
  show IntKind.wrap IntKind.u64 _=_
  unfold IntKind.wrap
  simp[IntKind.bits,IntKind.signed,e]
 rw[h1,h2]
 have h3:(2:Int) ^ min (Int.toNat 1) (IntKind.bits IntKind.u64)=2:=by decide
 rw[h3]
 have h4:Int.fdiv ((i:Int)+(j:Int)) 2=(((i+j) / 2:Nat):Int):=by
  rw[Int.fdiv_eq_ediv_of_nonneg _ (by omega)]
  omega
 rw[h4,IntKind.wrap_i64];omega
theorem OS {n:Nat}{B:Int×Int×Unit->Option ((Int×Int×Unit) ⊕ (Int×Unit))}{p:Nat->Bool}(mono:∀i j,i<=j->j<n->p j=true->p i=true)
 (hB:∀i j:Nat,i<j->j<=n->B ((i:Int),(j:Int),())=some (.inl (if p ((i+j) / 2)=true then((((i+j) / 2+1:Nat):Int),(j:Int),())else((i:Int),(((i+j) / 2:Nat):Int),()))))
 (hE:∀i:Nat,i<=n->B ((i:Int),(i:Int),())=some (.inr ((i:Int),()))):
 ∃c:Nat,c<=n/\AC B (0,(n:Int),())=some ((c:Int),())/\(∀k,k<c->p k=true)/\(∀k,c<=k->k<n->p k=false):=by
 have key:∀m i j:Nat,j-i=m->i<=j->j<=n->(∀k,k<i->p k=true)->(∀k,j<=k->k<n->p k=false)->∃c:Nat,c<=n/\AC B ((i:Int),(j:Int),())=some ((c:Int),())/\(∀k,k<c->p k=true)/\(∀k,c<=k->k<n->p k=false):=by
  intro m
  induction m using Nat.strongRecOn with
  |_ m ih=>
   intro i j hm hij hj h1 h2
   by_cases e:i=j
   ·subst e
    refine⟨i,hj,?_,h1,h2⟩
    rw[AZ,hE i hj];rfl
   ·have hlt:i<j:=by omega
    have hs:=hB i j hlt hj
    cases hp:p ((i+j) / 2)with
    |true=>
     rw[hp,if_pos rfl]at hs
     obtain⟨c,g1,g2,g3⟩:=ih (j-((i+j) / 2+1)) (by omega) ((i+j) / 2+1) j rfl (by omega) hj (fun k hk=>mono k ((i+j) / 2) (by omega) (by omega) hp) h2
     refine⟨c,g1,?_,g3⟩
     rw[AZ,hs];exact g2
    |false=>
     rw[hp,if_neg (by decide)]at hs
     obtain⟨c,g1,g2,g3⟩:=ih ((i+j) / 2-i) (by omega) i ((i+j) / 2) rfl (by omega) (by omega) h1 (fun k hk hkn=>by
      cases hq:p k with
      |false=>rfl
      |true=>rw[mono ((i+j) / 2) k hk hkn hq]at hp;cases hp)
     refine⟨c,g1,?_,g3⟩
     rw[AZ,hs];exact g2
 exact key n 0 n rfl (Nat.zero_le _) (Nat.le_refl _) (fun k hk=>absurd hk (Nat.not_lt_zero _)) (fun k hk hkn=>by omega)
theorem P5 {α:Type}{l:List α}{p:α->Bool}{c:Nat}(hc:c<=l.length)(h1:∀k (hk:k<l.length),k<c->p l[k]=true)(h2:∀k (hk:k<l.length),c<=k->p l[k]=false):l.take c=l.takeWhile p/\l.drop c=l.dropWhile p:=by
 induction l generalizing c with
 |nil=>simp
 |cons a l ih=>
  cases c with
  |zero=>
   have:=h2 0 (by simp) (Nat.le_refl _)
   simp only[List.getElem_cons_zero]at this
   simp[List.takeWhile_cons,List.dropWhile_cons,this]
  |succ c=>
   have h0:=h1 0 (by simp) (Nat.succ_pos _)
   simp only[List.getElem_cons_zero]at h0
   obtain⟨g1,g2⟩:=ih (c:=c) (by simpa using hc) (fun k hk hkc=>by have:=h1 (k+1) (by simpa using hk) (by omega);rwa [List.getElem_cons_succ]at this) (fun k hk hkc=>by have:=h2 (k+1) (by simpa using hk) (by omega);rwa [List.getElem_cons_succ]at this)
   simp[List.takeWhile_cons,List.dropWhile_cons,h0,g1,g2]
end Go.Ab
end
section
namespace Go.Ab
theorem QU {α:Type}{l:List α}{q:α->Bool}{B:Int×Int×List α×Unit->Option ((Int×Int×List α×Unit) ⊕ (Int×List α×Unit))}
 (hB:∀(i j:Nat) (xs:List α) (hi:i<j) (hj:j<l.length) (h:xs.length=l.length),B ((i:Int),(j:Int),xs,())=some (.inl (if q (xs[j]'(by omega))=true then((i:Int),((j+1:Nat):Int),xs,())else(((i+1:Nat):Int),((j+1:Nat):Int),xs.set i (xs[j]'(by omega)),()))))
 (hE:∀(i:Nat) (xs:List α),xs.length=l.length->i<=l.length->B ((i:Int),((l.length:Nat):Int),xs,())=some (.inr ((i:Int),xs,())))
 {i0:Nat}(h0:i0<l.length)(hq:q l[i0]=true)(hlt:∀k (hk:k<i0),q (l[k]'(by omega))=false):
 ∃(i:Nat) (xs:List α),AC B ((i0:Int),((i0+1:Nat):Int),l,())=some ((i:Int),xs,())/\i<=xs.length/\xs.length=l.length/\xs.take i=l.filter fun x=>!q x:=by
 have key:∀m (i j:Nat) (xs:List α),l.length-j=m->i<j->j<=l.length->xs.length=l.length->xs.take i=(l.take j).filter (fun x=>!q x)->xs.drop j=l.drop j->
  ∃(i':Nat) (xs':List α),AC B ((i:Int),(j:Int),xs,())=some ((i':Int),xs',())/\i'<=xs'.length/\xs'.length=l.length/\xs'.take i'=l.filter fun x=>!q x:=by
  intro m
  induction m with
  |zero=>
   intro i j xs hm hij hj hl h1 h2
   obtain rfl:j=l.length:=by omega
   refine⟨i,xs,?_,by omega,hl,by rw[h1,List.take_length]⟩
   rw[AZ,hE i xs hl (by omega)];rfl
  |succ m ih=>
   intro i j xs hm hij hj hl h1 h2
   have hjl:j<l.length:=by omega
   have e:xs[j]'(by omega)=l[j]:=by
    have h3:(xs.drop j)[0]?=(l.drop j)[0]?:=by rw[h2]
    rw[List.getElem?_drop,List.getElem?_drop,Nat.add_zero,List.getElem?_eq_getElem (by omega),List.getElem?_eq_getElem hjl]at h3
    exact Option.some.inj h3
   have hs:=hB i j xs hij hjl hl
   have hf:(l.take (j+1)).filter (fun x=>!q x)=(l.take j).filter (fun x=>!q x)++(if q l[j]=true then[]else[l[j]]):=by
    rw[List.take_succ_eq_append_getElem hjl,List.filter_append]
    congr 1
    cases hqq:q l[j]<;>simp[hqq]
   have hd:xs.drop (j+1)=l.drop (j+1):=by have h3:=congrArg (List.drop 1) h2;simpa[List.drop_drop,Nat.add_comm]using h3
   cases hqj:q l[j]with
   |true=>
    rw[e,hqj,if_pos rfl]at hs
    obtain⟨i',xs',g1,g2⟩:=ih i (j+1) xs (by omega) (by omega) (by omega) hl (by rw[hf,hqj,if_pos rfl,List.append_nil];exact h1) hd
    refine⟨i',xs',?_,g2⟩
    rw[AZ,hs];exact g1
   |false=>
    rw[e,hqj,if_neg (by decide)]at hs
    obtain⟨i',xs',g1,g2⟩:=ih (i+1) (j+1) (xs.set i l[j]) (by omega) (by omega) (by omega) (by simpa using hl) (by
     rw[hf,hqj,if_neg (by decide),<-h1]
     rw[List.take_succ_eq_append_getElem (by simp;omega),List.getElem_set_self,List.take_set_of_le (by omega)]) (by rw[List.drop_set_of_lt (by omega)];exact hd)
    refine⟨i',xs',?_,g2⟩
    rw[AZ,hs];exact g1
 refine key _ i0 (i0+1) l rfl (by omega) (by omega) rfl ?_ rfl
 rw[List.take_succ_eq_append_getElem h0,List.filter_append]
 have h5:[l[i0]].filter (fun x=>!q x)=[]:=by simp[hq]
 rw[h5,List.append_nil]
 symm
 rw[List.filter_eq_self]
 intro x hx
 obtain⟨k,hk,rfl⟩:=List.getElem_of_mem hx
 rw[List.length_take]at hk
 rw[List.getElem_take]
 simp[hlt k (by omega)]
theorem Tu {α:Type}{z:α}{i:Nat}{xs:List α}(hi:i<=xs.length){τ:Type}(f:List α->Option τ):
 (if(0:Int)<=((i:Nat):Int)/\((i:Nat):Int)<=((xs.length:Nat):Int)/\((xs.length:Nat):Int)<=((xs.length:Nat):Int)then
   (if(0:Int)<=0/\(0:Int)<=((i:Nat):Int)/\((i:Nat):Int)<=(((List.take (0+Int.toNat ((i:Nat):Int)) xs++List.replicate (Int.toNat ((xs.length:Nat):Int)-Int.toNat ((i:Nat):Int)) z++List.drop (0+Int.toNat ((i:Nat):Int)+(Int.toNat ((xs.length:Nat):Int)-Int.toNat ((i:Nat):Int))) xs).length:Nat):Int)then
     f (List.take (Int.toNat ((i:Nat):Int)-Int.toNat 0) (List.take (0+Int.toNat ((i:Nat):Int)) xs++List.replicate (Int.toNat ((xs.length:Nat):Int)-Int.toNat ((i:Nat):Int)) z++List.drop (0+Int.toNat ((i:Nat):Int)+(Int.toNat ((xs.length:Nat):Int)-Int.toNat ((i:Nat):Int))) xs))else none)else none)=f (xs.take i):=by
 have e:(List.take i xs++List.replicate (xs.length-i) z++List.drop (i+(xs.length-i)) xs).take i=xs.take i:=by
  rw[List.append_assoc,List.take_append_of_le_length (by simp;omega),List.take_take,Nat.min_self]
 rw[if_pos (by omega),if_pos (by simp;omega)]
 simp only[Int.toNat_natCast,Nat.zero_add,Int.toNat_zero,Nat.sub_zero,e]
theorem Hq {α:Type}{l:List α}{k:Nat}(hk:k<l.length)(a:α):(l.set k a)[k]?=some a:=by rw[List.getElem?_set,if_pos rfl,if_pos hk]
theorem IR {α:Type}(l:List α)(k:Nat)(a b:α):(l.set k a).set k b=l.set k b:=by simp
end Go.Ab
end
section
namespace Go.Ab
def G7 {α:Type}(q:α->Bool):List α->Bool|[]=>false|x::_=>q x
theorem Ve (o:Option Nat):decide (fx o>=0)=o.isSome:=by
 cases o with
 |none=>rfl
 |some i=>simp[fx]
theorem gz (o:Option Nat):decide (fx o<0)=o.isNone:=by
 cases o with
 |none=>rfl
 |some i=>exact decide_eq_false (by simp[fx])
theorem Tn {α:Type}(p:α->Bool)(l out:List α):l.foldl (fun s x=>bif p x then s++[x]else s) out=out++l.filter p:=by
 induction l generalizing out with
 |nil=>simp
 |cons a l ih=>
  rw[List.foldl_cons,ih,List.filter_cons]
  cases p a<;>simp
theorem MB {α:Type}{l:List α}{p:α->Bool}(hn:l.length<=1048576){B:Int×List α×Unit->Option ((Int×List α×Unit) ⊕ (List α×Unit))}
 (hB:∀i (h:i<l.length) out,out.length<=i->B ((i:Int),out,())=some (.inl (((i+1:Nat):Int),bif p l[i]then out++[l[i]]else out,())))(hend:∀out,B ((l.length:Int),out,())=some (.inr (out,()))):
 AC B (0,[],())=some (l.filter p,()):=by
 have:=ZX (B:=B) (l:=l) (st:=fun s i=>((i:Int),s,())) (f:=fun s x=>bif p x then s++[x]else s) (J:=fun i s=>s.length<=i) (s0:=[]) (by simp)
  (fun i h s hs=>⟨hB i h s hs,by cases p l[i]<;>simp<;>omega⟩) (r:=fun s=>(s,())) (fun s _=>hend s) (t0:=(0,[],())) rfl
 rw[this,Tn];rfl
theorem WV {l:List VM}(hl:l.length<=1048576)(id:Int):HY (l,id,())=some (wkW l id,()):=by
 unfold HY
 rw[MB (p:=fun m:VM=>!(m.1==id)) hl]
 ·rfl
 ·intro i hi out ho
  have h1:out.length+1<=2199023255552:=by omega
  simp only[EL,Al hi,Option.bind_some,An hi (by omega:l.length<9223372036854775808),List.length_append,List.length_cons,List.length_nil,h1,if_true,decide_eq_true (by omega:(i:Int)<(l.length:Int)),cond_true,bne]
  cases l[i].1==id<;>rfl
 ·intro out
  simp[EL]
theorem Nv {l:List VM}(hl:l.length<=1048576)(id:Int):DL (l,id,())=some (Uc l id,()):=by
 unfold DL
 rw[MB (p:=fun m:VM=>!(m.2.1==id)) hl]
 ·rfl
 ·intro i hi out ho
  have h1:out.length+1<=2199023255552:=by omega
  simp only[CB,Al hi,Option.bind_some,An hi (by omega:l.length<9223372036854775808),List.length_append,List.length_cons,List.length_nil,h1,if_true,decide_eq_true (by omega:(i:Int)<(l.length:Int)),cond_true,bne]
  cases l[i].2.1==id<;>rfl
 ·intro out
  simp[CB]
theorem Px {l:List VM}(hl:l.length<=1048576)(id:Int):EU (l,id,())=some (Vn l id,()):=by
 unfold EU
 rw[MB (p:=fun m:VM=>!(m.1==id)&&!(m.2.1==id)) hl]
 ·rfl
 ·intro i hi out ho
  have h1:out.length+1<=2199023255552:=by omega
  simp only[Di,Al hi,Option.bind_some,An hi (by omega:l.length<9223372036854775808),List.length_append,List.length_cons,List.length_nil,h1,if_true,decide_eq_true (by omega:(i:Int)<(l.length:Int)),cond_true,bne]
  cases l[i].1==id<;>cases l[i].2.1==id<;>rfl
 ·intro out
  simp[Di]
theorem HA {e:EG}{k:Nat}(hk:k<e.2.1.length)(hl:e.2.2.1.length<=1048576)(hw:e.2.2.2.1.length<=1048576)(ce:Bool)(ha:e.2.1[k].2.2.1=1):
 Bd ((k:Int),ce,e.2.2.2.2,e.1,e.2.1,e.2.2.1,e.2.2.2.1,())=some (ce,e.2.2.2.2,e.1,e.2.1.set k (EX e.2.1[k] 3),e.2.2.1,e.2.2.2.1,Uc e.2.2.1 e.2.1[k].1,Vn e.2.2.2.1 e.2.1[k].1,()):=by
 have h1:(0:Int)<=(k:Int)/\(k:Int)<(e.2.1.length:Int):=by omega
 simp only[Bd,h1,and_self,if_true,Nat.zero_add,Int.toNat_natCast,List.getElem?_eq_getElem hk,Option.bind_some,ha,beq_self_eq_true,cond_true,Nv hl,Px hw,Nat.zero_add,Int.toNat_natCast,EX]
theorem WZ {e:EG}{k:Nat}(hk:k<e.2.1.length)(hl:e.2.2.1.length<=1048576)(hw:e.2.2.2.1.length<=1048576)(ce:Bool)(ha:e.2.1[k].2.2.1≠1):
 Bd ((k:Int),ce,e.2.2.2.2,e.1,e.2.1,e.2.2.1,e.2.2.2.1,())=some (ce,e.2.2.2.2,e.1,e.2.1,e.2.2.1,e.2.2.2.1,Uc e.2.2.1 e.2.1[k].1,Vn e.2.2.2.1 e.2.1[k].1,()):=by
 have h1:(0:Int)<=(k:Int)/\(k:Int)<(e.2.1.length:Int):=by omega
 have h2:(e.2.1[k].2.2.1==1)=false:=by simpa using ha
 simp only[Bd,h1,and_self,if_true,Nat.zero_add,Int.toNat_natCast,List.getElem?_eq_getElem hk,Option.bind_some,h2,cond_false,Nv hl,Px hw]
end Go.Ab
end
section
namespace Go.Ab
theorem Kr {l:List TX}(hl:l.length<=1048576)(t:Int){p q:TX->Bool}(mono:∀i j (hij:i<=j) (hj:j<l.length),p l[j]=true->p (l[i]'(by omega))=true)
 (hc:∀x∈l,∃n:Int,Dc (x,t,())=some (n,())/\decide (n<0)=p x/\(n==0)=q x):
 AO (l,t,(),())=some (((l.takeWhile p).length:Int),G7 q (l.dropWhile p),()):=by
 unfold AO
 obtain⟨c,hc1,hc2,hc3,hc4⟩:=OS (n:=l.length) (p:=fun k=>match l[k]? with|some x=>p x|none=>false)
  (B:=fun v=>Ay (l,t,(),(l.length:Int),()) v _ some)
  (by
    intro i j hij hj h
    have hi:i<l.length:=by omega
    simp only[List.getElem?_eq_getElem hj,List.getElem?_eq_getElem hi]at h ⊢
    exact mono i j hij hj h)
  (by
    intro i j hij hj
    have hm:(i+j) / 2<l.length:=by omega
    obtain⟨n,e1,e2,e3⟩:=hc _ (List.getElem_mem hm)
    unfold Ay
    simp only[KZ (i:=i) (j:=j) (by omega),Al hm,Option.bind_some,List.getElem?_eq_getElem hm,decide_eq_true (by omega:(i:Int)<(j:Int)),cond_true]
    erw [e1]
    simp only[Option.bind_some,e2,An hm (by omega)]
    cases p l[(i+j) / 2]<;>rfl)
  (by
    intro i hi
    unfold Ay
    simp only[Int.lt_irrefl,decide_false,cond_false])
 erw [hc2]
 obtain⟨t1,t2⟩:=P5 (l:=l) (p:=p) (c:=c) hc1 (fun k hk h=>by have:=hc3 k h;simpa only[List.getElem?_eq_getElem hk]using this) (fun k hk h=>by have:=hc4 k h hk;simpa only[List.getElem?_eq_getElem hk]using this)
 have tl:(l.takeWhile p).length=c:=by rw[<-t1];simp;omega
 rw[<-t2,tl]
 simp only[Option.bind_some]
 by_cases hcl:c<l.length
 ·obtain⟨n,e1,e2,e3⟩:=hc _ (List.getElem_mem hcl)
  simp only[Al hcl,decide_eq_true (by omega:(c:Int)<(l.length:Int)),cond_true,Option.bind_some]
  erw [e1]
  rw[List.drop_eq_getElem_cons hcl]
  simp only[Option.bind_some,e3,G7]
 ·rw[List.drop_of_length_le (by omega)]
  simp only[decide_eq_false (by omega:¬(c:Int)<(l.length:Int)),cond_false,G7]
theorem Ng {l:List VM}(hl:l.length<=1048576)(t:Int){p q:VM->Bool}(mono:∀i j (hij:i<=j) (hj:j<l.length),p l[j]=true->p (l[i]'(by omega))=true)
 (hc:∀x∈l,∃n:Int,FC (x,t,())=some (n,())/\decide (n<0)=p x/\(n==0)=q x):
 Be (l,t,(),())=some (((l.takeWhile p).length:Int),G7 q (l.dropWhile p),()):=by
 unfold Be
 obtain⟨c,hc1,hc2,hc3,hc4⟩:=OS (n:=l.length) (p:=fun k=>match l[k]? with|some x=>p x|none=>false)
  (B:=fun v=>AE (l,t,(),(l.length:Int),()) v _ some)
  (by
    intro i j hij hj h
    have hi:i<l.length:=by omega
    simp only[List.getElem?_eq_getElem hj,List.getElem?_eq_getElem hi]at h ⊢
    exact mono i j hij hj h)
  (by
    intro i j hij hj
    have hm:(i+j) / 2<l.length:=by omega
    obtain⟨n,e1,e2,e3⟩:=hc _ (List.getElem_mem hm)
    unfold AE
    simp only[KZ (i:=i) (j:=j) (by omega),Al hm,Option.bind_some,List.getElem?_eq_getElem hm,decide_eq_true (by omega:(i:Int)<(j:Int)),cond_true]
    erw [e1]
    simp only[Option.bind_some,e2,An hm (by omega)]
    cases p l[(i+j) / 2]<;>rfl)
  (by
    intro i hi
    unfold AE
    simp only[Int.lt_irrefl,decide_false,cond_false])
 erw [hc2]
 obtain⟨t1,t2⟩:=P5 (l:=l) (p:=p) (c:=c) hc1 (fun k hk h=>by have:=hc3 k h;simpa only[List.getElem?_eq_getElem hk]using this) (fun k hk h=>by have:=hc4 k h hk;simpa only[List.getElem?_eq_getElem hk]using this)
 have tl:(l.takeWhile p).length=c:=by rw[<-t1];simp;omega
 rw[<-t2,tl]
 simp only[Option.bind_some]
 by_cases hcl:c<l.length
 ·obtain⟨n,e1,e2,e3⟩:=hc _ (List.getElem_mem hcl)
  simp only[Al hcl,decide_eq_true (by omega:(c:Int)<(l.length:Int)),cond_true,Option.bind_some]
  erw [e1]
  rw[List.drop_eq_getElem_cons hcl]
  simp only[Option.bind_some,e3,G7]
 ·rw[List.drop_of_length_le (by omega)]
  simp only[decide_eq_false (by omega:¬(c:Int)<(l.length:Int)),cond_false,G7]
theorem KS {l:List VM}(hl:l.length<=1048576)(t:Int){p q:VM->Bool}(mono:∀i j (hij:i<=j) (hj:j<l.length),p l[j]=true->p (l[i]'(by omega))=true)
 (hc:∀x∈l,∃n:Int,Dp (x,t,())=some (n,())/\decide (n<0)=p x/\(n==0)=q x):
 AQ (l,t,(),())=some (((l.takeWhile p).length:Int),G7 q (l.dropWhile p),()):=by
 unfold AQ
 obtain⟨c,hc1,hc2,hc3,hc4⟩:=OS (n:=l.length) (p:=fun k=>match l[k]? with|some x=>p x|none=>false)
  (B:=fun v=>AA (l,t,(),(l.length:Int),()) v _ some)
  (by
    intro i j hij hj h
    have hi:i<l.length:=by omega
    simp only[List.getElem?_eq_getElem hj,List.getElem?_eq_getElem hi]at h ⊢
    exact mono i j hij hj h)
  (by
    intro i j hij hj
    have hm:(i+j) / 2<l.length:=by omega
    obtain⟨n,e1,e2,e3⟩:=hc _ (List.getElem_mem hm)
    unfold AA
    simp only[KZ (i:=i) (j:=j) (by omega),Al hm,Option.bind_some,List.getElem?_eq_getElem hm,decide_eq_true (by omega:(i:Int)<(j:Int)),cond_true]
    erw [e1]
    simp only[Option.bind_some,e2,An hm (by omega)]
    cases p l[(i+j) / 2]<;>rfl)
  (by
    intro i hi
    unfold AA
    simp only[Int.lt_irrefl,decide_false,cond_false])
 erw [hc2]
 obtain⟨t1,t2⟩:=P5 (l:=l) (p:=p) (c:=c) hc1 (fun k hk h=>by have:=hc3 k h;simpa only[List.getElem?_eq_getElem hk]using this) (fun k hk h=>by have:=hc4 k h hk;simpa only[List.getElem?_eq_getElem hk]using this)
 have tl:(l.takeWhile p).length=c:=by rw[<-t1];simp;omega
 rw[<-t2,tl]
 simp only[Option.bind_some]
 by_cases hcl:c<l.length
 ·obtain⟨n,e1,e2,e3⟩:=hc _ (List.getElem_mem hcl)
  simp only[Al hcl,decide_eq_true (by omega:(c:Int)<(l.length:Int)),cond_true,Option.bind_some]
  erw [e1]
  rw[List.drop_eq_getElem_cons hcl]
  simp only[Option.bind_some,e3,G7]
 ·rw[List.drop_of_length_le (by omega)]
  simp only[decide_eq_false (by omega:¬(c:Int)<(l.length:Int)),cond_false,G7]
theorem Js {l:List VM}(hl:l.length<=1048576)(t:Int){p q:VM->Bool}(mono:∀i j (hij:i<=j) (hj:j<l.length),p l[j]=true->p (l[i]'(by omega))=true)
 (hc:∀x∈l,∃n:Int,Cu (x,t,())=some (n,())/\decide (n<0)=p x/\(n==0)=q x):
 AI (l,t,(),())=some (((l.takeWhile p).length:Int),G7 q (l.dropWhile p),()):=by
 unfold AI
 obtain⟨c,hc1,hc2,hc3,hc4⟩:=OS (n:=l.length) (p:=fun k=>match l[k]? with|some x=>p x|none=>false)
  (B:=fun v=>Ar (l,t,(),(l.length:Int),()) v _ some)
  (by
    intro i j hij hj h
    have hi:i<l.length:=by omega
    simp only[List.getElem?_eq_getElem hj,List.getElem?_eq_getElem hi]at h ⊢
    exact mono i j hij hj h)
  (by
    intro i j hij hj
    have hm:(i+j) / 2<l.length:=by omega
    obtain⟨n,e1,e2,e3⟩:=hc _ (List.getElem_mem hm)
    unfold Ar
    simp only[KZ (i:=i) (j:=j) (by omega),Al hm,Option.bind_some,List.getElem?_eq_getElem hm,decide_eq_true (by omega:(i:Int)<(j:Int)),cond_true]
    erw [e1]
    simp only[Option.bind_some,e2,An hm (by omega)]
    cases p l[(i+j) / 2]<;>rfl)
  (by
    intro i hi
    unfold Ar
    simp only[Int.lt_irrefl,decide_false,cond_false])
 erw [hc2]
 obtain⟨t1,t2⟩:=P5 (l:=l) (p:=p) (c:=c) hc1 (fun k hk h=>by have:=hc3 k h;simpa only[List.getElem?_eq_getElem hk]using this) (fun k hk h=>by have:=hc4 k h hk;simpa only[List.getElem?_eq_getElem hk]using this)
 have tl:(l.takeWhile p).length=c:=by rw[<-t1];simp;omega
 rw[<-t2,tl]
 simp only[Option.bind_some]
 by_cases hcl:c<l.length
 ·obtain⟨n,e1,e2,e3⟩:=hc _ (List.getElem_mem hcl)
  simp only[Al hcl,decide_eq_true (by omega:(c:Int)<(l.length:Int)),cond_true,Option.bind_some]
  erw [e1]
  rw[List.drop_eq_getElem_cons hcl]
  simp only[Option.bind_some,e3,G7]
 ·rw[List.drop_of_length_le (by omega)]
  simp only[decide_eq_false (by omega:¬(c:Int)<(l.length:Int)),cond_false,G7]
theorem Lm {l:List VM}(hl:l.length<=1048576)(t:VM){p q:VM->Bool}(mono:∀i j (hij:i<=j) (hj:j<l.length),p l[j]=true->p (l[i]'(by omega))=true)
 (hc:∀x∈l,∃n:Int,BI (x,t,())=some (n,())/\decide (n<0)=p x/\(n==0)=q x):
 AY (l,t,(),())=some (((l.takeWhile p).length:Int),G7 q (l.dropWhile p),()):=by
 unfold AY
 obtain⟨c,hc1,hc2,hc3,hc4⟩:=OS (n:=l.length) (p:=fun k=>match l[k]? with|some x=>p x|none=>false)
  (B:=fun v=>AB (l,(),(l.length:Int),t.1,t.2.1,()) v _ some)
  (by
    intro i j hij hj h
    have hi:i<l.length:=by omega
    simp only[List.getElem?_eq_getElem hj,List.getElem?_eq_getElem hi]at h ⊢
    exact mono i j hij hj h)
  (by
    intro i j hij hj
    have hm:(i+j) / 2<l.length:=by omega
    obtain⟨n,e1,e2,e3⟩:=hc _ (List.getElem_mem hm)
    unfold AB
    simp only[KZ (i:=i) (j:=j) (by omega),Al hm,Option.bind_some,List.getElem?_eq_getElem hm,decide_eq_true (by omega:(i:Int)<(j:Int)),cond_true]
    erw [e1]
    simp only[Option.bind_some,e2,An hm (by omega)]
    cases p l[(i+j) / 2]<;>rfl)
  (by
    intro i hi
    unfold AB
    simp only[Int.lt_irrefl,decide_false,cond_false])
 erw [hc2]
 obtain⟨t1,t2⟩:=P5 (l:=l) (p:=p) (c:=c) hc1 (fun k hk h=>by have:=hc3 k h;simpa only[List.getElem?_eq_getElem hk]using this) (fun k hk h=>by have:=hc4 k h hk;simpa only[List.getElem?_eq_getElem hk]using this)
 have tl:(l.takeWhile p).length=c:=by rw[<-t1];simp;omega
 rw[<-t2,tl]
 simp only[Option.bind_some]
 by_cases hcl:c<l.length
 ·obtain⟨n,e1,e2,e3⟩:=hc _ (List.getElem_mem hcl)
  simp only[Al hcl,decide_eq_true (by omega:(c:Int)<(l.length:Int)),cond_true,Option.bind_some]
  erw [e1]
  rw[List.drop_eq_getElem_cons hcl]
  simp only[Option.bind_some,e3,G7]
 ·rw[List.drop_of_length_le (by omega)]
  simp only[decide_eq_false (by omega:¬(c:Int)<(l.length:Int)),cond_false,G7]
theorem KR {l:List _}(hl:l.length<=1048576)(c:_){p:_->Bool}(hc:∀x∈l,CH (x,c)=some (p x,())):Br (l,c,())=some (fx (l.findIdx? p),()):=by
 unfold Br
 refine DD hl (p:=p) (fun i h=>?_) ?_
 ·unfold AP
  have e:=hc _ (List.getElem_mem h)
  simp only[Al h,Option.bind_some]
  rw[decide_eq_true (by omega),An h (by omega)]
  simp only[cond_true]
  erw [e]
  simp only[Option.bind_some]
  cases p l[i]<;>rfl
 ·unfold AP
  simp only
  rw[decide_eq_false (by omega)];rfl
theorem M1 {l:List _}(hl:l.length<=1048576)(c:_){p:_->Bool}(hc:∀x∈l,FZ (x,c)=some (p x,())):BH (l,c,())=some (fx (l.findIdx? p),()):=by
 unfold BH
 refine DD hl (p:=p) (fun i h=>?_) ?_
 ·unfold B8
  have e:=hc _ (List.getElem_mem h)
  simp only[Al h,Option.bind_some]
  rw[decide_eq_true (by omega),An h (by omega)]
  simp only[cond_true]
  erw [e]
  simp only[Option.bind_some]
  cases p l[i]<;>rfl
 ·unfold B8
  simp only
  rw[decide_eq_false (by omega)];rfl
theorem Kn {l:List _}(hl:l.length<=1048576)(c:_){p:_->Bool}(hc:∀x∈l,Ct (x,c)=some (p x,())):Bo (l,c,())=some (fx (l.findIdx? p),()):=by
 unfold Bo
 refine DD hl (p:=p) (fun i h=>?_) ?_
 ·unfold AM
  have e:=hc _ (List.getElem_mem h)
  simp only[Al h,Option.bind_some]
  rw[decide_eq_true (by omega),An h (by omega)]
  simp only[cond_true]
  erw [e]
  simp only[Option.bind_some]
  cases p l[i]<;>rfl
 ·unfold AM
  simp only
  rw[decide_eq_false (by omega)];rfl
theorem Lk {l:List _}(hl:l.length<=1048576)(c:_){p:_->Bool}(hc:∀x∈l,D4 (x,c)=some (p x,())):Bz (l,c,())=some (fx (l.findIdx? p),()):=by
 unfold Bz
 refine DD hl (p:=p) (fun i h=>?_) ?_
 ·unfold AX
  have e:=hc _ (List.getElem_mem h)
  simp only[Al h,Option.bind_some]
  rw[decide_eq_true (by omega),An h (by omega)]
  simp only[cond_true]
  erw [e]
  simp only[Option.bind_some]
  cases p l[i]<;>rfl
 ·unfold AX
  simp only
  rw[decide_eq_false (by omega)];rfl
theorem M0 {l:List _}(hl:l.length<=1048576)(c:_){p:_->Bool}(hc:∀x∈l,FY (x,c)=some (p x,())):BG (l,c,())=some (fx (l.findIdx? p),()):=by
 unfold BG
 refine DD hl (p:=p) (fun i h=>?_) ?_
 ·unfold B7
  have e:=hc _ (List.getElem_mem h)
  simp only[Al h,Option.bind_some]
  rw[decide_eq_true (by omega),An h (by omega)]
  simp only[cond_true]
  erw [e]
  simp only[Option.bind_some]
  cases p l[i]<;>rfl
 ·unfold B7
  simp only
  rw[decide_eq_false (by omega)];rfl
theorem LZ {l:List _}(hl:l.length<=1048576)(c:_){p:_->Bool}(hc:∀x∈l,FX (x,c)=some (p x,())):BF (l,c,())=some (fx (l.findIdx? p),()):=by
 unfold BF
 refine DD hl (p:=p) (fun i h=>?_) ?_
 ·unfold B6
  have e:=hc _ (List.getElem_mem h)
  simp only[Al h,Option.bind_some]
  rw[decide_eq_true (by omega),An h (by omega)]
  simp only[cond_true]
  erw [e]
  simp only[Option.bind_some]
  cases p l[i]<;>rfl
 ·unfold B6
  simp only
  rw[decide_eq_false (by omega)];rfl
theorem Je {l:List _}(hl:l.length<=1048576)(c:_){p:_->Bool}(hc:∀x∈l,BR (x,c)=some (p x,())):Bj (l,c,())=some (fx (l.findIdx? p),()):=by
 unfold Bj
 refine DD hl (p:=p) (fun i h=>?_) ?_
 ·unfold AG
  have e:=hc _ (List.getElem_mem h)
  simp only[Al h,Option.bind_some]
  rw[decide_eq_true (by omega),An h (by omega)]
  simp only[cond_true]
  erw [e]
  simp only[Option.bind_some]
  cases p l[i]<;>rfl
 ·unfold AG
  simp only
  rw[decide_eq_false (by omega)];rfl
theorem Jf {l:List _}(hl:l.length<=1048576)(c:_){p:_->Bool}(hc:∀x∈l,BR (x,c)=some (p x,())):Bh (l,c,())=some (l.any p,()):=by
 unfold Bh
 have e:=Je hl c hc
 erw [e]
 simp only[Option.bind_some,Ve,List.findIdx?_isSome]
theorem Km {l:List _}(hl:l.length<=1048576)(c:_){p:_->Bool}(hc:∀x∈l,Cs (x,c)=some (p x,())):Bn (l,c,())=some (fx (l.findIdx? p),()):=by
 unfold Bn
 refine DD hl (p:=p) (fun i h=>?_) ?_
 ·unfold AL
  have e:=hc _ (List.getElem_mem h)
  simp only[Al h,Option.bind_some]
  rw[decide_eq_true (by omega),An h (by omega)]
  simp only[cond_true]
  erw [e]
  simp only[Option.bind_some]
  cases p l[i]<;>rfl
 ·unfold AL
  simp only
  rw[decide_eq_false (by omega)];rfl
theorem Ko {l:List _}(hl:l.length<=1048576)(c:_){p:_->Bool}(hc:∀x∈l,Cs (x,c)=some (p x,())):Bl (l,c,())=some (l.any p,()):=by
 unfold Bl
 have e:=Km hl c hc
 erw [e]
 simp only[Option.bind_some,Ve,List.findIdx?_isSome]
theorem Ij {l:List VM}(hl:l.length<=1048576)(id:Int){q:VM->Bool}(hc:∀x:VM,Ct (x,some id,())=some (q x,())):
 Ca (l,id,())=some (id,l.filter (fun x=>!q x),()):=by
 unfold Ca
 have e:=Kn hl (some id,()) (p:=q) (fun x _=>hc x)
 erw [e]
 simp only[Option.bind_some]
 cases hf:l.findIdx? q with
 |none=>
  have h:=List.findIdx?_eq_none_iff.1 hf
  have:l.filter (fun x=>!q x)=l:=List.filter_eq_self.2 fun x hx=>by simp[h x hx]
  simp only[fx,this]
  rfl
 |some i0=>
  obtain⟨h0,hq,hlt⟩:=List.findIdx?_eq_some_iff_getElem.1 hf
  obtain⟨i,xs,h1,h2,h3,h4⟩:=QU (l:=l) (q:=q) (B:=fun v=>Bb (id,()) v _ some)
   (by
     intro i j xs hi hj h
     have hj':j<xs.length:=by omega
     have hi':i<xs.length:=by omega
     have c1:(0:Int)<=(j:Int)/\(j:Int)<(xs.length:Int):=by omega
     have c2:(0:Int)<=(i:Int)/\(i:Int)<(xs.length:Int):=by omega
     unfold Bb
     simp only[decide_eq_true c1.2,cond_true,c1,c2,and_self,if_true,Nat.zero_add,Int.toNat_natCast,List.getElem?_eq_getElem hj',List.getElem?_eq_getElem hi',Option.bind_some]
     erw [hc]
     simp only[Option.bind_some,An hj' (by omega:xs.length<9223372036854775808),An hi' (by omega:xs.length<9223372036854775808)]
     cases q xs[j]<;>rfl)
   (by
     intro i xs h hi
     unfold Bb
     simp only[h,Int.lt_irrefl,decide_false,cond_false])
   h0 hq (fun k hk=>by simpa using hlt k hk)
  have e0:((i0:Int)==-1)=false:=by rw[beq_eq_false_iff_ne];omega
  simp only[fx,e0,cond_false,An h0 (by omega)]
  erw [h1]
  simp only[Option.bind_some]
  rw[<-h4]
  exact Tu (z:=(0,0,())) h2 (fun r=>some (id,r,()))
theorem HV {l:List VM}(hl:l.length<=1048576)(id:Int){q:VM->Bool}(hc:∀x:VM,D4 (x,some id,())=some (q x,())):
 C2 (l,id,())=some (id,l.filter (fun x=>!q x),()):=by
 unfold C2
 have e:=Lk hl (some id,()) (p:=q) (fun x _=>hc x)
 erw [e]
 simp only[Option.bind_some]
 cases hf:l.findIdx? q with
 |none=>
  have h:=List.findIdx?_eq_none_iff.1 hf
  have:l.filter (fun x=>!q x)=l:=List.filter_eq_self.2 fun x hx=>by simp[h x hx]
  simp only[fx,this]
  rfl
 |some i0=>
  obtain⟨h0,hq,hlt⟩:=List.findIdx?_eq_some_iff_getElem.1 hf
  obtain⟨i,xs,h1,h2,h3,h4⟩:=QU (l:=l) (q:=q) (B:=fun v=>AU (id,()) v _ some)
   (by
     intro i j xs hi hj h
     have hj':j<xs.length:=by omega
     have hi':i<xs.length:=by omega
     have c1:(0:Int)<=(j:Int)/\(j:Int)<(xs.length:Int):=by omega
     have c2:(0:Int)<=(i:Int)/\(i:Int)<(xs.length:Int):=by omega
     unfold AU
     simp only[decide_eq_true c1.2,cond_true,c1,c2,and_self,if_true,Nat.zero_add,Int.toNat_natCast,List.getElem?_eq_getElem hj',List.getElem?_eq_getElem hi',Option.bind_some]
     erw [hc]
     simp only[Option.bind_some,An hj' (by omega:xs.length<9223372036854775808),An hi' (by omega:xs.length<9223372036854775808)]
     cases q xs[j]<;>rfl)
   (by
     intro i xs h hi
     unfold AU
     simp only[h,Int.lt_irrefl,decide_false,cond_false])
   h0 hq (fun k hk=>by simpa using hlt k hk)
  have e0:((i0:Int)==-1)=false:=by rw[beq_eq_false_iff_ne];omega
  simp only[fx,e0,cond_false,An h0 (by omega)]
  erw [h1]
  simp only[Option.bind_some]
  rw[<-h4]
  exact Tu (z:=(0,0,())) h2 (fun r=>some (id,r,()))
theorem Ii {l:List VM}(hl:l.length<=1048576)(o:OPt){q:VM->Bool}(hc:∀x:VM,CH (x,some o,())=some (q x,())):
 BB (l,o.1,o.2.1,o.2.2.1,o.2.2.2.1,o.2.2.2.2.1,o.2.2.2.2.2.1,())=some (o.1,o.2.1,o.2.2.1,o.2.2.2.1,o.2.2.2.2.1,o.2.2.2.2.2.1,l.filter (fun x=>!q x),()):=by
 unfold BB
 have e:=KR hl (some o,()) (p:=q) (fun x _=>hc x)
 erw [e]
 simp only[Option.bind_some]
 cases hf:l.findIdx? q with
 |none=>
  have h:=List.findIdx?_eq_none_iff.1 hf
  have:l.filter (fun x=>!q x)=l:=List.filter_eq_self.2 fun x hx=>by simp[h x hx]
  simp only[fx,this]
  rfl
 |some i0=>
  obtain⟨h0,hq,hlt⟩:=List.findIdx?_eq_some_iff_getElem.1 hf
  obtain⟨i,xs,h1,h2,h3,h4⟩:=QU (l:=l) (q:=q) (B:=fun v=>Ba (o.1,o.2.1,o.2.2.1,o.2.2.2.1,o.2.2.2.2.1,o.2.2.2.2.2.1,()) v _ some)
   (by
     intro i j xs hi hj h
     have hj':j<xs.length:=by omega
     have hi':i<xs.length:=by omega
     have c1:(0:Int)<=(j:Int)/\(j:Int)<(xs.length:Int):=by omega
     have c2:(0:Int)<=(i:Int)/\(i:Int)<(xs.length:Int):=by omega
     unfold Ba
     simp only[decide_eq_true c1.2,cond_true,c1,c2,and_self,if_true,Nat.zero_add,Int.toNat_natCast,List.getElem?_eq_getElem hj',List.getElem?_eq_getElem hi',Option.bind_some]
     erw [hc]
     simp only[Option.bind_some,An hj' (by omega:xs.length<9223372036854775808),An hi' (by omega:xs.length<9223372036854775808)]
     cases q xs[j]<;>rfl)
   (by
     intro i xs h hi
     unfold Ba
     simp only[h,Int.lt_irrefl,decide_false,cond_false])
   h0 hq (fun k hk=>by simpa using hlt k hk)
  have e0:((i0:Int)==-1)=false:=by rw[beq_eq_false_iff_ne];omega
  simp only[fx,e0,cond_false,An h0 (by omega)]
  erw [h1]
  simp only[Option.bind_some]
  rw[<-h4]
  exact Tu (z:=(0,0,())) h2 (fun r=>some (o.1,o.2.1,o.2.2.1,o.2.2.2.1,o.2.2.2.2.1,o.2.2.2.2.2.1,r,()))
end Go.Ab
end
section
namespace Go.Ab
theorem Qm {α:Type}{f:α->Int}{l:List α}(h:GH f l){a:Int}{n:Nat}(hb:∀x∈l,a<=f x/\f x<a+n):l.length<=n:=by
 induction l generalizing a n with
 |nil=>exact Nat.zero_le _
 |cons x l ih=>
  have h1:=List.pairwise_cons.1 h
  have hx:=hb x (List.mem_cons_self)
  have:=ih h1.2 (a:=f x+1) (n:=(a+n-(f x+1)).toNat) (fun y hy=>by
   have:=h1.1 y hy
   have:=hb y (List.mem_cons_of_mem _ hy)
   omega)
  simp only[List.length_cons]
  omega
theorem QI {l:List VM}(h:QJ l):l.length<=6:=by
 have:=(JO l).1 h
 exact Qm this.2 (a:=0) (n:=6) (fun x hx=>by have:=Bc.1 (this.1 x hx).1;omega)
theorem OkG.lkLen {e:EG}(H:OkG e):e.2.2.1.length<=6:=Qm H.lkU (a:=0) (n:=6) (fun x hx=>by have:=Bc.1 (H.lkA x hx).1;omega)
theorem OkG.wtLen {e:EG}(H:OkG e):e.2.2.2.1.length<=9:=Qm H.wtU (a:=1) (n:=9) (fun x hx=>by have:=Bc.1 (H.wtA x hx).1;omega)
theorem OkG.small {e:EG}(H:OkG e):SmallE e.1 e.2.1 e.2.2.1 e.2.2.2.1:=by
 have hg:=H.gd
 refine⟨⟨by have:=hg.six;omega,fun l hl=>?_⟩,by have:=H.len;omega,fun t ht=>?_,by have:=H.lkLen;omega,by have:=H.wtLen;omega⟩
 ·have:=(hg.ok l hl).2
  unfold Hg;omega
 ·have h:=(CF t).1 (H.txA t ht).1
  have h1:=QI h.2.1
  have h2:=h.2.2.2.2.2.2.2.2.2.2
  exact⟨by omega,by omega⟩
theorem Rm {l:List VM}(hl:l.length<=1048576)(id:Int):Fq (l,id,())=some (Uc l id,()):=by
 unfold Fq Uc
 simp only[T1 hl,Option.bind_some,Ij hl id (q:=fun m=>m.2.1==id) (fun x=>by simp[Ct])]
theorem US {l:List VM}(hl:l.length<=1048576)(id:Int):Gr (l,id,())=some (Vn l id,()):=by
 unfold Gr Vn
 simp only[PV hl,Option.bind_some,HV hl id (q:=fun m=>m.1==id||m.2.1==id) (fun x=>by simp only[D4,Option.bind_some];cases x.1==id<;>rfl)]
 simp only[Bool.not_or]
theorem X2 {l:List VM}(hl:l.length<=1048576)(o:OPt):BB (l,o)=some (o.1,o.2.1,o.2.2.1,o.2.2.2.1,o.2.2.2.2.1,o.2.2.2.2.2.1,wkW l o.2.1,()):=
 Ii hl o (q:=fun m=>m.1==o.2.1) (fun x=>by simp[CH])
theorem Sb {s:List (List VV)}{l:List TX}{lk wt:List VM}{k:Nat}(hk:k<l.length)(hl:lk.length<=1048576)(hw:wt.length<=1048576)(ce:Bool)(st:Int):
 D3 (k,ce,st,s,l,lk,wt,())=some (ce,st,s,l,lk,wt,Uc lk l[k].1,Vn wt l[k].1,()):=by
 simp only[D3,List.getElem?_eq_getElem hk,Option.bind_some,Rm hl,US hw]
theorem HB {s:List (List VV)}{l:List TX}{lk wt:List VM}{k:Nat}(hk:k<l.length)(hl:lk.length<=1048576)(hw:wt.length<=1048576)(c:Int)(ce:Bool)(st:Int):
 B5 (k,c,ce,st,s,l,lk,wt,())=some (c,ce,st,s,l.set k (EX l[k] 3),lk,wt,Uc lk l[k].1,Vn wt l[k].1,()):=by
 unfold B5
 simp only[List.getElem?_eq_getElem hk,Option.bind_some]
 have hk':k<(l.set k (EX l[k] 3)).length:=by simpa using hk
 have e:=Sb (s:=s) (k:=k) (l:=l.set k (EX l[k] 3)) hk' hl hw ce st
 simp only[EX]at e ⊢
 rw[e]
 simp
theorem MA {α:Type}(p:α->Bool)(l:List α):l.find? p=(l.findIdx? p).bind (l[·]?):=by
 cases h:l.findIdx? p with
 |none=>exact List.find?_eq_none.2 fun x hx=>by simpa using List.findIdx?_eq_none_iff.1 h x hx
 |some i=>
  obtain⟨h1,h2,h3⟩:=List.findIdx?_eq_some_iff_getElem.1 h
  rw[Option.bind_some,List.getElem?_eq_getElem h1]
  exact List.find?_eq_some_iff_getElem.2 ⟨h2,i,h1,rfl,fun j hj=>by simpa using h3 j hj⟩
theorem fQ (t:TX)(h:smT t)(key:Int):GT ((t.1,t.2.1,t.2.2.1,t.2.2.2.1,t.2.2.2.2.1,t.2.2.2.2.2.1,t.2.2.2.2.2.2.1,t.2.2.2.2.2.2.2.1,t.2.2.2.2.2.2.2.2.1,()),key,())=some (fx (t.2.2.2.2.2.2.2.2.1.findIdx? fun m=>m.1==key),()):=by
 unfold GT
 simp only[M1 h.2 (some key,()) (p:=fun m=>m.1==key) (fun x _=>by simp[FZ]),Option.bind_some]
theorem Ti {s:List (List VV)}(h6:s.length=6){key:Int}(hk:inB key 0 5=true):∃(n:Nat) (h:n<s.length),key=(n:Int)/\lAt s key=some s[n]/\s[key.toNat]?=some s[n]:=by
 have:=Bc.1 hk
 obtain⟨n,rfl⟩:=Int.eq_ofNat_of_zero_le this.1
 have hn:n<s.length:=by omega
 exact⟨n,hn,rfl,Al hn,by simp[hn]⟩
theorem GI {n:Nat}(h:n<9223372036854775808):IntKind.i64.wrap ((n:Int)-1)=(n:Int)-1:=CI (by omega) (by omega)
theorem SX {s:List (List VV)}(hs:DK s)(h6:s.length=6)(t:TX){key:Int}(hk:inB key 0 5=true):
 Fp ((s,()),(t.1,t.2.1,t.2.2.1,t.2.2.2.1,t.2.2.2.2.1,t.2.2.2.2.2.1,t.2.2.2.2.2.2.1,t.2.2.2.2.2.2.2.1,t.2.2.2.2.2.2.2.2.1,()),key,())=some (match IL s t key with|none=>(0,0,0,0,0,3,())|some v=>(v.1,v.2.1,v.2.2.1,v.2.2.2.1,v.2.2.2.2.1,0,())):=by
 obtain⟨n,hn,e1,e2,e3⟩:=Ti h6 hk
 have hl:Hg s[n]:=hs.2 _ (List.getElem_mem hn)
 unfold Fp IL
 unfold Hg at hl
 simp only[e2,e3,Option.bind_some,fS (hs.2 _ (List.getElem_mem hn)),GI (by omega:s[n].length<9223372036854775808)]
 generalize hl':s[n]=l at*
 have key:∀i:Int,i<l.length->(bif decide (i<0)then some ((0:Int),(0:Int),(0:Int),(0:Int),(0:Int),(3:Int),())else bif t.2.1==4 then(lAt l i).bind fun v_2=>bif decide (v_2.2.2.1>t.2.2.2.1)then some (0,0,0,0,0,3,())else(lAt l i).bind fun v=>some (v.1,v.2.1,v.2.2.1,v.2.2.2.1,v.2.2.2.2.1,0,())else(lAt l i).bind fun v=>some (v.1,v.2.1,v.2.2.1,v.2.2.2.1,v.2.2.2.2.1,0,()))=some (match(bif decide (i<0)then none else(l[i.toNat]?).bind fun v=>bif t.2.1==4&&decide (v.2.2.1>t.2.2.2.1)then none else some v)with|none=>(0,0,0,0,0,3,())|some v=>(v.1,v.2.1,v.2.2.1,v.2.2.2.1,v.2.2.2.2.1,0,())):=by
  intro i hi
  by_cases h0:i<0
  ·simp[h0]
  ·obtain⟨j,rfl⟩:=Int.eq_ofNat_of_zero_le (by omega:0<=i)
   have hj:j<l.length:=by omega
   simp only[decide_eq_false h0,cond_false,Al hj,Option.bind_some,Int.toNat_natCast,List.getElem?_eq_getElem hj]
   cases t.2.1==4
   ·simp
   ·simp only[cond_true,Bool.true_and]
    cases decide (l[j].2.2.1>t.2.2.2.1)<;>simp
 cases t.2.1==2
 ·simp only[cond_false];exact key _ (by omega)
 ·simp only[cond_true];exact key _ (Ql _ _ _).2
end Go.Ab
end
section
namespace Go.Ab
theorem yl (a b:VM):∃n:Int,BI (a,b,())=some (n,())/\decide (n<0)=Gs a b/\(n==0)=decide (a=b):=by
 obtain⟨n,e1,e2⟩:=Mp a b
 refine⟨n,e1,?_,?_⟩
 ·by_cases h:C1 a b
  ·rw[L2.2 h];exact decide_eq_true (by by_cases hn:n<0;exact hn;exact absurd h (e2.1 (by omega)))
  ·have h0:Gs a b=false:=by cases h1:Gs a b with|false=>rfl|true=>exact absurd (L2.1 h1) h
   rw[h0];exact decide_eq_false (by have:=e2.2 h;omega)
 ·unfold BI at e1
  simp only[fU,Aam,Option.bind_some,Option.some.injEq,Prod.mk.injEq,and_true]at e1
  have hab:a=b↔a.1=b.1/\a.2.1=b.2.1:=by
   constructor
   ·rintro rfl;exact⟨rfl,rfl⟩
   ·rintro⟨h1,h2⟩;exact Prod.ext h1 (Prod.ext h2 rfl)
  rw[Bool.eq_iff_iff,beq_iff_eq,decide_eq_true_eq,hab,<-e1]
  by_cases c1:a.1<b.1
  ·simp[c1];omega
  ·by_cases c2:a.1>b.1
   ·simp[c1,c2];omega
   ·have c3:a.1=b.1:=by omega
    by_cases c4:a.2.1<b.2.1
    ·simp[c3,c4];omega
    ·by_cases c5:a.2.1>b.2.1
     ·simp[c3,c4,c5];omega
     ·simp[c3,c4,c5];omega
theorem aq {l:List VM}(h:l.Pairwise C1)(m:VM):∀i j (hij:i<=j) (hj:j<l.length),Gs l[j] m=true->Gs (l[i]'(by omega)) m=true:=by
 intro i j hij hj h1
 rw[L2]at*
 by_cases e:i=j
 ·subst e;exact h1
 ·exact I9 _ _ _ (List.pairwise_iff_getElem.1 h i j (by omega) hj (by omega)) h1
theorem Aar {l:List VM}(hl:l.length<=1048576)(h:l.Pairwise C1)(m:VM):
 AY (l,m,(),())=some (((l.takeWhile fun x=>Gs x m).length:Int),G7 (fun x=>decide (x=m)) (l.dropWhile fun x=>Gs x m),()):=
 Lm hl m (p:=fun x=>Gs x m) (q:=fun x=>decide (x=m)) (aq h m) (fun x _=>yl x m)
theorem N3 {α:Type}{lim:Nat}{l:List α}(hl:l.length+1<=lim)(p:α->Bool)(z:α):Pi lim (((l.takeWhile p).length:Int),l,[z],())=some (l.takeWhile p++z::l.dropWhile p,()):=by
 have e:l.takeWhile p++l.dropWhile p=l:=List.takeWhile_append_dropWhile
 generalize l.takeWhile p=a at e ⊢
 generalize l.dropWhile p=b at e ⊢
 subst e
 have h1:a.length+b.length+1<=lim:=by simpa using hl
 simp[Pi,h1]
theorem UL {l:List TX}{k:Nat}(hk:k<l.length)(hr:l[k].2.2.2.2.2.2.2.1.length<=1048576)(hrd:l[k].2.2.2.2.2.2.2.1.Pairwise C1)(key:Int)(v:VV):
 CW (k,key,v.1,v.2.1,v.2.2.1,v.2.2.2.1,v.2.2.2.2.1,l,())=some (match Mh l[k] key v with|none=>(false,l,())|some t'=>(true,l.set k t',())):=by
 unfold CW Mh
 simp only[List.getElem?_eq_getElem hk,Option.bind_some]
 have e60:(((l[k].2.2.2.2.2.2.2.1.length:Nat):Int)==60)=(l[k].2.2.2.2.2.2.2.1.length==60):=by
  rw[Bool.eq_iff_iff,beq_iff_eq,beq_iff_eq];omega
 rw[e60]
 cases l[k].2.2.2.2.2.2.2.1.length==60
 ·simp only[cond_false]
  erw [Aar hr hrd (key,v.2.2.1,())]
  simp only[Option.bind_some]
  unfold JM XM
  cases hd:l[k].2.2.2.2.2.2.2.1.dropWhile fun x=>Gs x (key,v.2.2.1,())with
  |nil=>
   simp only[G7,Bool.not_false,cond_true,SZ hr,Option.bind_some,Cp]
   erw [N3 (by omega) _ _]
   simp only[Option.bind_some,hd,Hq hk,IR,List.length_set]
  |cons x r=>
   simp only[G7]
   by_cases hx:x=(key,v.2.2.1,())
   ·have e:l[k].2.2.2.2.2.2.2.1=l[k].2.2.2.2.2.2.2.1.takeWhile (fun x=>Gs x (key,v.2.2.1,()))++(key,v.2.2.1,())::r:=by
     rw[<-hx]
     conv=>lhs;rw[<-List.takeWhile_append_dropWhile (p:=fun x=>Gs x (key,v.2.2.1,())) (l:=l[k].2.2.2.2.2.2.2.1),hd]
     rw[hx]
    simp only[hx,decide_true,Bool.not_true,cond_false,if_true,Hq hk,Option.bind_some,IR,List.length_set]
    rw[<-e]
   ·simp only[hx,decide_false,Bool.not_false,cond_true,if_false,SZ hr,Option.bind_some,Cp]
    erw [N3 (by omega) _ _]
    simp only[Option.bind_some,hd,Hq hk,IR,List.length_set]
 ·rfl
end Go.Ab
end
section
namespace Go.Ab
abbrev EO:=Bool×Int×List (List VV)×List TX×List VM×List VM×Unit
def Hj (ce:Bool)(e:EG):EO:=(ce,e.2.2.2.2,e.1,e.2.1,e.2.2.1,e.2.2.2.1,())
theorem RP (t:TX)(key:Int):XK t key=match t.2.2.2.2.2.2.2.2.1.findIdx? (fun m=>m.1==key)with
 |none=>none|some i=>(t.2.2.2.2.2.2.2.2.1[i]?).map (·.2.1):=by
 unfold XK
 rw[MA]
 cases t.2.2.2.2.2.2.2.2.1.findIdx? (fun m=>m.1==key)<;>rfl
theorem OkG.rdUp {e:EG}(H:OkG e){k:Nat}(hk:k<e.2.1.length):e.2.1[k].2.2.2.2.2.2.2.1.Pairwise C1:=
 ((Mq _).1 ((CF _).1 (H.txA _ (List.getElem_mem hk)).1).1).2
theorem OkG.smT {e:EG}(H:OkG e){k:Nat}(hk:k<e.2.1.length):smT e.2.1[k]:=H.small.ft _ (List.getElem_mem hk)
theorem X4 {e:EG}(H:OkG e){k:Nat}(hk:k<e.2.1.length){key:Int}(hkey:inB key 0 5=true)(ce:Bool):
 Fa (k,key,Hj ce e)=some ((Fc e k key).1,(Fc e k key).2.1,Hj ce (Fc e k key).2.2):=by
 have hs:=H.small
 have ht:=H.smT hk
 unfold Fa Fc Hj
 simp only[List.getElem?_eq_getElem hk,Option.bind_some,fQ _ ht,Ve,RP]
 cases hf:e.2.1[k].2.2.2.2.2.2.2.2.1.findIdx? (fun m=>m.1==key)with
 |some i=>
  obtain⟨h1,_⟩:=List.findIdx?_eq_some_iff_getElem.1 hf
  have c:(0:Int)<=(i:Int)/\(i:Int)<(e.2.1[k].2.2.2.2.2.2.2.2.1.length:Int):=by omega
  simp only[Option.isSome_some,cond_true,fx,c,and_self,if_true,Nat.zero_add,Int.toNat_natCast,List.getElem?_eq_getElem h1,Option.bind_some,Option.map_some]
 |none=>
  simp only[Option.isSome_none,cond_false,SX hs.fs H.gd.six _ hkey,Option.bind_some]
  cases IL e.1 e.2.1[k] key with
  |none=>
   simp only[bne,show((3:Int)==0)=false from rfl,Bool.not_false,cond_true,HB hk hs.fk hs.fw,Option.bind_some,Ik,EX]
  |some v=>
   simp only[bne,show((0:Int)==0)=true from rfl,Bool.not_true,cond_false,UL hk ht.1 (H.rdUp hk),Option.bind_some]
   cases Mh e.2.1[k] key v with
   |none=>rfl
   |some t'=>rfl
theorem UM {k:Nat}{hi:Int}{ce:Bool}(hh:hi<=5):∀(n:Nat) (key:Int) (out:List Int) (e:EG),OkG e->k<e.2.1.length->(∀t,e.2.1[k]?=some t->t.2.2.1=1)->0<=key->key+n=hi+1->out.length<=key.toNat->
 ((AC (fun v=>C6 (k,hi,0,0,()) v _ some) (key,ce,e.2.2.2.2,e.1,e.2.1,e.2.2.1,e.2.2.2.1,out,())).bind fun p=>Az p (fun p=>some
   ((p.2.2.2.2.1,p.1,p.2.1,p.2.2.1,p.2.2.2.1,p.2.2.2.2.2.2.1,p.2.2.2.2.2.2.2.1,[],()):Int×Bool×Int×List (List VV)×List TX×List VM×List VM×List Int×Unit)) fun p=>some (0,p.1,p.2.1,p.2.2.1,p.2.2.2.1,p.2.2.2.2.1,p.2.2.2.2.2.1,p.2.2.2.2.2.2.1,()))=
 some ((DJ k n key out e).1,ce,(DJ k n key out e).2.2.2.2.2.2,(DJ k n key out e).2.2.1,(DJ k n key out e).2.2.2.1,(DJ k n key out e).2.2.2.2.1,(DJ k n key out e).2.2.2.2.2.1,(DJ k n key out e).2.1,()):=by
 intro n
 induction n with
 |zero=>
  intro key out e H hk ha h0 hn ho
  rw[AZ]
  have hd:¬key<=hi:=by omega
  simp only[C6,decide_eq_false hd,cond_false,Option.bind_some,Az,DJ]
 |succ n ih=>
  intro key out e H hk ha h0 hn ho
  have hkey:inB key 0 5=true:=Bc.2 ⟨h0,by omega⟩
  have hr:=X4 H hk hkey ce
  have hs:=H.read (List.getElem?_eq_getElem hk) (ha _ (List.getElem?_eq_getElem hk)) hkey
  unfold Hj at hr
  rw[AZ]
  have hd:key<=hi:=by omega
  simp only[C6,decide_eq_true hd,cond_true,hr,Option.bind_some,DJ]
  cases hc:(Fc e k key).2.1==0
  ·simp only[bne,hc,Bool.not_false,cond_true,Option.bind_some,Az,cond_false]
  ·have hc':(Fc e k key).2.1=0:=by simpa using hc
   obtain⟨t',ht1,ht2,ht3⟩:=hs.2.1 hc'
   have hlen:(out++[(Fc e k key).1]).length<=4398046511104:=by
    have:key.toNat<=5:=by omega
    simp;omega
   have hw:IntKind.i64.wrap (key+1)=key+1:=CI (by omega) (by omega)
   simp only[bne,hc,Bool.not_true,cond_false,hlen,if_true,Option.bind_some,hw,cond_true]
   exact ih (key+1) (out++[(Fc e k key).1]) (Fc e k key).2.2 hs.1 (by rw[hs.2.2];exact hk) (fun t ht=>by rw[ht1]at ht;obtain rfl:t'=t:=(by simpa using ht);exact ht2) (by omega) (by omega) (by simp;omega)
theorem QH {e:EG}(H:OkG e){k:Nat}(hk:k<e.2.1.length)(ha:e.2.1[k].2.2.1=1){lo hi:Int}(h0:0<=lo)(h1:lo<=hi+1)(h2:hi<=5)(ce:Bool):
 F9 (k,lo,hi,Hj ce e)=some ((DJ k (hi-lo+1).toNat lo [] e).1,ce,(DJ k (hi-lo+1).toNat lo [] e).2.2.2.2.2.2,(DJ k (hi-lo+1).toNat lo [] e).2.2.1,(DJ k (hi-lo+1).toNat lo [] e).2.2.2.1,(DJ k (hi-lo+1).toNat lo [] e).2.2.2.2.1,(DJ k (hi-lo+1).toNat lo [] e).2.2.2.2.2.1,(DJ k (hi-lo+1).toNat lo [] e).2.1,()):=
 UM h2 (hi-lo+1).toNat lo [] e H hk (fun t ht=>by rw[List.getElem?_eq_getElem hk]at ht;obtain rfl:e.2.1[k]=t:=(by simpa using ht);exact ha) h0 (by omega) (by simp)
end Go.Ab
end
section
namespace Go.Ab
theorem Sf {α:Type}[DecidableEq α]:∀(a b:List α),a.Nodup->(∀x∈a,x∈b)->a.length<=b.length
 |[],b,_,_=>Nat.zero_le _
 |x::a,b,hn,hs=>by
  rw[List.nodup_cons]at hn
  have hx:=hs x (List.mem_cons_self ..)
  have hlen:=(List.perm_cons_erase hx).length_eq
  have:=Sf a (b.erase x) hn.2 (fun y hy=>(List.mem_erase_of_ne (fun e=>hn.1 (by rw[<-e];exact hy))).2 (hs y (List.mem_cons_of_mem _ hy)))
  simp only[List.length_cons]at hlen ⊢
  omega
theorem qi (a b:Int):∃n:Int,BO (a,b,())=some (n,())/\decide (n<0)=decide (a<b)/\(n==0)=(a==b):=by
 refine⟨_,fU a b,?_,?_⟩
 ·by_cases h:a<b
  ·simp[h]
  ·by_cases h2:a>b<;>simp[h,h2]
 ·by_cases h:a<b
  ·simp[h];omega
  ·by_cases h2:a>b
   ·simp[h,h2];omega
   ·have:a=b:=by omega
    simp[this]
theorem Q3 {α:Type}{f:α->Int}{l:List α}(h:GH f l)(t:Int):∀i j (hij:i<=j) (hj:j<l.length),(fun x=>decide (f x<t)) l[j]=true->(fun x=>decide (f x<t)) (l[i]'(by omega))=true:=by
 intro i j hij hj h1
 simp only[decide_eq_true_eq]at*
 by_cases e:i=j
 ·subst e;exact h1
 ·have:f l[i]<f l[j]:=List.pairwise_iff_getElem.1 h i j (by omega) hj (by omega)
  omega
def DX {α:Type}(f:α->Int)(l:List α)(t:Int):Bool:=G7 (fun x=>f x==t) (l.dropWhile fun x=>decide (f x<t))
theorem KP {α:Type}{f:α->Int}{l:List α}{m:α}(h:DX f l (f m)=false):Ce f l m=(l.takeWhile fun x=>decide (f x<f m))++m::l.dropWhile fun x=>decide (f x<f m):=by
 unfold DX at h
 unfold Ce
 cases hd:l.dropWhile fun x=>decide (f x<f m)with
 |nil=>rfl
 |cons x r=>
  rw[hd]at h
  simp only[G7,beq_eq_false_iff_ne,ne_eq]at h
  simp only[h,if_false]
theorem KO {α:Type}{f:α->Int}{l:List α}{m:α}(h:DX f l (f m)=true):∃x,l[(l.takeWhile fun x=>decide (f x<f m)).length]?=some x/\f x=f m/\Ce f l m=l.set (l.takeWhile fun x=>decide (f x<f m)).length m:=by
 unfold DX at h
 unfold Ce
 have e:l.takeWhile (fun x=>decide (f x<f m))++l.dropWhile (fun x=>decide (f x<f m))=l:=List.takeWhile_append_dropWhile
 cases hd:l.dropWhile fun x=>decide (f x<f m)with
 |nil=>rw[hd]at h;cases h
 |cons x r=>
  rw[hd]at h e
  simp only[G7,beq_iff_eq]at h
  generalize l.takeWhile (fun x=>decide (f x<f m))=a at e ⊢
  subst e
  exact⟨x,by simp,h,by simp[h]⟩
theorem NU {α:Type}{f:α->Int}{l:List α}(hu:GH f l)(t:Int):DX f l t=true↔∃x∈l,f x=t:=by
 unfold DX
 have e:l.takeWhile (fun x=>decide (f x<t))++l.dropWhile (fun x=>decide (f x<t))=l:=List.takeWhile_append_dropWhile
 have hd:=MH hu t
 have hud:GH f (l.dropWhile fun x=>decide (f x<t)):=hu.sublist (List.dropWhile_sublist _)
 have htk:∀y∈(l.takeWhile fun x=>decide (f x<t)),f y<t:=fun y hy=>by
  have:=List.all_takeWhile (l:=l) (p:=fun x=>decide (f x<t))
  have:=List.all_eq_true.1 this y hy
  simpa using this
 have hm:∀x,x∈l↔x∈(l.takeWhile fun x=>decide (f x<t))\/x∈(l.dropWhile fun x=>decide (f x<t)):=fun x=>by rw[<-List.mem_append,e]
 cases hdw:l.dropWhile fun x=>decide (f x<t)with
 |nil=>
  rw[hdw]at hm
  simp only[G7,Bool.false_eq_true,false_iff]
  rintro⟨x,hx,hxt⟩
  rcases(hm x).1 hx with h|h
  ·have:=htk x h;omega
  ·cases h
 |cons y r=>
  rw[hdw]at hm hud
  simp only[G7,beq_iff_eq]
  constructor
  ·intro h;exact⟨y,(hm y).2 (.inr (List.mem_cons_self ..)),h⟩
  ·rintro⟨x,hx,hxt⟩
   rcases(hm x).1 hx with h|h
   ·have:=htk x h;omega
   ·have hy:t<=f y:=hd y (by rw[hdw];exact List.mem_cons_self ..)
    rcases List.mem_cons.1 h with rfl|h
    ·exact hxt
    ·have:=(List.pairwise_cons.1 hud).1 x h;omega
theorem UP {lk:List VM}(hl:lk.length<=1048576)(key:Int):FD (lk,key,())=some (Cq lk key,()):=by
 unfold FD Cq
 simp only[M0 hl (some key,()) (p:=fun m=>m.1==key) (fun x _=>by simp[FY]),Option.bind_some,gz,MA]
 cases hf:lk.findIdx? (fun m=>m.1==key)with
 |none=>rfl
 |some i=>
  obtain⟨h1,_⟩:=List.findIdx?_eq_some_iff_getElem.1 hf
  simp only[Option.isNone_some,cond_false,fx,Al h1,Option.bind_some,List.getElem?_eq_getElem h1]
theorem UN {wt:List VM}(hl:wt.length<=1048576)(hv:Dn (wt,())=some (true,()))(hu:GH (·.1) wt){a b:Int}(ha:inB a 1 9=true)(hb:inB b 1 9=true)(hab:a≠b):
 FB (wt,a,b,())=some (true,Ce (·.1) wt (a,b,()),()):=by
 have hbs:Be (wt,a,(),())=some (((wt.takeWhile fun x=>decide (x.1<a)).length:Int),DX (fun x:VM=>x.1) wt a,()):=Ng hl a (p:=fun x=>decide (x.1<a)) (q:=fun x=>x.1==a) (Q3 (f:=fun x:VM=>x.1) hu a) (fun x _=>by
  obtain⟨n,e1,e2,e3⟩:=qi x.1 a
  exact⟨n,by simp only[FC,e1,Option.bind_some],e2,e3⟩)
 have hab':(a==b)=false:=by simpa using hab
 unfold FB
 simp only[PV hl,hv,Nk,ha,hb,hab',Option.bind_some,Bool.not_true,cond_false]
 erw [hbs]
 simp only[Option.bind_some]
 cases hh:DX (fun x:VM=>x.1) wt a
 ·simp only[Bool.not_false,cond_true,EH]
  erw [N3 (by omega) _ _]
  rw[KP (m:=(a,b,())) hh]
  rfl
 ·obtain⟨x,e1,e2,e3⟩:=KO (m:=(a,b,())) hh
  rw[e3]
  simp only[Bool.not_true,cond_false]
  have hlt:=(List.getElem?_eq_some_iff.1 e1).1
  have c:(0:Int)<=(((wt.takeWhile fun x=>decide (x.1<a)).length:Nat):Int)/\(((wt.takeWhile fun x=>decide (x.1<a)).length:Nat):Int)<((wt.length:Nat):Int):=⟨by omega,by simpa using hlt⟩
  simp only[c,and_self,if_true,Nat.zero_add,Int.toNat_natCast]
  erw [e1]
  simp only[Option.bind_some,show x.1=a from e2]
theorem fT {lk:List VM}(hl:lk.length<=1048576)(hv:Eu (lk,())=some (true,()))(hu:GH (·.1) lk){key id:Int}(hk:inB key 0 5=true)(hi:inB id 1 9=true)(ho:Cq lk key=0\/Cq lk key=id)(hpos:∀m∈lk,m.2.1≠0):
 Es (lk,key,id,())=some (true,Ce (·.1) lk (key,id,()),()):=by
 have hbs:AQ (lk,key,(),())=some (((lk.takeWhile fun x=>decide (x.1<key)).length:Int),DX (fun x:VM=>x.1) lk key,()):=KS hl key (p:=fun x=>decide (x.1<key)) (q:=fun x=>x.1==key) (Q3 (f:=fun x:VM=>x.1) hu key) (fun x _=>by
  obtain⟨n,e1,e2,e3⟩:=qi x.1 key
  exact⟨n,by simp only[Dp,e1,Option.bind_some],e2,e3⟩)
 unfold Es
 simp only[T1 hl,hv,Nk,Ou,hk,hi,Option.bind_some,Bool.not_true,cond_false]
 erw [hbs]
 simp only[Option.bind_some]
 cases hh:DX (fun x:VM=>x.1) lk key
 ·simp only[cond_false,EI]
  erw [N3 (by omega) _ _]
  rw[KP (m:=(key,id,())) hh]
  rfl
 ·obtain⟨x,e1,e2,e3⟩:=KO (m:=(key,id,())) hh
  obtain⟨hlt,e4⟩:=List.getElem?_eq_some_iff.1 e1
  have hx:x∈lk:=by rw[<-e4];exact List.getElem_mem hlt
  have e2':x.1=key:=e2
  have hown:Cq lk key=x.2.1:=by
   unfold Cq
   cases hf:lk.find? (fun m=>m.1==key)with
   |none=>exact absurd (List.find?_eq_none.1 hf x hx) (by simp[e2'])
   |some y=>
    have h1:=List.find?_some hf
    have h2:=List.mem_of_find?_eq_some hf
    simp only[beq_iff_eq]at h1
    obtain⟨i,hi,rfl⟩:=List.getElem_of_mem h2
    obtain⟨j,hj,rfl⟩:=List.getElem_of_mem hx
    by_cases hij:i=j
    ·subst hij;rfl
    ·rcases Nat.lt_or_gt_of_ne hij with h|h
     ·have:=List.pairwise_iff_getElem.1 hu i j hi hj h;simp only at this;omega
     ·have:=List.pairwise_iff_getElem.1 hu j i hj hi h;simp only at this;omega
  have hxi:x.2.1=id:=by
   rcases ho with h|h
   ·exact absurd (hown.symm.trans h) (hpos x hx)
   ·exact hown.symm.trans h
  have hxe:x=(key,id,()):=Prod.ext e2' (Prod.ext hxi rfl)
  have hse:lk.set (lk.takeWhile fun x=>decide (x.1<key)).length (key,id,())=lk:=by
   apply List.ext_getElem?
   intro i
   rw[List.getElem?_set]
   split
   ·rename_i h
    subst h
    simp only at e1
    simp only[hlt,if_true,e1,hxe]
   ·rfl
  rw[e3]
  simp only[cond_true]
  rw[hse]
  have e5:lAt lk (((lk.takeWhile fun x=>decide (x.1<key)).length:Nat):Int)=some x:=by
   rw[Al (by simpa using hlt)]
   simpa using e4
  rw[e5]
  simp only[Option.bind_some,hxi,beq_self_eq_true]
end Go.Ab
end
section
namespace Go.Ab
theorem OkG.ltst {e:EG}(H:OkG e){key:Int}(hkey:inB key 0 5=true):∃(n:Nat) (hn:n<e.1.length) (v:VV),key=(n:Int)/\0<e.1[n].length/\e.1[n].length<=50/\e.1[n][e.1[n].length-1]?=some v/\DM e.1 key=some v/\lAt e.1 key=some e.1[n]/\v∈e.1[n]:=by
 obtain⟨n,hn,e1,e2,e3⟩:=Ti H.gd.six hkey
 have hl:=H.gd.ok _ (List.getElem_mem hn)
 obtain⟨v,hv,_⟩:=((J7 _).1 hl.1).2.2
 have hne:e.1[n]≠[]:=by intro h;rw[h]at hv;cases hv
 have hpos:0<e.1[n].length:=List.length_pos_iff.2 hne
 have hv':e.1[n][e.1[n].length-1]?=some v:=by rw[<-List.getLast?_eq_getElem?];exact hv
 refine⟨n,hn,v,e1,hpos,hl.2,hv',?_,e2,List.mem_of_getElem? hv'⟩
 unfold DM
 rw[e3];exact hv'
theorem Ll {e:EG}(H:OkG e){key:Int}(hkey:inB key 0 5=true):∃v,D2 ((e.1,()),key,())=some (some v,())/\DM e.1 key=some v:=by
 obtain⟨n,hn,v,e1,e2,e3,e4,e5,e6,e7⟩:=H.ltst hkey
 refine⟨v,?_,e5⟩
 unfold D2
 have h:lAt e.1[n] ((e.1[n].length:Int)-1)=some v:=by
  rw[show((e.1[n].length:Int)-1)=((e.1[n].length-1:Nat):Int) by omega,Al (by omega)]
  rw[List.getElem?_eq_getElem (by omega)]at e4;exact e4
 simp only[e6,Option.bind_some,GI (by omega:e.1[n].length<9223372036854775808),h]
theorem Rn {e:EG}(H:OkG e){key:Int}(hkey:inB key 0 5=true):∃(n j:Nat) (l:List VV) (v:VV),BE (key,e.1,())=some (some (n,j),e.1,())/\e.1[n]?=some l/\l[j]?=some v/\DM e.1 key=some v:=by
 obtain⟨n,hn,v,e1,e2,e3,e4,e5,e6,e7⟩:=H.ltst hkey
 refine⟨n,e.1[n].length-1,e.1[n],v,?_,List.getElem?_eq_getElem hn,e4,e5⟩
 unfold BE
 have c1:(0:Int)<=key/\key<(e.1.length:Int):=by omega
 have c2:(0:Int)<=(e.1[n].length:Int)-1/\(e.1[n].length:Int)-1<(e.1[n].length:Int):=by omega
 have hk:key.toNat=n:=by omega
 have hj:((e.1[n].length:Int)-1).toNat=e.1[n].length-1:=by omega
 simp only[c1,and_self,if_true,hk,Nat.zero_add,List.getElem?_eq_getElem hn,Option.bind_some,GI (by omega:e.1[n].length<9223372036854775808),c2,hj]
theorem fM {e:EG}(H:OkG e)(t:TX){key:Int}(hkey:inB key 0 5=true):
 DV ((e.1,()),e.2.2.1,(t.1,t.2.1,t.2.2.1,t.2.2.2.1,t.2.2.2.2.1,t.2.2.2.2.2.1,t.2.2.2.2.2.2.1,t.2.2.2.2.2.2.2.1,t.2.2.2.2.2.2.2.2.1,()),key,())=some (Fd e.1 e.2.2.1 t key,()):=by
 obtain⟨v,h1,h2⟩:=Ll H hkey
 unfold DV Fd
 simp only[UP H.small.fk,h1,h2,Option.bind_some,crV,KL,bne]
 generalize (Cq e.2.2.1 key==0)=b1
 generalize (Cq e.2.2.1 key==t.1)=b2
 generalize (t.2.1==1)=b3
 generalize (t.2.1==2)=b4
 generalize (t.2.1==4)=b5
 generalize decide (v.2.2.1>t.2.2.2.1)=b6
 generalize decide (v.2.2.2.1>t.2.2.2.1)=b7
 cases b1<;>cases b2<;>cases b3<;>cases b4<;>cases b5<;>cases b6<;>cases b7<;>rfl
theorem VG {l:List Int}(hl:l.length<=1048576)(y:Int):E6 (l,y,())=some (decide (y∈l),()):=by
 unfold E6 Hw
 have e:=DD (B:=fun v=>Cm (l,y,(l.length:Int),()) v _ some) hl (p:=fun z=>y==z) (fun i h=>by
  unfold Cm
  simp only[Al h,Option.bind_some,decide_eq_true (by omega:(i:Int)<(l.length:Int)),cond_true,An h (by omega)]
  cases y==l[i]<;>rfl) (by
  unfold Cm
  simp only[Int.lt_irrefl,decide_false,cond_false])
 erw [e]
 simp only[Option.bind_some,Ve,List.findIdx?_isSome]
 congr 2
 rw[Bool.eq_iff_iff]
 simp only[List.any_eq_true,decide_eq_true_eq,beq_iff_eq]
 constructor
 ·rintro⟨x,hx,rfl⟩;exact hx
 ·intro h;exact⟨y,h,rfl⟩
theorem Sr (wt:List VM):∀(n:Nat) (out:List Int) (x:Int),out≠[]->Gd wt n out x≠[]
 |0,out,x,h=>by simpa[Gd]using h
 |n+1,out,x,h=>by
  unfold Gd
  split
  ·exact h
  ·split
   ·simp
   ·exact Sr wt n _ _ (by simp)
theorem NW (wt:List VM):∀(n:Nat) (out:List Int) (x:Int),(Gd wt n out x).length<=out.length+n
 |0,out,x=>by simp[Gd]
 |n+1,out,x=>by
  unfold Gd
  split
  ·omega
  ·split
   ·simp
   ·rename_i y _ _
    have:=NW wt n (out++[y]) y
    simp at this;omega
theorem pC {out:List Int}(hn:out.Nodup)(h:∀x∈out,inB x 1 9=true):out.length<=9:=by
 refine Sf out [1,2,3,4,5,6,7,8,9] hn fun x hx=>?_
 have:=Bc.1 (h x hx)
 simp only[List.mem_cons,List.not_mem_nil,or_false]
 omega
theorem kf {wt:List VM}(hl:wt.length<=1048576)(hw:∀m∈wt,inB m.2.1 1 9=true):∀(n:Nat) (out:List Int) (x:Int),out≠[]->out.getLast?=some x->out.Nodup->(∀y∈out,inB y 1 9=true)->10<=out.length+n->
 ((AC (fun v=>DA (wt,()) v _ some) (out,())).bind fun p=>Az p (fun p=>some ((p.1,()):List Int×Unit)) fun p=>some (p.2.1,()))=some (Gd wt n out x,()):=by
 intro n
 induction n with
 |zero=>
  intro out x h1 h2 h3 h4 h5
  have:=pC h3 h4
  omega
 |succ n ih=>
  intro out x h1 h2 h3 h4 h5
  have h9:=pC h3 h4
  have hpos:0<out.length:=List.length_pos_iff.2 h1
  have hlast:lAt out ((out.length:Int)-1)=some x:=by
   rw[show((out.length:Int)-1)=((out.length-1:Nat):Int) by omega,Al (by omega)]
   rw[List.getLast?_eq_getElem?,List.getElem?_eq_getElem (by omega)]at h2
   exact h2
  have hix:=LZ hl (some out,()) (p:=fun m=>m.1==x) (fun m _=>by simp only[FX,Option.bind_some,GI (by omega:out.length<9223372036854775808),hlast])
  rw[AZ]
  simp only[DA,hix,Option.bind_some,gz]
  unfold Gd Tm
  rw[MA]
  cases hf:wt.findIdx? (fun m=>m.1==x)with
  |none=>simp only[Option.isNone_none,cond_true,Option.bind_some,Az,Option.bind_none,Option.map_none]
  |some i=>
   obtain⟨hi,_⟩:=List.findIdx?_eq_some_iff_getElem.1 hf
   have hlen:(out++[wt[i].2.1]).length<=4398046511104:=by simp;omega
   simp only[Option.isNone_some,cond_false,fx,Al hi,Option.bind_some,VG (by omega:out.length<=1048576),hlen,if_true,List.getElem?_eq_getElem hi,Option.map_some]
   by_cases hm:wt[i].2.1∈out
   ·simp only[hm,decide_true,cond_true,Option.bind_some,Az,if_true]
   ·simp only[hm,decide_false,cond_false,Option.bind_some,if_false]
    refine ih (out++[wt[i].2.1]) wt[i].2.1 (by simp) (by simp) ?_ ?_ (by simp;omega)
    ·rw[List.nodup_append]
     exact⟨h3,by simp,fun a ha b hb=>by rw[List.mem_singleton.1 hb];rintro rfl;exact hm ha⟩
    ·intro y hy
     rcases List.mem_append.1 hy with h|h
     ·exact h4 y h
     ·rw[List.mem_singleton.1 h];exact hw _ (List.getElem_mem hi)
theorem UW {wt:List VM}(h1:∀m∈wt,inB m.1 1 9=true/\inB m.2.1 1 9=true/\m.1≠m.2.1)(h2:GH (·.1) wt){a b:Int}(ha:inB a 1 9=true)(hb:inB b 1 9=true)(hab:a≠b):Md (Ce (·.1) wt (a,b,())):=by
 refine(I3 _).2 ⟨fun m hm=>?_,KN h2 _⟩
 rcases(GQ h2).1 hm with rfl|⟨h,_⟩
 ·exact⟨ha,hb,hab⟩
 ·exact h1 m h
theorem X6 {e:EG}(H:OkG e){a b:Int}(ha:inB a 1 9=true)(hb:inB b 1 9=true)(hab:a≠b):F5 (e.2.2.2.1,a,b,())=some (PG e.2.2.2.1 a b,()):=by
 have hl:=H.wtLen
 have hw0:Md e.2.2.2.1:=(I3 _).2 ⟨H.wtA,H.wtU⟩
 have hw1:Md (Ce (·.1) e.2.2.2.1 (a,b,())):=UW H.wtA H.wtU ha hb hab
 have hpl:(Ce (·.1) e.2.2.2.1 (a,b,())).length<=1048576:=by have:=Pb (f:=fun x:VM=>x.1) e.2.2.2.1 (a,b,());omega
 have hs:=UN (wt:=e.2.2.2.1) (by omega) ((Im (by omega)).trans (by rw[AH hw0])) H.wtU ha hb hab
 have hc:=kf (wt:=Ce (·.1) e.2.2.2.1 (a,b,())) hpl (fun m hm=>(((I3 _).1 hw1).1 m hm).2.1) 10 [a] a (by simp) rfl (by simp) (by simpa using ha) (by simp)
 unfold F5 PG
 simp only[hs,Option.bind_some,Bool.not_true,cond_false]
 unfold IA
 simp only[Im hpl,AH hw1,Bool.not_true,cond_false,Nk,ha,Option.bind_some]
 erw [hc]
 simp only[Option.bind_some]
 have h1:=Sr (Ce (·.1) e.2.2.2.1 (a,b,())) 10 [a] a (by simp)
 have h2:=NW (Ce (·.1) e.2.2.2.1 (a,b,())) 10 [a] a
 generalize Gd (Ce (·.1) e.2.2.2.1 (a,b,())) 10 [a] a=c at h1 h2 ⊢
 have hpos:0<c.length:=List.length_pos_iff.2 h1
 simp only[List.length_cons,List.length_nil]at h2
 have c1:(0:Int)<=(c.length:Int)-1/\(c.length:Int)-1<(c.length:Int):=by omega
 have hj:((c.length:Int)-1).toNat=c.length-1:=by omega
 simp only[GI (by omega:c.length<9223372036854775808),c1,and_self,if_true,Nat.zero_add,hj,List.getLast?_eq_getElem?,List.getElem?_eq_getElem (by omega:c.length-1<c.length),Option.bind_some]
 rfl
end Go.Ab
end
section
namespace Go.Ab
theorem OkG.wrUp {e:EG}(H:OkG e){k:Nat}(hk:k<e.2.1.length):GH (·.1) e.2.1[k].2.2.2.2.2.2.2.2.1:=
 ((JO _).1 ((CF _).1 (H.txA _ (List.getElem_mem hk)).1).2.1).2
theorem ZL {e:EG}(H:OkG e){k:Nat}(hk:k<e.2.1.length){key:Int}(hkey:inB key 0 5=true)(val:Int):
 Bw (k,key,val,e.2.1,e.1,())=some (e.2.1.set k (Nu e.2.1[k] (mx e.2.1[k].2.2.2.2.1 (KL (DM e.1 key))) (Ce (·.1) e.2.1[k].2.2.2.2.2.2.2.2.1 (key,val,()))),e.1,()):=by
 obtain⟨n,j,l,v,h1,h2,h3,h4⟩:=Rn H hkey
 have hw:=(H.smT hk).2
 have hbs:AI (e.2.1[k].2.2.2.2.2.2.2.2.1,key,(),())=some (((e.2.1[k].2.2.2.2.2.2.2.2.1.takeWhile fun x=>decide (x.1<key)).length:Int),DX (fun x:VM=>x.1) e.2.1[k].2.2.2.2.2.2.2.2.1 key,()):=
  Js hw key (p:=fun x=>decide (x.1<key)) (q:=fun x=>x.1==key) (Q3 (f:=fun x:VM=>x.1) (H.wrUp hk) key) (fun x _=>by
   obtain⟨n,e1,e2,e3⟩:=qi x.1 key
   exact⟨n,by simp only[Cu,e1,Option.bind_some],e2,e3⟩)
 unfold Bw
 simp only[List.getElem?_eq_getElem hk,Option.bind_some,hbs,Wm hw,h1,h4,KL]
 cases hh:DX (fun x:VM=>x.1) e.2.1[k].2.2.2.2.2.2.2.2.1 key
 ·simp only[cond_false,Hq hk,Option.bind_some,Em]
  erw [N3 (by omega) _ _]
  rw[KP (m:=(key,val,())) hh]
  simp only[Option.bind_some,IR,Hq hk,h2,h3,List.length_set,and_self,if_true,Nat.le_refl,(by omega:8<9),Nu]
 ·obtain⟨x,e1,e2,e3⟩:=KO (m:=(key,val,())) hh
  rw[e3]
  have hlt:=(List.getElem?_eq_some_iff.1 e1).1
  simp only at e1 hlt e2
  have c:(0:Int)<=(((e.2.1[k].2.2.2.2.2.2.2.2.1.takeWhile fun x=>decide (x.1<key)).length:Nat):Int)/\(((e.2.1[k].2.2.2.2.2.2.2.2.1.takeWhile fun x=>decide (x.1<key)).length:Nat):Int)<((e.2.1[k].2.2.2.2.2.2.2.2.1.length:Nat):Int):=⟨by omega,Int.ofNat_lt.2 hlt⟩
  simp only[cond_true,Hq hk,Option.bind_some,c,and_self,if_true,Nat.zero_add,Int.toNat_natCast,e1,IR,h2,h3,e2,Nu,List.length_set]
theorem RQ {s:List (List VV)}{lk:List VM}{t:TX}{key:Int}(h:Fd s lk t key=1):Cq lk key≠0/\Cq lk key≠t.1:=by
 unfold Fd at h
 cases h1:(Cq lk key==0)
 ·cases h2:(Cq lk key==t.1)
  ·exact⟨by simpa using h1,by simpa using h2⟩
  ·simp only[h1,h2,Bool.not_false,Bool.not_true,Bool.and_false,cond_false,Bool.false_or]at h
   revert h
   cases(t.2.1==2)<;>cases decide (crV (DM s key)>t.2.2.2.1)<;>cases(t.2.1==4)<;>cases decide (KL (DM s key)>t.2.2.2.1)<;>simp
 ·simp only[h1,Bool.not_true,Bool.false_and,Bool.and_false,cond_false,Bool.false_or]at h
  revert h
  cases(t.2.1==2)<;>cases decide (crV (DM s key)>t.2.2.2.1)<;>cases(t.2.1==4)<;>cases decide (KL (DM s key)>t.2.2.2.1)<;>simp
theorem Pq {s:List (List VV)}{lk:List VM}{t:TX}{key:Int}(h:Fd s lk t key=0)(ht:(t.2.1==1||t.2.1==2)=true):Cq lk key=0\/Cq lk key=t.1:=by
 unfold Fd at h
 cases h1:(Cq lk key==0)
 ·cases h2:(Cq lk key==t.1)
  ·exfalso
   simp only[h1,h2,Bool.not_false,Bool.and_true,Bool.true_or]at h
   revert h ht
   cases(t.2.1==1)<;>cases(t.2.1==2)<;>simp
  ·exact .inr (by simpa using h2)
 ·exact .inl (by simpa using h1)
theorem V5 {e:EG}(H:OkG e){key:Int}(h:Cq e.2.2.1 key≠0):inB (Cq e.2.2.1 key) 1 9=true:=by
 unfold Cq at h ⊢
 cases hf:e.2.2.1.find? (fun m=>m.1==key)with
 |none=>rw[hf]at h;exact absurd rfl h
 |some m=>exact(H.lkA m (List.mem_of_find?_eq_some hf)).2
theorem OkG.idIn {e:EG}(H:OkG e){k:Nat}(hk:k<e.2.1.length):inB e.2.1[k].1 1 9=true:=((CF _).1 (H.txA _ (List.getElem_mem hk)).1).2.2.1
theorem UK {e:EG}(H:OkG e){k:Nat}(hk:k<e.2.1.length){key:Int}(hkey:inB key 0 5=true)(val:Int)(ce:Bool):
 Ez (k,key,val,Hj ce e)=some ((L8 e k key val).1,Hj ce (L8 e k key val).2):=by
 have hs:=H.small
 have hid:=H.idIn hk
 unfold Ez L8 Hj
 simp only[List.getElem?_eq_getElem hk,Option.bind_some,fM H _ hkey,UP hs.fk]
 cases hc:(Fd e.1 e.2.2.1 e.2.1[k] key==1)
 ·simp only[cond_false]
  cases hc0:(Fd e.1 e.2.2.1 e.2.1[k] key==0)
  ·simp only[bne,hc0,Bool.not_false,cond_true,HB hk hs.fk hs.fw,Option.bind_some,cond_false,Ik,EX]
  ·have hc0':Fd e.1 e.2.2.1 e.2.1[k] key=0:=by simpa using hc0
   simp only[bne,hc0,Bool.not_true,cond_false,cond_true,ZL H hk hkey,Option.bind_some]
   have htl:F6 (e.2.1[k].2.1,())=some (e.2.1[k].2.1==1||e.2.1[k].2.1==2,()):=by
    unfold F6
    cases e.2.1[k].2.1==1<;>rfl
   simp only[htl,Option.bind_some]
   cases ht:(e.2.1[k].2.1==1||e.2.1[k].2.1==2)
   ·simp only[cond_false]
   ·simp only[cond_true,fT (lk:=e.2.2.1) hs.fk ((Ob hs.fk).trans (by rw[AH ((Mr _).2 ⟨H.lkA,H.lkU⟩)])) H.lkU hkey hid (Pq hc0' ht) (fun m hm=>by have:=Bc.1 (H.lkA m hm).2;omega),Option.bind_some]
 ·have hc':Fd e.1 e.2.2.1 e.2.1[k] key=1:=by simpa using hc
  obtain⟨n0,n1⟩:=RQ hc'
  have ho:=V5 H n0
  have hab:e.2.1[k].1≠Cq e.2.2.1 key:=fun h=>n1 h.symm
  simp only[cond_true,X6 H hid ho hab,Option.bind_some]
  cases PG e.2.2.2.1 e.2.1[k].1 (Cq e.2.2.1 key)
  ·simp only[cond_false,UN hs.fw ((Im hs.fw).trans (by rw[AH ((I3 _).2 ⟨H.wtA,H.wtU⟩)])) H.wtU hid ho hab,Option.bind_some,hc']
  ·simp only[cond_true,HB hk hs.fk hs.fw,Option.bind_some,Ik,EX]
end Go.Ab
end
section
namespace Go.Ab
abbrev tup (t:TX):TX:=(t.1,t.2.1,t.2.2.1,t.2.2.2.1,t.2.2.2.2.1,t.2.2.2.2.2.1,t.2.2.2.2.2.2.1,t.2.2.2.2.2.2.2.1,t.2.2.2.2.2.2.2.2.1,())
theorem OkG.rdIn {e:EG}(H:OkG e){k:Nat}(hk:k<e.2.1.length):Ny e.2.1[k].2.2.2.2.2.2.2.1:=((CF _).1 (H.txA _ (List.getElem_mem hk)).1).1
theorem OkG.wrIn {e:EG}(H:OkG e){k:Nat}(hk:k<e.2.1.length):∀m∈e.2.1[k].2.2.2.2.2.2.2.2.1,inB m.1 0 5=true:=fun m hm=>
 (((JO _).1 ((CF _).1 (H.txA _ (List.getElem_mem hk)).1).2.1).1 m hm).1
theorem fN {e:EG}(H:OkG e){k:Nat}(hk:k<e.2.1.length):DB ((e.1,()),tup e.2.1[k],())=some (rlP e.1 e.2.1[k],()):=by
 have hsm:=H.smT hk
 have hwr:=H.wrIn hk
 unfold DB rlP
 simp only
 generalize hr:e.2.1[k].2.2.2.2.2.2.2.1=rd at*
 generalize hw:e.2.1[k].2.2.2.2.2.2.2.2.1=wr at*
 have hr1:rd.length<=1048576:=by have:=(H.smT hk).1;rw[hr]at this;exact this
 have hw1:wr.length<=1048576:=by have:=(H.smT hk).2;rw[hw]at this;exact this
 refine G9 (l:=rd) (f:=fun n m=>mx n m.2.1) (X:=fun n=>(AC (fun v=>Bx (wr,(wr.length:Int),e.1,()) v _ some) (n,0,())).bind fun p=>some (p.1,())) 0 (fun i h n=>?_) (fun n=>⟨(n,()),?_,rfl⟩) ?_
 ·unfold C3
  simp only[Al h,Option.bind_some]
  rw[decide_eq_true (by omega),An h (by omega)];rfl
 ·unfold C3
  simp only
  rw[decide_eq_false (by omega)];rfl
 ·refine G9 (l:=wr) (f:=fun n m=>mx n (KL (DM e.1 m.1))) (X:=fun n=>some (n,())) _ (fun i h n=>?_) (fun n=>⟨(n,()),?_,rfl⟩) rfl
  ·obtain⟨v,h1,h2⟩:=Ll H (hwr _ (List.getElem_mem h))
   unfold Bx
   simp only[Al h,Option.bind_some,h1,h2,KL]
   rw[decide_eq_true (by omega),An h (by omega)];rfl
  ·unfold Bx
   simp only
   rw[decide_eq_false (by omega)];rfl
theorem Sa {e:EG}(H:OkG e){k:Nat}(hk:k<e.2.1.length)(ha:e.2.1[k].2.2.1=1)(st:Int):DN ((e.1,()),tup e.2.1[k],st,())=some (loP e.1 e.2.1[k],hiP e.1 e.2.1[k] st,()):=by
 unfold DN
 simp only[fN H hk,fO H.small.fs H.gd.six _ (H.smT hk) (H.rdIn hk) ((H.txA _ (List.getElem_mem hk)).2.2.2 ha),Option.bind_some,loP,hiP]
theorem X5 {e:EG}(H:OkG e){k:Nat}(hk:k<e.2.1.length):DP ((e.1,()),tup e.2.1[k],())=some (Mz e.1 e.2.1[k],()):=by
 unfold DP Mz
 have hc:∀x∈e.2.1[k].2.2.2.2.2.2.2.2.1,Cs (x,some (e.1,()),())=some ((match e.1[x.1.toNat]? with|some l=>decide (l.length>=50)|none=>false),()):=fun x hx=>by
  obtain⟨n,hn,e1,e2,e3⟩:=Ti H.gd.six (H.wrIn hk x hx)
  have h50:=(H.gd.ok _ (List.getElem_mem hn)).2
  unfold Cs
  simp only[Option.bind_some,e2,e3]
  congr 2
  rw[Bool.eq_iff_iff,beq_iff_eq,decide_eq_true_eq];omega
 simp only[Ko (H.smT hk).2 (some (e.1,()),()) hc,Option.bind_some]<;>rfl
theorem fR {e:EG}(H:OkG e){k:Nat}(hk:k<e.2.1.length):DC ((e.1,()),tup e.2.1[k],())=some (Ly e.1 e.2.1[k],()):=by
 unfold DC Ly
 have hc:∀x∈e.2.1[k].2.2.2.2.2.2.2.2.1,BR (x,some (e.1,()),some (tup e.2.1[k]),())=some (decide (crV (DM e.1 x.1)>e.2.1[k].2.2.2.1),()):=fun x hx=>by
  obtain⟨v,h1,h2⟩:=Ll H (H.wrIn hk x hx)
  unfold BR
  simp only[Option.bind_some,h1,h2,crV]
 simp only[Jf (H.smT hk).2 (some (e.1,()),some (tup e.2.1[k]),()) hc,Option.bind_some]
 cases e.2.1[k].2.2.2.2.2.2.2.2.1.any fun x=>decide (crV (DM e.1 x.1)>e.2.1[k].2.2.2.1)<;>cases e.2.1[k].2.1==2<;>cases e.2.1[k].2.1==4<;>rfl
theorem pn {s:List (List VV)}{n:Nat}(h:stOK s n)(hn:n<=1000){m:VM}(hm:inB m.1 0 5=true)(hx:Gt s m)(st:Int):
 ∃(a j:Nat) (l:List VV) (v:VV),Fo (m.1,m.2.1,s,())=some (some (a,j),s,())/\s[a]?=some l/\l[j]?=some v/\LO st s m=s.set a (l.set j (Rk st v)):=by
 obtain⟨k,hk,hlt,l,e1,e2,e3,hl⟩:=Jz h.1 hm
 obtain⟨l',j,x1,x2⟩:=hx
 rw[e3]at x1;obtain rfl:l=l':=(by simpa using x1)
 have hj:=Q2 x2
 have hsm:=(h.small hn).2 _ hl
 refine⟨k,j,l,l[j],?_,e1,List.getElem?_eq_getElem hj,?_⟩
 ·unfold Fo
  have c1:(0:Int)<=m.1/\m.1<(s.length:Int):=by omega
  have hkn:m.1.toNat=k:=by omega
  have hjlt:¬((j:Int)<0):=by omega
  have c2:(0:Int)<=(j:Int)/\(j:Int)<(l.length:Int):=by omega
  simp only[c1,and_self,if_true,hkn,Nat.zero_add,e1,Option.bind_some,SV hsm,x2,fx,decide_eq_false hjlt,cond_false,c2,Int.toNat_natCast]
 ·unfold LO
  have hkn:m.1.toNat=k:=by omega
  simp only[e3,x2,List.getElem?_eq_getElem hj,hkn]
theorem yi {s:List (List VV)}{n:Nat}(h:stOK s n)(hn:n<=1000){m:VM}(hm:inB m.1 0 5=true):
 ∃(a:Nat) (l:List VV) (v:VV),m.1=(a:Int)/\a<s.length/\BE (m.1,s,())=some (some (a,l.length-1),s,())/\s[a]?=some l/\l[l.length-1]?=some v/\l.length<=50+n/\I8 s m=some l:=by
 obtain⟨k,hk,hlt,l,e1,e2,e3,hl⟩:=Jz h.1 hm
 have h5:=h.2 l hl
 refine⟨k,l,l[l.length-1],hk,hlt,?_,e1,List.getElem?_eq_getElem (by omega),h5.2,e3⟩
 unfold BE
 have c1:(0:Int)<=m.1/\m.1<(s.length:Int):=by omega
 have c2:(0:Int)<=(l.length:Int)-1/\(l.length:Int)-1<(l.length:Int):=by omega
 have hkn:m.1.toNat=k:=by omega
 have hj:((l.length:Int)-1).toNat=l.length-1:=by omega
 simp only[c1,and_self,if_true,hkn,Nat.zero_add,e1,Option.bind_some,GI (by omega:l.length<9223372036854775808),c2,hj]
theorem Ro {e:EG}(H:OkG e){k:Nat}(hk:k<e.2.1.length)(ha:e.2.1[k].2.2.1=1)(st:Int)(ce:Bool)(st':Int):
 Db (k,st,ce,st',e.1,e.2.1,e.2.2.1,e.2.2.2.1,())=some (ce,st',OH e.1 e.2.1[k] st (hiP e.1 e.2.1[k] st),e.2.1.set k (LF e.2.1[k] (loP e.1 e.2.1[k]) (hiP e.1 e.2.1[k] st) st),e.2.2.1,e.2.2.2.1,()):=by
 have hsm:=H.smT hk
 have hwr:=H.wrIn hk
 have hrd:=H.rdIn hk
 have hx:=(H.txA _ (List.getElem_mem hk)).2.2.2 ha
 have hwl:=QI ((CF _).1 (H.txA _ (List.getElem_mem hk)).1).2.1
 unfold Db OH
 simp only[List.getElem?_eq_getElem hk,Option.bind_some,Sa H hk ha,Hq hk,IR,List.length_set,ge_iff_le,LF]
 generalize loP e.1 e.2.1[k]=lo
 generalize hiP e.1 e.2.1[k] st=hi
 have hk':∀t:TX,k<(e.2.1.set k t).length:=fun t=>by simpa using hk
 obtain⟨f1,f2⟩:=Lw (l:=e.2.1[k].2.2.2.2.2.2.2.1) (f:=LO st) (Inv:=fun s i=>stOK s 0/\∀m∈e.2.1[k].2.2.2.2.2.2.2.1,Gt s m) (n0:=e.1)
  (B:=fun v=>BW (k,st,k,(e.2.1[k].2.2.2.2.2.2.2.1.length:Int),ce,st',e.2.1.set k (e.2.1[k].1,e.2.1[k].2.1,2,e.2.1[k].2.2.2.1,lo,hi,st,e.2.1[k].2.2.2.2.2.2.2.1,e.2.1[k].2.2.2.2.2.2.2.2.1,()),e.2.2.1,e.2.2.2.1,()) v _ some)
  (fun i h s hI=>by
    obtain⟨_,hm,_⟩:=hrd i h
    obtain⟨a,j,l,v,h1,h2,h3,h4⟩:=pn hI.1 (by omega) hm (hI.2 _ (List.getElem_mem h)) st
    have c:(0:Int)<=(i:Int)/\(i:Int)<(e.2.1[k].2.2.2.2.2.2.2.1.length:Int):=by omega
    unfold BW
    simp only[decide_eq_true c.2,decide_true,cond_true,Hq hk,Option.bind_some,c,and_self,if_true,Nat.zero_add,Int.toNat_natCast,List.getElem?_eq_getElem h,h1,h2,h3,An h (by have:=hsm.1;omega),h4,Rk])
  (fun i h s hI=>⟨RV st hI.1,fun m hm=>Pl st (hI.2 m hm)⟩)
  ⟨H.st.stOK,hx⟩
  (fun s=>by
    unfold BW
    simp only[Int.lt_irrefl,decide_false,cond_false])
 erw [f1]
 simp only[Option.bind_some,Hq hk]
 obtain⟨g1,g2⟩:=Lw (l:=e.2.1[k].2.2.2.2.2.2.2.2.1) (f:=Oi st e.2.1[k].1 hi) (Inv:=fun s i=>stOK s i) (n0:=e.2.1[k].2.2.2.2.2.2.2.1.foldl (LO st) e.1)
  (B:=fun v=>BV (k,st,k,(e.2.1[k].2.2.2.2.2.2.2.2.1.length:Int),ce,st',e.2.1.set k (e.2.1[k].1,e.2.1[k].2.1,2,e.2.1[k].2.2.2.1,lo,hi,st,e.2.1[k].2.2.2.2.2.2.2.1,e.2.1[k].2.2.2.2.2.2.2.2.1,()),e.2.2.1,e.2.2.2.1,()) v _ some)
  (fun i h s hI=>by
    obtain⟨a,l,v,h0,h5,h1,h2,h3,h4,h6⟩:=yi hI (by omega) (hwr _ (List.getElem_mem h))
    have c:(0:Int)<=(i:Int)/\(i:Int)<(e.2.1[k].2.2.2.2.2.2.2.2.1.length:Int):=by omega
    have c3:(0:Int)<=(a:Int)/\(a:Int)<(s.length:Int):=by omega
    have c4:l.length+1<=879609302220:=by omega
    rw[h0]at h1
    unfold BV Oi
    simp only[decide_eq_true c.2,decide_true,cond_true,Hq hk,Option.bind_some,c,and_self,if_true,Nat.zero_add,Int.toNat_natCast,List.getElem?_eq_getElem h,h0,h1,h2,h3,h6,An h (by have:=hsm.2;omega),d6,List.length_set,c3.1,c3.2,true_and,Hq h5,IR,List.length_append,List.length_cons,List.length_nil,c4,Nat.le_refl,Nat.zero_lt_one])
  (fun i h s hI=>RU st _ hi hI)
  f2.1
  (fun s=>by
    unfold BV
    simp only[Int.lt_irrefl,decide_false,cond_false])
 erw [g1]
 rfl
end Go.Ab
end
section
namespace Go.Ab
theorem SW {e:EG}(H:OkG e){k:Nat}(hk:k<e.2.1.length)(ha:e.2.1[k].2.2.1=1)(ce:Bool):
 DW (k,Hj ce e)=some ((GU ce e k).1,Hj ce (GU ce e k).2):=by
 have hs:=H.small
 have hst0:=H.stamp0
 have hst1:=H.stamp
 have hkset:∀t,k<(e.2.1.set k t).length:=fun t=>by simpa using hk
 unfold DW GU Hj
 simp only[List.getElem?_eq_getElem hk,Option.bind_some,fR H hk,bne]
 cases hc:(Ly e.1 e.2.1[k]==0)
 ·simp only[Bool.not_false,cond_true,HB hk hs.fk hs.fw,Option.bind_some,Ik,EX]
 ·simp only[Bool.not_true,cond_false]
  cases h9:(e.2.2.2.2==999)
  ·have hw:IntKind.i64.wrap (e.2.2.2.2+1)=e.2.2.2.2+1:=CI (by omega) (by omega)
   simp only[cond_false,hw,Sa H hk ha,Option.bind_some,X5 H hk,Ro H hk ha,HB hk hs.fk hs.fw,Sb (hkset _) hs.fk hs.fw]
   cases ce
   ·simp only[cond_false,Bool.false_and,Bool.false_or]
    cases Mz e.1 e.2.1[k]
    ·simp[Ik,LF]
    ·simp only[cond_true,Ik,EX,Option.bind_some]
   ·simp only[cond_true,Bool.true_and]
    cases decide (loP e.1 e.2.1[k]>=hiP e.1 e.2.1[k] (e.2.2.2.2+1))
    ·simp only[cond_false,Bool.false_or]
     cases Mz e.1 e.2.1[k]
     ·simp[Ik,LF]
     ·simp only[cond_true,Ik,EX,Option.bind_some]
    ·simp only[cond_true,Bool.true_or,Ik,EX,Option.bind_some]
  ·simp only[cond_true]
theorem UZ {id sc st:Int}(hid:inB id 1 9=true)(hsc:inB sc 1 4=true)(hst:inB st 0 999=true):M2 (LG id sc st)=true:=by
 rw[CF]
 refine⟨fun i hi=>absurd hi (Nat.not_lt_zero _),fun i hi=>absurd hi (Nat.not_lt_zero _),hid,hsc,hst,by show inB 1 1 3=true;decide,by show inB 0 0 999=true;decide,by show inB 1000 1 1000=true;decide,?_,by show inB 0 0 999=true;decide,Nat.zero_le _⟩
 show(1:Int)=2↔(0:Int)>0
 omega
theorem Vu {e:EG}(H:OkG e)(id:Int):(e.2.1.any fun t=>t.1==id)=DX (fun t:TX=>t.1) e.2.1 id:=by
 rw[Bool.eq_iff_iff,NU H.txU,List.any_eq_true]
 simp only[beq_iff_eq]
theorem UT {e:EG}(H:OkG e){id sc:Int}(hid:inB id 1 9=true)(hsc:inB sc 1 4=true)(a b c d:Int)(ce:Bool):
 EA (a,id,sc,b,c,d,Hj ce e)=some ((JW e id sc).1,ce,(JW e id sc).2.2.2.2.2,(JW e id sc).2.1,(JW e id sc).2.2.2.1,(JW e id sc).2.2.2.2.1,(JW e id sc).2.2.1,()):=by
 have hs:=H.small
 have hst:inB e.2.2.2.2 0 999=true:=Bc.2 ⟨H.stamp0,H.stamp⟩
 have hT:okT id sc 1 e.2.2.2.2 0 1000 0 [] []=true:=UZ hid hsc hst
 have hbs:AO (e.2.1,id,(),())=some (((e.2.1.takeWhile fun x=>decide (x.1<id)).length:Int),DX (fun x:TX=>x.1) e.2.1 id,()):=
  Kr hs.fl id (p:=fun x=>decide (x.1<id)) (q:=fun x=>x.1==id) (Q3 (f:=fun x:TX=>x.1) H.txU id) (fun x _=>by
   obtain⟨n,e1,e2,e3⟩:=qi x.1 id
   exact⟨n,by simp only[Dc,e1,Option.bind_some],e2,e3⟩)
 have h6:((e.2.1.length:Int)==6)=(e.2.1.length==6):=by rw[Bool.eq_iff_iff,beq_iff_eq,beq_iff_eq];omega
 unfold EA JW Hj
 simp only[hbs,Option.bind_some,Vu H,h6]
 cases hh:DX (fun x:TX=>x.1) e.2.1 id
 ·simp only[cond_false,Bool.false_or]
  cases h7:(e.2.1.length==6)
  ·have hn:Ey (id,sc,e.2.2.2.2,())=some (id,sc,1,e.2.2.2.2,0,1000,0,true,()):=by
    unfold Ey
    simp only[ic (rd:=[]) (wr:=[]) (Nat.zero_le _) (Nat.zero_le _),hT,Option.bind_some,Bool.not_true,cond_false]
   simp only[cond_false,hn,Option.bind_some,CT]
   erw [N3 (by have:=hs.fl;omega) _ _]
   rw[KP (m:=LG id sc e.2.2.2.2) hh]
   rfl
  ·simp only[cond_true]
 ·simp only[cond_true,Bool.true_or]
theorem gQ {e:EG}(H:OkG e)(id:Int):(EB e.2.1 id=true/\∃(k:Nat) (hk:k<e.2.1.length),e.2.1.findIdx? (fun t=>t.1==id)=some k/\e.2.1[k].2.2.1=1/\e.2.1[k].1=id)\/EB e.2.1 id=false:=by
 cases h:EB e.2.1 id with
 |false=>exact .inr rfl
 |true=>
  left
  refine⟨rfl,?_⟩
  obtain⟨t,ht,h1,h2⟩:=(J2 H.txU id).1 h
  obtain⟨k,hk,rfl⟩:=List.getElem_of_mem ht
  exact⟨k,hk,by rw[<-h1];exact YV H.txU hk,h2,h1⟩
def VH (ce:Bool)(r:Int×List Int×EG):Int×Bool×Int×List (List VV)×List TX×List VM×List VM×List Int×Unit:=
 (r.1,ce,r.2.2.2.2.2.2,r.2.2.1,r.2.2.2.1,r.2.2.2.2.1,r.2.2.2.2.2.1,r.2.1,())
theorem QK (o:OPt):Lo o=true↔inB o.1 1 6=true/\inB o.2.1 1 9=true/\(bif o.1==1 then inB o.2.2.1 1 4 else o.2.2.1==0)=true/\(bif o.1==2||o.1==3||o.1==4 then inB o.2.2.2.1 0 5 else o.2.2.2.1==0)=true/\(bif o.1==4 then inB o.2.2.2.2.1 o.2.2.2.1 5 else o.2.2.2.2.1==0)=true/\(bif o.1==3 then inB o.2.2.2.2.2.1 (-1) 99 else o.2.2.2.2.2.1==0)=true:=by
 unfold Lo
 simp only[Bool.and_eq_true,and_assoc]
theorem X3 {e:EG}(H:OkG e){o:OPt}(ho:Lo o=true)(ce:Bool):
 F8 (o.1,o.2.1,o.2.2.1,o.2.2.2.1,o.2.2.2.2.1,o.2.2.2.2.2.1,Hj ce e)=some (VH ce (JX ce e o)):=by
 have hs:=H.small
 obtain⟨o1,o2,o3,o4,o5,o6⟩:=(QK o).1 ho
 unfold F8 JX
 cases h1:(o.1==1)
 ·simp only[cond_false]
  have hact:=gQ H o.2.1
  rcases hact with⟨ha,k,hk,hf,h2,h3⟩|ha
  ·have hw:=H.wake o.2.1
   have hc:(0:Int)<=(k:Int)/\(k:Int)<(e.2.1.length:Int):=by omega
   have hwk:=X2 (l:=e.2.2.2.1) hs.fw o
   simp only[Hj,PX hs.fl,ha,Bool.not_true,cond_false,cond_true,UR hs.fl,hf,fx,Option.bind_some,hc,and_self,if_true,PV hs.fw,Nat.zero_add,Int.toNat_natCast]
   erw [hwk]
   simp only[Option.bind_some]
   have hE:∀{e':EG},(ce,e'.2.2.2.2,e'.1,e'.2.1,e'.2.2.1,e'.2.2.2.1,())=Hj ce e':=rfl
   have kR:=QH hw (k:=k) hk h2 (lo:=o.2.2.2.1) (hi:=o.2.2.2.1) (ce:=ce)
   have kS:=QH hw (k:=k) hk h2 (lo:=o.2.2.2.1) (hi:=o.2.2.2.2.1) (ce:=ce)
   have kW:=fun h=>UK hw (k:=k) hk (key:=o.2.2.2.1) h o.2.2.2.2.2.1 ce
   have kC:=SW hw (k:=k) hk h2 ce
   simp only[Hj]at kR kS kW kC
   cases h4:(o.1==2)
   ·simp only[cond_false]
    cases h5:(o.1==4)
    ·simp only[cond_false]
     cases h6:(o.1==3)
     ·simp only[cond_false]
      cases h7:(o.1==5)
      ·simp only[cond_false,HB (wt:=wkW e.2.2.2.1 o.2.1) hk hs.fk hw.small.fw,Option.bind_some,List.getElem?_eq_getElem hk,VH,Ik,EX]
      ·simp only[cond_true]
       erw [kC]
       simp only[Option.bind_some,VH]
     ·simp only[h6,Bool.or_true,Bool.true_or,cond_true]at o4
      simp only[cond_true]
      erw [kW o4]
      simp only[Option.bind_some,VH]
    ·simp only[h5,Bool.or_true,cond_true]at o4 o5
     rw[Bc]at o4 o5
     simp only[cond_true]
     erw [kS o4.1 (by omega) o5.2]
     simp only[Option.bind_some,VH]
   ·simp only[h4,Bool.true_or,cond_true]at o4
    rw[Bc]at o4
    simp only[cond_true]
    erw [kR o4.1 (by omega) o4.2]
    have hn:(o.2.2.2.1-o.2.2.2.1+1).toNat=1:=by omega
    simp only[Option.bind_some,VH,hn]
  ·simp only[Hj,PX hs.fl,ha,Bool.not_false,cond_true,Option.bind_some,cond_false]
   cases e.2.1.findIdx? fun t=>t.1==o.2.1<;>rfl
 ·simp only[h1,cond_true]at o3
  simp only[cond_true,Hj]
  have hb:=UT H o2 o3 o.1 o.2.2.2.1 o.2.2.2.2.1 o.2.2.2.2.2.1 ce
  simp only[Hj]at hb
  rw[hb]
  rfl
end Go.Ab
end
section
namespace Go.Ab
theorem Axt (d:Int):(0==d)=(d==0):=by rw[Bool.eq_iff_iff,beq_iff_eq,beq_iff_eq];exact⟨fun h=>h.symm,fun h=>h.symm⟩
theorem rm (a:Int):a=1\/a=2\/a=3\/a=4\/a=5\/a=6\/((a==1)=false/\(a==2)=false/\(a==3)=false/\(a==4)=false/\(a==5)=false/\(a==6)=false/\inB a 1 6=false):=by
 by_cases h1:a=1
 ·exact .inl h1
 by_cases h2:a=2
 ·exact .inr (.inl h2)
 by_cases h3:a=3
 ·exact .inr (.inr (.inl h3))
 by_cases h4:a=4
 ·exact .inr (.inr (.inr (.inl h4)))
 by_cases h5:a=5
 ·exact .inr (.inr (.inr (.inr (.inl h5))))
 by_cases h6:a=6
 ·exact .inr (.inr (.inr (.inr (.inr (.inl h6)))))
 refine .inr (.inr (.inr (.inr (.inr (.inr ⟨by simpa using h1,by simpa using h2,by simpa using h3,by simpa using h4,by simpa using h5,by simpa using h6,?_⟩)))))
 cases h:inB a 1 6 with
 |false=>rfl
 |true=>have:=Bc.1 h;omega
theorem X1 (x:Int):ER (x,())=some (inB x 1 4,()):=by simp[ER,Ix]
theorem fP (o:OPt):Fb (o,())=some (Lo o,()):=by
 obtain⟨a,b,c,d,f,g,u⟩:=o
 unfold Fb Lo
 simp only[X1,Ix,Nk,Ou,R8,Option.bind_some]
 generalize hb:inB b 1 9=b'
 generalize hd:inB d 0 5=d'
 generalize hg:inB g (-1) 99=g'
 generalize hf:inB f d 5=f'
 generalize hc:inB c 1 4=c'
 generalize (c==0)=c0
 generalize (d==0)=d0
 generalize (f==0)=f0
 generalize (g==0)=g0
 rcases rm a with rfl|rfl|rfl|rfl|rfl|rfl|⟨h1,h2,h3,h4,h5,h6,h7⟩
 ·simp only[show inB 1 1 6=true from rfl,show((1:Int)==1)=true from rfl,show((1:Int)==2)=false from rfl,show((1:Int)==3)=false from rfl,show((1:Int)==4)=false from rfl,cond_true,cond_false,Bool.or_false]
  cases b'<;>cases c'<;>cases d0<;>cases f0<;>cases g0<;>rfl
 ·simp only[show inB 2 1 6=true from rfl,show((2:Int)==1)=false from rfl,show((2:Int)==2)=true from rfl,show((2:Int)==3)=false from rfl,show((2:Int)==4)=false from rfl,cond_true,cond_false,Bool.or_false]
  cases b'<;>cases c0<;>cases d'<;>cases f0<;>cases g0<;>rfl
 ·simp only[show inB 3 1 6=true from rfl,show((3:Int)==1)=false from rfl,show((3:Int)==2)=false from rfl,show((3:Int)==3)=true from rfl,show((3:Int)==4)=false from rfl,cond_true,cond_false,Bool.or_false]
  cases b'<;>cases c0<;>cases d'<;>cases f0<;>cases g'<;>rfl
 ·simp only[show inB 4 1 6=true from rfl,show((4:Int)==1)=false from rfl,show((4:Int)==2)=false from rfl,show((4:Int)==3)=false from rfl,show((4:Int)==4)=true from rfl,cond_true,cond_false,Bool.or_false]
  cases b'<;>cases c0<;>cases d'<;>cases f'<;>cases g0<;>rfl
 ·simp only[show inB 5 1 6=true from rfl,show((5:Int)==1)=false from rfl,show((5:Int)==2)=false from rfl,show((5:Int)==3)=false from rfl,show((5:Int)==4)=false from rfl,cond_true,cond_false,Bool.or_false]
  cases b'<;>cases c0<;>cases d0<;>cases f0<;>cases g0<;>rfl
 ·simp only[show inB 6 1 6=true from rfl,show((6:Int)==1)=false from rfl,show((6:Int)==2)=false from rfl,show((6:Int)==3)=false from rfl,show((6:Int)==4)=false from rfl,cond_true,cond_false,Bool.or_false]
  cases b'<;>cases c0<;>cases d0<;>cases f0<;>cases g0<;>rfl
 ·simp only[h1,h2,h3,h4,h7,cond_true,cond_false,Bool.false_and]
theorem WX (o:OPt):Ea (o,())=some (Lo o,()):=by
 obtain⟨a,b,c,d,f,g,u⟩:=o
 unfold Ea Lo
 simp only[Dq,Option.bind_some,beq_self_eq_true,Bool.true_and,Bool.and_true,Axt]
 have hd0:(d==0)=true->inB d 0 5=true:=fun h=>by rw[beq_iff_eq]at h;subst h;rfl
 have hg0:(g==0)=true->inB g (-1) 99=true:=fun h=>by rw[beq_iff_eq]at h;subst h;rfl
 generalize hb:inB b 1 9=b'
 generalize hd:inB d 0 5=d' at hd0
 generalize hg:inB g (-1) 99=g' at hg0
 generalize hf:inB f d 5=f'
 generalize hc:inB c 1 4=c'
 generalize (c==0)=c0
 generalize (d==0)=d0 at hd0
 generalize (f==0)=f0
 generalize (g==0)=g0 at hg0
 rcases rm a with rfl|rfl|rfl|rfl|rfl|rfl|⟨h1,h2,h3,h4,h5,h6,h7⟩
 all_goals first
  |(simp only[h1,h2,h3,h4,h5,h6,h7,cond_true,cond_false,Bool.false_and];done)
  |(clear hb hd hg hf hc
    cases b'<;>cases c0<;>cases c'<;>cases d0<;>cases d'<;>cases f0<;>cases f'<;>cases g0<;>cases g'<;>first|rfl|(exact absurd (hd0 rfl) (by decide))|(exact absurd (hg0 rfl) (by decide)))
end Go.Ab
end
section
namespace Go.Ab
theorem slA {α:Type}{l:List α}{i:Nat}(h:i<=l.length):Hz l 0 (i:Int)=some (l.take i):=by
 unfold Hz
 rw[if_pos ⟨Int.le_refl _,by omega,by omega⟩]
 simp
theorem slB {α:Type}{l:List α}{i:Nat}(h:i<=l.length):Hz l (i:Int) ((l.length:Nat):Int)=some (l.drop i):=by
 unfold Hz
 rw[if_pos ⟨by omega,by omega,by omega⟩]
 simp only[Int.toNat_natCast]
 rw[List.take_of_length_le (by simp)]
theorem A72 {α:Type}{l:List α}{i:Nat}:Cv l (some (0,Int.toNat (i:Int)-Int.toNat 0))=l.take i:=by simp[Cv]
theorem A71 {α:Type}{l:List α}{i:Nat}:Cv l (some (0+Int.toNat (i:Int),Int.toNat ((l.length:Nat):Int)-Int.toNat (i:Int)))=l.drop i:=by
 simp only[Cv,Int.toNat_natCast,Nat.zero_add]
 exact List.take_of_length_le (by simp)
theorem cY {α:Type}{l:List α}{p:α->Bool}:∀{i:Nat} (h:i<l.length),(∀j (hj:j<l.length),j<i->p l[j]=true)->p l[i]=false->(l.takeWhile p).length=i:=by
 induction l with
 |nil=>intro i h;exact absurd h (Nat.not_lt_zero _)
 |cons a l ih=>
  intro i h h1 h2
  cases i with
  |zero=>
   have h2':p a=false:=h2
   simp[List.takeWhile_cons,h2']
  |succ i=>
   have h0:p a=true:=h1 0 (by simp) (by omega)
   rw[List.takeWhile_cons,h0]
   simp only[if_true,List.length_cons]
   rw[ih (i:=i) (by simpa using h) (fun j hj hji=>h1 (j+1) (by simp;omega) (by omega)) h2]
theorem Mn {α τ:Type}{l:List α}{p:α->Bool}(hn:l.length<=1048576){B:Int×Unit->Option ((Int×Unit) ⊕ ((Int×Unit) ⊕ (Int×Unit)))}
 (hB:∀i (h:i<l.length),B ((i:Int),())=some (bif p l[i]then .inl (((i+1:Nat):Int),())else .inr (.inl ((i:Int),()))))(hE:B ((l.length:Int),())=some (.inr (.inr ((l.length:Int),()))))(F:Int×Unit->Option τ):
 ((AC B (0,())).bind fun q=>Az q (fun q=>F q) fun q=>F q)=F ((((l.takeWhile p).length:Nat):Int),()):=by
 have key:∀m i:Nat,i+m=l.length->(∀j (hj:j<l.length),j<i->p l[j]=true)->((AC B ((i:Int),())).bind fun q=>Az q (fun q=>F q) fun q=>F q)=F ((((l.takeWhile p).length:Nat):Int),()):=by
  intro m
  induction m with
  |zero=>
   intro i hi hp
   have:l.takeWhile p=l:=by
    rw[<-(P5 (l:=l) (p:=p) (c:=l.length) (Nat.le_refl _) (fun k hk h=>hp k hk (by omega)) (fun k hk h=>by omega)).1,List.take_length]
   obtain rfl:i=l.length:=by omega
   rw[AZ,hE,this];rfl
  |succ m ih=>
   intro i hi hp
   have h:i<l.length:=by omega
   rw[AZ,hB i h]
   cases hq:p l[i]
   ·simp only[cond_false,Option.bind_some]
    rw[cY h hp hq];rfl
   ·simp only[cond_true,Option.bind_some]
    exact ih (i+1) (by omega) (fun j hj h2=>by
     by_cases e:j=i
     ·subst e;exact hq
     ·exact hp j hj (by omega))
 exact key l.length 0 (by omega) (by intro j hj h;omega)
theorem Q4 {α:Type}{l:List α}{p:α->Bool}:l.take (l.takeWhile p).length=l.takeWhile p/\l.drop (l.takeWhile p).length=l.dropWhile p:=by
 have e:l.takeWhile p++l.dropWhile p=l:=List.takeWhile_append_dropWhile
 generalize l.takeWhile p=a at e ⊢
 generalize l.dropWhile p=b at e ⊢
 subst e
 simp
theorem TV {α:Type}{l:List α}{p:α->Bool}:(l.takeWhile p).length<=l.length:=by
 have e:=congrArg List.length (List.takeWhile_append_dropWhile (p:=p) (l:=l))
 rw[List.length_append]at e;omega
theorem QD {lk:List VM}(hl:lk.length<=1048576)(key:Int):E9 (lk,key,())=some (Cq lk key,()):=by
 unfold E9 Cq
 have e:=Lt (B:=fun v=>CS (lk,key,()) v _ some) (l:=lk) (fun i=>((i:Int),())) (fun m=>m.1==key) (fd:=fun i=>.inl (match lk[i]? with|some m=>m.2.1|none=>0,())) (no:=.inr ()) (fun i h=>by
  unfold CS
  simp only[Al h,Option.bind_some,decide_eq_true (by omega:(i:Int)<(lk.length:Int)),cond_true,An h (by omega),List.getElem?_eq_getElem h]
  cases lk[i].1==key<;>rfl) (by
  unfold CS
  simp only[Int.lt_irrefl,decide_false,cond_false]) (t0:=(0,())) rfl
 erw [e]
 rw[MA]
 cases hf:lk.findIdx? (fun m=>m.1==key)with
 |none=>rfl
 |some i=>
  obtain⟨h1,_⟩:=List.findIdx?_eq_some_iff_getElem.1 hf
  simp only[Option.bind_some,Az,List.getElem?_eq_getElem h1]
theorem ZJ {wt:List VM}(hl:wt.length<=1048576)(x:Int):IG (wt,x,())=some ((Tm wt x).getD 0,()):=by
 unfold IG Tm
 have e:=Lt (B:=fun v=>Ek (wt,x,()) v _ some) (l:=wt) (fun i=>((i:Int),())) (fun m=>m.1==x) (fd:=fun i=>.inl (match wt[i]? with|some m=>m.2.1|none=>0,())) (no:=.inr ()) (fun i h=>by
  unfold Ek
  simp only[Al h,Option.bind_some,decide_eq_true (by omega:(i:Int)<(wt.length:Int)),cond_true,An h (by omega),List.getElem?_eq_getElem h]
  cases wt[i].1==x<;>rfl) (by
  unfold Ek
  simp only[Int.lt_irrefl,decide_false,cond_false]) (t0:=(0,())) rfl
 erw [e]
 rw[MA]
 cases hf:wt.findIdx? (fun m=>m.1==x)with
 |none=>rfl
 |some i=>
  obtain⟨h1,_⟩:=List.findIdx?_eq_some_iff_getElem.1 hf
  simp only[Option.bind_some,Az,List.getElem?_eq_getElem h1,Option.map_some,Option.getD_some]
theorem YO {α:Type}{f:α->Int}{l:List α}{t:Int}(h:(l.takeWhile fun x=>decide (f x<t)).length<l.length):DX f l t=(f l[(l.takeWhile fun x=>decide (f x<t)).length]==t):=by
 unfold DX G7
 have e:=(Q4 (l:=l) (p:=fun x=>decide (f x<t))).2
 rw[List.drop_eq_getElem_cons h]at e
 rw[<-e]
theorem Vd {α:Type}{f:α->Int}{l:List α}{t:Int}(h:¬(l.takeWhile fun x=>decide (f x<t)).length<l.length):DX f l t=false:=by
 unfold DX G7
 have e:=(Q4 (l:=l) (p:=fun x=>decide (f x<t))).2
 rw[List.drop_of_length_le (by omega)]at e
 rw[<-e]
theorem Oq {α:Type}{f:α->Int}{l:List α}{m:α}{c:Nat}(hc:(l.takeWhile fun x=>decide (f x<f m)).length=c):
 Ce f l m=bif DX f l (f m)then l.take c++[m]++l.drop (c+1)else l.take c++[m]++l.drop c:=by
 obtain⟨e1,e2⟩:=Q4 (l:=l) (p:=fun x=>decide (f x<f m))
 rw[hc]at e1 e2
 cases hh:DX f l (f m)
 ·rw[KP hh,<-e1,<-e2];simp
 ·obtain⟨x,h1,h2,h3⟩:=KO hh
  rw[h3,hc]
  rw[hc]at h1
  obtain⟨h4,_⟩:=List.getElem?_eq_some_iff.1 h1
  rw[List.set_eq_take_append_cons_drop,if_pos h4];simp
theorem UI {wt:List VM}(hl:wt.length<=1048576)(hv:Md wt){a b:Int}(ha:inB a 1 9=true)(hb:inB b 1 9=true)(hab:a≠b):
 Gv (wt,a,b,())=some (true,Ce (·.1) wt (a,b,()),()):=by
 have hab':(a==b)=false:=by simpa using hab
 unfold Gv
 simp only[Jc hl,AH hv,Dq,ha,hb,hab',Option.bind_some,Bool.not_true,cond_false]
 refine(Mn (l:=wt) (p:=fun x=>decide (x.1<a)) hl (fun i h=>?_) ?_ _).trans ?_
 ·unfold EN
  simp only[Al h,Option.bind_some,decide_eq_true (by omega:(i:Int)<(wt.length:Int)),cond_true,An h (by omega)]
  cases decide (wt[i].1<a)<;>rfl
 ·unfold EN
  simp only[Int.lt_irrefl,decide_false,cond_false]
 ·have hle:=TV (l:=wt) (p:=fun x=>decide (x.1<a))
  generalize hc:(wt.takeWhile fun x=>decide (x.1<a)).length=c at hle
  rw[Oq (m:=(a,b,())) hc]
  have q1:(wt.take c).length<=2199023255552:=by simp;omega
  have q2:(wt.take c++[(a,b,())]).length<=2199023255552:=by simp;omega
  have q3:(wt.take c++[(a,b,())]++wt.drop c).length<=2199023255552:=by simp;omega
  have q4:(wt.take c++[(a,b,())]++wt.drop (c+1)).length<=2199023255552:=by simp;omega
  simp only[slA hle,Option.bind_some,q1,q2,if_true]
  by_cases hlt:c<wt.length
  ·have hh:=YO (f:=fun x:VM=>x.1) (l:=wt) (t:=a) (by rw[hc];exact hlt)
   simp only[hc]at hh
   simp only[decide_eq_true (by omega:(c:Int)<(wt.length:Int)),cond_true,Al hlt,Option.bind_some,An hlt (by omega),slB hle,slB (by omega:c+1<=wt.length),q3,q4,if_true,hh]
   cases wt[c].1==a<;>rfl
  ·have hh:=Vd (f:=fun x:VM=>x.1) (l:=wt) (t:=a) (by rw[hc];exact hlt)
   simp only[decide_eq_false (by omega:¬(c:Int)<(wt.length:Int)),cond_false,slB hle,Option.bind_some,q3,if_true,hh]
end Go.Ab
end
section
namespace Go.Ab
theorem fV {lk:List VM}(hu:GH (·.1) lk){x:VM}(hx:x∈lk):Cq lk x.1=x.2.1:=by
 unfold Cq
 cases hf:lk.find? (fun m=>m.1==x.1)with
 |none=>exact absurd (List.find?_eq_none.1 hf x hx) (by simp)
 |some y=>
  have h1:=List.find?_some hf
  have h2:=List.mem_of_find?_eq_some hf
  simp only[beq_iff_eq]at h1
  obtain⟨i,hi,rfl⟩:=List.getElem_of_mem h2
  obtain⟨j,hj,rfl⟩:=List.getElem_of_mem hx
  by_cases hij:i=j
  ·subst hij;rfl
  ·rcases Nat.lt_or_gt_of_ne hij with h|h
   ·have:=List.pairwise_iff_getElem.1 hu i j hi hj h;simp only at this;omega
   ·have:=List.pairwise_iff_getElem.1 hu j i hj hi h;simp only at this;omega
theorem pq {lk:List VM}(hu:GH (·.1) lk){key id:Int}(ho:Cq lk key=id)(h0:id≠0):Ce (·.1) lk (key,id,())=lk:=by
 have hx:∃x∈lk,x.1=key:=by
  unfold Cq at ho
  cases hf:lk.find? (fun m=>m.1==key)with
  |none=>rw[hf]at ho;exact absurd ho.symm h0
  |some y=>exact⟨y,List.mem_of_find?_eq_some hf,by simpa using List.find?_some hf⟩
 obtain⟨x,e1,e2,e3⟩:=KO (f:=fun x:VM=>x.1) (l:=lk) (m:=(key,id,())) ((NU hu key).2 hx)
 obtain⟨hlt,e4⟩:=List.getElem?_eq_some_iff.1 e1
 have hx':x∈lk:=by rw[<-e4];exact List.getElem_mem hlt
 have e2':x.1=key:=e2
 have hxi:x.2.1=id:=by rw[<-fV hu hx',e2',ho]
 have hxe:x=(key,id,()):=Prod.ext e2' (Prod.ext hxi rfl)
 rw[e3]
 apply List.ext_getElem?
 intro i
 rw[List.getElem?_set]
 split
 ·rename_i h
  subst h
  rw[e1,hxe]
 ·rfl
theorem fL {lk:List VM}(hl:lk.length<=1048576)(hv:Qh lk)(hu:GH (·.1) lk){key id:Int}(hk:inB key 0 5=true)(hi:inB id 1 9=true)(ho:Cq lk key=0\/Cq lk key=id)(hpos:∀m∈lk,m.2.1≠0):
 FR (lk,key,id,())=some (true,Ce (·.1) lk (key,id,()),()):=by
 have hi0:id≠0:=by have:=Bc.1 hi;omega
 have hcp:Fx (lk,())=some (lk,()):=by unfold Fx;simp only;rw[if_pos (by omega)]
 unfold FR
 simp only[hcp,QD hl,Jd hl,AH hv,Dq,hk,hi,Option.bind_some,Bool.not_true,cond_false]
 rcases ho with h|h
 ·have h2:((0:Int)==id)=false:=by rw[beq_eq_false_iff_ne];exact fun h=>hi0 h.symm
  simp only[h,bne_self_eq_false,cond_false,h2]
  have hno:DX (fun x:VM=>x.1) lk key=false:=by
   cases hh:DX (fun x:VM=>x.1) lk key with
   |false=>rfl
   |true=>
    obtain⟨x,hx,hxk⟩:=(NU hu key).1 hh
    have:=fV hu hx
    rw[hxk,h]at this
    exact absurd this.symm (hpos x hx)
  refine(Mn (l:=lk) (p:=fun x=>decide (x.1<key)) hl (fun i h=>?_) ?_ _).trans ?_
  ·have c:(0:Int)<=(i:Int)/\(i:Int)<(lk.length:Int):=by omega
   unfold Cl
   simp only[decide_eq_true c.2,cond_true,c.1,c.2,and_self,if_true,Nat.zero_add,Int.toNat_natCast,List.getElem?_eq_getElem h,Option.bind_some,An h (by omega)]
   cases decide (lk[i].1<key)<;>rfl
  ·unfold Cl
   simp only[Int.lt_irrefl,decide_false,cond_false]
  ·have hle:=TV (l:=lk) (p:=fun x=>decide (x.1<key))
   generalize hc:(lk.takeWhile fun x=>decide (x.1<key)).length=c at hle
   rw[Oq (m:=(key,id,())) hc]
   have q1:(lk.take c).length<=2199023255552:=by simp;omega
   have q2:(lk.take c++[(key,id,())]).length<=2199023255552:=by simp;omega
   have q3:(lk.take c++[(key,id,())]++lk.drop c).length<=2199023255552:=by simp;omega
   have c1:(0:Int)<=0/\(0:Int)<=(c:Int)/\(c:Int)<=(lk.length:Int):=by omega
   have c2:(0:Int)<=(c:Int)/\(c:Int)<=(lk.length:Int)/\(lk.length:Int)<=(lk.length:Int):=by omega
   simp only[A72,A71,hno,cond_false]
   rw[if_pos c1,if_pos q1,if_pos q2,if_pos c2,if_pos q3]
 ·have h2:(id != 0)=true:=by simpa using hi0
  simp only[h,h2,cond_true,bne_self_eq_false,cond_false,beq_self_eq_true,pq hu h hi0]
theorem pA {wt:List VM}{out:List Int}(hl:out.length<=1048576)(x:Int){τ:Type}(A:List Int×List Int×Unit->Option τ)(N:Unit->Option τ):
 ((AC (fun v=>Cn (wt,x,out,()) v _ some) (0,())).bind fun p=>Az p (fun p=>A (p.1,p.2.1,())) fun p=>N p)=if x∈out then A ([x],out++[x],())else N ():=by
 have e:=Lt (B:=fun v=>Cn (wt,x,out,()) v _ some) (l:=out) (fun i=>((i:Int),())) (fun m=>m==x) (fd:=fun i=>.inl ([x],out++[x],())) (no:=.inr ()) (fun i h=>by
  have c:(0:Int)<=(i:Int)/\(i:Int)<(out.length:Int):=by omega
  have c2:(out++[x]).length<=4398046511104:=by simp;omega
  unfold Cn
  simp only[decide_eq_true c.2,cond_true,c.1,c.2,and_self,if_true,Nat.zero_add,Int.toNat_natCast,List.getElem?_eq_getElem h,Option.bind_some,An h (by omega),c2]
  cases out[i]==x<;>rfl) (by
  unfold Cn
  simp only[Int.lt_irrefl,decide_false,cond_false]) (t0:=(0,())) rfl
 erw [e]
 cases hf:out.findIdx? (fun m=>m==x)with
 |none=>
  have hn:x∉out:=fun h=>by
   have:=List.findIdx?_eq_none_iff.1 hf x h
   simp at this
  simp only[Option.bind_some,Az,hn,if_false]
 |some i=>
  obtain⟨h1,h2,_⟩:=List.findIdx?_eq_some_iff_getElem.1 hf
  have hn:x∈out:=by
   have:out[i]=x:=by simpa using h2
   rw[<-this];exact List.getElem_mem h1
  simp only[Option.bind_some,Az,hn,if_true]
theorem kh {wt:List VM}(hl:wt.length<=1048576)(hok:Md wt):∀(n:Nat) (out:List Int) (x:Int),x∉out->out.Nodup->(∀y∈out,inB y 1 9=true)->inB x 1 9=true->9<=out.length+n->
 ((AC (fun v=>Co (wt,()) v _ some) (x,out,())).bind fun p=>Az p (fun p=>some ((p.2.1,()):List Int×Unit)) fun p=>Az p (fun p=>some (p.1,())) fun p=>Az p (fun p=>some (p.1,())) fun p=>some (p.1,()))=some (Gd wt n (out++[x]) x,()):=by
 have hw:=fun m hm=>(((I3 _).1 hok).1 m hm).2.1
 intro n
 induction n with
 |zero=>
  intro out x h1 h2 h3 h4 h5
  have:=pC (out:=out++[x]) (by rw[List.nodup_append];exact⟨h2,by simp,fun a ha b hb=>by rw[List.mem_singleton.1 hb];rintro rfl;exact h1 ha⟩) (fun y hy=>by
   rcases List.mem_append.1 hy with h|h
   ·exact h3 y h
   ·rw[List.mem_singleton.1 h];exact h4)
  simp at this;omega
 |succ n ih=>
  intro out x h1 h2 h3 h4 h5
  have hx:=Bc.1 h4
  have hnd:(out++[x]).Nodup:=by rw[List.nodup_append];exact⟨h2,by simp,fun a ha b hb=>by rw[List.mem_singleton.1 hb];rintro rfl;exact h1 ha⟩
  have hin:∀y∈out++[x],inB y 1 9=true:=fun y hy=>by
   rcases List.mem_append.1 hy with h|h
   ·exact h3 y h
   ·rw[List.mem_singleton.1 h];exact h4
  have h9:=pC hnd hin
  simp only[List.length_append,List.length_cons,List.length_nil]at h9
  have step:∀(x:Int) (out:List Int),inB x 1 9=true->out.length<=9->Co (wt,()) (x,out,()) _ some=if x∈out then some (Sum.inr (Sum.inl ([x],out++[x],())))else some (Sum.inl ((Tm wt x).getD 0,out++[x],())):=by
   intro x out hx hlen
   have hx':=Bc.1 hx
   have c2:(out++[x]).length<=4398046511104:=by simp;omega
   unfold Co
   simp only[decide_eq_true (by omega:x>0),cond_true,Jc hl,AH hok,Option.bind_some,decide_eq_true (by omega:x<=9)]
   refine(pA (wt:=wt) (by omega:out.length<=1048576) x (fun p=>some (Sum.inr (Sum.inl p))) _).trans ?_
   simp only[c2,if_true,ZJ hl,Option.bind_some]
  rw[AZ]
  erw [step x out h4 (by omega)]
  simp only[h1,if_false,Option.bind_some]
  unfold Gd
  cases hf:Tm wt x with
  |none=>
   simp only[Option.getD_none]
   rw[AZ]
   unfold Co
   simp only[gt_iff_lt,Int.lt_irrefl,decide_false,cond_false,Option.bind_some,Az]
  |some y=>
   simp only[Option.getD_some]
   have hy:inB y 1 9=true:=by
    unfold Tm at hf
    cases hg:wt.find? (fun m=>m.1==x)with
    |none=>rw[hg]at hf;cases hf
    |some m=>
     rw[hg]at hf
     obtain rfl:m.2.1=y:=by simpa using hf
     exact hw m (List.mem_of_find?_eq_some hg)
   by_cases hm:y∈out++[x]
   ·rw[AZ]
    erw [step y (out++[x]) hy (by simp;omega)]
    simp only[hm,if_true,Option.bind_some,Az]
   ·simp only[hm,if_false]
    exact ih (out++[x]) y hm hnd hin hy (by simp;omega)
theorem gA {wt:List VM}(hu:GH (·.1) wt)(a b:Int):Tm (Ce (·.1) wt (a,b,())) a=some b:=by
 unfold Tm
 have hup:=KN (f:=fun x:VM=>x.1) hu (a,b,())
 have hm:(a,b,())∈Ce (fun x:VM=>x.1) wt (a,b,()):=(GQ hu).2 (.inl rfl)
 cases hf:(Ce (fun x:VM=>x.1) wt (a,b,())).find? (fun m=>m.1==a)with
 |none=>exact absurd (List.find?_eq_none.1 hf _ hm) (by simp)
 |some y=>
  have h1:y.1=a:=by simpa using List.find?_some hf
  have h2:=List.mem_of_find?_eq_some hf
  rcases(GQ hu).1 h2 with rfl|⟨_,h3⟩
  ·rfl
  ·exact absurd h1 h3
theorem PI (wt:List VM):∀(n:Nat) (out:List Int) (x:Int),out.length<=(Gd wt n out x).length
 |0,out,x=>Nat.le_refl _
 |n+1,out,x=>by
  unfold Gd
  split
  ·exact Nat.le_refl _
  ·split
   ·simp
   ·rename_i y _ _
    have:=PI wt n (out++[y]) y
    simp at this;omega
theorem X0 {e:EG}(H:OkG e){a b:Int}(ha:inB a 1 9=true)(hb:inB b 1 9=true)(hab:a≠b):ES (e.2.2.2.1,a,b,())=some (PG e.2.2.2.1 a b,()):=by
 have hl:=H.wtLen
 have hw0:Md e.2.2.2.1:=(I3 _).2 ⟨H.wtA,H.wtU⟩
 have hw1:Md (Ce (·.1) e.2.2.2.1 (a,b,())):=UW H.wtA H.wtU ha hb hab
 have hpl:(Ce (·.1) e.2.2.2.1 (a,b,())).length<=1048576:=by have:=Pb (f:=fun x:VM=>x.1) e.2.2.2.1 (a,b,());omega
 have hs:=UI (wt:=e.2.2.2.1) (by omega) hw0 ha hb hab
 have hc:=kh (wt:=Ce (·.1) e.2.2.2.1 (a,b,())) hpl hw1 10 [] a (by simp) (by simp) (by simp) ha (by simp)
 unfold ES PG
 simp only[hs,Option.bind_some,Bool.not_true,cond_false]
 unfold Ir
 erw [hc]
 simp only[Option.bind_some,List.nil_append]
 have h0:2<=(Gd (Ce (·.1) e.2.2.2.1 (a,b,())) 10 [a] a).length:=by
  unfold Gd
  have hab':b∉[a]:=by simpa using fun h:b=a=>hab h.symm
  simp only[gA H.wtU,hab',if_false]
  have:=PI (Ce (fun x:VM=>x.1) e.2.2.2.1 (a,b,())) 9 ([a]++[b]) b
  simpa using this
 have h2:=NW (Ce (·.1) e.2.2.2.1 (a,b,())) 10 [a] a
 generalize Gd (Ce (·.1) e.2.2.2.1 (a,b,())) 10 [a] a=c at h0 h2 ⊢
 simp only[List.length_cons,List.length_nil]at h2
 have c0:(c.length:Int)>1:=by omega
 have c1:(0:Int)<=(c.length:Int)-1/\(c.length:Int)-1<(c.length:Int):=by omega
 have hj:((c.length:Int)-1).toNat=c.length-1:=by omega
 simp only[decide_eq_true c0,cond_true,GI (by omega:c.length<9223372036854775808),c1,and_self,if_true,Nat.zero_add,hj,List.getLast?_eq_getElem?,List.getElem?_eq_getElem (by omega:c.length-1<c.length),Option.bind_some]
 rfl
end Go.Ab
end
section
namespace Go.Ab
theorem JN {l:List VV}(hl:Hg l)(hok:LJ l){v:VV}(hv:l[l.length-1]?=some v):Bq (l,())=some v:=by
 unfold Hg at hl
 have hpos:0<l.length:=by
  obtain⟨h,_⟩:=List.getElem?_eq_some_iff.1 hv;omega
 unfold Bq
 have h:lAt l ((l.length:Int)-1)=some v:=by
  rw[show((l.length:Int)-1)=((l.length-1:Nat):Int) by omega,Al (by omega)]
  rw[List.getElem?_eq_getElem (by omega)]at hv;exact hv
 simp only[SQ hl,AH hok,Option.bind_some,Bool.not_true,cond_false,GI (by omega:l.length<9223372036854775808),h]
theorem Ot {t:TX}(ht:smT t):AJ (tup t,())=some (M2 t,()):=Q7 ht.1 ht.2
theorem OkG.txOk {e:EG}(H:OkG e){k:Nat}(hk:k<e.2.1.length):M2 e.2.1[k]=true:=(H.txA _ (List.getElem_mem hk)).1
theorem NO {e:EG}(H:OkG e){k:Nat}(hk:k<e.2.1.length)(ha:e.2.1[k].2.2.1=1){key:Int}(hkey:inB key 0 5=true):
 Fw ((e.1,()),tup e.2.1[k],key,())=some (true,()):=by
 unfold Fw
 simp only[Lj H.small.fs,AH H.st,Ot (H.smT hk),H.txOk hk,cond_true,Dq,hkey,Option.bind_some]
 simp only[ha,beq_self_eq_true,cond_true]
theorem fH {t:TX}(h:smT t)(key:Int):GO (tup t,key,())=some (fx (t.2.2.2.2.2.2.2.2.1.findIdx? fun m=>m.1==key),()):=by
 unfold GO
 exact DD (l:=t.2.2.2.2.2.2.2.2.1) (p:=fun m=>m.1==key) h.2 (fun i hi=>by
  unfold Dw
  simp only[Al hi,Option.bind_some,decide_eq_true (by omega:(i:Int)<(t.2.2.2.2.2.2.2.2.1.length:Int)),cond_true,An hi (by have:=h.2;omega)]
  cases t.2.2.2.2.2.2.2.2.1[i].1==key<;>rfl) (by
  unfold Dw
  simp only[Int.lt_irrefl,decide_false,cond_false])
theorem SP {e:EG}(H:OkG e){k:Nat}(hk:k<e.2.1.length)(ha:e.2.1[k].2.2.1=1){key:Int}(hkey:inB key 0 5=true):
 EV ((e.1,()),tup e.2.1[k],key,())=some (match IL e.1 e.2.1[k] key with|none=>(0,0,0,0,0,3,())|some v=>(v.1,v.2.1,v.2.2.1,v.2.2.2.1,v.2.2.2.2.1,0,())):=by
 obtain⟨n,hn,v,e1,e2,e3,e4,e5,e6,e7⟩:=H.ltst hkey
 have hmem:=List.getElem_mem hn
 have hok:=(H.gd.ok _ hmem).1
 have hsm:=H.small.fs.2 _ hmem
 have hkn:key.toNat=n:=by omega
 unfold EV IL
 simp only[NO H hk ha hkey,e6,Option.bind_some,Bool.not_true,cond_false,JN hsm hok e4,hkn,List.getElem?_eq_getElem hn]
 cases h2:e.2.1[k].2.1==2
 ·have hc:¬((e.1[n].length:Int)-1<0):=by omega
  have hj:((e.1[n].length:Int)-1).toNat=e.1[n].length-1:=by omega
  simp only[cond_false,decide_eq_false hc,hj,e4,Option.bind_some]
  cases e.2.1[k].2.1==4
  ·rfl
  ·simp only[cond_true,Bool.true_and]
   cases decide (v.2.2.1>e.2.1[k].2.2.2.1)<;>rfl
 ·have h4:(e.2.1[k].2.1==4)=false:=by rw[beq_iff_eq]at h2;rw[h2];rfl
  simp only[cond_true,h4,Bool.false_and,cond_false]
  unfold Kj
  simp only[Lj H.small.fs,AH H.st,Option.bind_some,Bool.not_true,cond_false,Dq,hkey,e6,fK hsm hok]
  cases hd:decide (vA e.1[n] e.2.1[k].2.2.2.1 e.1[n].length<0)
  ·have h0:0<=vA e.1[n] e.2.1[k].2.2.2.1 e.1[n].length:=by have:=of_decide_eq_false hd;omega
   have h1:=(Ql e.1[n] e.2.1[k].2.2.2.1 e.1[n].length).2
   obtain⟨j,hj⟩:=Int.eq_ofNat_of_zero_le h0
   rw[hj]at h1 ⊢
   have hjl:j<e.1[n].length:=by omega
   simp only[cond_false,Al hjl,Option.bind_some,Int.toNat_natCast,List.getElem?_eq_getElem hjl,Bool.not_true]
  ·simp only[cond_true,Option.bind_some,Bool.not_false]
theorem fv {e:EG}(H:OkG e){k:Nat}(hk:k<e.2.1.length)(ha:e.2.1[k].2.2.1=1){key:Int}(hkey:inB key 0 5=true):
 GK ((e.1,()),e.2.2.1,tup e.2.1[k],key,())=some (Fd e.1 e.2.2.1 e.2.1[k] key,()):=by
 obtain⟨n,hn,v,e1,e2,e3,e4,e5,e6,e7⟩:=H.ltst hkey
 have hmem:=List.getElem_mem hn
 have hok:=(H.gd.ok _ hmem).1
 have hsm:=H.small.fs.2 _ hmem
 have hle:=Xb (((J7 _).1 hok).1 v e7)
 have himp:decide (v.2.2.1>e.2.1[k].2.2.2.1)=true->decide (v.2.2.2.1>e.2.1[k].2.2.2.1)=true:=fun h=>by
  have:=of_decide_eq_true h
  exact decide_eq_true (by omega)
 unfold GK Fd
 simp only[NO H hk ha hkey,e6,Option.bind_some,Bool.not_true,cond_false,JN hsm hok e4,Jd H.small.fk,AH ((Mr _).2 ⟨H.lkA,H.lkU⟩),QD H.small.fk,e5,crV,KL,bne]
 generalize (Cq e.2.2.1 key==0)=b1
 generalize (Cq e.2.2.1 key==e.2.1[k].1)=b2
 generalize (e.2.1[k].2.1==1)=b3
 generalize (e.2.1[k].2.1==2)=b4
 generalize (e.2.1[k].2.1==4)=b5
 generalize decide (v.2.2.1>e.2.1[k].2.2.2.1)=b6 at himp
 generalize decide (v.2.2.2.1>e.2.1[k].2.2.2.1)=b7 at himp
 cases b1<;>cases b2<;>cases b3<;>cases b4<;>cases b5<;>cases b6<;>cases b7<;>first|rfl|exact absurd (himp rfl) (by decide)
theorem fF {l:List VM}(hl:l.length<=1048576)(m:VM):Gh (l,(m.1,m.2.1,()),())=some (Ce (·.1) l m,()):=by
 unfold Gh
 refine(Mn (l:=l) (p:=fun x=>decide (x.1<m.1)) hl (fun i h=>?_) ?_ _).trans ?_
 ·unfold De
  simp only[Al h,Option.bind_some,decide_eq_true (by omega:(i:Int)<(l.length:Int)),cond_true,An h (by omega)]
  cases decide (l[i].1<m.1)<;>rfl
 ·unfold De
  simp only[Int.lt_irrefl,decide_false,cond_false]
 ·have hle:=TV (l:=l) (p:=fun x=>decide (x.1<m.1))
  generalize hc:(l.takeWhile fun x=>decide (x.1<m.1)).length=c at hle
  rw[Oq (m:=m) hc]
  have q1:(l.take c).length<=2199023255552:=by simp;omega
  have q2:(l.take c++[m]).length<=2199023255552:=by simp;omega
  have q3:(l.take c++[m]++l.drop c).length<=2199023255552:=by simp;omega
  have q4:(l.take c++[m]++l.drop (c+1)).length<=2199023255552:=by simp;omega
  simp only[slA hle,Option.bind_some]
  rw[if_pos q1]
  erw [if_pos q2]
  by_cases hlt:c<l.length
  ·have hh:=YO (f:=fun x:VM=>x.1) (l:=l) (t:=m.1) (by rw[hc];exact hlt)
   simp only[hc]at hh
   simp only[decide_eq_true (by omega:(c:Int)<(l.length:Int)),cond_true,Al hlt,Option.bind_some,An hlt (by omega),slB hle,slB (by omega:c+1<=l.length),hh]
   cases l[c].1==m.1
   ·erw [if_pos q3]<;>rfl
   ·erw [if_pos q4]<;>rfl
  ·have hh:=Vd (f:=fun x:VM=>x.1) (l:=l) (t:=m.1) (by rw[hc];exact hlt)
   simp only[decide_eq_false (by omega:¬(c:Int)<(l.length:Int)),cond_false,slB hle,Option.bind_some,hh]
   erw [if_pos q3]<;>rfl
def ptl (m:VM):List VM->List VM|[]=>[]|x::r=>if x=m then r else x::r
theorem fp (l:List VM)(m:VM):JM l m=l.takeWhile (fun x=>Gs x m)++m::ptl m (l.dropWhile fun x=>Gs x m):=by
 unfold JM
 cases l.dropWhile fun x=>Gs x m<;>rfl
theorem fG {l:List VM}(hl:l.length<=1048576)(m:VM):GJ (l,(m.1,m.2.1,()),())=some (JM l m,()):=by
 have hb:∀a b:VM,decide (C1 a b)=Gs a b:=fun a b=>by
  rw[Bool.eq_iff_iff,decide_eq_true_eq,L2]
 unfold GJ
 refine(Mn (l:=l) (p:=fun x=>Gs x m) hl (fun i h=>?_) ?_ _).trans ?_
 ·unfold Ds
  have:=UU l[i] m
  simp only[Al h,Option.bind_some,decide_eq_true (by omega:(i:Int)<(l.length:Int)),cond_true,An h (by omega),this,hb]
  cases Gs l[i] m<;>rfl
 ·unfold Ds
  simp only[Int.lt_irrefl,decide_false,cond_false]
 ·have hle:=TV (l:=l) (p:=fun x=>Gs x m)
  obtain⟨t1,t2⟩:=Q4 (l:=l) (p:=fun x=>Gs x m)
  have hp:JM l m=l.take (l.takeWhile fun x=>Gs x m).length++m::ptl m (l.drop (l.takeWhile fun x=>Gs x m).length):=by
   rw[fp,t1,t2]
  rw[hp]
  clear hp t1 t2
  generalize (l.takeWhile fun x=>Gs x m).length=c at hle
  have q0:l.length<=2199023255552:=by omega
  have q1:(l.take c).length<=2199023255552:=by simp;omega
  have q2:(l.take c++[m]).length<=2199023255552:=by simp;omega
  have q3:(l.take c++[m]++l.drop c).length<=2199023255552:=by simp;omega
  simp only[slA hle,Option.bind_some,slB hle,q0,q1,if_true]
  by_cases hlt:c<l.length
  ·simp only[decide_eq_true (by omega:(c:Int)<(l.length:Int)),cond_true,Al hlt,Option.bind_some,Bool.and_true]
   rw[List.drop_eq_getElem_cons hlt]at q3 ⊢
   by_cases hx:l[c]=m
   ·have h1:(l[c].1==m.1&&l[c].2.1==m.2.1)=true:=by rw[hx];simp
    simp only[h1,cond_true,ptl]
    rw[if_pos hx,<-hx,<-List.drop_eq_getElem_cons hlt,List.take_append_drop]
   ·have h1:(l[c].1==m.1&&l[c].2.1==m.2.1)=false:=by
     cases h:(l[c].1==m.1&&l[c].2.1==m.2.1)with
     |false=>rfl
     |true=>
      rw[Bool.and_eq_true,beq_iff_eq,beq_iff_eq]at h
      exact absurd (Prod.ext h.1 (Prod.ext h.2 rfl)) hx
    simp only[h1,cond_false,ptl,hx,if_false]
    erw [if_pos q2,if_pos q3]
    simp
  ·have h0:l.drop c=[]:=List.drop_of_length_le (by omega)
   simp only[decide_eq_false (by omega:¬(c:Int)<(l.length:Int)),cond_false,h0,ptl]at q3 ⊢
   erw [if_pos q2,if_pos q3]
   simp
end Go.Ab
end
section
namespace Go.Ab
def ZO (t:TX)(b:Bool):Int×Int×Int×Int×Int×Int×Int×Bool×List VM×List VM×Unit:=
 (t.1,t.2.1,t.2.2.1,t.2.2.2.1,t.2.2.2.2.1,t.2.2.2.2.2.1,t.2.2.2.2.2.2.1,b,t.2.2.2.2.2.2.2.1,t.2.2.2.2.2.2.2.2.1,())
theorem fA {t:TX}(ht:smT t)(hok:M2 t=true)(ha:t.2.2.1=1){key:Int}(hkey:inB key 0 5=true){v:VV}(hv:okV v=true):
 GM (tup t,key,(v.1,v.2.1,v.2.2.1,v.2.2.2.1,v.2.2.2.2.1,()),())=some (match Mh t key v with|none=>ZO t false|some t'=>ZO t' true):=by
 have h60:(((t.2.2.2.2.2.2.2.1.length:Nat):Int)==60)=(t.2.2.2.2.2.2.2.1.length==60):=by
  rw[Bool.eq_iff_iff,beq_iff_eq,beq_iff_eq];omega
 have ha':(t.2.2.1 != 1)=false:=by rw[ha];rfl
 have hpr:=fG ht.1 (key,v.2.2.1,())
 simp only at hpr
 unfold GM Mh
 simp only[MR t ht,Ot ht,hok,Option.bind_some,Bool.not_true,cond_false,ha',Dq,hkey,Yw v,hv,h60,hpr]
 cases t.2.2.2.2.2.2.2.1.length==60<;>rfl
theorem fy {e:EG}(H:OkG e){k:Nat}(hk:k<e.2.1.length)(ha:e.2.1[k].2.2.1=1){key val:Int}(hkey:inB key 0 5=true)(hval:inB val (-1) 99=true):
 ET ((e.1,()),tup e.2.1[k],key,val,())=some (ZO (Nu e.2.1[k] (mx e.2.1[k].2.2.2.2.1 (KL (DM e.1 key))) (Ce (·.1) e.2.1[k].2.2.2.2.2.2.2.2.1 (key,val,()))) true):=by
 obtain⟨n,hn,v,e1,e2,e3,e4,e5,e6,e7⟩:=H.ltst hkey
 have hmem:=List.getElem_mem hn
 have ht:=H.smT hk
 have ha':(e.2.1[k].2.2.1 != 1)=false:=by rw[ha];rfl
 have hpw:=fF ht.2 (key,val,())
 simp only at hpw
 unfold ET
 simp only[MR _ ht,Lj H.small.fs,AH H.st,Ot ht,H.txOk hk,Option.bind_some,Bool.not_true,cond_false,ha',Dq,hkey,hval,hpw,e6,JN (H.small.fs.2 _ hmem) (H.gd.ok _ hmem).1 e4,e5,KL,ZO,Nu]
theorem QB {e:EG}(H:OkG e){k:Nat}(hk:k<e.2.1.length)(ha:e.2.1[k].2.2.1=1){key:Int}(hkey:inB key 0 5=true)(ce:Bool):
 Fv ((k:Int),key,Hj ce e)=some ((Fc e k key).1,(Fc e k key).2.1,Hj ce (Fc e k key).2.2):=by
 have hs:=H.small
 have ht:=H.smT hk
 have c:(0:Int)<=(k:Int)/\(k:Int)<(e.2.1.length:Int):=by omega
 have hfw:=fH ht key
 have hch:=SP H hk ha hkey
 simp only[tup]at hfw hch
 unfold Fv Fc Hj
 simp only[c,and_self,if_true,Nat.zero_add,Int.toNat_natCast,List.getElem?_eq_getElem hk,Option.bind_some,hfw,Ve,RP]
 cases hf:e.2.1[k].2.2.2.2.2.2.2.2.1.findIdx? (fun m=>m.1==key)with
 |some i=>
  obtain⟨h1,_⟩:=List.findIdx?_eq_some_iff_getElem.1 hf
  have c:(0:Int)<=(i:Int)/\(i:Int)<(e.2.1[k].2.2.2.2.2.2.2.2.1.length:Int):=by omega
  simp only[Option.isSome_some,cond_true,fx,c,and_self,if_true,Nat.zero_add,Int.toNat_natCast,List.getElem?_eq_getElem h1,Option.bind_some,Option.map_some]
 |none=>
  simp only[Option.isSome_none,cond_false,hch,Option.bind_some]
  cases hcp:IL e.1 e.2.1[k] key with
  |none=>
   simp only[bne,show((3:Int)==0)=false from rfl,Bool.not_false,cond_true,HA hk hs.fk hs.fw ce ha,Option.bind_some,Ik,EX]
  |some v=>
   have hv:okV v=true:=by
    obtain⟨l,h1,h2⟩:=PH hcp
    exact((J7 _).1 (H.gd.ok l (List.mem_of_getElem? h1)).1).1 v h2
   have htr:=fA ht (H.txOk hk) ha hkey hv
   simp only[tup]at htr
   simp only[bne,show((0:Int)==0)=true from rfl,Bool.not_true,cond_false,htr,Option.bind_some]
   cases Mh e.2.1[k] key v with
   |none=>rfl
   |some t'=>rfl
theorem UH {k:Nat}{hi:Int}{ce:Bool}(hh:hi<=5):∀(n:Nat) (key:Int) (out:List Int) (e:EG),OkG e->k<e.2.1.length->(∀t,e.2.1[k]?=some t->t.2.2.1=1)->0<=key->key+n=hi+1->out.length<=key.toNat->
 ((AC (fun v=>CQ ((k:Int),hi,0,()) v _ some) (key,ce,e.2.2.2.2,e.1,e.2.1,e.2.2.1,e.2.2.2.1,out,())).bind fun p=>Az p (fun p=>some
   ((p.2.2.2.2.1,p.1,p.2.1,p.2.2.1,p.2.2.2.1,p.2.2.2.2.2.2.1,p.2.2.2.2.2.2.2.1,[],()):Int×Bool×Int×List (List VV)×List TX×List VM×List VM×List Int×Unit)) fun p=>some (0,p.1,p.2.1,p.2.2.1,p.2.2.2.1,p.2.2.2.2.1,p.2.2.2.2.2.1,p.2.2.2.2.2.2.1,()))=
 some ((DJ k n key out e).1,ce,(DJ k n key out e).2.2.2.2.2.2,(DJ k n key out e).2.2.1,(DJ k n key out e).2.2.2.1,(DJ k n key out e).2.2.2.2.1,(DJ k n key out e).2.2.2.2.2.1,(DJ k n key out e).2.1,()):=by
 intro n
 induction n with
 |zero=>
  intro key out e H hk ha h0 hn ho
  rw[AZ]
  have hd:¬key<=hi:=by omega
  simp only[CQ,decide_eq_false hd,cond_false,Option.bind_some,Az,DJ]
 |succ n ih=>
  intro key out e H hk ha h0 hn ho
  have hkey:inB key 0 5=true:=Bc.2 ⟨h0,by omega⟩
  have hr:=QB H hk (ha _ (List.getElem?_eq_getElem hk)) hkey ce
  have hs:=H.read (List.getElem?_eq_getElem hk) (ha _ (List.getElem?_eq_getElem hk)) hkey
  unfold Hj at hr
  rw[AZ]
  have hd:key<=hi:=by omega
  simp only[CQ,decide_eq_true hd,cond_true,hr,Option.bind_some,DJ]
  cases hc:(Fc e k key).2.1==0
  ·simp only[bne,hc,Bool.not_false,cond_true,Option.bind_some,Az,cond_false]
  ·have hc':(Fc e k key).2.1=0:=by simpa using hc
   obtain⟨t',ht1,ht2,ht3⟩:=hs.2.1 hc'
   have hlen:(out++[(Fc e k key).1]).length<=4398046511104:=by
    have:key.toNat<=5:=by omega
    simp;omega
   have hw:IntKind.i64.wrap (key+1)=key+1:=CI (by omega) (by omega)
   simp only[bne,hc,Bool.not_true,cond_false,hlen,if_true,Option.bind_some,hw,cond_true]
   exact ih (key+1) (out++[(Fc e k key).1]) (Fc e k key).2.2 hs.1 (by rw[hs.2.2];exact hk) (fun t ht=>by rw[ht1]at ht;obtain rfl:t'=t:=(by simpa using ht);exact ht2) (by omega) (by omega) (by simp;omega)
theorem WW {e:EG}(H:OkG e){k:Nat}(hk:k<e.2.1.length)(ha:e.2.1[k].2.2.1=1){lo hi:Int}(h0:0<=lo)(h1:lo<=hi+1)(h2:hi<=5)(ce:Bool):
 Iq ((k:Int),lo,hi,Hj ce e)=some (VH ce (DJ k (hi-lo+1).toNat lo [] e)):=
 UH h2 (hi-lo+1).toNat lo [] e H hk (fun t ht=>by rw[List.getElem?_eq_getElem hk]at ht;obtain rfl:e.2.1[k]=t:=(by simpa using ht);exact ha) h0 (by omega) (by simp)
theorem UG {e:EG}(H:OkG e){k:Nat}(hk:k<e.2.1.length)(ha:e.2.1[k].2.2.1=1){key val:Int}(hkey:inB key 0 5=true)(hval:inB val (-1) 99=true)(a b c d:Int)(ce:Bool):
 Gi ((k:Int),a,b,c,key,d,val,Hj ce e)=some ((L8 e k key val).1,Hj ce (L8 e k key val).2):=by
 have hs:=H.small
 have hid:=H.idIn hk
 have c0:(0:Int)<=(k:Int)/\(k:Int)<(e.2.1.length:Int):=by omega
 have hwc:=fv H hk ha hkey
 have htw:=fy H hk ha hkey hval
 simp only[tup]at hwc htw
 unfold Gi L8 Hj
 simp only[c0,and_self,if_true,Nat.zero_add,Int.toNat_natCast,List.getElem?_eq_getElem hk,Option.bind_some,hwc,QD hs.fk]
 cases hc:(Fd e.1 e.2.2.1 e.2.1[k] key==1)
 ·simp only[cond_false]
  cases hc0:(Fd e.1 e.2.2.1 e.2.1[k] key==0)
  ·simp only[bne,hc0,Bool.not_false,cond_true,HA hk hs.fk hs.fw ce ha,Option.bind_some,cond_false,Ik,EX]
  ·have hc0':Fd e.1 e.2.2.1 e.2.1[k] key=0:=by simpa using hc0
   have htl:Gj (e.2.1[k].2.1,())=some (e.2.1[k].2.1==1||e.2.1[k].2.1==2,()):=by
    unfold Gj
    cases e.2.1[k].2.1==1<;>rfl
   simp only[bne,hc0,Bool.not_true,cond_false,cond_true,htw,htl,Option.bind_some]
   cases ht:(e.2.1[k].2.1==1||e.2.1[k].2.1==2)
   ·simp only[cond_false,ZO,Nu]
   ·simp only[cond_true,fL (lk:=e.2.2.1) hs.fk ((Mr _).2 ⟨H.lkA,H.lkU⟩) H.lkU hkey hid (Pq hc0' ht) (fun m hm=>by have:=Bc.1 (H.lkA m hm).2;omega),Option.bind_some,ZO,Nu]
 ·have hc':Fd e.1 e.2.2.1 e.2.1[k] key=1:=by simpa using hc
  obtain⟨n0,n1⟩:=RQ hc'
  have ho:=V5 H n0
  have hab:e.2.1[k].1≠Cq e.2.2.1 key:=fun h=>n1 h.symm
  simp only[cond_true,X0 H hid ho hab,Option.bind_some]
  cases PG e.2.2.2.1 e.2.1[k].1 (Cq e.2.2.1 key)
  ·simp only[cond_false,UI hs.fw ((I3 _).2 ⟨H.wtA,H.wtU⟩) hid ho hab,Option.bind_some,hc']
  ·simp only[cond_true,HA hk hs.fk hs.fw ce ha,Option.bind_some,Ik,EX]
end Go.Ab
end
section
namespace Go.Ab
section
variable {e:EG}(H:OkG e){k:Nat}(hk:k<e.2.1.length)(ha:e.2.1[k].2.2.1=1)
include H hk ha
theorem fI:Gl ((e.1,()),tup e.2.1[k],())=some (Ly e.1 e.2.1[k],()):=by
 have hg:=NO H hk ha (key:=0) rfl
 have hwl:=(H.smT hk).2
 have hwr:=H.wrIn hk
 simp only[tup]at hg
 unfold Gl Ly
 simp only[hg,Option.bind_some,Bool.not_true,cond_false]
 have hD:∀i (h:i<e.2.1[k].2.2.2.2.2.2.2.2.1.length),∀(hc:Bool),decide (crV (DM e.1 e.2.1[k].2.2.2.2.2.2.2.2.1[i].1)>e.2.1[k].2.2.2.1)=hc->
  Bu (e.1,tup e.2.1[k]) ((i:Int),()) _ some=bif !hc then some (.inl (((i+1:Nat):Int),()))else bif e.2.1[k].2.1==2 then some (.inr (.inl ()))else bif e.2.1[k].2.1==4 then some (.inr (.inr (.inl ())))else some (.inl (((i+1:Nat):Int),())):=by
  intro i h hc hh
  obtain⟨n,hn,v,e1,e2,e3,e4,e5,e6,e7⟩:=H.ltst (hwr _ (List.getElem_mem h))
  have hmem:=List.getElem_mem hn
  rw[e5,crV]at hh
  have hnn:decide (v.2.2.1<=e.2.1[k].2.2.2.1)=!hc:=by
   cases hc
   ·have:=of_decide_eq_false hh;exact decide_eq_true (by omega)
   ·have:=of_decide_eq_true hh;exact decide_eq_false (by omega)
  unfold Bu
  simp only[Al h,Option.bind_some,decide_eq_true (by omega:(i:Int)<(e.2.1[k].2.2.2.2.2.2.2.2.1.length:Int)),cond_true,An h (by omega),e6,JN (H.small.fs.2 _ hmem) (H.gd.ok _ hmem).1 e4,hnn]
 have hE:Bu (e.1,tup e.2.1[k]) ((e.2.1[k].2.2.2.2.2.2.2.2.1.length:Int),()) _ some=some (.inr (.inr (.inr ()))):=by
  unfold Bu
  simp only[Int.lt_irrefl,decide_false,cond_false]
 have hsplit:∀(p:VM->Bool) (l:List VM),(dec (∀i,i<l.length->∃h:i<l.length,p l[i]=false))=!l.any p:=by
  intro p l
  cases hb:l.any p with
  |false=>
   rw[List.any_eq_false]at hb
   exact AH fun i h=>⟨h,by simpa using hb _ (List.getElem_mem h)⟩
  |true=>
   obtain⟨x,hx,hp⟩:=List.any_eq_true.1 hb
   obtain⟨i,hi,rfl⟩:=List.getElem_of_mem hx
   exact BM fun h=>by obtain⟨_,h2⟩:=h i hi;rw[hp]at h2;cases h2
 cases h2:(e.2.1[k].2.1==2||e.2.1[k].2.1==4)
 ·have h2':=Bool.or_eq_false_iff.1 h2
  refine(Cj (B:=fun v=>Bu (e.1,tup e.2.1[k]) v _ some) (n:=e.2.1[k].2.2.2.2.2.2.2.2.1.length) (c:=fun _=>True) (X:=some (0,())) (no:=none) (fun i h=>⟨fun _=>?_,fun hn=>absurd trivial hn⟩) ⟨.inr (.inr ()),hE,rfl⟩).trans ?_
  ·refine(hD i h _ rfl).trans ?_
   simp only[h2'.1,h2'.2,cond_false]
   cases decide (crV (DM e.1 e.2.1[k].2.2.2.2.2.2.2.2.1[i].1)>e.2.1[k].2.2.2.1)<;>rfl
  ·rw[AH (fun i h=>trivial)]
   simp only[cond_true,h2'.1,h2'.2,cond_false]
   cases e.2.1[k].2.2.2.2.2.2.2.2.1.any _<;>rfl
 ·refine(Cj (B:=fun v=>Bu (e.1,tup e.2.1[k]) v _ some) (n:=e.2.1[k].2.2.2.2.2.2.2.2.1.length) (c:=fun i=>∃h:i<e.2.1[k].2.2.2.2.2.2.2.2.1.length,(fun m:VM=>decide (crV (DM e.1 m.1)>e.2.1[k].2.2.2.1)) e.2.1[k].2.2.2.2.2.2.2.2.1[i]=false) (X:=some (0,())) (no:=some (bif e.2.1[k].2.1==2 then 2 else 3,())) (fun i h=>⟨fun hc=>?_,fun hn=>?_⟩) ⟨.inr (.inr ()),hE,rfl⟩).trans ?_
  ·obtain⟨_,hc⟩:=hc
   exact(hD i h false hc).trans rfl
  ·have hc:decide (crV (DM e.1 e.2.1[k].2.2.2.2.2.2.2.2.1[i].1)>e.2.1[k].2.2.2.1)=true:=by
    cases hd:decide (crV (DM e.1 e.2.1[k].2.2.2.2.2.2.2.2.1[i].1)>e.2.1[k].2.2.2.1)with
    |true=>rfl
    |false=>exact absurd ⟨h,hd⟩ hn
   cases h3:e.2.1[k].2.1==2
   ·have h4:(e.2.1[k].2.1==4)=true:=by rw[h3]at h2;exact h2
    exact⟨_,(hD i h true hc).trans (by simp only[Bool.not_true,cond_false,h3,h4,cond_true];rfl),rfl⟩
   ·exact⟨_,(hD i h true hc).trans (by simp only[Bool.not_true,cond_false,h3,cond_true];rfl),rfl⟩
  ·have hs:=hsplit (fun m:VM=>decide (crV (DM e.1 m.1)>e.2.1[k].2.2.2.1)) e.2.1[k].2.2.2.2.2.2.2.2.1
   erw [hs]
   cases e.2.1[k].2.2.2.2.2.2.2.2.1.any _
   ·rfl
   ·cases h3:e.2.1[k].2.1==2
    ·have h4:(e.2.1[k].2.1==4)=true:=by rw[h3]at h2;exact h2
     simp only[h4,cond_true,cond_false,Bool.not_true]
    ·simp only[cond_true,cond_false,Bool.not_true]
omit ha in
theorem fC:Gk ((e.1,()),tup e.2.1[k],())=some (rlP e.1 e.2.1[k],()):=by
 have hsm:=H.smT hk
 have hwr:=H.wrIn hk
 have htx:=Ot hsm
 simp only[tup]at htx
 unfold Gk rlP
 simp only[Lj H.small.fs,AH H.st,htx,H.txOk hk,Option.bind_some,Bool.not_true,cond_false]
 refine G9 (l:=e.2.1[k].2.2.2.2.2.2.2.1) (f:=fun n m=>mx n m.2.1) (X:=fun n=>(AC (fun v=>Cy (e.1,tup e.2.1[k]) v _ some) (n,0,())).bind fun p=>some (p.1,())) 0 (fun i h n=>?_) (fun n=>⟨(n,()),?_,rfl⟩) ?_
 ·unfold Df
  simp only[Al h,Option.bind_some]
  rw[decide_eq_true (by omega),An h (by have:=hsm.1;omega)];rfl
 ·unfold Df
  simp only
  rw[decide_eq_false (by omega)];rfl
 ·refine G9 (l:=e.2.1[k].2.2.2.2.2.2.2.2.1) (f:=fun n m=>mx n (KL (DM e.1 m.1))) (X:=fun n=>some (n,())) _ (fun i h n=>?_) (fun n=>⟨(n,()),?_,rfl⟩) rfl
  ·obtain⟨n',hn,v,e1,e2,e3,e4,e5,e6,e7⟩:=H.ltst (hwr _ (List.getElem_mem h))
   have hmem:=List.getElem_mem hn
   unfold Cy
   simp only[tup,Al h,Option.bind_some,e6,JN (H.small.fs.2 _ hmem) (H.gd.ok _ hmem).1 e4,e5,KL]
   rw[decide_eq_true (by omega),An h (by have:=hsm.2;omega)];rfl
  ·unfold Cy
   simp only[tup]
   rw[decide_eq_false (by omega)];rfl
theorem ZK (hst:e.2.2.2.2+1<=999):El ((e.1,()),tup e.2.1[k],e.2.2.2.2+1,())=some (loP e.1 e.2.1[k],hiP e.1 e.2.1[k] (e.2.2.2.2+1),true,()):=by
 have hsm:=H.smT hk
 have hx:=(H.txA _ (List.getElem_mem hk)).2.2.2 ha
 have hrl:=fC H hk
 have hrh:=fD H.small.fs H.st _ hsm (H.txOk hk) hx
 have hex:=QF H.small.fs H.st hsm.1 hsm.2 (H.txOk hk) (H.rdIn hk)
 have ha':(e.2.1[k].2.2.1 != 1)=false:=by rw[ha];rfl
 have h0:=H.stamp0
 have hl:=H.last
 have hl0:0<=e.1.foldl IW 0:=((OC e.1 0).1 (Int.le_refl _)).1
 have hw:IntKind.i64.wrap (e.1.foldl IW 0+1)=e.1.foldl IW 0+1:=CI (by omega) (by omega)
 have hi:inB (e.2.2.2.2+1) (e.1.foldl IW 0+1) 999=true:=Bc.2 ⟨by omega,hst⟩
 simp only[tup]at hrl
 unfold El
 simp only[hex,AH hx,Option.bind_some,Bool.not_true,cond_false,ha',QC H.small.fs H.st,hw,Dq,hi,hrl,hrh,loP,hiP]
omit ha in
theorem UJ:Ff ((e.1,()),tup e.2.1[k],())=some (!Mz e.1 e.2.1[k],()):=by
 have hwl:=(H.smT hk).2
 have hwr:=H.wrIn hk
 unfold Ff
 have hsp:∀m∈e.2.1[k].2.2.2.2.2.2.2.2.1,∃(n:Nat) (hn:n<e.1.length),lAt e.1 m.1=some e.1[n]/\e.1[m.1.toNat]?=some e.1[n]:=fun m hm=>by
  obtain⟨n,hn,e1,e2,e3⟩:=Ti H.gd.six (hwr m hm)
  exact⟨n,hn,e2,e3⟩
 have he:=Lt (B:=fun v=>Ej (e.1,tup e.2.1[k]) v _ some) (l:=e.2.1[k].2.2.2.2.2.2.2.2.1) (fun i=>((i:Int),())) (fun m=>match e.1[m.1.toNat]? with|some l=>decide (l.length>=50)|none=>false) (fd:=fun i=>.inl ()) (no:=.inr ()) (fun i h=>by
  obtain⟨n,hn,q1,q2⟩:=hsp _ (List.getElem_mem h)
  have q3:decide ((e.1[n].length:Int)>=50)=decide (e.1[n].length>=50):=by
   rw[Bool.eq_iff_iff,decide_eq_true_eq,decide_eq_true_eq];omega
  unfold Ej
  simp only[tup,Al h,Option.bind_some,decide_eq_true (by omega:(i:Int)<(e.2.1[k].2.2.2.2.2.2.2.2.1.length:Int)),cond_true,An h (by omega),q1,q2,q3]
  cases decide (e.1[n].length>=50)<;>rfl) (by
  unfold Ej
  simp only[tup,Int.lt_irrefl,decide_false,cond_false]) (t0:=(0,())) rfl
 erw [he]
 unfold Mz
 cases hf:e.2.1[k].2.2.2.2.2.2.2.2.1.findIdx? (fun m=>match e.1[m.1.toNat]? with|some l=>decide (l.length>=50)|none=>false)with
 |none=>
  have:=congrArg Option.isSome hf
  rw[List.findIdx?_isSome]at this
  simp only[Option.bind_some,Az]
  erw [this];rfl
 |some i=>
  have:=congrArg Option.isSome hf
  rw[List.findIdx?_isSome]at this
  simp only[Option.bind_some,Az]
  erw [this];rfl
theorem WY (st lo hi:Int):Dd ((e.1,()),tup e.2.1[k],st,lo,hi,())=some (e.2.1[k].1,e.2.1[k].2.1,2,e.2.1[k].2.2.2.1,lo,hi,st,OH e.1 e.2.1[k] st hi,e.2.1[k].2.2.2.2.2.2.2.1,e.2.1[k].2.2.2.2.2.2.2.2.1,()):=by
 have hsm:=H.smT hk
 have hwr:=H.wrIn hk
 have hrd:=H.rdIn hk
 have hx:=(H.txA _ (List.getElem_mem hk)).2.2.2 ha
 have hwl:=QI ((CF _).1 (H.txOk hk)).2.1
 unfold Dd OH
 simp only[QG H.small.fs,MR _ hsm,Option.bind_some]
 obtain⟨f1,f2⟩:=Lw (l:=e.2.1[k].2.2.2.2.2.2.2.1) (f:=LO st) (Inv:=fun s i=>stOK s 0/\∀m∈e.2.1[k].2.2.2.2.2.2.2.1,Gt s m) (n0:=e.1)
  (B:=fun v=>CP (st,hi,e.2.1[k].1,e.2.1[k].2.1,e.2.1[k].2.2.1,e.2.1[k].2.2.2.1,e.2.1[k].2.2.2.2.1,e.2.1[k].2.2.2.2.2.1,e.2.1[k].2.2.2.2.2.2.1,e.2.1[k].2.2.2.2.2.2.2.1,e.2.1[k].2.2.2.2.2.2.2.2.1,0,0,0,0,0,0,0,e.2.1[k].1,e.2.1[k].2.1,2,e.2.1[k].2.2.2.1,lo,hi,st,e.2.1[k].2.2.2.2.2.2.2.1,e.2.1[k].2.2.2.2.2.2.2.2.1,()) v _ some)
  (fun i h s hI=>by
    obtain⟨_,hm,_⟩:=hrd i h
    obtain⟨a,h0,hlt,l,e1,e2,e3,hl⟩:=Jz hI.1.1 hm
    obtain⟨l',j,x1,x2⟩:=hI.2 _ (List.getElem_mem h)
    rw[e3]at x1;obtain rfl:l=l':=(by simpa using x1)
    have hj:=Q2 x2
    have hls:=(hI.1.small (by omega)).2 _ hl
    have c1:(0:Int)<=(a:Int)/\(a:Int)<(s.length:Int):=by omega
    have c2:(0:Int)<=(j:Int)/\(j:Int)<(l.length:Int):=by omega
    unfold CP LO
    simp only[decide_eq_true (by omega:(i:Int)<(e.2.1[k].2.2.2.2.2.2.2.1.length:Int)),cond_true,Al h,Option.bind_some,h0,c1,and_self,if_true,Nat.zero_add,Int.toNat_natCast,e1,QE hls,x2,fx,c2,List.getElem?_eq_getElem hj,An h (by have:=hsm.1;omega),e3,Rk])
  (fun i h s hI=>⟨RV st hI.1,fun m hm=>Pl st (hI.2 m hm)⟩)
  ⟨H.st.stOK,hx⟩
  (fun s=>by
    unfold CP
    simp only[Int.lt_irrefl,decide_false,cond_false])
 erw [f1]
 simp only[Option.bind_some]
 obtain⟨g1,g2⟩:=Lw (l:=e.2.1[k].2.2.2.2.2.2.2.2.1) (f:=Oi st e.2.1[k].1 hi) (Inv:=fun s i=>stOK s i) (n0:=e.2.1[k].2.2.2.2.2.2.2.1.foldl (LO st) e.1)
  (B:=fun v=>Cw (st,hi,e.2.1[k].1,e.2.1[k].2.1,e.2.1[k].2.2.1,e.2.1[k].2.2.2.1,e.2.1[k].2.2.2.2.1,e.2.1[k].2.2.2.2.2.1,e.2.1[k].2.2.2.2.2.2.1,e.2.1[k].2.2.2.2.2.2.2.1,e.2.1[k].2.2.2.2.2.2.2.2.1,0,0,0,0,0,0,0,e.2.1[k].1,e.2.1[k].2.1,2,e.2.1[k].2.2.2.1,lo,hi,st,e.2.1[k].2.2.2.2.2.2.2.1,e.2.1[k].2.2.2.2.2.2.2.2.1,()) v _ some)
  (fun i h s hI=>by
    obtain⟨a,h0,hlt,l,e1,e2,e3,hl⟩:=Jz hI.1 (hwr _ (List.getElem_mem h))
    have h5:=hI.2 l hl
    have hjl:l.length-1<l.length:=by omega
    have c1:(0:Int)<=(a:Int)/\(a:Int)<(s.length:Int):=by omega
    have c2:(0:Int)<=(l.length:Int)-1/\(l.length:Int)-1<(l.length:Int):=by omega
    have hj:((l.length:Int)-1).toNat=l.length-1:=by omega
    have c4:l.length+1<=879609302220:=by omega
    unfold Cw Oi
    simp only[decide_eq_true (by omega:(i:Int)<(e.2.1[k].2.2.2.2.2.2.2.2.1.length:Int)),cond_true,Al h,Option.bind_some,h0,c1.1,c1.2,true_and,and_self,if_true,Nat.zero_add,Int.toNat_natCast,e1,GI (by omega:l.length<9223372036854775808),c2.1,c2.2,hj,List.getElem?_eq_getElem hjl,List.length_set,Hq hlt,IR,List.length_append,List.length_cons,List.length_nil,c4,An h (by have:=hsm.2;omega),e3,d6,Nat.le_refl,Nat.zero_lt_one])
  (fun i h s hI=>RU st _ hi hI)
  f2.1
  (fun s=>by
    unfold Cw
    simp only[Int.lt_irrefl,decide_false,cond_false])
 erw [g1]
 rfl
end
end Go.Ab
end
section
namespace Go.Ab
theorem SO {e:EG}(H:OkG e){k:Nat}(hk:k<e.2.1.length)(ha:e.2.1[k].2.2.1=1)(ce:Bool):
 FN ((k:Int),Hj ce e)=some ((GU ce e k).1,ce,(GU ce e k).2.2.2.2.2,(GU ce e k).2.2.1,(GU ce e k).2.1,(GU ce e k).2.2.2.1,(GU ce e k).2.2.2.2.1,()):=by
 have hs:=H.small
 have hst0:=H.stamp0
 have hst1:=H.stamp
 have c0:(0:Int)<=(k:Int)/\(k:Int)<(e.2.1.length:Int):=by omega
 have hcc:=fI H hk ha
 have hft:=UJ H hk
 have hin:=WY H hk ha
 simp only[tup]at hcc hft hin
 unfold FN GU Hj
 simp only[c0,and_self,if_true,Nat.zero_add,Int.toNat_natCast,List.getElem?_eq_getElem hk,Option.bind_some,hcc]
 cases hc:(Ly e.1 e.2.1[k]==0)
 ·simp only[cond_false,Bool.not_false,cond_true,HA hk hs.fk hs.fw ce ha,Option.bind_some,Ik,EX]
 ·have hc':Ly e.1 e.2.1[k]=0:=by simpa using hc
  simp only[cond_true,Bool.not_true,cond_false]
  cases h9:(e.2.2.2.2==999)
  ·have h9':e.2.2.2.2≠999:=by simpa using h9
   have hw:IntKind.i64.wrap (e.2.2.2.2+1)=e.2.2.2.2+1:=CI (by omega) (by omega)
   have hfw:=ZK H hk ha (by omega)
   simp only[tup]at hfw
   simp only[cond_false,hc',beq_self_eq_true,cond_true,Fn,Ev,List.getElem?_eq_getElem hk,Option.bind_some,hw,hfw,hft,hin,Bool.not_true,cond_false]
   have hge:decide (hiP e.1 e.2.1[k] (e.2.2.2.2+1)<=loP e.1 e.2.1[k])=decide (loP e.1 e.2.1[k]>=hiP e.1 e.2.1[k] (e.2.2.2.2+1)):=rfl
   have hkset:k<(e.2.1.set k (LF e.2.1[k] (loP e.1 e.2.1[k]) (hiP e.1 e.2.1[k] (e.2.2.2.2+1)) (e.2.2.2.2+1))).length:=by simpa using hk
   have hend:=WZ (e:=(OH e.1 e.2.1[k] (e.2.2.2.2+1) (hiP e.1 e.2.1[k] (e.2.2.2.2+1)),e.2.1.set k (LF e.2.1[k] (loP e.1 e.2.1[k]) (hiP e.1 e.2.1[k] (e.2.2.2.2+1)) (e.2.2.2.2+1)),e.2.2.1,e.2.2.2.1,e.2.2.2.2+1)) hkset hs.fk hs.fw ce (by simp[LF])
   simp only[LF,List.getElem_set_self]at hend
   rw[hge]
   cases ce
   ·simp only[cond_false,Bool.false_and,Bool.false_or]
    cases Mz e.1 e.2.1[k]
    ·simp only[Bool.not_false,Bool.not_true,cond_false,cond_true,Rp,Option.bind_some,c0.1,c0.2,and_self,if_true,Nat.zero_add,Int.toNat_natCast,List.getElem?_eq_getElem hk,hend,Ik,LF]
    ·simp only[Bool.not_true,Bool.not_false,cond_true,cond_false,Rp,HA hk hs.fk hs.fw _ ha,Option.bind_some,Ik,EX]
   ·simp only[cond_true,Bool.true_and]
    cases decide (loP e.1 e.2.1[k]>=hiP e.1 e.2.1[k] (e.2.2.2.2+1))
    ·simp only[cond_false,Bool.false_or]
     cases Mz e.1 e.2.1[k]
     ·simp only[Bool.not_false,Bool.not_true,cond_false,cond_true,Rp,Option.bind_some,c0.1,c0.2,and_self,if_true,Nat.zero_add,Int.toNat_natCast,List.getElem?_eq_getElem hk,hend,Ik,LF]
     ·simp only[Bool.not_true,Bool.not_false,cond_true,cond_false,Rp,HA hk hs.fk hs.fw _ ha,Option.bind_some,Ik,EX]
    ·simp only[cond_true,Bool.true_or,Rp,cond_false,HA hk hs.fk hs.fw _ ha,Option.bind_some,Ik,EX]
  ·simp only[cond_true]
theorem fB {e:EG}(hs:SmallE e.1 e.2.1 e.2.2.1 e.2.2.2.1)(ce:Bool)(o:OPt):
 FP ((ce,(e.1,()),e.2.1,e.2.2.1,e.2.2.2.1,e.2.2.2.2,()),o,())=bif okE e.1 e.2.1 e.2.2.1 e.2.2.2.1 e.2.2.2.2&&Lo o then(let r:=JX ce e o;some (ce,r.2.2.2.2.2.2,r.1,r.2.2.1,r.2.2.2.1,r.2.2.2.2.1,r.2.2.2.2.2.1,r.2.1,()))else some (ce,e.2.2.2.2,6,e.1,e.2.1,e.2.2.1,e.2.2.2.1,[],()):=by
 unfold FP
 have hop:=WX o
 simp only[TC hs,iI hs,TE hs.fl,Option.bind_some]
 cases hE:okE e.1 e.2.1 e.2.2.1 e.2.2.2.1 e.2.2.2.2
 ·simp only[Bool.not_false,cond_true,Bool.false_and,cond_false]
 ·simp only[Bool.not_true,cond_false,Bool.true_and]
  erw [hop]
  simp only[Option.bind_some]
  cases ho:Lo o
  ·simp only[Bool.not_false,cond_true,cond_false]
  ·have H:=(TD e).1 hE
   obtain⟨o1,o2,o3,o4,o5,o6⟩:=(QK o).1 ho
   simp only[Bool.not_true,cond_false,cond_true,gz]
   unfold JX
   cases h1:(o.1==1)
   ·simp only[cond_false]
    rcases gQ H o.2.1 with⟨ha,k,hk,hf,h2,h3⟩|ha
    ·have hw:=H.wake o.2.1
     have hwk:=WV (l:=e.2.2.2.1) hs.fw o.2.1
     have h2':(e.2.1[k].2.2.1 != 1)=false:=by rw[h2];rfl
     have kR:=QB hw (k:=k) hk h2 (key:=o.2.2.2.1) (ce:=ce)
     have kS:=WW hw (k:=k) hk h2 (lo:=o.2.2.2.1) (hi:=o.2.2.2.2.1) (ce:=ce)
     have kW:=fun h h'=>UG hw (k:=k) hk h2 (key:=o.2.2.2.1) (val:=o.2.2.2.2.2.1) h h' o.1 o.2.1 o.2.2.1 o.2.2.2.2.1 ce
     have kC:=SO hw (k:=k) hk h2 ce
     have kE:=HA (e:=(e.1,e.2.1,e.2.2.1,wkW e.2.2.2.1 o.2.1,e.2.2.2.2)) hk hs.fk hw.small.fw ce h2
     simp only[Hj]at kR kS kW kC kE
     simp only[hf,ha,Option.isNone_some,cond_true,show(!(false==false))=false from rfl,cond_false,fx,Al hk,Option.bind_some,h2',hwk]
     cases h4:(o.1==2)
     ·simp only[cond_false]
      cases h5:(o.1==4)
      ·simp only[cond_false]
       cases h6:(o.1==3)
       ·simp only[cond_false]
        cases h7:(o.1==5)
        ·simp only[cond_false,List.getElem?_eq_getElem hk]
         erw [kE]
         rfl
        ·simp only[cond_true]
         erw [kC]
         rfl
       ·simp only[h6,Bool.or_true,Bool.true_or,cond_true]at o4 o6
        simp only[cond_true]
        erw [kW o4 o6]
        rfl
      ·simp only[h5,Bool.or_true,cond_true]at o4 o5
       rw[Bc]at o4 o5
       simp only[cond_true]
       erw [kS o4.1 (by omega) o5.2]
       rfl
     ·simp only[h4,Bool.true_or,cond_true]at o4
      simp only[cond_true]
      erw [kR o4]
      simp only[Option.bind_some,DJ]
      cases hz:(Fc (e.1,e.2.1,e.2.2.1,wkW e.2.2.2.1 o.2.1,e.2.2.2.2) k o.2.2.2.1).2.1==0 with
      |false=>rfl
      |true=>
       have hz':(Fc (e.1,e.2.1,e.2.2.1,wkW e.2.2.2.1 o.2.1,e.2.2.2.2) k o.2.2.2.1).2.1=0:=by simpa using hz
       simp only[hz']
       rfl
    ·cases hf:e.2.1.findIdx? (fun t=>t.1==o.2.1)with
     |none=>simp only[ha,Bool.not_false,Option.isNone_none,show(!(false==true))=true from rfl,cond_true]
     |some k=>
      obtain⟨hk,h2,h3⟩:=List.findIdx?_eq_some_iff_getElem.1 hf
      have h2':(e.2.1[k].2.2.1 != 1)=true:=by
       cases hx:(e.2.1[k].2.2.1==1)with
       |false=>simp only[bne,hx,Bool.not_false]
       |true=>
        rw[(J2 H.txU o.2.1).2 ⟨_,List.getElem_mem hk,by simpa using h2,by simpa using hx⟩]at ha
        cases ha
      simp only[ha,Bool.not_false,Option.isNone_some,show(!(false==false))=false from rfl,cond_false,fx,Al hk,Option.bind_some,h2',cond_true]
   ·simp only[h1,cond_true]at o3
    have hst:inB e.2.2.2.2 0 999=true:=Bc.2 ⟨H.stamp0,H.stamp⟩
    have hT:okT o.2.1 o.2.2.1 1 e.2.2.2.2 0 1000 0 [] []=true:=UZ o2 o3 hst
    have hn:Ew (o.2.1,o.2.2.1,e.2.2.2.2,())=some (o.2.1,o.2.2.1,1,e.2.2.2.2,0,1000,0,true,()):=by
     unfold Ew
     simp only[Q7 (rd:=[]) (wr:=[]) (Nat.zero_le _) (Nat.zero_le _),hT,Option.bind_some,Bool.not_true,cond_false]
    have h6:((e.2.1.length:Int)==6)=(e.2.1.length==6):=by rw[Bool.eq_iff_iff,beq_iff_eq,beq_iff_eq];omega
    have hany:(e.2.1.findIdx? fun t=>t.1==o.2.1).isNone=!(e.2.1.any fun t=>t.1==o.2.1):=by
     rw[<-List.findIdx?_isSome];cases e.2.1.findIdx? _<;>rfl
    unfold JW
    simp only[cond_true,hany,h6,hn,Option.bind_some]
    cases hh:(e.2.1.any fun t=>t.1==o.2.1)
    ·simp only[Bool.not_false,show(!(true==true))=false from rfl,cond_false,Bool.false_or]
     cases h7:(e.2.1.length==6)
     ·simp only[cond_false]
      refine(Mn (l:=e.2.1) (p:=fun x=>decide (x.1<o.2.1)) hs.fl (fun i h=>?_) ?_ _).trans ?_
      ·have c:(0:Int)<=(i:Int)/\(i:Int)<(e.2.1.length:Int):=by omega
       unfold CZ
       simp only[decide_eq_true c.2,cond_true,c.1,c.2,and_self,if_true,Nat.zero_add,Int.toNat_natCast,List.getElem?_eq_getElem h,Option.bind_some,An h (by have:=hs.fl;omega)]
       cases decide (e.2.1[i].1<o.2.1)<;>rfl
      ·unfold CZ
       simp only[Int.lt_irrefl,decide_false,cond_false]
      ·have hle:=TV (l:=e.2.1) (p:=fun x=>decide (x.1<o.2.1))
       have hfl:=hs.fl
       rw[Vu H]at hh
       generalize hc:(e.2.1.takeWhile fun x=>decide (x.1<o.2.1)).length=c at hle
       rw[Oq (m:=LG o.2.1 o.2.2.1 e.2.2.2.2) hc]
       have q1:(e.2.1.take c).length<=338311270084:=by simp;omega
       have q2:(e.2.1.take c++[LG o.2.1 o.2.2.1 e.2.2.2.2]).length<=338311270084:=by simp;omega
       have q3:(e.2.1.take c++[LG o.2.1 o.2.2.1 e.2.2.2.2]++e.2.1.drop c).length<=338311270084:=by simp;omega
       have c1:(0:Int)<=0/\(0:Int)<=(c:Int)/\(c:Int)<=(e.2.1.length:Int):=by omega
       have c2:(0:Int)<=(c:Int)/\(c:Int)<=(e.2.1.length:Int)/\(e.2.1.length:Int)<=(e.2.1.length:Int):=by omega
       have hh':DX (fun x:TX=>x.1) e.2.1 (LG o.2.1 o.2.2.1 e.2.2.2.2).1=false:=hh
       simp only[A72,A71]
       rw[if_pos c1,if_pos q1]
       erw [if_pos q2]
       rw[if_pos c2]
       erw [if_pos q3]
       simp only[hh',cond_false]
       rfl
     ·simp only[cond_true]
    ·simp only[Bool.not_true,show(!(true==false))=true from rfl,cond_true,Bool.true_or]
end Go.Ab
end
section
namespace Go.Ab
theorem yk (a:List Int)(ha:a.length<=1048576):L7 (a,a,())=some (true,()):=by
 unfold L7
 simp only[bne_self_eq_false,cond_false]
 refine D5 a.length (fun j=>((j:Int),())) rfl (fun j hj=>?_) ⟨.inr (),?_,rfl⟩
 ·unfold Iz
  simp only[Al hj,Option.bind_some]
  rw[decide_eq_true (by omega),wr1 (by omega) (by omega)]
  simp only[cond_true,bne_self_eq_false,cond_false]
  rfl
 ·unfold Iz
  simp only
  rw[decide_eq_false (by omega)]
  rfl
def mk1 (k:Int):Int:=k
theorem jV (n:Nat)(k:Int)(h0:0<=k)(hk:k+n<9223372036854775000):K9 (mkL mk1 1 k n,k,())=some (k+n,()):=by
 unfold K9
 simp only
 refine D5 n (fun j=>(k+(j:Int),(j:Int),())) (by simp) (fun j hj=>?_) ⟨.inr (k+n,()),?_,rfl⟩
 ·unfold Hn
  have hg:lAt (mkL mk1 1 k n) (j:Int)=some (k+(j:Int)):=by
   rw[Al (by rw[AK];exact hj)]
   have:=Ow mk1 1 k n j hj
   rw[List.getElem?_eq_getElem (by rw[AK];exact hj)]at this
   rw[this];congr 1;unfold mk1;omega
  simp only[AK,hg,Option.bind_some]
  rw[decide_eq_true (by omega)]
  rw[wr1 (k:=k+(j:Int)) (by omega) (by omega),wr1 (k:=(j:Int)) (by omega) (by omega)]
  simp only[cond_true,bne_self_eq_false,cond_false]
  congr 3
  push_cast;omega
 ·unfold Hn
  simp only[AK]
  rw[decide_eq_false (by omega)]
  rfl
end Go.Ab
end
section
namespace Go.Ab
theorem A6w (row:List Int)(k:Int)(h0:0<=k)(hk:k+row.length<9223372036854775000):
 OA (k,row,())=some (k+row.length,mkL mk1 1 k row.length,()):=by
 unfold OA
 simp only
 rw[GE (r:=(k+row.length,mkL mk1 1 k row.length,())) row.length (fun j=>(k+(j:Int),(j:Int),mkd mk1 1 k row j,()))]
 ·rfl
 ·simp only[KT];simp
 ·intro j hj
  unfold KC
  have hl:=Iy mk1 1 k row j (by omega)
  have hg:=MU mk1 1 k row j hj
  have hs:=MT mk1 1 k row j hj
  simp only[hl]
  rw[decide_eq_true (by omega),if_pos (by omega)]
  simp only[cond_true,Option.bind_some,Nat.zero_add,Int.toNat_natCast,hg]
  rw[wr1 (k:=k+(j:Int)) (by omega) (by omega),wr1 (k:=(j:Int)) (by omega) (by omega)]
  have e1:k+(j:Int)+1=k+((j+1:Nat):Int):=by push_cast;omega
  have e2:mk1 (k+1*(j:Int))=k+(j:Int):=by unfold mk1;omega
  rw[e2]at hs
  rw[e1,hs]
  simp
 ·unfold KC
  simp only[MV,AK]
  rw[decide_eq_false (by omega)]
  rfl
end Go.Ab
end
section
namespace Go.Ab
def mk6 (k:Int):OPt:=(k,k+1,k+2,k+3,k+4,k+5,())
theorem A6x (v:OPt):M7 (v,v,())=some (true,()):=by
 simp[M7]
theorem qI (a:List OPt)(ha:a.length<9223372036854775000):K2 (a,a,())=some (true,()):=by
 unfold K2
 simp only[bne_self_eq_false,cond_false]
 refine D5 a.length (fun j=>((j:Int),())) rfl (fun j hj=>?_) ⟨.inr (),?_,rfl⟩
 ·unfold Hv
  simp only[Al hj,Option.bind_some,A6x]
  rw[decide_eq_true (by omega),wr1 (by omega) (by omega)]
  rfl
 ·unfold Hv
  simp only
  rw[decide_eq_false (by omega)]
  rfl
theorem sB (a:List OPt)(ha:a.length<=1048576):Jj (a,())=some (a,()):=by
 unfold Jj
 simp only
 rw[if_pos (by omega),Int.toNat_natCast]
 refine Mb ha (fun i h out ho=>?_) fun out=>?_
 ·unfold Hu
  simp only[Al h,Option.bind_some,LH]
  rw[decide_eq_true (by omega),if_pos (by omega),An h (by omega)]
  simp[ho,h]
 ·unfold Hu
  simp only
  rw[decide_eq_false (by omega)];rfl
theorem sC {a:List OPt}{l:Int}(ha:a.length<=maxLen)(h0:0<=l)(h1:l<=1048576):Na (a.length<=1048576) (LK (a,l,())):=Vy ha h0 h1
end Go.Ab
end
section
namespace Go.Ab
def cPb (l:List OPt)(i:Nat):Bool:=match l[i]?,l[0]? with
 |some a,some b=>Lo a&&!(a.2.1 != b.2.1)&&((a.1==1)==((i:Int)==0))&&((a.1==5||a.1==6)==((i:Int)==(l.length:Int)-1))
 |_,_=>false
noncomputable def O8 (l:List OPt):Bool:=inB (l.length:Int) 2 12&&dec (∀i,i<l.length->cPb l i=true)
theorem jW {l:List OPt}{i:Nat}(h:i<l.length):cPb l i=(Lo l[i]&&!(l[i].2.1 != (l[0]'(by omega)).2.1)&&((l[i].1==1)==((i:Int)==0))&&((l[i].1==5||l[i].1==6)==((i:Int)==(l.length:Int)-1))):=by
 unfold cPb
 rw[List.getElem?_eq_getElem h,List.getElem?_eq_getElem (show 0<l.length by omega)]
theorem Axp {α:Type}{l:List α}(h:0<l.length):lAt l 0=some l[0]:=Al (i:=0) h
theorem jT {l:List OPt}(hl:l.length<=1048576):J5 (l,())=some (O8 l,()):=by
 unfold J5 O8
 simp only[Ix,Option.bind_some]
 cases inB (l.length:Int) 2 12
 ·rfl
 ·simp only[Bool.not_true,cond_false,Bool.true_and]
  refine(Cj (n:=l.length) (c:=fun i=>cPb l i=true) (X:=some (true,())) (no:=some (false,())) (fun i hi=>?_) ⟨.inr (.inr (.inr (.inr (.inr (.inr (.inr (.inr ()))))))),?_,rfl⟩).trans ?_
  ·have hop:Fb ((l[i].1,l[i].2.1,l[i].2.2.1,l[i].2.2.2.1,l[i].2.2.2.2.1,l[i].2.2.2.2.2.1,()),())=some (Lo l[i],()):=fP l[i]
   unfold GS
   simp only[Al hi,Axp (show 0<l.length by omega),Option.bind_some,hop,CI (n:=(l.length:Int)-1) (by omega) (by omega),jW hi]
   rw[decide_eq_true (by omega),An hi (by omega)]
   simp only[cond_true]
   generalize Lo l[i]=b1
   generalize (l[i].2.1 != (l[0]'(by omega)).2.1)=b2
   generalize ((l[i].1==1)==((i:Int)==0))=b3
   generalize (l[i].1==5)=k5
   generalize (l[i].1==6)=k6
   generalize ((i:Int)==(l.length:Int)-1)=z
   cases b1<;>cases b2<;>cases b3<;>cases k5<;>cases k6<;>cases z<;>first
    |exact⟨fun _=>rfl,fun h=>absurd rfl h⟩
    |exact⟨fun h=>absurd h (by decide),fun _=>by refine⟨_,rfl,?_⟩;rfl⟩
  ·unfold GS
   simp only
   rw[decide_eq_false (by omega)];rfl
  ·cases dec (∀i,i<l.length->cPb l i=true)<;>rfl
theorem jR {l:List OPt}(hl:l.length<=1048576):JZ (l,())=some (O8 l,()):=by
 unfold JZ O8
 simp only[Dq]
 refine(Cj (n:=l.length) (c:=fun i=>cPb l i=true) (X:=some (inB (l.length:Int) 2 12,())) (no:=some (false,())) (fun i hi=>?_) ⟨.inr (.inr (.inr (.inr (.inr (.inr (.inr (.inr ()))))))),?_,rfl⟩).trans ?_
 ·have hop:Ea ((l[i].1,l[i].2.1,l[i].2.2.1,l[i].2.2.2.1,l[i].2.2.2.2.1,l[i].2.2.2.2.2.1,()),())=some (Lo l[i],()):=WX l[i]
  unfold GN
  simp only[Al hi,Axp (show 0<l.length by omega),Option.bind_some,hop,CI (n:=(l.length:Int)-1) (by omega) (by omega),jW hi]
  rw[decide_eq_true (by omega),An hi (by omega)]
  simp only[cond_true]
  generalize Lo l[i]=b1
  generalize (l[i].2.1 != (l[0]'(by omega)).2.1)=b2
  generalize ((l[i].1==1)==((i:Int)==0))=b3
  generalize (l[i].1==5)=k5
  generalize (l[i].1==6)=k6
  generalize ((i:Int)==(l.length:Int)-1)=z
  cases b1<;>cases b2<;>cases b3<;>cases k5<;>cases k6<;>cases z<;>first
   |exact⟨fun _=>rfl,fun h=>absurd rfl h⟩
   |exact⟨fun h=>absurd h (by decide),fun _=>by refine⟨_,rfl,?_⟩;rfl⟩
 ·unfold GN
  simp only
  rw[decide_eq_false (by omega)];rfl
 ·cases dec (∀i,i<l.length->cPb l i=true)<;>cases inB (l.length:Int) 2 12<;>rfl
theorem Ra {l:List OPt}(h:O8 l=true):l.length<=12/\∀o∈l,Lo o=true:=by
 unfold O8 at h
 rw[Bool.and_eq_true]at h
 have h1:=Bc.1 h.1
 have h2:=KD h.2
 refine⟨by omega,fun o ho=>?_⟩
 obtain⟨i,hi,rfl⟩:=List.getElem_of_mem ho
 have h3:=h2 i hi
 rw[jW hi]at h3
 simp only[Bool.and_eq_true]at h3
 exact h3.1.1.1
def rq (t:List TX)(c:Int):List Int:=(t.filter fun x=>x.2.2.1==c).map (·.1)
theorem Aax (t:List TX)(c:Int)(n:Nat):(rq (t.take n) c).length<=t.length:=by
 unfold rq
 rw[List.length_map]
 refine Nat.le_trans (List.length_filter_le ..) ?_
 simp;omega
theorem Ab5 {t:List TX}{c:Int}{i:Nat}(h:i<t.length):rq (t.take (i+1)) c=bif t[i].2.2.1==c then rq (t.take i) c++[t[i].1]else rq (t.take i) c:=by
 unfold rq
 rw[<-List.take_append_getElem h,List.filter_append,List.map_append]
 cases hc:t[i].2.2.1==c<;>simp[List.filter,hc]
theorem Ad3 {t:List TX}(ht:t.length<=1048576)(ce:Bool)(s:List (List VV))(lk wt:List VM)(stamp c:Int):O3 ((ce,(s,()),t,lk,wt,stamp,()),c,())=some (rq t c,()):=by
 unfold O3
 simp only
 refine D5 t.length (fun i=>((i:Int),rq (t.take i) c,())) rfl (fun i h=>?_) ⟨(rq t c,()),?_,rfl⟩
 ·unfold K3
  simp only[Al h,Option.bind_some,Ab5 h]
  rw[decide_eq_true (by omega),An h (by omega)]
  have h1:=Aax t c i
  cases t[i].2.2.1==c
  ·rfl
  ·simp only[cond_true]
   rw[if_pos (by simp;omega)]
 ·unfold K3
  simp only[List.take_length]
  rw[decide_eq_false (by omega)];rfl
end Go.Ab
end
section
namespace Go.Ab
def iC:List (List VV):=List.replicate 6 [(0,-1,0,0,1000,())]
theorem Ad1:Ky ()=some (iC,()):=by
 unfold Ky
 refine D5 6 (fun j=>((j:Int),List.replicate j [(0,-1,0,0,1000,())],())) rfl (fun j hj=>?_) ⟨(iC,()),?_,rfl⟩
 ·unfold It
  simp only[List.length_append,List.length_replicate,List.length_cons,List.length_nil]
  rw[decide_eq_true (by omega),if_pos (by omega),wr1 (by omega) (by omega),<-List.replicate_succ']
  rfl
 ·rfl
theorem Ad2:KA ()=some (iC,()):=by
 unfold KA
 refine D5 6 (fun j=>((j:Int),List.replicate j [(0,-1,0,0,1000,())],())) rfl (fun j hj=>?_) ⟨(iC,()),?_,rfl⟩
 ·unfold IB
  simp only[List.length_append,List.length_replicate,List.length_cons,List.length_nil]
  rw[decide_eq_true (by omega),if_pos (by omega),wr1 (by omega) (by omega),<-List.replicate_succ']
  rfl
 ·rfl
def VI:EG:=(iC,[],[],[],0)
theorem iJ:OkG VI:=by
 have h1:LJ [((0,-1,0,0,1000,()):VV)]:=(J7 _).2 ⟨fun v hv=>by rw[List.mem_singleton]at hv;subst hv;rfl,List.pairwise_singleton _ _,_,rfl,rfl⟩
 refine⟨⟨rfl,fun l hl=>?_⟩,by decide,by decide,?_,List.Pairwise.nil,?_,List.Pairwise.nil,?_,List.Pairwise.nil,by decide,?_,?_⟩
 ·have:l=[((0,-1,0,0,1000,()):VV)]:=List.eq_of_mem_replicate hl
  subst this
  exact⟨h1,by decide⟩
 all_goals intro m hm;cases hm
theorem jS (ce:Bool):JY (ce,())=some (ce,0,iC,()):=by
 unfold JY
 rw[Ad1];rfl
theorem jU (ce:Bool):K4 (ce,())=some (ce,0,iC,()):=by
 unfold K4
 rw[Ad2];rfl
end Go.Ab
end
