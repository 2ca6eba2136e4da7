import Derived.Test.YtgljlakbfdnmfaaGreatF2
import Derived.LoopN
import Derived.Laws.Sem
import Derived.ProofKit
set_option linter.all false
open Bool renaming and_eq_true->zJq
open Nat renaming zero_add->zJj,mul_le_mul_right->zJx,le_refl->zQq,lt_of_succ_lt_succ->zKx
open List renaming length_append->zJk,mem_cons_of_mem->zKk,getElem?_eq_some_iff->zQj,getD_eq_getElem?_getD->zKz
section
namespace Go.Ab
structure FrOK (n:Nat)(F:Fr):Prop where
 lt:∀r c,F.h0.getD r none=some c->r<n
 ver:∀r ro v t xs ho,F.h0.getD r none=some (.tree ro v t xs ho)->v=0
theorem OQ {h:Am}{r:Nat}{s:Sub}{c:Cont}(e:AC h r s=.on c):∃c0,h.getD r none=some c0:=by
 cases hc:h.getD r none with
 |none=>cases s<;>simp only[AC,hc]at e<;>cases e
 |some c0=>exact⟨c0,rfl⟩
theorem td {h:Am}{r i k v:Nat}{c:Cont}(e:AC h r (some (i,k,v))=.on c):∃ro t xs ho,h.getD r none=some (.tree ro v t xs ho):=by
 obtain⟨c0,hc⟩:=OQ e
 cases c0 with
 |tree ro v' t xs ho=>obtain⟨rfl,_⟩:=DB hc e;exact⟨ro,t,xs,ho,hc⟩
 |lst ro t xs=>simp only[AC,hc]at e;cases e
 |cells n es=>simp only[AC,hc]at e;cases e
 |shp n l=>simp only[AC,hc]at e;cases e
 |dead=>simp only[AC,hc]at e;cases e
theorem sR {n q v v':Nat}{ro:Bool}(h:Rd n q ro v v'=true)(hq:q<n):v=0->v'=0:=by
 unfold Rd at h
 have:Nat.blt q n=true:=Nat.ble_eq_true_of_le hq
 rw[this]at h
 simp only[if_true]at h
 rintro rfl
 cases ro
 ·simpa using h
 ·simpa using h
theorem sQ {n q v v':Nat}(h:Rd n q true v v'=true)(hq:q<n):v'=0->v=0:=by
 unfold Rd at h
 have:Nat.blt q n=true:=Nat.ble_eq_true_of_le hq
 rw[this]at h
 simp only[if_true,cond_true]at h
 rintro rfl
 simpa using h
section
variable {n m:Nat}{F:Fr}{E:Env}{h h':Am}{w:World}{ρ:Ren}{ver:Nat->Nat}
theorem Xa (FO:FrOK n F)(HI:Inv F E h w)(hnm:n<=m)(hid:∀q,q<n->ρ.getD q none=some q)(hnd:(JM ρ).Nodup)
 {os:List (Option Cont)}(hS:∀q,q<m->Mk false n m h (roH h) ρ ver q (os.getD q none))
 (H':∀q,q<m->h'.getD q none=match os.getD q none with|some c=>some c|none=>h.getD q none)(H2:∀q,m<=q->h'.getD q none=none)
 (hk:∀q,q<n->os.getD q none=none->∀c,h.getD q none=some c->c≠.dead->ver q=0/\((∃t xs,c=.lst true t xs)\/∃t xs,c=.tree true 0 t xs none)):
 Inv F (E.ren h' ρ E.I) h' w/\RefMap m h (roH h) ρ ver E h w (E.ren h' ρ E.I) h':=by
 have H:∀q,q<m->∃c,h'.getD q none=some c/\sM false n m h h (roH h) ρ ver q c:=by
  intro q hq
  have h1:=hS q hq
  have h2:=H' q hq
  cases ho:os.getD q none with
  |some c=>rw[ho]at h1 h2;exact⟨c,h2,h1.src (BM.refl h)⟩
  |none=>
   rw[ho]at h1 h2
   rcases h1 with h3|⟨_,hqn,c,hc,hd⟩|⟨_,h3⟩|⟨r,_,h3⟩
   ·cases h3
   ·refine⟨c,by rw[h2];exact hc,.inr (.inr ⟨q,hid q hqn,?_⟩)⟩
    obtain⟨hv0,⟨t,xs,rfl⟩|⟨t,xs,rfl⟩⟩:=hk q hqn ho c hc hd
    ·exact .inl ⟨true,true,t,xs,hc,rfl,rfl⟩
    ·refine .inr (.inl ⟨true,true,0,t,xs,hc,by rw[hv0],rfl,fun v hv1=>?_,by rw[hv0];unfold Rd;split<;>rfl⟩)
     unfold LL at hv1;rw[hc]at hv1;exact(eq_of_beq hv1).symm
   ·rcases h3 with⟨_,_,h3⟩|⟨_,_,h3⟩<;>cases h3
   ·rcases h3 with⟨_,_,_,_,_,h3,_⟩|⟨_,_,_,_,_,_,h3,_⟩|⟨_,_,_,_,h3,_⟩<;>cases h3
 have hpk:PackOK (roH h) E h w E.I:=⟨fun b hb=>hb,(BM.refl h).ro,.inr HI.heap,fun r c hc κ b k h1=>by
  rw[OF]at hc
  refine HI.heap.roI r κ b k h1 ?_
  unfold DV
  split at hc
  ·rename_i c' e
   try rw[e]
   split at hc
   ·rename_i e2;exact e2
   ·cases hc
  ·cases hc⟩
 have hro:∀q r c,ρ.getD q none=some r->h'.getD q none=some c->q<m->c≠.dead->DV h r=c.ro:=by
  intro q r c hr hc hq hd
  obtain⟨c',hc',h1⟩:=H q hq
  rw[hc]at hc';obtain rfl:c=c':=by simpa using hc'
  rcases h1 with rfl|⟨h2,_⟩|⟨r',h2,h3⟩
  ·exact absurd rfl hd
  ·rw[hr]at h2;cases h2
  ·rw[hr]at h2;obtain rfl:r=r':=by simpa using h2
   rcases h3 with⟨ro,ro',t,xs,h4,rfl,h5⟩|⟨ro,ro',v',t,xs,h4,rfl,h5,_⟩|⟨k,cs,cs',h4,rfl,_⟩
   ·rw[B9 h4];cases ro<;>cases ro'<;>first|rfl|cases h5
   ·rw[B9 h4];cases ro<;>cases ro'<;>first|rfl|cases h5
   ·rw[B9 h4];rfl
 have hlt:∀q c,h'.getD q none=some c->q<m:=fun q c hc=>by
  rcases Nat.lt_or_ge q m with h1|h1
  ·exact h1
  ·rw[H2 q h1]at hc;cases hc
 have hro2:∀q κ b k,(E.ren h' ρ E.I).ι q κ=some (b,k)->∃r,E.ι r κ=some (b,k)/\DV h r=DV h' q:=by
  intro q κ b k h1
  obtain⟨r,h2,h3,c,h4,h5⟩:=ren_ι h1
  exact⟨r,h3,by rw[hro q r c h2 h4 (hlt q c h4) h5,B9 h4]⟩
 have hHeap:HeapOK (E.ren h' ρ E.I) h' w:=by
  refine X7 HI.heap (BM.refl h) H H2 hpk hnd HI.heap.I_lt (fun q r κ b k hr hro' hex h1=>?_) (fun q r κ b k hr hro' h1=>?_)
  ·obtain⟨c,hc,hd⟩:=hex
   exact HI.heap.apart r κ b k h1 (by rw[hro q r c hr hc (hlt q c hc) hd];rw[B9 hc]at hro';exact hro')
  ·unfold DV at hro'
   split at hro'
   ·rename_i c hc
    have hd:c≠.dead:=by rintro rfl;cases hro'
    exact HI.heap.roI r κ b k h1 (by rw[hro q r c hr hc (hlt q c hc) hd];exact hro')
   ·cases hro'
 refine⟨⟨hHeap,HI.bel,HI.B_lt,fun q κ b k h1 h2=>?_,HI.I_new,⟨HI.kept.stab,fun q s c e=>?_⟩,fun q hq=>?_⟩,Ug (BM.refl h) H hpk⟩
 ·obtain⟨r,h3,h4⟩:=hro2 q κ b k h1
  exact HI.own_new r κ b k h3 (h4.trans h2)
 ·
  obtain⟨c0,hc0⟩:=OQ e
  have hqn:=FO.lt q c0 hc0
  have hρ:=hid q hqn
  obtain⟨c',hc',h1⟩:=H q (Nat.lt_of_lt_of_le hqn hnm)
  have hver:∀i k v,s=some (i,k,v)->v=0:=by
   rintro i k v rfl
   obtain⟨ro,t,xs,ho,h2⟩:=td e
   exact FO.ver q ro v t xs ho h2
  rcases h1 with rfl|⟨h2,_⟩|⟨r,h2,h3⟩
  ·exact .inl (Ha hc' s)
  ·rw[hρ]at h2;cases h2
  ·rw[hρ]at h2;obtain rfl:q=r:=by simpa using h2
   have hι:=fun(hd:c'≠.dead) κ=>ren_ι' (E:=E) (J:=E.I) (κ:=κ) hρ hc' hd
   have same:∀c1,AC h q s=.on c1->(AC h' q s=.off\/∃c2,AC h' q s=.on c2/\c2.len=c1.len/\c2.sz=c1.sz/\c'≠.dead):=by
    intro c1 h5
    rcases h3 with⟨ro,ro',t,xs,h4,rfl,_⟩|⟨ro,ro',v',t,xs,h4,rfl,_,_,h6⟩|⟨k,cs,cs',h4,rfl,_⟩
    ·right
     cases s with
     |none=>
      simp only[AC,h4,RefSt.on.injEq]at h5;subst h5
      exact⟨.lst ro t xs,by simp only[AC,hc'],rfl,rfl,by simp⟩
     |some p=>simp only[AC,h4]at h5;cases h5
    ·cases s with
     |none=>
      right
      rw[AB h4,RefSt.on.injEq]at h5;subst h5
      exact⟨_,AB hc',rfl,rfl,by simp⟩
     |some p=>
      obtain⟨i,k,v⟩:=p
      obtain⟨rfl,_,hn⟩:=DB h4 h5
      obtain rfl:=hver i k v rfl
      by_cases hv0:ver q=0
      ·right
       obtain⟨u,ys,rfl,hn2⟩:=JW (ro':=ro) hn
       exact⟨.lst ro u ys,by rw[AD hc',hv0,if_neg (Nat.lt_irrefl _),if_neg (by simp),hn2],rfl,rfl,by simp⟩
      ·left
       rw[AD hc',if_neg (by omega),if_pos (.inl (by omega))]
    ·right
     cases s with
     |none=>
      simp only[AC,h4,RefSt.on.injEq]at h5;subst h5
      exact⟨.cells k [cs'],by simp only[AC,hc'],rfl,rfl,by simp⟩
     |some p=>simp only[AC,h4]at h5;cases h5
   have past:AC h q s=.off->AC h' q s=.off:=by
    intro h5
    rcases h3 with⟨ro,ro',t,xs,h4,rfl,_⟩|⟨ro,ro',v',t,xs,h4,rfl,_,_,h6⟩|⟨k,cs,cs',h4,rfl,_⟩
    ·cases s with
     |none=>simp only[AC,h4]at h5;cases h5
     |some p=>simp only[AC,hc']
    ·cases s with
     |none=>rw[AB h4]at h5;cases h5
     |some p=>
      obtain⟨i,k,v⟩:=p
      obtain rfl:=hver i k v rfl
      rw[AD h4]at h5
      by_cases h7:v'=0
      ·subst h7
       rw[if_neg (Nat.lt_irrefl _),if_neg (by simp)]at h5
       split at h5<;>cases h5
      ·have hv0:ver q≠0:=by
        exact fun h8=>h7 (sR h6 hqn h8)
       rw[AD hc',if_neg (by omega),if_pos (.inl (by omega))]
    ·cases s with
     |none=>simp only[AC,h4]at h5;cases h5
     |some p=>simp only[AC,h4]at h5;cases h5
   rcases HI.kept.on q s c e with h5|⟨c1,h5,hl,hs,hιe,hb⟩
   ·exact .inl (past h5)
   ·rcases same c1 h5 with h6|⟨c2,h6,hl2,hs2,hd⟩
    ·exact .inl h6
    ·exact .inr ⟨c2,h6,hl2.trans hl,hs2.trans hs,(hι hd _).trans hιe,hb⟩
 ·rcases HI.fixed q hq with h1|h1
  ·have hqn:q<n:=by
    unfold DV at hq
    split at hq
    ·rename_i c hc;exact FO.lt q c hc
    ·cases hq
   have hρ:=hid q hqn
   obtain⟨c',hc',h2⟩:=H q (Nat.lt_of_lt_of_le hqn hnm)
   have hroh:DV h q=true:=by unfold DV at hq ⊢;rw[h1];exact hq
   rcases h2 with rfl|⟨h2,_⟩|⟨r,h2,h3⟩
   ·exact .inr hc'
   ·rw[hρ]at h2;cases h2
   ·rw[hρ]at h2;obtain rfl:q=r:=by simpa using h2
    left
    rcases h3 with⟨ro,ro',t,xs,h4,rfl,h5⟩|⟨ro,ro',v',t,xs,h4,rfl,h5,_,h6⟩|⟨k,cs,cs',h4,rfl,_⟩
    ·rw[B9 h4]at hroh;obtain rfl:ro'=true:=hroh
     rw[hc',<-h1,h4];cases ro
     ·cases h5
     ·rfl
    ·rw[B9 h4]at hroh;obtain rfl:ro'=true:=hroh
     have hv':v'=0:=FO.ver q _ v' t xs none (by rw[<-h1];exact h4)
     subst hv'
     have hv0:ver q=0:=sQ h6 hqn rfl
     rw[hc',<-h1,h4,hv0];cases ro
     ·cases h5
     ·rfl
    ·rw[B9 h4]at hroh;cases hroh
  ·
   right
   have hqn:q<n:=by
    unfold DV at hq
    split at hq
    ·rename_i c hc;exact FO.lt q c hc
    ·cases hq
   have hρ:=hid q hqn
   obtain⟨c',hc',h2⟩:=H q (Nat.lt_of_lt_of_le hqn hnm)
   rcases h2 with rfl|⟨h2,_⟩|⟨r,h2,h3⟩
   ·exact hc'
   ·rw[hρ]at h2;cases h2
   ·rw[hρ]at h2;obtain rfl:q=r:=by simpa using h2
    rcases h3 with⟨ro,ro',t,xs,h4,_⟩|⟨ro,ro',v',t,xs,h4,_⟩|⟨k,cs,cs',h4,_⟩<;>rw[h1]at h4<;>cases h4
end
end Go.Ab
end
section
namespace Go.Ab
theorem Gd {ρ ν:Nat->Nat}:(l:TmH)->(q:Nat)->(x:den l.ty)->(l.write ρ ν q x).length=l.len
 | .nil,_,_=>rfl
 | .gone l,q,x=>congrArg (·+1) (Gd l (q+1) x)
 | .kept l,q,x=>congrArg (·+1) (Gd l (q+1) x)
 | .lst ro t l,q,x=>congrArg (·+1) (Gd l (q+1) x.2)
 | .tree ro v t l,q,x=>congrArg (·+1) (Gd l (q+1) x.2)
 | .one t l,q,x=>congrArg (·+1) (Gd l (q+1) x.2)
 | .cells k ms l,q,x=>congrArg (·+1) (Gd l (q+1) _)
theorem JV {ρ ν:Nat->Nat}:(l:TmH)->l.noKept=true->(q:Nat)->(x:den l.ty)->∀k,k<l.len->(l.write ρ ν q x).getD k none≠none
 | .nil,_,_,_,k,hk=>absurd hk (Nat.not_lt_zero _)
 | .kept l,h,_,_,_,_=>by cases h
 | .gone l,h,q,x,k,hk=>by
   cases k with
   |zero=>simp[TmH.write]
   |succ k=>simpa[TmH.write]using JV l h (q+1) x k (zKx hk)
 | .lst ro t l,h,q,x,k,hk=>by
   cases k with
   |zero=>simp[TmH.write]
   |succ k=>simpa[TmH.write]using JV l h (q+1) x.2 k (zKx hk)
 | .tree ro v t l,h,q,x,k,hk=>by
   cases k with
   |zero=>simp[TmH.write]
   |succ k=>simpa[TmH.write]using JV l h (q+1) x.2 k (zKx hk)
 | .one t l,h,q,x,k,hk=>by
   cases k with
   |zero=>simp[TmH.write]
   |succ k=>simpa[TmH.write]using JV l h (q+1) x.2 k (zKx hk)
 | .cells n ms l,h,q,x,k,hk=>by
   cases k with
   |zero=>simp[TmH.write]
   |succ k=>simpa[TmH.write]using JV l h (q+1) _ k (zKx hk)
theorem rz {E:Env}{h:Am}{w:World}{t:List AV}{a:Array Value}(ht:KZ E h w t a):Ak E h w t a.toList:=Ak.of (by simp[ht.1]) fun i h1 h2=>by
 obtain⟨v,k1,k2⟩:=ht.2 i _ (List.getElem?_eq_getElem h1)
 have:a.toList[i]? =some v:=by simpa using k1
 rw[List.getElem?_eq_getElem h2]at this
 obtain rfl:a.toList[i]=v:=by simpa using this
 exact k2
theorem rA {E:Env}{h:Am}{w:World}{t:List AV}{a:Array Value}(ht:Ak E h w t a.toList):KZ E h w t a:=
 ⟨by simpa using ht.length,fun i c hi=>let⟨v,k1,k2⟩:=ht.get i hi;⟨v,by simpa using k1,k2⟩⟩
theorem PN {ρ:Ren}{n:Nat}(h:Tv ρ n=true):(JM ρ).Nodup/\∀q,q<n->ρ.getD q none=some q:=by
 unfold Tv at h
 rw[zJq]at h
 exact⟨Rj h.1,U2 h.2⟩
theorem PP {R:Type}{T:Tmpl}{br:Bool}{n:Nat}{h hp:Am}{ρ:Ren}{vs:List AV}{K:den T.ty->Option R}{z:R}(e:T.readK br n h hp ρ vs K=some z):
 ∃y,K y=some z/\(∀q,q<T.hs.len->Mk br n T.hs.len h hp ρ T.hs.ver q ((T.objs0 y).getD q none))/\∀E h0 w E' h',RefMap T.hs.len h hp ρ T.hs.ver E h0 w E' h'->∀us,Ak E h0 w vs us->Ak E' h' w (T.vals0 y) us:=by
 unfold Tmpl.readK at e
 obtain⟨x,h1,h2,h3⟩:=ba (ver:=T.hs.ver) T.hs 0 (fun k=>by rw[zJj]) _ z e
 obtain⟨y,h4,h5,h6⟩:=TB (ver:=T.hs.ver) T.ts vs T.hs.ty x K z h1
 refine⟨y,h4,fun q hq=>?_,h6⟩
 have:=h3 q hq
 rw[zJj]at this
 show Mk br n T.hs.len h hp ρ T.hs.ver q ((T.hs.write id T.hs.ver 0 (T.ts.write id T.hs.ver T.hs.ty y).2).getD q none)
 rw[h5];exact this
theorem Kh {α:Type}{l:List (Option α)}{q:Nat}(h:l.length<=q):l.getD q none=none:=by
 rw[zKz,List.getElem?_eq_none h];rfl
theorem TA {R:Type}{T:Tmpl}{n:Nat}{s:St}{K:den T.ty->Option R}{z:R}(e:T.readS n s K=some z):
 ∃y,K y=some z/\∀F E w a,FrOK n F->Inv F E s.h w->KZ E s.h w s.t a->∃E',Inv F E' (T.write y).h w/\KZ E' (T.write y).h w (T.write y).t a:=by
 unfold Tmpl.readS Tmpl.readS1 at e
 split at e
 ·rename_i hc
  rw[zJq,zJq]at hc
  obtain⟨⟨h1,h2⟩,h3⟩:=hc
  have h2:=Nat.le_of_ble_eq_true h2
  obtain⟨hnd,hid⟩:=PN h1
  obtain⟨δ,h4,h5⟩:=JX _ e
  obtain⟨y,h6,h7,h8⟩:=PP h4
  refine⟨y,h6,fun F E w a FO HI ht=>?_⟩
  obtain⟨E1,k1,k2⟩:=(h5 s.h (BM.refl _)).2 F E w HI
  have hsome:=JV (ρ:=id) (ν:=T.hs.ver) T.hs h3 0 (T.ts.write id T.hs.ver T.hs.ty y).2
  obtain⟨g1,g2⟩:=Xa (h':=T.objs0 y) FO k1 h2 hid hnd h7 (fun q hq=>by
   cases ho:(T.objs0 y).getD q none with
   |none=>exact absurd ho (hsome q hq)
   |some c=>rfl) (fun q hq=>Kh (by show(T.hs.write id T.hs.ver 0 _).length<=q;rw[Gd];exact hq)) (fun q hq ho=>absurd ho (hsome q (Nat.lt_of_lt_of_le hq h2)))
  exact⟨_,g1,rA (h8 _ _ _ _ _ g2 _ (rz (ht.keep k2)))⟩
 ·cases e
theorem MJ:(h:Am)->(os:List (Option Cont))->(q:Nat)->(mrg h os).getD q none=match os.getD q none with|some c=>some c|none=>h.getD q none
 |h,[],q=>by cases h<;>simp[mrg]
 |[],o::os,q=>by
  simp only[mrg]
  cases ho:List.getD (o::os) q none<;>simp
 |o::h,none::os,0=>by simp[mrg]
 |o::h,some c::os,0=>by simp[mrg]
 |o::h,none::os,q+1=>by simpa[mrg]using MJ h os q
 |o::h,some c::os,q+1=>by simpa[mrg]using MJ h os q
theorem ZO (a b:TmH):Gy a b=true->a.len<=b.len:=by
 fun_induction Gy a b<;>intro h<;>simp_all [TmH.len]
theorem Qq (a b:TmH):Gy a b=true->∀(q0:Nat) (ρ ν:Nat->Nat) (x:den a.ty) (y:den b.ty) (ρ' ν':Nat->Nat) (q0':Nat),(∀k,ν (q0+k)=a.ver k)->∀q,q<a.len->(b.write ρ' ν' q0' y).getD q none=none->
 b.ver q=0/\((∃t xs,(a.write ρ ν q0 x).getD q none=some (.lst true t xs))\/∃t xs,(a.write ρ ν q0 x).getD q none=some (.tree true 0 t xs none)):=by
 have sh:∀{a:TmH} {f:TmH->TmH} {q0:Nat} {ν:Nat->Nat},(∀k,ν (q0+k)=(f a).ver k)->(∀k,(f a).ver (k+1)=a.ver k)->∀k,ν (q0+1+k)=a.ver k:=by
  intro a f q0 ν h1 h2 k
  rw[<-h2,<-h1];congr 1;omega
 fun_induction Gy a b
 case case7 t a b ih=>
  intro h q0 ρ ν x y ρ' ν' q0' hν q hq hy
  cases q with
  |zero=>exact⟨rfl,.inl ⟨t,x.1,rfl⟩⟩
  |succ q=>exact ih h (q0+1) ρ ν x.2 y ρ' ν' (q0'+1) (sh (f:=.lst true t) hν (fun k=>rfl)) q (zKx hq) hy
 case case8 t a b ih=>
  intro h q0 ρ ν x y ρ' ν' q0' hν q hq hy
  cases q with
  |zero=>have hν0:ν q0=0:=hν 0;exact⟨rfl,.inr ⟨t,x.1,by show some (Cont.tree true (ν q0) t x.1 none)=_;rw[hν0]⟩⟩
  |succ q=>exact ih h (q0+1) ρ ν x.2 y ρ' ν' (q0'+1) (sh (f:=.tree true 0 t) hν (fun k=>rfl)) q (zKx hq) hy
 case case9 t a t' b ih=>
  intro h q0 ρ ν x y ρ' ν' q0' hν q hq hy
  cases q with
  |zero=>simp[TmH.write]at hy
  |succ q=>exact ih h (q0+1) ρ ν x.2 y.2 ρ' ν' (q0'+1) (sh (f:=.lst false t) hν (fun k=>rfl)) q (zKx hq) hy
 case case10 t a v t' b ih=>
  intro h q0 ρ ν x y ρ' ν' q0' hν q hq hy
  cases q with
  |zero=>simp[TmH.write]at hy
  |succ q=>exact ih h (q0+1) ρ ν x.2 y.2 ρ' ν' (q0'+1) (sh (f:=.tree false 0 t) hν (fun k=>rfl)) q (zKx hq) hy
 case case11 t a t' b ih=>
  intro h q0 ρ ν x y ρ' ν' q0' hν q hq hy
  cases q with
  |zero=>simp[TmH.write]at hy
  |succ q=>exact ih h (q0+1) ρ ν x.2 y.2 ρ' ν' (q0'+1) (sh (f:=.tree false 0 t) hν (fun k=>rfl)) q (zKx hq) hy
 case case12 t a t' b ih=>
  intro h q0 ρ ν x y ρ' ν' q0' hν q hq hy
  cases q with
  |zero=>simp[TmH.write]at hy
  |succ q=>exact ih h (q0+1) ρ ν x.2 y.2 ρ' ν' (q0'+1) (sh (f:=.one t) hν (fun k=>rfl)) q (zKx hq) hy
 case case13 t a n cs' b ih=>
  intro h q0 ρ ν x y ρ' ν' q0' hν q hq hy
  cases q with
  |zero=>simp[TmH.write]at hy
  |succ q=>exact ih h (q0+1) ρ ν x.2 (cs'.write ρ' ν' b.ty y).2 ρ' ν' (q0'+1) (sh (f:=.one t) hν (fun k=>rfl)) q (zKx hq) hy
 case case14 n cs a n' cs' b ih=>
  intro h q0 ρ ν x y ρ' ν' q0' hν q hq hy
  cases q with
  |zero=>simp[TmH.write]at hy
  |succ q=>exact ih h (q0+1) ρ ν (cs.write ρ ν a.ty x).2 (cs'.write ρ' ν' b.ty y).2 ρ' ν' (q0'+1) (sh (f:=.cells n cs) hν (fun k=>rfl)) q (zKx hq) hy
 case case15 n cs a t' b ih=>
  intro h q0 ρ ν x y ρ' ν' q0' hν q hq hy
  cases q with
  |zero=>simp[TmH.write]at hy
  |succ q=>exact ih h (q0+1) ρ ν (cs.write ρ ν a.ty x).2 y.2 ρ' ν' (q0'+1) (sh (f:=.cells n cs) hν (fun k=>rfl)) q (zKx hq) hy
 case case16 t a b ih=>
  intro h q0 ρ ν x y ρ' ν' q0' hν q hq hy
  cases q with
  |zero=>simp[TmH.write]at hy
  |succ q=>exact ih h (q0+1) ρ ν x.2 y ρ' ν' (q0'+1) (sh (f:=.lst false t) hν (fun k=>rfl)) q (zKx hq) hy
 case case17 t a b ih=>
  intro h q0 ρ ν x y ρ' ν' q0' hν q hq hy
  cases q with
  |zero=>simp[TmH.write]at hy
  |succ q=>exact ih h (q0+1) ρ ν x.2 y ρ' ν' (q0'+1) (sh (f:=.tree false 0 t) hν (fun k=>rfl)) q (zKx hq) hy
 case case18 t a b ih=>
  intro h q0 ρ ν x y ρ' ν' q0' hν q hq hy
  cases q with
  |zero=>simp[TmH.write]at hy
  |succ q=>exact ih h (q0+1) ρ ν x.2 y ρ' ν' (q0'+1) (sh (f:=.one t) hν (fun k=>rfl)) q (zKx hq) hy
 case case19 n cs a b ih=>
  intro h q0 ρ ν x y ρ' ν' q0' hν q hq hy
  cases q with
  |zero=>simp[TmH.write]at hy
  |succ q=>exact ih h (q0+1) ρ ν (cs.write ρ ν a.ty x).2 y ρ' ν' (q0'+1) (sh (f:=.cells n cs) hν (fun k=>rfl)) q (zKx hq) hy
 case case20=>intro h;cases h
 all_goals intro h q0 ρ ν x y ρ' ν' q0' hν q hq;exact absurd hq (Nat.not_lt_zero _)
theorem th {R:Type}{ti to:Tmpl}{s:St}{vs:List AV}{K:den to.ty->Option R}{z:R}(e:A9c ti to s vs K=some z):
 ∃y,K y=some z/\∀F E w x,F.h0=ti.objs0 x->FrOK ti.hs.len F->Inv F E s.h w->∀us,Ak E s.h w vs us->∃E',Inv F E' (mrg F.h0 (to.objs0 y)) w/\Ak E' (mrg F.h0 (to.objs0 y)) w (to.vals0 y) us:=by
 unfold A9c Agr at e
 split at e
 ·rename_i hc
  rw[zJq,zJq]at hc
  obtain⟨⟨h1,h2⟩,h3⟩:=hc
  have h2:=Nat.le_of_ble_eq_true h2
  obtain⟨hnd,hid⟩:=PN h1
  obtain⟨δ,h4,h5⟩:=JX _ e
  obtain⟨y,h6,h7,h8⟩:=PP h4
  refine⟨y,h6,fun F E w x hF FO HI us hu=>?_⟩
  obtain⟨E1,k1,k2⟩:=(h5 s.h (BM.refl _)).2 F E w HI
  have hlen:(to.objs0 y).length=to.hs.len:=Gd to.hs 0 _
  have hlen0:F.h0.length=ti.hs.len:=by rw[hF];exact Gd ti.hs 0 _
  have hkept:∀q,q<ti.hs.len->(to.objs0 y).getD q none=none->to.hs.ver q=0/\((∃t xs,F.h0.getD q none=some (.lst true t xs))\/∃t xs,F.h0.getD q none=some (.tree true 0 t xs none)):=by
   intro q hq ho
   rw[hF]
   exact Qq ti.hs to.hs h3 0 id ti.hs.ver _ _ id to.hs.ver 0 (fun k=>by rw[zJj]) q hq ho
  have hfix:∀q,q<ti.hs.len->(to.objs0 y).getD q none=none->(apD s.h δ).getD q none=F.h0.getD q none\/(apD s.h δ).getD q none=some .dead:=by
   intro q hq ho
   obtain⟨_,h9⟩:=hkept q hq ho
   refine k1.fixed q ?_
   rcases h9 with⟨t,xs,h9⟩|⟨t,xs,h9⟩<;>rw[B9 h9]<;>rfl
  have halive:∀q,q<to.hs.len->(to.objs0 y).getD q none=none->q<ti.hs.len/\(apD s.h δ).getD q none=F.h0.getD q none:=by
   intro q hq ho
   have h9:=h7 q hq
   rw[ho]at h9
   rcases h9 with h9|⟨_,hqn,c,hc,hd⟩|⟨_,h9⟩|⟨r,_,h9⟩
   ·cases h9
   ·refine⟨hqn,?_⟩
    rcases hfix q hqn ho with h10|h10
    ·exact h10
    ·rw[hc]at h10;exact absurd (by simpa using h10) hd
   ·rcases h9 with⟨_,_,h9⟩|⟨_,_,h9⟩<;>cases h9
   ·rcases h9 with⟨_,_,_,_,_,h9,_⟩|⟨_,_,_,_,_,_,h9,_⟩|⟨_,_,_,_,h9,_⟩<;>cases h9
  obtain⟨g1,g2⟩:=Xa (h':=mrg F.h0 (to.objs0 y)) FO k1 h2 hid hnd h7 (fun q hq=>by
   rw[MJ]
   cases ho:(to.objs0 y).getD q none with
   |some c=>rfl
   |none=>exact(halive q hq ho).2.symm) (fun q hq=>by
   rw[MJ,Kh (by rw[hlen];exact hq)]
   exact Kh (by rw[hlen0];omega)) (fun q hq ho c hc hd=>by
   obtain⟨h9,h10⟩:=hkept q hq ho
   rw[(halive q (Nat.lt_of_lt_of_le hq h2) ho).2]at hc
   refine⟨h9,h10.imp (fun⟨t,xs,e⟩=>⟨t,xs,?_⟩) (fun⟨t,xs,e⟩=>⟨t,xs,?_⟩)⟩<;>rw[hc]at e<;>simpa using e)
  exact⟨_,g1,h8 _ _ _ _ _ g2 _ (C4 k2 vs hu)⟩
 ·cases e
end Go.Ab
end
section
namespace Go.Ab
structure RefUp (br:Bool)(nm nu ver:Nat->Nat)(E:Env)(h:Am)(w:World)(E':Env)(h':Am):Prop where
 own:∀q rg v,Cz E h w q none rg v->Cz E' h' w (nm q) none rg v
 ptr:∀q i off v,CY E h q none i off v->CY E' h' (nm q) none i off v
 nest:∀q i k j off v,CY E h q (some (i,k,ver q)) j off v->CY E' h' (nm q) (some (i,k,nu q)) j off v
 nestO:∀q i k rg v,Cz E h w q (some (i,k,ver q)) rg v->Cz E' h' w (nm q) (some (i,k,nu q)) rg v
 pure:∀(t:Ty) (x:den t) vs,(br=true->t.flat=true)->B5 E.I w t x vs->B5 E'.I w t x vs
section
variable {br:Bool}{nm nu ver:Nat->Nat}
theorem Amn {t:Ty}{x:den t}(hf:br=true->t.flat=true){E E':Env}{h h':Am}{w:World}(U:RefUp br nm nu ver E h w E' h'){u:Value}(hu:Ag E h w (up t x) u):Ag E' h' w (up t x) u:=by
 refine Oe ?_
 unfold up at hu
 unfold R9 LN
 split at hu
 ·rename_i ha
  rw[if_pos ha]
  simp only[Ag]at hu
  obtain⟨vs,rfl,h1⟩:=hu
  exact⟨vs,rfl,U.pure t x _ hf (JC t h1)⟩
 ·rename_i ha
  rw[if_neg ha]
  rw[Ro x (by simpa using ha)]at hu
  simp only[List.headD_cons,Ag]at hu
  exact U.pure t x _ hf hu
theorem Mh {a b:Bool}(h:(a&&b)=true):a=true/\b=true:=by rwa [zJq]at h
theorem qU {a:Bool}(h:(!br||a)=true):br=true->a=true:=fun hb=>by subst hb;simpa using h
theorem RV (l:TmL):l.fl br=true->∀(r:Ty) (x:den (l.ty r)),(l.write nm nu r x).2=(l.write id ver r x).2/\
 ∀E h w E' h',RefUp br nm nu ver E h w E' h'->∀us,Ak E h w (l.write id ver r x).1 us->Ak E' h' w (l.write nm nu r x).1 us:=by
 induction l with
 |nil=>intro hf r x;exact⟨rfl,fun E h w E' h' U us hu=>by simpa only[TmL.write,Ak]using hu⟩
 |junk l ih=>
  intro hf r x
  obtain⟨h1,h2⟩:=ih hf r x
  refine⟨h1,fun E h w E' h' U us hu=>?_⟩
  simp only[TmL.write,Ak]at hu
  obtain⟨u,us,rfl,k1,k2⟩:=hu
  exact Ak.cons (by simp only[Ag]) (h2 E h w E' h' U us k2)
 |slot t l ih=>
  intro hf r x
  obtain⟨hf1,hf2⟩:=Mh hf
  obtain⟨h1,h2⟩:=ih hf2 r x.2
  refine⟨h1,fun E h w E' h' U us hu=>?_⟩
  simp only[TmL.write,Ak]at hu
  obtain⟨u,us,rfl,k1,k2⟩:=hu
  exact Ak.cons (Amn (qU hf1) U k1) (h2 E h w E' h' U us k2)
 |agg cs l ih1 ih2=>
  intro hf r x
  obtain⟨hf1,hf2⟩:=Mh hf
  obtain⟨g1,g2⟩:=ih1 hf1 (l.ty r) x
  obtain⟨h1,h2⟩:=ih2 hf2 r (cs.write id ver (l.ty r) x).2
  refine⟨?_,fun E h w E' h' U us hu=>?_⟩
  ·show(l.write nm nu r (cs.write nm nu (l.ty r) x).2).2=_
   rw[g1];exact h1
  ·simp only[TmL.write,Ak,Ag]at hu
   obtain⟨u,us,rfl,⟨vs,rfl,k1⟩,k2⟩:=hu
   show Ak E' h' w (.agg (cs.write nm nu (l.ty r) x).1::(l.write nm nu r (cs.write nm nu (l.ty r) x).2).1) _
   refine Ak.cons (by simp only[Ag];exact⟨vs,rfl,g2 E h w E' h' U vs k1⟩) ?_
   rw[g1];exact h2 E h w E' h' U us k2
 |fn f cs l ih1 ih2=>
  intro hf r x
  obtain⟨hf1,hf2⟩:=Mh hf
  obtain⟨g1,g2⟩:=ih1 hf1 (l.ty r) x
  obtain⟨h1,h2⟩:=ih2 hf2 r (cs.write id ver (l.ty r) x).2
  refine⟨?_,fun E h w E' h' U us hu=>?_⟩
  ·show(l.write nm nu r (cs.write nm nu (l.ty r) x).2).2=_
   rw[g1];exact h1
  ·simp only[TmL.write,Ak,Ag]at hu
   obtain⟨u,us,rfl,⟨vs,rfl,k1⟩,k2⟩:=hu
   show Ak E' h' w (.fn f (cs.write nm nu (l.ty r) x).1::(l.write nm nu r (cs.write nm nu (l.ty r) x).2).1) _
   refine Ak.cons (by simp only[Ag];exact⟨vs,rfl,g2 E h w E' h' U vs k1⟩) ?_
   rw[g1];exact h2 E h w E' h' U us k2
 |own q l ih=>
  intro hf r x
  obtain⟨h1,h2⟩:=ih hf r x
  refine⟨h1,fun E h w E' h' U us hu=>?_⟩
  simp only[TmL.write,Ak,Ag]at hu
  obtain⟨u,us,rfl,k1,k2⟩:=hu
  exact Ak.cons (by simp only[Ag];exact U.own q _ u k1) (h2 E h w E' h' U us k2)
 |ptr q i off l ih=>
  intro hf r x
  obtain⟨h1,h2⟩:=ih hf r x
  refine⟨h1,fun E h w E' h' U us hu=>?_⟩
  simp only[TmL.write,Ak,Ag]at hu
  obtain⟨u,us,rfl,k1,k2⟩:=hu
  exact Ak.cons (by simp only[Ag];exact U.ptr q i off u k1) (h2 E h w E' h' U us k2)
 |ptrI q off l ih=>
  intro hf r x
  obtain⟨h1,h2⟩:=ih hf r x.2
  refine⟨h1,fun E h w E' h' U us hu=>?_⟩
  simp only[TmL.write,Ak,Ag]at hu
  obtain⟨u,us,rfl,k1,k2⟩:=hu
  exact Ak.cons (by simp only[Ag];exact U.ptr q _ off u k1) (h2 E h w E' h' U us k2)
 |mptr q k off l ih=>
  intro hf r x
  obtain⟨o,x⟩:=x
  obtain⟨h1,h2⟩:=ih hf r x
  refine⟨h1,fun E h w E' h' U us hu=>?_⟩
  simp only[TmL.write,Ak]at hu
  obtain⟨u,us,rfl,k1,k2⟩:=hu
  refine Ak.cons (c:=.mptr (nm q) k (nu q) off o) ?_ (h2 E h w E' h' U us k2)
  cases o with
  |none=>simpa only[Ag]using k1
  |some p=>simp only[Ag,id]at k1 ⊢;exact U.nest q _ _ _ _ u k1
 |nown q k l ih=>
  intro hf r x
  obtain⟨h1,h2⟩:=ih hf r x.2
  refine⟨h1,fun E h w E' h' U us hu=>?_⟩
  simp only[TmL.write,Ak,Ag]at hu
  obtain⟨u,us,rfl,k1,k2⟩:=hu
  exact Ak.cons (by simp only[Ag];exact U.nestO q _ k _ u k1) (h2 E h w E' h' U us k2)
 |ownR q l ih=>
  intro hf r x
  obtain⟨h1,h2⟩:=ih hf r x.2
  refine⟨h1,fun E h w E' h' U us hu=>?_⟩
  simp only[TmL.write,Ak,Ag]at hu
  obtain⟨u,us,rfl,k1,k2⟩:=hu
  exact Ak.cons (by simp only[Ag];exact U.own q _ u k1) (h2 E h w E' h' U us k2)
 |const c l ih=>
  intro hf r x
  obtain⟨hf1,hf2⟩:=Mh hf
  obtain⟨h1,h2⟩:=ih hf2 r x
  refine⟨h1,fun E h w E' h' U us hu=>?_⟩
  simp only[TmL.write,Ak]at hu
  obtain⟨u,us,rfl,k1,k2⟩:=hu
  refine Ak.cons ?_ (h2 E h w E' h' U us k2)
  split at hf1
  ·simpa only[Ag]using k1
  ·simpa only[Ag]using k1
  ·simpa only[Ag]using k1
  ·simpa only[Ag]using k1
  ·simpa only[Ag,Ak]using k1
  ·cases hf1
def Two (br:Bool)(nm nu ver:Nat->Nat)(q:Nat)(o o':Option Cont):Prop:=
 (o=none/\o'=none)\/(o=some .dead/\o'=some .dead)\/(∃ro t xs,o=some (.lst ro t xs)/\o'=some (.lst ro t xs)/\(br=true->t.flat=true))\/
 (∃ro t xs,o=some (.tree ro (ver q) t xs none)/\o'=some (.tree ro (nu q) t xs none)/\(br=true->t.tflat=true))\/
 (∃n cs cs',o=some (.cells n [cs])/\o'=some (.cells n [cs'])/\∀E h w E' h',RefUp br nm nu ver E h w E' h'->∀us,Ak E h w cs us->Ak E' h' w cs' us)
theorem rm (l:TmH):l.fl br=true->∀(q0:Nat) (x:den l.ty) (k:Nat),Two br nm nu ver (q0+k) ((l.write id ver q0 x).getD k none) ((l.write nm nu q0 x).getD k none):=by
 have ext:∀{q0:Nat} {os os':List (Option Cont)} {o o':Option Cont},Two br nm nu ver q0 o o'->(∀k,Two br nm nu ver (q0+1+k) (os.getD k none) (os'.getD k none))->∀k,Two br nm nu ver (q0+k) ((o::os).getD k none) ((o'::os').getD k none):=by
  intro q0 os os' o o' h1 h2 k
  cases k with
  |zero=>exact h1
  |succ k=>
   have:=h2 k
   rw[show q0+1+k=q0+(k+1) by omega]at this
   exact this
 induction l with
 |nil=>intro hf q0 x k;exact .inl ⟨by simp[TmH.write],by simp[TmH.write]⟩
 |gone l ih=>intro hf q0 x;exact ext (.inr (.inl ⟨rfl,rfl⟩)) (ih hf (q0+1) x)
 |kept l ih=>intro hf q0 x;exact ext (.inl ⟨rfl,rfl⟩) (ih hf (q0+1) x)
 |lst ro t l ih=>
  intro hf q0 x
  obtain⟨hf1,hf2⟩:=Mh hf
  exact ext (.inr (.inr (.inl ⟨ro,t,x.1,rfl,rfl,qU hf1⟩))) (ih hf2 (q0+1) x.2)
 |tree ro v t l ih=>
  intro hf q0 x
  obtain⟨hf1,hf2⟩:=Mh hf
  exact ext (.inr (.inr (.inr (.inl ⟨ro,t,x.1,rfl,rfl,qU hf1⟩)))) (ih hf2 (q0+1) x.2)
 |one t l ih=>
  intro hf q0 x
  obtain⟨hf1,hf2⟩:=Mh hf
  refine ext (.inr (.inr (.inr (.inr ⟨t.size,flat t x.1,flat t x.1,rfl,rfl,fun E h w E' h' U us hu=>?_⟩)))) (ih hf2 (q0+1) x.2)
  exact Dn t (U.pure t x.1 us (qU hf1) (JC t hu))
 |cells n ms l ih=>
  intro hf q0 x
  obtain⟨hf1,hf2⟩:=Mh hf
  obtain⟨g1,g2⟩:=RV (ver:=ver) (nm:=nm) (nu:=nu) ms hf1 l.ty x
  have:=ext (.inr (.inr (.inr (.inr ⟨n,(ms.write id ver l.ty x).1,(ms.write nm nu l.ty x).1,rfl,rfl,fun E h w E' h' U us hu=>g2 E h w E' h' U us hu⟩)))) (ih hf2 (q0+1) (ms.write id ver l.ty x).2)
  rw[<-g1]at this
  intro k
  have:=this k
  rw[g1]at this
  show Two br nm nu ver (q0+k) ((some (Cont.cells n [(ms.write id ver l.ty x).1])::l.write id ver (q0+1) (ms.write id ver l.ty x).2).getD k none) ((some (Cont.cells n [(ms.write nm nu l.ty x).1])::l.write nm nu (q0+1) (ms.write nm nu l.ty x).2).getD k none)
  rw[g1];exact this
end
theorem KR {ρ:Ren}{base:Nat}:(os:List (Option Cont))->(q0 r:Nat)->(c:Cont)->((r,c)∈D6 ρ base q0 os↔∃k,os.getD k none=some c/\rho ρ base (q0+k)=r)
 |[],q0,r,c=>by simp[D6]
 |none::os,q0,r,c=>by
  rw[D6,KR os (q0+1) r c]
  constructor
  ·rintro⟨k,h1,h2⟩;exact⟨k+1,by simpa using h1,by rw[show q0+(k+1)=q0+1+k by omega];exact h2⟩
  ·rintro⟨k,h1,h2⟩
   cases k with
   |zero=>simp at h1
   |succ k=>exact⟨k,by simpa using h1,by rw[show q0+1+k=q0+(k+1) by omega];exact h2⟩
 |some d::os,q0,r,c=>by
  rw[D6,List.mem_cons,KR os (q0+1) r c]
  constructor
  ·rintro(h1|⟨k,h1,h2⟩)
   ·obtain⟨rfl,rfl⟩:=Prod.mk.inj h1;exact⟨0,by simp,rfl⟩
   ·exact⟨k+1,by simpa using h1,by rw[show q0+(k+1)=q0+1+k by omega];exact h2⟩
  ·rintro⟨k,h1,h2⟩
   cases k with
   |zero=>left;simp at h1;subst h1;rw[<-h2];rfl
   |succ k=>exact .inr ⟨k,by simpa using h1,by rw[show q0+1+k=q0+(k+1) by omega];exact h2⟩
theorem Pg:(δ:Bx)->{h:Am}->{r:Nat}->(∀c,(r,c)∉δ)->(apD h δ).getD r none=h.getD r none
 |[],h,r,_=>rfl
 |p::δ,h,r,hn=>by
  rw[apD,Pg δ (fun c hc=>hn c (zKk _ hc)),An,if_neg]
  rintro rfl;exact hn p.2 (List.mem_cons_self ..)
theorem ri:(δ:Bx)->{h:Am}->{r:Nat}->{c:Cont}->(∀c',(r,c')∈δ->c'=c)->(r,c)∈δ->(apD h δ).getD r none=some c
 |[],h,r,c,_,hm=>by cases hm
 |p::δ,h,r,c,hu,hm=>by
  rw[apD]
  by_cases h1:∃c',(r,c')∈δ
  ·obtain⟨c',h2⟩:=h1
   obtain rfl:=hu c' (zKk _ h2)
   exact ri δ (fun c'' h3=>hu c'' (zKk _ h3)) h2
  ·rw[Pg δ (fun c' hc=>h1 ⟨c',hc⟩)]
   rcases List.mem_cons.1 hm with rfl|h2
   ·rw[An,if_pos rfl]
   ·exact absurd ⟨c,h2⟩ h1
end Go.Ab
end
section
namespace Go.Ab
def QK (o o2:Option Cont):Prop:=
 (∃t xs,o=some (.lst true t xs)/\o2=none)\/(∃t xs,o=some (.tree true 0 t xs none)/\o2=none)\/
 (∃t xs,o=some (.lst false t xs)/\(o2=some .dead\/∃t' ys,o2=some (.lst false t' ys)))\/
 (∃t xs,o=some (.tree false 0 t xs none)/\(o2=some .dead\/(∃v t' ys,o2=some (.tree false v t' ys none))\/∃t' ys,o2=some (.lst false t' ys)))\/
 (∃k cs,o=some (.cells k [cs])/\(o2=some .dead\/∃k' cs',o2=some (.cells k' [cs'])))
theorem Wg (a b:TmH):Gy a b=true->∀(q0:Nat) (ρ ν:Nat->Nat) (x:den a.ty) (y:den b.ty) (ρ' ν':Nat->Nat) (q0':Nat),(∀k,ν (q0+k)=a.ver k)->∀q,
 (q<a.len->QK ((a.write ρ ν q0 x).getD q none) ((b.write ρ' ν' q0' y).getD q none))/\(a.len<=q->q<b.len->∃c,(b.write ρ' ν' q0' y).getD q none=some c/\c.ro=false):=by
 have sh:∀{a:TmH} {f:TmH->TmH} {q0:Nat} {ν:Nat->Nat},(∀k,ν (q0+k)=(f a).ver k)->(∀k,(f a).ver (k+1)=a.ver k)->∀k,ν (q0+1+k)=a.ver k:=by
  intro a f q0 ν h1 h2 k
  rw[<-h2,<-h1];congr 1;omega
 have nilc:∀{b:TmH} {yy:Option Cont} {l:List (Option Cont)},(∃c,yy=some c/\c.ro=false)->(∀q,q<TmH.nil.len->QK none none)->∀q,(q<TmH.nil.len->QK ((TmH.nil.write id id 0 ()).getD q none) ((yy::l).getD q none)):=fun _ _ q hq=>absurd hq (Nat.not_lt_zero _)
 have ext:∀{o o2:Option Cont} {l l2:List (Option Cont)} {n m:Nat},QK o o2->(∀q,(q<n->QK (l.getD q none) (l2.getD q none))/\(n<=q->q<m->∃c,l2.getD q none=some c/\c.ro=false))->
  ∀q,(q<n+1->QK ((o::l).getD q none) ((o2::l2).getD q none))/\(n+1<=q->q<m+1->∃c,(o2::l2).getD q none=some c/\c.ro=false):=by
  intro o o2 l l2 n m h1 h2 q
  cases q with
  |zero=>exact⟨fun _=>h1,fun h=>absurd h (by omega)⟩
  |succ q=>exact⟨fun h=>(h2 q).1 (by omega),fun h h'=>(h2 q).2 (by omega) (by omega)⟩
 have extn:∀{o2:Option Cont} {l2:List (Option Cont)} {m:Nat} {xs:List (Option Cont)},(∃c,o2=some c/\c.ro=false)->(∀q,(q<0->QK (xs.getD q none) (l2.getD q none))/\(0<=q->q<m->∃c,l2.getD q none=some c/\c.ro=false))->
  ∀q,(q<0->QK (xs.getD q none) ((o2::l2).getD q none))/\(0<=q->q<m+1->∃c,(o2::l2).getD q none=some c/\c.ro=false):=by
  intro o2 l2 m xs h1 h2 q
  cases q with
  |zero=>exact⟨fun h=>absurd h (by omega),fun _ _=>h1⟩
  |succ q=>exact⟨fun h=>absurd h (by omega),fun h h'=>(h2 q).2 (by omega) (by omega)⟩
 fun_induction Gy a b
 case case1=>intro h q0 ρ ν x y ρ' ν' q0' hν q;exact⟨fun hq=>absurd hq (Nat.not_lt_zero _),fun _ hq=>absurd hq (Nat.not_lt_zero _)⟩
 case case2 t b ih=>intro h q0 ρ ν x y ρ' ν' q0' hν;exact extn (xs:=[]) ⟨_,rfl,rfl⟩ (ih h q0 ρ ν x y.2 ρ' ν' (q0'+1) hν)
 case case3 v t b ih=>intro h q0 ρ ν x y ρ' ν' q0' hν;exact extn (xs:=[]) ⟨_,rfl,rfl⟩ (ih h q0 ρ ν x y.2 ρ' ν' (q0'+1) hν)
 case case4 t b ih=>intro h q0 ρ ν x y ρ' ν' q0' hν;exact extn (xs:=[]) ⟨_,rfl,rfl⟩ (ih h q0 ρ ν x y.2 ρ' ν' (q0'+1) hν)
 case case5 n cs b ih=>intro h q0 ρ ν x y ρ' ν' q0' hν;exact extn (xs:=[]) ⟨_,rfl,rfl⟩ (ih h q0 ρ ν x (cs.write ρ' ν' b.ty y).2 ρ' ν' (q0'+1) hν)
 case case6 b ih=>intro h q0 ρ ν x y ρ' ν' q0' hν;exact extn (xs:=[]) ⟨_,rfl,rfl⟩ (ih h q0 ρ ν x y ρ' ν' (q0'+1) hν)
 case case7 t a b ih=>intro h q0 ρ ν x y ρ' ν' q0' hν;exact ext (.inl ⟨t,x.1,rfl,rfl⟩) (ih h (q0+1) ρ ν x.2 y ρ' ν' (q0'+1) (sh (f:=.lst true t) hν (fun k=>rfl)))
 case case8 t a b ih=>
  intro h q0 ρ ν x y ρ' ν' q0' hν
  have hν0:ν q0=0:=hν 0
  exact ext (.inr (.inl ⟨t,x.1,by rw[hν0],rfl⟩)) (ih h (q0+1) ρ ν x.2 y ρ' ν' (q0'+1) (sh (f:=.tree true 0 t) hν (fun k=>rfl)))
 case case9 t a t' b ih=>intro h q0 ρ ν x y ρ' ν' q0' hν;exact ext (.inr (.inr (.inl ⟨t,x.1,rfl,.inr ⟨t',y.1,rfl⟩⟩))) (ih h (q0+1) ρ ν x.2 y.2 ρ' ν' (q0'+1) (sh (f:=.lst false t) hν (fun k=>rfl)))
 case case10 t a v t' b ih=>
  intro h q0 ρ ν x y ρ' ν' q0' hν
  have hν0:ν q0=0:=hν 0
  exact ext (.inr (.inr (.inr (.inl ⟨t,x.1,by rw[hν0],.inr (.inl ⟨_,t',y.1,rfl⟩)⟩)))) (ih h (q0+1) ρ ν x.2 y.2 ρ' ν' (q0'+1) (sh (f:=.tree false 0 t) hν (fun k=>rfl)))
 case case11 t a t' b ih=>
  intro h q0 ρ ν x y ρ' ν' q0' hν
  have hν0:ν q0=0:=hν 0
  exact ext (.inr (.inr (.inr (.inl ⟨t,x.1,by rw[hν0],.inr (.inr ⟨t',y.1,rfl⟩)⟩)))) (ih h (q0+1) ρ ν x.2 y.2 ρ' ν' (q0'+1) (sh (f:=.tree false 0 t) hν (fun k=>rfl)))
 case case12 t a t' b ih=>intro h q0 ρ ν x y ρ' ν' q0' hν;exact ext (.inr (.inr (.inr (.inr ⟨_,_,rfl,.inr ⟨_,_,rfl⟩⟩)))) (ih h (q0+1) ρ ν x.2 y.2 ρ' ν' (q0'+1) (sh (f:=.one t) hν (fun k=>rfl)))
 case case13 t a n cs' b ih=>intro h q0 ρ ν x y ρ' ν' q0' hν;exact ext (.inr (.inr (.inr (.inr ⟨_,_,rfl,.inr ⟨_,_,rfl⟩⟩)))) (ih h (q0+1) ρ ν x.2 (cs'.write ρ' ν' b.ty y).2 ρ' ν' (q0'+1) (sh (f:=.one t) hν (fun k=>rfl)))
 case case14 n cs a n' cs' b ih=>intro h q0 ρ ν x y ρ' ν' q0' hν;exact ext (.inr (.inr (.inr (.inr ⟨_,_,rfl,.inr ⟨_,_,rfl⟩⟩)))) (ih h (q0+1) ρ ν (cs.write ρ ν a.ty x).2 (cs'.write ρ' ν' b.ty y).2 ρ' ν' (q0'+1) (sh (f:=.cells n cs) hν (fun k=>rfl)))
 case case15 n cs a t' b ih=>intro h q0 ρ ν x y ρ' ν' q0' hν;exact ext (.inr (.inr (.inr (.inr ⟨_,_,rfl,.inr ⟨_,_,rfl⟩⟩)))) (ih h (q0+1) ρ ν (cs.write ρ ν a.ty x).2 y.2 ρ' ν' (q0'+1) (sh (f:=.cells n cs) hν (fun k=>rfl)))
 case case16 t a b ih=>intro h q0 ρ ν x y ρ' ν' q0' hν;exact ext (.inr (.inr (.inl ⟨t,x.1,rfl,.inl rfl⟩))) (ih h (q0+1) ρ ν x.2 y ρ' ν' (q0'+1) (sh (f:=.lst false t) hν (fun k=>rfl)))
 case case17 t a b ih=>
  intro h q0 ρ ν x y ρ' ν' q0' hν
  have hν0:ν q0=0:=hν 0
  exact ext (.inr (.inr (.inr (.inl ⟨t,x.1,by rw[hν0],.inl rfl⟩)))) (ih h (q0+1) ρ ν x.2 y ρ' ν' (q0'+1) (sh (f:=.tree false 0 t) hν (fun k=>rfl)))
 case case18 t a b ih=>intro h q0 ρ ν x y ρ' ν' q0' hν;exact ext (.inr (.inr (.inr (.inr ⟨_,_,rfl,.inl rfl⟩)))) (ih h (q0+1) ρ ν x.2 y ρ' ν' (q0'+1) (sh (f:=.one t) hν (fun k=>rfl)))
 case case19 n cs a b ih=>intro h q0 ρ ν x y ρ' ν' q0' hν;exact ext (.inr (.inr (.inr (.inr ⟨_,_,rfl,.inl rfl⟩)))) (ih h (q0+1) ρ ν (cs.write ρ ν a.ty x).2 y ρ' ν' (q0'+1) (sh (f:=.cells n cs) hν (fun k=>rfl)))
 case case20=>intro h;cases h
theorem rX {ρ:Ren}{nm nu:Nat->Nat}(l:TmH):∀(q0:Nat) (x:den l.ty) (k:Nat) (c:Cont),(l.write nm nu q0 x).getD k none=some c->c.ro=false->∀r,ρ.getD (q0+k) none=some r->r∈dB ρ l q0:=by
 have tl:∀{q0 r:Nat} {l:List Nat},r∈l->r∈(match ρ.getD q0 none with|some r=>r::l|none=>l):=by
  intro q0 r l h
  split
  ·exact zKk _ h
  ·exact h
 have hd:∀{q0 r:Nat} {l:List Nat},ρ.getD q0 none=some r->r∈(match ρ.getD q0 none with|some r=>r::l|none=>l):=by
  intro q0 r l h
  rw[h];exact List.mem_cons_self ..
 induction l with
 |nil=>intro q0 x k c h;simp[TmH.write]at h
 |gone l ih=>
  intro q0 x k c h hr r e
  cases k with
  |zero=>exact hd e
  |succ k=>exact tl (ih (q0+1) x k c h hr r (by rw[show q0+1+k=q0+(k+1) by omega];exact e))
 |kept l ih=>
  intro q0 x k c h hr r e
  cases k with
  |zero=>exact hd e
  |succ k=>exact tl (ih (q0+1) x k c h hr r (by rw[show q0+1+k=q0+(k+1) by omega];exact e))
 |lst ro t l ih=>
  intro q0 x k c h hr r e
  cases ro with
  |true=>
   cases k with
   |zero=>simp only[TmH.write,List.getD_cons_zero,Option.some.injEq]at h;subst h;cases hr
   |succ k=>exact ih (q0+1) x.2 k c h hr r (by rw[show q0+1+k=q0+(k+1) by omega];exact e)
  |false=>
   cases k with
   |zero=>exact hd e
   |succ k=>exact tl (ih (q0+1) x.2 k c h hr r (by rw[show q0+1+k=q0+(k+1) by omega];exact e))
 |tree ro v t l ih=>
  intro q0 x k c h hr r e
  cases ro with
  |true=>
   cases k with
   |zero=>simp only[TmH.write,List.getD_cons_zero,Option.some.injEq]at h;subst h;cases hr
   |succ k=>exact ih (q0+1) x.2 k c h hr r (by rw[show q0+1+k=q0+(k+1) by omega];exact e)
  |false=>
   cases k with
   |zero=>exact hd e
   |succ k=>exact tl (ih (q0+1) x.2 k c h hr r (by rw[show q0+1+k=q0+(k+1) by omega];exact e))
 |one t l ih=>
  intro q0 x k c h hr r e
  cases k with
  |zero=>exact hd e
  |succ k=>exact tl (ih (q0+1) x.2 k c h hr r (by rw[show q0+1+k=q0+(k+1) by omega];exact e))
 |cells n ms l ih=>
  intro q0 x k c h hr r e
  cases k with
  |zero=>exact hd e
  |succ k=>exact tl (ih (q0+1) _ k c h hr r (by rw[show q0+1+k=q0+(k+1) by omega];exact e))
theorem dK {ρ:Ren}{nm nu:Nat->Nat}:(l:TmH)->(q0:Nat)->TZ ρ l q0=true->(x:den l.ty)->∀k,k<l.len->(l.write nm nu q0 x).getD k none=none->∃r,ρ.getD (q0+k) none=some r:=by
 intro l
 induction l with
 |nil=>intro q0 _ x k hk;exact absurd hk (Nat.not_lt_zero _)
 |kept l ih=>
  intro q0 hb x k hk h
  unfold TZ at hb
  rw[zJq]at hb
  cases k with
  |zero=>exact Option.isSome_iff_exists.1 hb.1
  |succ k=>
   have:=ih (q0+1) hb.2 x k (zKx hk) h
   rw[show q0+(k+1)=q0+1+k by omega];exact this
 |gone l ih=>
  intro q0 hb x k hk h
  cases k with
  |zero=>simp[TmH.write]at h
  |succ k=>
   have:=ih (q0+1) hb x k (zKx hk) h
   rw[show q0+(k+1)=q0+1+k by omega];exact this
 |lst ro t l ih=>
  intro q0 hb x k hk h
  cases k with
  |zero=>simp[TmH.write]at h
  |succ k=>
   have:=ih (q0+1) hb x.2 k (zKx hk) h
   rw[show q0+(k+1)=q0+1+k by omega];exact this
 |tree ro v t l ih=>
  intro q0 hb x k hk h
  cases k with
  |zero=>simp[TmH.write]at h
  |succ k=>
   have:=ih (q0+1) hb x.2 k (zKx hk) h
   rw[show q0+(k+1)=q0+1+k by omega];exact this
 |one t l ih=>
  intro q0 hb x k hk h
  cases k with
  |zero=>simp[TmH.write]at h
  |succ k=>
   have:=ih (q0+1) hb x.2 k (zKx hk) h
   rw[show q0+(k+1)=q0+1+k by omega];exact this
 |cells n ms l ih=>
  intro q0 hb x k hk h
  cases k with
  |zero=>simp[TmH.write]at h
  |succ k=>
   have:=ih (q0+1) hb _ k (zKx hk) h
   rw[show q0+(k+1)=q0+1+k by omega];exact this
end Go.Ab
end
section
namespace Go.Ab
def O3 (E:Env)(h:Am)(w:World):Fr:=⟨E,h,w,fun b=>∃r κ n,E.ι r κ=some (b,n)/\DV h r=false⟩
structure Cx (br:Bool)(n m base:Nat)(hv hp:Am)(ρ:Ren)(tv ver:Nat->Nat)(h':Am)(os0 os:List (Option Cont))(J:Nat->Prop)(F:Fr)(E1:Env)(h1:Am)(w:World)(Ec:Env)(w':World):Prop where
 sub:BM hv h1
 HI:Inv F E1 h1 w
 nd:(JM ρ).Nodup
 st:∀q,q<n->Mk br 0 n hv hp ρ tv q (h'.getD q none)
 big:∀q,n<=q->h'.getD q none=none
 kd:∀q,q<n->QK (h'.getD q none) (os.getD q none)
 kn:∀q,n<=q->q<m->∃c,os.getD q none=some c/\c.ro=false
 two:∀q,Two br (rho ρ base) (JB hv ρ ver) ver q (os0.getD q none) (os.getD q none)
 len:os.length=m
 nm:n<=m
 short:∀q,n<=q->ρ.getD q none=none
 free:∀j,j<m->h1.getD (base+j) none=none
 kb:∀q,q<m->os.getD q none=none->∃r,ρ.getD q none=some r
 kv:∀q,q<m->os.getD q none=none->ver q=0
 JI:∀b,E1.I b->J b
 JE:br=false->∀b,J b->E1.I b
 HC:Inv (O3 (E1.ren h' ρ J) h' w) Ec (mrg h' os0) w'
open Classical in
noncomputable def upE (br:Bool)(os:List (Option Cont))(nm:Nat->Nat)(E1 Ec:Env):Env:=
 ⟨fun r κ=>if h:∃q,(∃c,os.getD q none=some c)/\nm q=r then Ec.ι (Classical.choose h) κ else E1.ι r κ,if br then E1.I else Ec.I⟩
section
variable {br:Bool}{n m base:Nat}{hv hp:Am}{ρ:Ren}{tv ver:Nat->Nat}{h':Am}{os0 os:List (Option Cont)}{J:Nat->Prop}{F:Fr}{E1:Env}{h1:Am}{w:World}{Ec:Env}{w':World}
theorem Cx.lt (X:Cx br n m base hv hp ρ tv ver h' os0 os J F E1 h1 w Ec w'){q:Nat}{c:Cont}(h:os.getD q none=some c):q<m:=by
 rcases Nat.lt_or_ge q m with h1|h1
 ·exact h1
 ·rw[Kh (by rw[X.len];exact h1)]at h;cases h
theorem Cx.live (X:Cx br n m base hv hp ρ tv ver h' os0 os J F E1 h1 w Ec w'){q r:Nat}(hr:ρ.getD q none=some r):q<n/\
 ((∃ro ro' t xs,h1.getD r none=some (.lst ro' t xs)/\h'.getD q none=some (.lst ro t xs)/\X0 br ro ro'=true/\((ro=true/\os.getD q none=none)\/(ro=false/\(os.getD q none=some .dead\/∃t' ys,os.getD q none=some (.lst false t' ys)))))\/
  (∃ro ro' v' t xs,h1.getD r none=some (.tree ro' v' t xs none)/\hv.getD r none=some (.tree ro' v' t xs none)/\h'.getD q none=some (.tree ro 0 t xs none)/\X0 br ro ro'=true/\
    ((ro=true/\os.getD q none=none)\/(ro=false/\(os.getD q none=some .dead\/(∃v t' ys,os.getD q none=some (.tree false v t' ys none))\/∃t' ys,os.getD q none=some (.lst false t' ys)))))\/
  (∃k cs cs',h1.getD r none=some (.cells k [cs])/\h'.getD q none=some (.cells k [cs'])/\(os.getD q none=some .dead\/∃k' cs',os.getD q none=some (.cells k' [cs'])))):=by
 have hq:q<n:=by
  rcases Nat.lt_or_ge q n with h1|h1
  ·exact h1
  ·rw[X.short q h1]at hr;cases hr
 refine⟨hq,?_⟩
 have h2:=X.st q hq
 have h3:=X.kd q hq
 rcases h2 with h4|⟨_,h4,_⟩|⟨h4,_⟩|⟨r',h4,h5⟩
 ·exfalso
  rw[h4]at h3
  rcases h3 with⟨_,_,h3,_⟩|⟨_,_,h3,_⟩|⟨_,_,h3,_⟩|⟨_,_,h3,_⟩|⟨_,_,h3,_⟩<;>cases h3
 ·omega
 ·rw[hr]at h4;cases h4
 ·rw[hr]at h4;obtain rfl:r=r':=by simpa using h4
  rcases h5 with⟨ro,ro',t,xs,h6,h7,h8⟩|⟨ro,ro',v',t,xs,h6,h7,h8,_⟩|⟨k,cs,cs',h6,h7,_⟩
  ·refine .inl ⟨ro,ro',t,xs,X.sub.lst h6 (by simp) (by simp),h7,h8,?_⟩
   rw[h7]at h3
   rcases h3 with⟨_,_,h9,h10⟩|⟨_,_,h9,_⟩|⟨_,_,h9,h10⟩|⟨_,_,h9,_⟩|⟨_,_,h9,_⟩
   ·left;simp at h9;exact⟨h9.1,h10⟩
   ·cases h9
   ·right;simp at h9;exact⟨h9.1,h10⟩
   ·cases h9
   ·cases h9
  ·have hv0:tv q=0:=by
    rw[h7]at h3
    rcases h3 with⟨_,_,h9,h10⟩|⟨_,_,h9,_⟩|⟨_,_,h9,h10⟩|⟨_,_,h9,_⟩|⟨_,_,h9,_⟩
    ·cases h9
    ·simp at h9;exact h9.2.1
    ·cases h9
    ·simp at h9;exact h9.2.1
    ·cases h9
   rw[hv0]at h7
   refine .inr (.inl ⟨ro,ro',v',t,xs,X.sub.lst h6 (by simp) (by simp),h6,h7,h8,?_⟩)
   rw[h7]at h3
   rcases h3 with⟨_,_,h9,h10⟩|⟨_,_,h9,h10⟩|⟨_,_,h9,h10⟩|⟨_,_,h9,h10⟩|⟨_,_,h9,_⟩
   ·cases h9
   ·left;simp at h9;exact⟨h9.1,h10⟩
   ·cases h9
   ·right;simp at h9;exact⟨h9.1,h10⟩
   ·cases h9
  ·refine .inr (.inr ⟨k,cs,cs',X.sub.lst h6 (by simp) (by simp),h7,?_⟩)
   rw[h7]at h3
   rcases h3 with⟨_,_,h9,h10⟩|⟨_,_,h9,h10⟩|⟨_,_,h9,h10⟩|⟨_,_,h9,h10⟩|⟨_,_,h9,h10⟩
   ·cases h9
   ·cases h9
   ·cases h9
   ·cases h9
   ·exact h10
theorem FR {q r:Nat}(hr:ρ.getD q none=some r):rho ρ base q=r:=by unfold rho;rw[hr]
theorem Mv {q:Nat}(hr:ρ.getD q none=none):rho ρ base q=base+q:=by unfold rho;rw[hr]
theorem Cx.some1 (X:Cx br n m base hv hp ρ tv ver h' os0 os J F E1 h1 w Ec w'){q r:Nat}(hr:ρ.getD q none=some r):∃c,h1.getD r none=some c/\c≠.dead:=by
 obtain⟨_,⟨_,_,_,_,h2,_⟩|⟨_,_,_,_,_,h2,_⟩|⟨_,_,_,h2,_⟩⟩:=X.live hr<;>exact⟨_,h2,by simp⟩
theorem Cx.inj (X:Cx br n m base hv hp ρ tv ver h' os0 os J F E1 h1 w Ec w'){q q':Nat}(hq:q<m)(hq':q'<m)(h:rho ρ base q=rho ρ base q'):q=q':=by
 cases e:ρ.getD q none with
 |some r=>
  rw[FR e]at h
  cases e':ρ.getD q' none with
  |some r'=>rw[FR e']at h;subst h;exact R8 X.nd e e'
  |none=>
   rw[Mv e']at h;subst h
   obtain⟨c,h2,_⟩:=X.some1 e
   rw[X.free q' hq']at h2;cases h2
 |none=>
  rw[Mv e]at h
  cases e':ρ.getD q' none with
  |some r'=>
   rw[FR e']at h;subst h
   obtain⟨c,h2,_⟩:=X.some1 e'
   rw[X.free q hq]at h2;cases h2
  |none=>rw[Mv e']at h;omega
theorem Cx.h2 (X:Cx br n m base hv hp ρ tv ver h' os0 os J F E1 h1 w Ec w'):(∀q c,os.getD q none=some c->(apD h1 (D6 ρ base 0 os)).getD (rho ρ base q) none=some c)/\
 ∀r,(∀q c,os.getD q none=some c->rho ρ base q≠r)->(apD h1 (D6 ρ base 0 os)).getD r none=h1.getD r none:=by
 refine⟨fun q c hc=>ri _ (fun c' hm=>?_) ((KR os 0 _ _).2 ⟨q,hc,by rw[zJj]⟩),fun r hr=>Pg _ fun c hm=>?_⟩
 ·obtain⟨k,h2,h3⟩:=(KR os 0 _ _).1 hm
  rw[zJj]at h3
  obtain rfl:=X.inj (X.lt h2) (X.lt hc) h3
  rw[hc]at h2;simpa using h2.symm
 ·obtain⟨k,h2,h3⟩:=(KR os 0 _ _).1 hm
  rw[zJj]at h3
  exact hr k c h2 h3
theorem Cx.ι1 (X:Cx br n m base hv hp ρ tv ver h' os0 os J F E1 h1 w Ec w'){q:Nat}{c:Cont}(hc:os.getD q none=some c)(κ:Option (Nat×Nat)):(upE br os (rho ρ base) E1 Ec).ι (rho ρ base q) κ=Ec.ι q κ:=by
 have hex:∃q',(∃c,os.getD q' none=some c)/\rho ρ base q'=rho ρ base q:=⟨q,⟨c,hc⟩,rfl⟩
 simp only[upE]
 rw[dif_pos hex]
 obtain⟨⟨c',h2⟩,h3⟩:=Classical.choose_spec hex
 rw[X.inj (X.lt h2) (X.lt hc) h3]
theorem Cx.ι2 (X:Cx br n m base hv hp ρ tv ver h' os0 os J F E1 h1 w Ec w'){r:Nat}(hr:∀q c,os.getD q none=some c->rho ρ base q≠r)(κ:Option (Nat×Nat)):(upE br os (rho ρ base) E1 Ec).ι r κ=E1.ι r κ:=by
 simp only[upE]
 rw[dif_neg]
 rintro⟨q,⟨c,h2⟩,h3⟩;exact hr q c h2 h3
theorem Cx.hc (X:Cx br n m base hv hp ρ tv ver h' os0 os J F E1 h1 w Ec w'){q:Nat}{c:Cont}(hc:os.getD q none=some c):∃c0,(mrg h' os0).getD q none=some c0/\Two br (rho ρ base) (JB hv ρ ver) ver q (some c0) (some c):=by
 have h2:=X.two q
 rw[hc]at h2
 cases h3:os0.getD q none with
 |none=>
  rw[h3]at h2
  rcases h2 with⟨_,h4⟩|⟨h4,_⟩|⟨_,_,_,h4,_⟩|⟨_,_,_,h4,_⟩|⟨_,_,_,h4,_⟩<;>cases h4
 |some c0=>
  rw[h3]at h2
  exact⟨c0,by rw[MJ,h3],h2⟩
theorem Cx.hk (X:Cx br n m base hv hp ρ tv ver h' os0 os J F E1 h1 w Ec w'){q:Nat}(hc:os.getD q none=none):(mrg h' os0).getD q none=h'.getD q none:=by
 have h2:=X.two q
 rw[hc]at h2
 have h3:os0.getD q none=none:=by
  rcases h2 with⟨h4,_⟩|⟨_,h4⟩|⟨_,_,_,_,h4,_⟩|⟨_,_,_,_,h4,_⟩|⟨_,_,_,_,h4,_⟩
  ·exact h4
  all_goals cases h4
 rw[MJ,h3]
theorem Cx.nu (X:Cx br n m base hv hp ρ tv ver h' os0 os J F E1 h1 w Ec w'){q r v':Nat}{ro:Bool}{t:Ty}{xs:List (den t)}(hr:ρ.getD q none=some r)(hv1:hv.getD r none=some (.tree ro v' t xs none)):JB hv ρ ver q=if ver q=0 then v' else v'+1:=by
 unfold JB
 rw[hr];simp only[hv1]
 by_cases h:ver q=0
 ·rw[if_pos h,if_pos (by rw[h];rfl)]
 ·rw[if_neg h,if_neg (by simpa using h)]
theorem Pc:(t:Ty)->(x:den t)->t.tflat=true->∀c∈flat t x,∃u y,c=.pv u y/\(u.flat=true\/∃e,u=.slice e/\e.flat=true)
 | .prod a b,x,h,c,hc=>by
   simp only[Ty.tflat,zJq]at h
   simp only[flat,List.mem_append]at hc
   rcases hc with hc|hc
   ·exact Pc a x.1 h.1 c hc
   ·exact Pc b x.2 h.2 c hc
 | .unit,x,h,c,hc=>by simp[flat]at hc
 | .slice e,x,h,c,hc=>by
   simp only[flat,List.mem_singleton]at hc;subst hc
   exact⟨_,_,rfl,.inr ⟨e,rfl,h⟩⟩
 | .int k,x,h,c,hc=>by simp only[flat,List.mem_singleton]at hc;subst hc;exact⟨_,_,rfl,.inl rfl⟩
 | .bool,x,h,c,hc=>by simp only[flat,List.mem_singleton]at hc;subst hc;exact⟨_,_,rfl,.inl rfl⟩
 | .str,x,h,c,hc=>by simp only[flat,List.mem_singleton]at hc;subst hc;exact⟨_,_,rfl,.inl rfl⟩
 | .err,x,h,c,hc=>by simp only[flat,List.mem_singleton]at hc;subst hc;exact⟨_,_,rfl,.inl rfl⟩
 | .idx,x,h,c,hc=>by simp only[flat,List.mem_singleton]at hc;subst hc;exact⟨_,_,rfl,.inl rfl⟩
 | .iref _,x,h,c,hc=>by cases h
 | .fn _ _,x,h,c,hc=>by cases h
theorem N2 {I I':Nat->Prop}{w:World}:(t:Ty)->t.flat=true->(x:den t)->(vs:List Value)->B5 I w t x vs->B5 I' w t x vs
 | .prod a b,h,x,vs,h1=>by
   simp only[Ty.flat,zJq]at h
   simp only[B5]at h1 ⊢
   obtain⟨us,ws,e,h2,h3⟩:=h1
   exact⟨us,ws,e,N2 a h.1 x.1 us h2,N2 b h.2 x.2 ws h3⟩
 | .int _,h,x,vs,h1| .bool,h,x,vs,h1| .str,h,x,vs,h1| .err,h,x,vs,h1| .unit,h,x,vs,h1| .idx,h,x,vs,h1=>by simpa only[B5]using h1
 | .slice _,h,x,vs,h1| .iref _,h,x,vs,h1| .fn _ _,h,x,vs,h1=>by cases h
end
end Go.Ab
end
section
namespace Go.Ab
section
variable {br:Bool}{n m base:Nat}{hv hp:Am}{ρ:Ren}{tv ver:Nat->Nat}{h':Am}{os0 os:List (Option Cont)}{J:Nat->Prop}{F:Fr}{E1:Env}{h1:Am}{w:World}{Ec:Env}{w':World}
theorem Cx.II (X:Cx br n m base hv hp ρ tv ver h' os0 os J F E1 h1 w Ec w'):∀b,E1.I b->Ec.I b:=fun b hb=>(X.HC.kept.stab b (X.JI b hb)).1
theorem Cx.pure (X:Cx br n m base hv hp ρ tv ver h' os0 os J F E1 h1 w Ec w'):∀(t:Ty) (x:den t) vs,(br=true->t.flat=true)->B5 Ec.I w' t x vs->B5 (upE br os (rho ρ base) E1 Ec).I w' t x vs:=by
 intro t x vs hf h
 cases br with
 |true=>exact N2 t (hf rfl) x vs h
 |false=>exact h
theorem Cx.kept (X:Cx br n m base hv hp ρ tv ver h' os0 os J F E1 h1 w Ec w'){q r:Nat}(hr:ρ.getD q none=some r){s s1:Sub}{c:Cont}(hs:AC h' q s=.on c)(hk:key s1=key s):
 AC (mrg h' os0) q s=.off\/∃c',AC (mrg h' os0) q s=.on c'/\c'.len=c.len/\c'.sz=c.sz/\Ec.ι q (key s)=E1.ι r (key s1):=by
 rcases X.HC.kept.on q s c hs with h2|⟨c',h2,h3,h4,h5,_⟩
 ·exact .inl h2
 ·obtain⟨c0,h6⟩:=OQ hs
  have hd:c0≠.dead:=by
   rintro rfl
   have h7:AC h' q s=.off:=Ha h6 s
   rw[hs]at h7;cases h7
  exact .inr ⟨c',h2,h3,h4,by rw[h5,hk];exact ren_ι' hr h6 hd⟩
theorem Cx.up (X:Cx br n m base hv hp ρ tv ver h' os0 os J F E1 h1 w Ec w'):RefUp br (rho ρ base) (JB hv ρ ver) ver Ec (mrg h' os0) w' (upE br os (rho ρ base) E1 Ec) (apD h1 (D6 ρ base 0 os)):=by
 have none_own:∀q,m<=q->∀s,AC (mrg h' os0) q s=.no:=by
  intro q hq s
  have h2:os.getD q none=none:=Kh (by rw[X.len];exact hq)
  have h3:(mrg h' os0).getD q none=none:=by rw[X.hk h2];exact X.big q (Nat.le_trans X.nm hq)
  cases s<;>simp only[AC,h3]
 have noD:∀{q r},q<m->os.getD q none=none->ρ.getD q none=some r->∀q' c,os.getD q' none=some c->rho ρ base q'≠r:=by
  intro q r hq h2 hr q' c h3 h4
  have:=X.inj (X.lt h3) hq (h4.trans (FR hr).symm)
  subst this;rw[h2]at h3;cases h3
 have root:∀q,(∀rg v,Cz Ec (mrg h' os0) w' q none rg v->Cz (upE br os (rho ρ base) E1 Ec) (apD h1 (D6 ρ base 0 os)) w' (rho ρ base q) none rg v)/\∀i off v,CY Ec (mrg h' os0) q none i off v->CY (upE br os (rho ρ base) E1 Ec) (apD h1 (D6 ρ base 0 os)) (rho ρ base q) none i off v:=by
  intro q
  rcases Nat.lt_or_ge q m with hq|hq
  ·cases ho:os.getD q none with
   |some c=>
    obtain⟨c0,h2,h3⟩:=X.hc ho
    have h4:=X.h2.1 q c ho
    have hι:=X.ι1 ho none
    rcases h3 with⟨h5,_⟩|⟨_,h5⟩|⟨ro,t,xs,h5,h6,_⟩|⟨ro,t,xs,h5,h6,_⟩|⟨k,cs,cs',h5,h6,_⟩
    ·cases h5
    ·obtain rfl:c=.dead:=by simpa using h5
     have:=OW (E:=Ec) (h:=mrg h' os0) (w:=w') (r:=q) (s:=none) (E':=upE br os (rho ρ base) E1 Ec) (q:=rho ρ base q) (s':=none) (Ha h4 none)
     exact this
    ·obtain rfl:c0=.lst ro t xs:=by simpa using h5
     obtain rfl:c=.lst ro t xs:=by simpa using h6
     have:=IX (w:=w') (Av h2 (by simp)) (Av h4 (by simp)) rfl rfl hι
     exact this
    ·obtain rfl:c0=.tree ro (ver q) t xs none:=by simpa using h5
     obtain rfl:c=.tree ro (JB hv ρ ver q) t xs none:=by simpa using h6
     have:=IX (w:=w') (Av h2 (by simp)) (Av h4 (by simp)) rfl rfl hι
     exact this
    ·obtain rfl:c0=.cells k [cs]:=by simpa using h5
     obtain rfl:c=.cells k [cs']:=by simpa using h6
     have:=IX (w:=w') (Av h2 (by simp)) (Av h4 (by simp)) rfl rfl hι
     exact this
   |none=>
    obtain⟨r,hr⟩:=X.kb q hq ho
    have hD:=noD hq ho hr
    have h2:=X.hk ho
    have h3:=X.h2.2 r hD
    rw[FR hr]
    obtain⟨hqn,h4⟩:=X.live hr
    have key2:∀c c1,h'.getD q none=some c->c≠.dead->h1.getD r none=some c1->c1≠.dead->c1.len=c.len->c1.sz=c.sz->(∀rg v,Cz Ec (mrg h' os0) w' q none rg v->Cz (upE br os (rho ρ base) E1 Ec) (apD h1 (D6 ρ base 0 os)) w' r none rg v)/\∀i off v,CY Ec (mrg h' os0) q none i off v->CY (upE br os (rho ρ base) E1 Ec) (apD h1 (D6 ρ base 0 os)) r none i off v:=by
     intro c c1 h5 hd h6 hd1 hl hs
     refine IX (Av (h2.trans h5) hd) (Av (h3.trans h6) hd1) hl hs ?_
     rw[X.ι2 hD]
     rcases X.kept hr (s:=none) (s1:=none) (Av h5 hd) rfl with h7|⟨_,_,_,_,h7⟩
     ·rw[Av (h2.trans h5) hd]at h7;cases h7
     ·exact h7.symm
    rcases h4 with⟨ro,ro',t,xs,h5,h6,_⟩|⟨ro,ro',v',t,xs,h5,_,h6,_⟩|⟨k,cs,cs',h5,h6,_⟩
    ·exact key2 _ _ h6 (by simp) h5 (by simp) rfl rfl
    ·exact key2 _ _ h6 (by simp) h5 (by simp) rfl rfl
    ·exact key2 _ _ h6 (by simp) h5 (by simp) rfl rfl
  ·exact⟨fun rg v hv=>by unfold Cz at hv;rw[none_own q hq]at hv;exact hv.elim,fun i off v hv=>by unfold CY at hv;rw[none_own q hq]at hv;exact hv.elim⟩
 have nest:∀q i k,(∀rg v,Cz Ec (mrg h' os0) w' q (some (i,k,ver q)) rg v->Cz (upE br os (rho ρ base) E1 Ec) (apD h1 (D6 ρ base 0 os)) w' (rho ρ base q) (some (i,k,JB hv ρ ver q)) rg v)/\∀j off v,CY Ec (mrg h' os0) q (some (i,k,ver q)) j off v->CY (upE br os (rho ρ base) E1 Ec) (apD h1 (D6 ρ base 0 os)) (rho ρ base q) (some (i,k,JB hv ρ ver q)) j off v:=by
  intro q i k
  have no:∀{h:Am} {E:Env} {E':Env} {h':Am} {r r':Nat} {s s':Sub},AC h r s=.no->(∀rg v,Cz E h w' r s rg v->Cz E' h' w' r' s' rg v)/\∀j off v,CY E h r s j off v->CY E' h' r' s' j off v:=by
   intro h E E' h' r r' s s' e
   exact⟨fun rg v hv1=>by unfold Cz at hv1;rw[e]at hv1;exact hv1.elim,fun j off v hv1=>by unfold CY at hv1;rw[e]at hv1;exact hv1.elim⟩
  rcases Nat.lt_or_ge q m with hq|hq
  ·cases ho:os.getD q none with
   |some c=>
    obtain⟨c0,h2,h3⟩:=X.hc ho
    have h4:=X.h2.1 q c ho
    rcases h3 with⟨h5,_⟩|⟨_,h5⟩|⟨ro,t,xs,h5,h6,_⟩|⟨ro,t,xs,h5,h6,_⟩|⟨k',cs,cs',h5,h6,_⟩
    ·cases h5
    ·obtain rfl:c=.dead:=by simpa using h5
     exact OW (E:=Ec) (h:=mrg h' os0) (w:=w') (r:=q) (s:=some (i,k,ver q)) (E':=upE br os (rho ρ base) E1 Ec) (q:=rho ρ base q) (s':=some (i,k,JB hv ρ ver q)) (Ha h4 _)
    ·obtain rfl:c0=.lst ro t xs:=by simpa using h5
     obtain rfl:c=.lst ro t xs:=by simpa using h6
     exact OW (E:=Ec) (h:=mrg h' os0) (w:=w') (r:=q) (s:=some (i,k,ver q)) (E':=upE br os (rho ρ base) E1 Ec) (q:=rho ρ base q) (s':=some (i,k,JB hv ρ ver q)) (by simp only[AC,h4])
    ·obtain rfl:c0=.tree ro (ver q) t xs none:=by simpa using h5
     obtain rfl:c=.tree ro (JB hv ρ ver q) t xs none:=by simpa using h6
     have e1:AC (mrg h' os0) q (some (i,k,ver q))=match C0 ro t xs i k with|some c=>.on c|none=>.no:=by
      rw[AD h2,if_neg (Nat.lt_irrefl _),if_neg (by simp)]<;>rfl
     have e2:AC (apD h1 (D6 ρ base 0 os)) (rho ρ base q) (some (i,k,JB hv ρ ver q))=match C0 ro t xs i k with|some c=>.on c|none=>.no:=by
      rw[AD h4,if_neg (Nat.lt_irrefl _),if_neg (by simp)]<;>rfl
     cases hn:C0 ro t xs i k with
     |none=>rw[hn]at e1;exact no e1
     |some c=>
      rw[hn]at e1 e2
      exact IX (w:=w') e1 e2 rfl rfl (X.ι1 ho _)
    ·obtain rfl:c0=.cells k' [cs]:=by simpa using h5
     exact no (by simp only[AC,h2])
   |none=>
    obtain⟨r,hr⟩:=X.kb q hq ho
    have hD:=noD hq ho hr
    have h2:=X.hk ho
    have h3:=X.h2.2 r hD
    have hv0:=X.kv q hq ho
    rw[FR hr]
    obtain⟨hqn,h4⟩:=X.live hr
    rcases h4 with⟨ro,ro',t,xs,h5,h6,_⟩|⟨ro,ro',v',t,xs,h5,h5v,h6,_⟩|⟨k',cs,cs',h5,h6,_⟩
    ·exact OW (E:=Ec) (h:=mrg h' os0) (w:=w') (r:=q) (s:=some (i,k,ver q)) (E':=upE br os (rho ρ base) E1 Ec) (q:=r) (s':=some (i,k,JB hv ρ ver q)) (by simp only[AC,h3,h5])
    ·have hnu:=X.nu hr h5v
     rw[if_pos hv0]at hnu
     rw[hnu]
     have h2':=h2.trans h6
     have h3':=h3.trans h5
     rw[hv0]
     have e1:AC (mrg h' os0) q (some (i,k,0))=match C0 ro t xs i k with|some c=>.on c|none=>.no:=by
      rw[AD h2',if_neg (Nat.lt_irrefl _),if_neg (by simp)]<;>rfl
     have e2:AC (apD h1 (D6 ρ base 0 os)) r (some (i,k,v'))=match C0 ro' t xs i k with|some c=>.on c|none=>.no:=by
      rw[AD h3',if_neg (Nat.lt_irrefl _),if_neg (by simp)]<;>rfl
     cases hn:C0 ro t xs i k with
     |none=>rw[hn]at e1;exact no e1
     |some c=>
      obtain⟨u,ys,rfl,hn2⟩:=JW (ro':=ro') hn
      rw[hn]at e1;rw[hn2]at e2
      refine IX (w:=w') e1 e2 rfl rfl ?_
      rw[X.ι2 hD]
      have e3:AC h' q (some (i,k,0))=.on (.lst ro u ys):=by
       rw[AD h6,if_neg (Nat.lt_irrefl _),if_neg (by simp),hn]
      rcases X.kept hr (s:=some (i,k,0)) (s1:=some (i,k,v')) e3 rfl with h7|⟨_,_,_,_,h7⟩
      ·rw[e1]at h7;cases h7
      ·exact h7.symm
    ·exact no (by simp only[AC,h2.trans h6])
  ·exact no (none_own q hq _)
 exact⟨fun q=>(root q).1,fun q=>(root q).2,fun q i k=>(nest q i k).2,fun q i k=>(nest q i k).1,X.pure⟩
end
end Go.Ab
end
section
namespace Go.Ab
section
variable {br:Bool}{n m base:Nat}{hv hp:Am}{ρ:Ren}{tv ver:Nat->Nat}{h':Am}{os0 os:List (Option Cont)}{J:Nat->Prop}{F:Fr}{E1:Env}{h1:Am}{w:World}{Ec:Env}{w':World}
theorem X8 {E E':Env}{h h':Am}{w:World}{r q v' v'' i:Nat}(ho:∀k rg v,Cz E h w r (some (i,k,v')) rg v->Cz E' h' w q (some (i,k,v'')) rg v):(cs:List AV)->(∀c∈cs,∃u y,c=.pv u y/\((∀x vs,B5 E.I w u x vs->B5 E'.I w u x vs)\/∃e,u=.slice e))->(k:Nat)->(vs:List Value)->Ak E h w (CB r v' none i k cs) vs->Ak E' h' w (CB q v'' none i k cs) vs
 |[],_,k,vs,h1=>by simpa only[CB,Ak]using h1
 |c::cs,hc,k,vs,h1=>by
  obtain⟨u,y,rfl,hp⟩:=hc c (by simp)
  have ih:=X8 ho cs (fun c hm=>hc c (by simp[hm])) (k+1)
  cases u<;>simp only[CB,Ak,reduceCtorEq,if_false]at h1 ⊢
  case slice u=>
   obtain⟨v,us,rfl,h2,h3⟩:=h1
   exact⟨v,us,rfl,by simp only[Ag]at h2 ⊢;exact ho k _ v h2,ih us h3⟩
  all_goals
   obtain⟨v,us,rfl,h2,h3⟩:=h1
   refine⟨v,us,rfl,?_,ih us h3⟩
   rcases hp with hp|⟨e,hp⟩
   ·simp only[Ag]at h2 ⊢;exact hp _ _ h2
   ·cases hp
theorem Cx.down (X:Cx br n m base hv hp ρ tv ver h' os0 os J F E1 h1 w Ec w'){q:Nat}{c:Cont}(ho:os.getD q none=some c){s:Sub}{c2:Cont}(hs:AC (apD h1 (D6 ρ base 0 os)) (rho ρ base q) s=.on c2):
 ∃s0 c0,AC (mrg h' os0) q s0=.on c0/\key s0=key s/\c2.len=c0.len/\c2.sz=c0.sz/\(∀i cs,c0.at? q i=some cs->∃cs',c2.at? (rho ρ base q) i=some cs'/\∀vs,Ak Ec (mrg h' os0) w' cs vs->Ak (upE br os (rho ρ base) E1 Ec) (apD h1 (D6 ρ base 0 os)) w' cs' vs):=by
 obtain⟨c0,h2,h3⟩:=X.hc ho
 have h4:=X.h2.1 q c ho
 have U:=X.up
 have pureL:∀(t:Ty) (x:den t) vs,(br=true->t.flat=true)->Ak Ec (mrg h' os0) w' (flat t x) vs->Ak (upE br os (rho ρ base) E1 Ec) (apD h1 (D6 ρ base 0 os)) w' (flat t x) vs:=fun t x vs hf hv=>Dn t (U.pure t x vs hf (JC t hv))
 rcases h3 with⟨h5,_⟩|⟨_,h5⟩|⟨ro,t,xs,h5,h6,hf⟩|⟨ro,t,xs,h5,h6,hf⟩|⟨k',cs,cs',h5,h6,hr⟩
 ·cases h5
 ·obtain rfl:c=.dead:=by simpa using h5
  have:=Ha h4 s
  rw[hs]at this;cases this
 ·obtain rfl:c0=.lst ro t xs:=by simpa using h5
  obtain rfl:c=.lst ro t xs:=by simpa using h6
  cases s with
  |none=>
   simp only[AC,h4,RefSt.on.injEq]at hs;subst hs
   refine⟨none,_,Av h2 (by simp),rfl,rfl,rfl,fun i cs hcs=>?_⟩
   obtain⟨hi,rfl⟩:=I8 hcs
   exact⟨flat t xs[i],by simp[Cont.at?,hi],fun vs=>pureL t _ vs hf⟩
  |some p=>simp only[AC,h4]at hs;cases hs
 ·obtain rfl:c0=.tree ro (ver q) t xs none:=by simpa using h5
  obtain rfl:c=.tree ro (JB hv ρ ver q) t xs none:=by simpa using h6
  have hι:=X.ι1 ho
  cases s with
  |none=>
   rw[AB h4,RefSt.on.injEq]at hs;subst hs
   refine⟨none,_,AB h2,rfl,rfl,rfl,fun i cs hcs=>?_⟩
   obtain⟨hi,rfl⟩:=KN hcs
   refine⟨_,by simp[Cont.at?,hi],fun vs hv1=>X8 (fun k=>TV h2 h4 hι i k) _ (fun c hc=>?_) 0 vs hv1⟩
   obtain⟨u,y,rfl⟩:=KK t xs[i] c hc
   refine⟨u,y,rfl,?_⟩
   by_cases hb:br=true
   ·obtain⟨u',y',e,h7⟩:=Pc t xs[i] (hf hb) _ hc
    obtain⟨rfl,_⟩:u=u'/\HEq y y':=by simpa using e
    rcases h7 with h7|⟨e2,h7,_⟩
    ·exact .inl fun x vs h8=>N2 u h7 x vs h8
    ·exact .inr ⟨e2,h7⟩
   ·exact .inl fun x vs h8=>U.pure u x vs (fun h9=>absurd h9 hb) h8
  |some p=>
   obtain⟨i,k,v⟩:=p
   obtain⟨rfl,_,hn⟩:=DB h4 hs
   obtain⟨u,ys,rfl,hi,hfl⟩:=HV hn
   refine⟨some (i,k,ver q),.lst ro u ys,by rw[AD h2,if_neg (Nat.lt_irrefl _),if_neg (by simp),hn],rfl,rfl,rfl,fun j cs hcs=>?_⟩
   obtain⟨hj,rfl⟩:=I8 hcs
   refine⟨flat u ys[j],by simp[Cont.at?,hj],fun vs=>pureL u _ vs fun hb=>?_⟩
   obtain⟨u',y',e,h7⟩:=Pc t xs[i] (hf hb) _ (List.mem_of_getElem? hfl)
   obtain⟨rfl,_⟩:Ty.slice u=u'/\HEq ys y':=by simpa using e
   rcases h7 with h7|⟨e,h8,h9⟩
   ·cases h7
   ·obtain rfl:u=e:=by simpa using h8
    exact h9
 ·obtain rfl:c0=.cells k' [cs]:=by simpa using h5
  obtain rfl:c=.cells k' [cs']:=by simpa using h6
  cases s with
  |none=>
   simp only[AC,h4,RefSt.on.injEq]at hs;subst hs
   refine⟨none,_,Av h2 (by simp),rfl,rfl,rfl,fun i cs1 hcs=>?_⟩
   simp only[Cont.at?]at hcs
   obtain⟨hi,rfl⟩:=zQj.1 hcs
   obtain rfl:i=0:=by simpa using hi
   exact⟨cs',rfl,fun vs hv1=>hr _ _ _ _ _ U vs hv1⟩
  |some p=>simp only[AC,h4]at hs;cases hs
theorem Cx.ros (X:Cx br n m base hv hp ρ tv ver h' os0 os J F E1 h1 w Ec w'){q:Nat}{c:Cont}(ho:os.getD q none=some c):c.ro=false:=by
 rcases Nat.lt_or_ge q n with hq|hq
 ·have h2:=X.kd q hq
  rw[ho]at h2
  rcases h2 with⟨_,_,_,h2⟩|⟨_,_,_,h2⟩|⟨_,_,_,h2|⟨_,_,h2⟩⟩|⟨_,_,_,h2|⟨_,_,_,h2⟩|⟨_,_,h2⟩⟩|⟨_,_,_,h2|⟨_,_,h2⟩⟩
  ·cases h2
  ·cases h2
  all_goals(simp at h2;subst h2;rfl)
 ·obtain⟨c',h2,h3⟩:=X.kn q hq (X.lt ho)
  rw[ho]at h2;simp at h2;subst h2;exact h3
theorem Cx.roq (X:Cx br n m base hv hp ρ tv ver h' os0 os J F E1 h1 w Ec w'){q r:Nat}(hr:ρ.getD q none=some r):(DV h' q=false->DV h1 r=false/\∃c,os.getD q none=some c)/\((∃c,os.getD q none=some c)->DV h' q=false/\DV h1 r=false):=by
 obtain⟨_,⟨ro,ro',t,xs,h2,h3,h4,h5⟩|⟨ro,ro',v',t,xs,h2,_,h3,h4,h5⟩|⟨k,cs,cs',h2,h3,h5⟩⟩:=X.live hr
 ·rw[B9 h2,B9 h3]
  rcases h5 with⟨rfl,h5⟩|⟨rfl,h5⟩
  ·exact⟨fun h=>by simp[Cont.ro]at h,fun⟨c,h⟩=>by rw[h5]at h;cases h⟩
  ·have:ro'=false:=by cases ro'<;>first|rfl|cases h4
   subst this
   exact⟨fun _=>⟨rfl,by rcases h5 with h5|⟨_,_,h5⟩<;>exact⟨_,h5⟩⟩,fun _=>⟨rfl,rfl⟩⟩
 ·rw[B9 h2,B9 h3]
  rcases h5 with⟨rfl,h5⟩|⟨rfl,h5⟩
  ·exact⟨fun h=>by simp[Cont.ro]at h,fun⟨c,h⟩=>by rw[h5]at h;cases h⟩
  ·have:ro'=false:=by cases ro'<;>first|rfl|cases h4
   subst this
   exact⟨fun _=>⟨rfl,by rcases h5 with h5|⟨_,_,_,h5⟩|⟨_,_,h5⟩<;>exact⟨_,h5⟩⟩,fun _=>⟨rfl,rfl⟩⟩
 ·rw[B9 h2,B9 h3]
  exact⟨fun _=>⟨rfl,by rcases h5 with h5|⟨_,_,h5⟩<;>exact⟨_,h5⟩⟩,fun _=>⟨rfl,rfl⟩⟩
theorem Cx.B0 (X:Cx br n m base hv hp ρ tv ver h' os0 os J F E1 h1 w Ec w'){b:Nat}(hb:(O3 (E1.ren h' ρ J) h' w).B0 b):∃q c κ k,os.getD q none=some c/\DV h1 (rho ρ base q)=false/\E1.ι (rho ρ base q) κ=some (b,k):=by
 obtain⟨q,κ,k,h2,h3⟩:=hb
 obtain⟨r,hr,h4,_⟩:=ren_ι h2
 obtain⟨h5,c,h6⟩:=(X.roq hr).1 h3
 exact⟨q,c,κ,k,h6,by rw[FR hr];exact h5,by rw[FR hr];exact h4⟩
theorem Cx.touch (X:Cx br n m base hv hp ρ tv ver h' os0 os J F E1 h1 w Ec w'):Touch (fun r=>∃q c,os.getD q none=some c/\rho ρ base q=r) E1 h1 w (upE br os (rho ρ base) E1 Ec) (apD h1 (D6 ρ base 0 os)) w' where
 hh:=fun r hr=>X.h2.2 r fun q c h2 h3=>hr ⟨q,c,h2,h3⟩
 hι:=fun r κ hr=>X.ι2 (fun q c h2 h3=>hr ⟨q,c,h2,h3⟩) κ
 II:=fun b hb=>by
  cases br with
  |true=>exact hb
  |false=>exact X.II b hb
 size:=X.HC.bel.size
 os:=X.HC.bel.os
 tape:=X.HC.bel.tape
 output:=X.HC.bel.output
 blk:=fun b hb hn=>X.HC.bel.blk b hb fun hB=>by
  obtain⟨q,c,κ,k,h2,h3,h4⟩:=X.B0 hB
  exact hn _ κ k ⟨q,c,h2,rfl⟩ h3 h4
 asz:=fun b arr ty ha=>by
  rcases Classical.em ((O3 (E1.ren h' ρ J) h' w).B0 b)with hB|hB
  ·exact X.HC.bel.asz b hB arr ty ha
  ·exact⟨arr,by rw[X.HC.bel.blk b (Array.getElem?_eq_some_iff.1 ha).1 hB];exact ha,rfl⟩
 off:=by
  rintro r s ⟨q,c,ho,rfl⟩ hs
  have h4:=X.h2.1 q c ho
  cases hr:ρ.getD q none with
  |none=>
   rw[Mv hr]at hs
   have:=X.free q (X.lt ho)
   cases s<;>simp only[AC,this]at hs<;>cases hs
  |some r=>
   rw[FR hr]at hs h4 ⊢
   obtain⟨_,⟨ro,ro',t,xs,h2,h3,_,h5⟩|⟨ro,ro',v',t,xs,h2,h2v,h3,_,h5⟩|⟨k,cs,cs',h2,h3,h5⟩⟩:=X.live hr
   ·cases s with
    |none=>simp only[AC,h2]at hs;cases hs
    |some p=>
     rw[ho]at h5
     rcases h5 with⟨_,h5⟩|⟨_,h5|⟨_,_,h5⟩⟩
     ·cases h5
     ·simp at h5;subst h5;exact Ha h4 _
     ·simp at h5;subst h5;simp only[AC,h4]
   ·cases s with
    |none=>rw[AB h2]at hs;cases hs
    |some p=>
     obtain⟨i,k,v⟩:=p
     rw[AD h2]at hs
     have hv1:v<v':=by
      split at hs
      ·cases hs
      ·split at hs
       ·rename_i h6;simpa using h6
       ·split at hs<;>cases hs
     rw[ho]at h5
     rcases h5 with⟨_,h5⟩|⟨_,h5|⟨v2,t',ys,h5⟩|⟨_,_,h5⟩⟩
     ·cases h5
     ·simp at h5;subst h5;exact Ha h4 _
     ·obtain rfl:c=.tree false v2 t' ys none:=by simpa using h5
      have hv2:v'<=v2:=by
       have h6:=X.two q
       rw[ho]at h6
       rcases h6 with⟨_,h6⟩|⟨_,h6⟩|⟨_,_,_,_,h6,_⟩|⟨_,_,_,_,h6,_⟩|⟨_,_,_,_,h6,_⟩
       ·cases h6
       ·cases h6
       ·cases h6
       ·simp only[Option.some.injEq,Cont.tree.injEq]at h6
        rw[h6.2.1,X.nu hr h2v];split<;>omega
       ·cases h6
      rw[AD h4,if_neg (by omega),if_pos (.inl (by omega))]
     ·simp at h5;subst h5;simp only[AC,h4]
   ·cases s with
    |none=>simp only[AC,h2]at hs;cases hs
    |some p=>simp only[AC,h2]at hs;cases hs
 on:=by
  rintro r s c1 ⟨q,c,ho,rfl⟩ hs
  have h4:=X.h2.1 q c ho
  obtain⟨c0,hc0,h3⟩:=X.hc ho
  cases hr:ρ.getD q none with
  |none=>
   rw[Mv hr]at hs
   have:=X.free q (X.lt ho)
   cases s<;>simp only[AC,this]at hs<;>cases hs
  |some r=>
   have hfind:∃s' c',AC h' q s'=.on c'/\key s'=key s/\c'.len=c1.len/\c'.sz=c1.sz/\(s=none->s'=none)/\(∀p,s=some p->s'=some (p.1,p.2.1,0)/\∃ro v' t xs,hv.getD r none=some (.tree ro v' t xs none)/\p.2.2=v'):=by
    rw[FR hr]at hs
    obtain⟨_,⟨ro,ro',t,xs,h2,h3,_⟩|⟨ro,ro',v',t,xs,h2,h2v,h3,_⟩|⟨k,cs,cs',h2,h3,_⟩⟩:=X.live hr
    ·cases s with
     |none=>
      simp only[AC,h2,RefSt.on.injEq]at hs;subst hs
      exact⟨none,_,Av h3 (by simp),rfl,rfl,rfl,fun _=>rfl,fun p hp=>by cases hp⟩
     |some p=>simp only[AC,h2]at hs;cases hs
    ·cases s with
     |none=>
      rw[AB h2,RefSt.on.injEq]at hs;subst hs
      exact⟨none,_,AB h3,rfl,rfl,rfl,fun _=>rfl,fun p hp=>by cases hp⟩
     |some p=>
      obtain⟨i,k,v⟩:=p
      obtain⟨rfl,_,hn⟩:=DB h2 hs
      obtain⟨u,ys,rfl,hn2⟩:=JW (ro':=ro) hn
      exact⟨some (i,k,0),.lst ro u ys,by rw[AD h3,if_neg (Nat.lt_irrefl _),if_neg (by simp),hn2],rfl,rfl,rfl,(fun h=>by cases h),(fun p hp=>by cases hp;exact⟨rfl,ro',_,t,xs,h2v,rfl⟩)⟩
    ·cases s with
     |none=>
      simp only[AC,h2,RefSt.on.injEq]at hs;subst hs
      exact⟨none,_,Av h3 (by simp),rfl,rfl,rfl,fun _=>rfl,fun p hp=>by cases hp⟩
     |some p=>simp only[AC,h2]at hs;cases hs
   obtain⟨s',c',k1,k2,k3,k4,k5,k6⟩:=hfind
   rw[X.ι1 ho]
   have hkk:=X.kept hr k1 (s1:=s) k2.symm
   rcases h3 with⟨h5,_⟩|⟨_,h5⟩|⟨ro,t,xs,h5,h6,_⟩|⟨ro,t,xs,h5,h6,_⟩|⟨k',cs,cs',h5,h6,_⟩
   ·cases h5
   ·obtain rfl:c=.dead:=by simpa using h5
    exact .inl (Ha h4 s)
   ·obtain rfl:c0=.lst ro t xs:=by simpa using h5
    obtain rfl:c=.lst ro t xs:=by simpa using h6
    cases s with
    |some p=>left;simp only[AC,h4]
    |none=>
     obtain rfl:=k5 rfl
     rcases hkk with h7|⟨c2,h7,h8,h9,h10⟩
     ·rw[Av hc0 (by simp)]at h7;cases h7
     ·rw[Av hc0 (by simp),RefSt.on.injEq]at h7;subst h7
      exact .inr ⟨_,Av h4 (by simp),h8.trans k3,h9.trans k4,by rw[FR hr];exact h10⟩
   ·obtain rfl:c0=.tree ro (ver q) t xs none:=by simpa using h5
    obtain rfl:c=.tree ro (JB hv ρ ver q) t xs none:=by simpa using h6
    cases s with
    |none=>
     obtain rfl:=k5 rfl
     rcases hkk with h7|⟨c2,h7,h8,h9,h10⟩
     ·rw[Av hc0 (by simp)]at h7;cases h7
     ·rw[Av hc0 (by simp),RefSt.on.injEq]at h7;subst h7
      exact .inr ⟨_,Av h4 (by simp),h8.trans k3,h9.trans k4,by rw[FR hr];exact h10⟩
    |some p=>
     obtain⟨i,k,v⟩:=p
     obtain⟨rfl,ro',v',t',xs',h2v,rfl⟩:=k6 _ rfl
     have hnu:JB hv ρ ver q=if ver q=0 then v else v+1:=X.nu hr h2v
     rcases hkk with h7|⟨c2,h7,h8,h9,h10⟩
     ·rw[AD hc0]at h7
      have hv0:ver q≠0:=by
       intro h11
       rw[h11,if_neg (Nat.lt_irrefl _),if_neg (by simp)]at h7
       split at h7<;>cases h7
      left
      rw[if_neg hv0]at hnu
      rw[AD h4,if_neg (by omega),if_pos (.inl (by omega))]
     ·obtain⟨hv0,_,hn⟩:=DB hc0 h7
      rw[if_pos hv0.symm]at hnu
      right
      exact⟨c2,by rw[AD h4,if_neg (by omega),if_neg (by simp[hnu]),hn],h8.trans k3,h9.trans k4,by rw[FR hr];exact h10⟩
   ·obtain rfl:c0=.cells k' [cs]:=by simpa using h5
    obtain rfl:c=.cells k' [cs']:=by simpa using h6
    cases s with
    |none=>
     obtain rfl:=k5 rfl
     rcases hkk with h7|⟨c2,h7,h8,h9,h10⟩
     ·rw[Av hc0 (by simp)]at h7;cases h7
     ·rw[Av hc0 (by simp),RefSt.on.injEq]at h7;subst h7
      exact .inr ⟨_,Av h4 (by simp),h8.trans k3,h9.trans k4,by rw[FR hr];exact h10⟩
    |some p=>
     obtain⟨i,k,v⟩:=p
     obtain⟨rfl,_⟩:=k6 _ rfl
     rcases hkk with h7|⟨c2,h7,_⟩<;>simp only[AC,hc0]at h7<;>cases h7
 som:=by
  rintro r ⟨q,c,ho,rfl⟩;exact⟨c,X.h2.1 q c ho⟩
 fix:=by
  rintro r ⟨q,c,ho,rfl⟩ h2
  cases hr:ρ.getD q none with
  |none=>rw[Mv hr]at h2;simp only[DV,X.free q (X.lt ho)]at h2;cases h2
  |some r=>
   rw[FR hr]at h2
   rw[((X.roq hr).2 ⟨c,ho⟩).2]at h2;cases h2
 obj:=by
  rintro K r s c2 ⟨q,c,ho,rfl⟩ hs
  obtain⟨s0,c0,h2,h3,h4,h5,h6⟩:=X.down ho hs
  rcases X.HC.heap.obj q s0 c0 h2 with h7|⟨b,arr,ty,k1,k2,k3,k4⟩
  ·exact .inl (h4.trans h7)
  ·right
   refine⟨b,arr,ty,by rw[X.ι1 ho,<-h3,h5];exact k1,k2,by rw[h4,h5];exact k3,fun i hi=>?_⟩
   obtain⟨cs,vs,m1,m2,m3,m4⟩:=k4 i (by omega)
   obtain⟨cs',m5,m6⟩:=h6 i cs m1
   exact⟨cs',vs,m5,by rw[h5];exact m2,m6 vs m3,by rw[h5];exact m4⟩
 siz:=by
  rintro r s c2 b k ⟨q,c,ho,rfl⟩ hs h7
  obtain⟨s0,c0,h2,h3,h4,h5,h6⟩:=X.down ho hs
  rw[X.ι1 ho,<-h3]at h7
  rw[h5];exact X.HC.heap.siz q s0 c0 b k h2 h7
 from_:=by
  rintro r κ b k ⟨q,c,ho,rfl⟩ h2
  rw[X.ι1 ho]at h2
  obtain⟨c0,hc0,h3⟩:=X.hc ho
  have hro:DV (mrg h' os0) q=false:=by
   have h4:=X.ros ho
   rw[B9 hc0]
   rcases h3 with⟨h5,_⟩|⟨h6,h5⟩|⟨ro,t,xs,h5,h6,_⟩|⟨ro,t,xs,h5,h6,_⟩|⟨k',cs,cs',h5,h6,_⟩
   ·cases h5
   ·simp at h6;subst h6;rfl
   ·simp at h5 h6;subst h5;subst h6;exact h4
   ·simp at h5 h6;subst h5;subst h6;exact h4
   ·simp at h5;subst h5;rfl
  rcases X.HC.own_new q κ b k h2 hro with h4|h4
  ·right
   obtain⟨q0,c',κ0,k0,h5,h6,h7⟩:=X.B0 h4
   exact⟨_,κ0,k0,⟨q0,c',h5,rfl⟩,.inl h6,h7⟩
  ·exact .inl ⟨h4,X.HC.heap.own_lt b ⟨q,κ,k,h2⟩⟩
 inj:=by
  rintro r κ r' κ' b k k' ⟨q,c,ho,rfl⟩ ⟨q',c',ho',rfl⟩ h2 h3
  rw[X.ι1 ho]at h2
  rw[X.ι1 ho']at h3
  obtain⟨rfl,rfl⟩:=X.HC.heap.inj _ _ _ _ _ _ _ h2 h3
  exact⟨rfl,rfl⟩
 live:=by
  rintro r κ x ⟨q,c,ho,rfl⟩ h2
  rw[X.ι1 ho]at h2
  obtain⟨c1,h3,h4⟩:=X.HC.heap.live q κ x h2
  obtain⟨c0,hc0,h5⟩:=X.hc ho
  rw[h3]at hc0;obtain rfl:c1=c0:=by simpa using hc0
  refine⟨c,X.h2.1 q c ho,?_⟩
  rintro rfl
  rcases h5 with⟨h5,_⟩|⟨h5,_⟩|⟨_,_,_,_,h5,_⟩|⟨_,_,_,_,h5,_⟩|⟨_,_,_,_,h5,_⟩
  ·cases h5
  ·simp at h5;exact h4 h5
  all_goals cases h5
 Inew:=fun b hb=>by
  cases br with
  |true=>exact .inl hb
  |false=>
   rcases X.HC.I_new b hb with h2|h2|h2
   ·exact .inl (X.JE rfl b h2)
   ·right;right
    obtain⟨q0,c',κ0,k0,h5,h6,h7⟩:=X.B0 h2
    exact⟨_,κ0,k0,⟨q0,c',h5,rfl⟩,h6,h7⟩
   ·exact .inr (.inl ⟨h2,X.HC.heap.I_lt b hb⟩)
 apart:=by
  rintro r κ b k ⟨q,c,ho,rfl⟩ h2 _ hI
  rw[X.ι1 ho]at h2
  obtain⟨c0,hc0,h3⟩:=X.hc ho
  have hro:DV (mrg h' os0) q=false:=by
   have h4:=X.ros ho
   rw[B9 hc0]
   rcases h3 with⟨h5,_⟩|⟨h6,h5⟩|⟨ro,t,xs,h5,h6,_⟩|⟨ro,t,xs,h5,h6,_⟩|⟨k',cs,cs',h5,h6,_⟩
   ·cases h5
   ·simp at h6;subst h6;rfl
   ·simp at h5 h6;subst h5;subst h6;exact h4
   ·simp at h5 h6;subst h5;subst h6;exact h4
   ·simp at h5;subst h5;rfl
  refine X.HC.heap.apart q κ b k h2 hro ?_
  cases br with
  |true=>exact X.II b hI
  |false=>exact hI
 roI:=by
  rintro r κ b k ⟨q,c,ho,rfl⟩ _ h3
  rw[B9 (X.h2.1 q c ho),X.ros ho]at h3;cases h3
theorem Cx.inv (X:Cx br n m base hv hp ρ tv ver h' os0 os J F E1 h1 w Ec w'):Inv F (upE br os (rho ρ base) E1 Ec) (apD h1 (D6 ρ base 0 os)) w'/\Keep E1 h1 w (upE br os (rho ρ base) E1 Ec) (apD h1 (D6 ρ base 0 os)) w':=X.touch.inv X.HI
end
end Go.Ab
end
section
namespace Go.Ab
def S7 (us:List Value):Value:=match us with|[u]=>u|us=>.tuple us.toArray
def Aj4 (P:Program)(f:FuncId)(ti to:Tmpl)(x:den ti.ty)(y:den to.ty):Prop:=
 ∀(E:Env) (w:World) (vs:List Value),HeapOK E (ti.objs0 x) w->Ak E (ti.objs0 x) w (ti.vals0 x) vs->
  Calls P f vs.toArray w fun e w'=>∃us E',e=.returned (S7 us)/\Inv (O3 E (ti.objs0 x) w) E' (mrg (ti.objs0 x) (to.objs0 y)) w'/\Ak E' (mrg (ti.objs0 x) (to.objs0 y)) w' (to.vals0 y) us
def Aj (P:Program)(e:Ent):Prop:=
 (∃fn,P.funcs[e.f]? =some fn/\(fn.name== "runtime.NumGoroutine")=false/\fn.body.isNone=false)/\∀x y,e.fn x=some y->Aj4 P e.f e.ti e.to x y
structure CfgOK (P:Program)(C:Cfg):Prop where
 tab:TabOK P C
 ents:∀e∈C.ents,Aj P e
 wide:P.follows .mixedOrders=true
theorem Rl:(h:Am)->(r q:Nat)->(Q3 h r).getD q none=if q=r then none else h.getD q none
 |[],r,q=>by simp[Q3]
 |o::h,0,q=>by cases q<;>simp[Q3]
 |o::h,r+1,q=>by
  cases q with
  |zero=>simp[Q3]
  |succ q=>simpa[Q3]using Rl h r q
theorem Ni:(ks:List Nat)->(h:Am)->(q:Nat)->(Py h ks).getD q none=if q∈ks then none else h.getD q none
 |[],h,q=>by simp[Py]
 |r::ks,h,q=>by
  rw[Py,Ni ks,Rl]
  by_cases h1:q∈ks
  ·simp[h1]
  ·by_cases h2:q=r<;>simp[h1,h2]
theorem ry {E:Env}{h:Am}{w:World}{vs:List AV}{us:List Value}(hr:Ak E h w vs us):Ag E h w (eB vs) (S7 us):=by
 unfold eB S7
 split
 ·rename_i v
  simp only[Ak]at hr
  obtain⟨u,us,rfl,h1,rfl⟩:=hr
  exact h1
 ·rename_i hne
  have hl:=hr.length
  split
  ·rename_i u
   cases vs with
   |nil=>simp at hl
   |cons c cs=>cases cs with
    |nil=>exact absurd rfl (hne c)
    |cons d cs=>simp at hl
  ·simp only[Ag];exact⟨us,rfl,hr⟩
theorem PT {f:FuncId}{args:List AV}:{es:List Ent}->{e:Ent}->Zd f args es=some e->e∈es/\e.f=f
 |[],e,h=>by cases h
 |d::es,e,h=>by
  unfold Zd at h
  split at h
  ·rename_i hc
   rw[zJq]at hc
   obtain rfl:d=e:=by simpa using h
   exact⟨List.mem_cons_self ..,eq_of_beq hc.1⟩
  ·obtain⟨h1,h2⟩:=PT h
   exact⟨zKk _ h1,h2⟩
section
variable {P:Program}{C:Cfg}
theorem sB {s:St}{o:Oper}{c:Call}{fo:Operand}{g:FuncId}{cap:List AV}(ho:o.op=.call c)(hc:c.callee=.value fo)(hcal:callee (ev s.t fo)=some (g,cap)){fn:Func}(hfn:P.funcs[g]? =some fn)(hnum:(fn.name== "runtime.NumGoroutine")=false)(hbody:fn.body.isNone=false)
 (h:Am)(E:Env)(w:World)(a:Act)(hop:∀z∈o.op.operands,Ag E h w (ev s.t z) (a.eval z)):∃vs:List Value,Ak E h w (c.args.toList.map (ev s.t)++cap) vs/\(execOp a.eval o).run P w=.ok (.enter g vs.toArray) w:=by
 have hfo:fo∈o.op.operands:=by rw[ho];simp[Op.operands,Call.operands,hc]
 have hargs:∀z∈c.args,z∈o.op.operands:=fun z hz=>by rw[ho];simp[Op.operands,Call.operands,hz]
 have hcallee:∃us:List Value,a.eval fo=.func (.func g) #[] us.toArray/\Ak E h w cap us:=by
  have h1:=hop fo hfo
  unfold callee at hcal
  split at hcal
  ·rename_i f' cap' ef
   obtain⟨rfl,rfl⟩:f'=g/\cap'=cap:=by simpa using hcal
   rw[ef]at h1;simpa only[Ag]using h1
  ·rename_i f' t x' ef
   obtain⟨rfl,rfl⟩:f'=g/\ups t x'=cap:=by simpa using hcal
   rw[ef]at h1
   simp only[Ag,B5]at h1
   obtain⟨us,e1,h2⟩:=h1
   exact⟨us,by simpa using e1,eC t h2⟩
  ·cases hcal
 obtain⟨us,e1,hus⟩:=hcallee
 refine⟨(c.args.map a.eval).toList++us,Ak.append (Ak.of (by simp) fun i h1 h2=>?_) hus,?_⟩
 ·simp only[List.getElem_map,Array.toList_map]
  exact hop _ (hargs _ (by simp))
 ·simp only[execOp,ho,resolve,hc,e1,Deferred.ofValue,Sem.run_bind,Sem.run_pure,Result.andThen_ok,invoke,callFunc,run_program]
  rw[hfn]
  simp only[hnum,hbody,Bool.false_eq_true,if_false,Sem.run_pure]
  simp
theorem Rg {f:FuncId}{args:List AV}:{es:List Ent}->{e:Ent}->W8 f args es=some e->e∈es/\e.f=f
 |[],_,h=>by cases h
 |a::es,e,h=>by
  unfold W8 at h
  split at h
  ·obtain⟨h1,h2⟩:=PT h;exact⟨zKk _ h1,h2⟩
  ·obtain⟨h1,h2⟩:=Rg h;exact⟨zKk _ h1,h2⟩
theorem aH {R:Type}(e:Ent)(base:Nat)(h:Am)(ρ:Ren)(args:List AV)(K:AV->Bx->Option R):WH e base h ρ args K=aG e base h ρ args K none:=by
 have hb:∀{α:Type} (o:Option α) (f:α->Option R),o.bind f=Td o f none:=by intro α o f;cases o<;>rfl
 unfold WH aG
 simp only[hb]
def WP (P:Program)(f:FuncId)(h:Am)(as:List AV)(v:AV)(δ:Bx):Prop:=
 ∀(F:Fr) (E:Env) (w:World) (vs:List Value),Inv F E h w->Ak E h w as vs->Calls P f vs.toArray w fun e w'=>∃val E',e=.returned val/\Inv F E' (apD h δ) w'/\Keep E h w E' (apD h δ) w'/\Ag E' (apD h δ) w' v val
theorem R7 {R:Type}(HE:∀e∈C.ents,Aj P e){base:Nat}{s:St}{g:FuncId}{as:List AV}{K:AV->Bx->Option R}{z:R}
 {en:Ent}(hmem:en∈C.ents)(hf:en.f=g){ρ:Ren}{no:Option R}(e:aG en base s.h ρ as K no=some z):(∃v δ,K v δ=some z/\∀h,BM s.h h->(∀j,j<en.to.hs.len->h.getD (base+j) none=none)->WP P g h as v δ)\/no=some z:=by
 obtain⟨⟨fn,hfn,hnum,hbody⟩,hspec⟩:=HE en hmem
 unfold aG at e
 split at e
 case isFalse=>cases e
 rename_i hcond
 simp only[zJq]at hcond
 obtain⟨⟨⟨⟨hren,hkinds⟩,hshort⟩,hfl⟩,hkb⟩:=hcond
 have hshort:=Nat.le_of_ble_eq_true hshort
 obtain⟨hnd,_⟩:=PN hren
 obtain⟨δ0,e1,hconv⟩:=JX _ e
 obtain⟨x,e2,hst,hvals⟩:=PP e1
 unfold Td at e2
 split at e2
 case h_2=>exact .inr e2
 rename_i y hy
 have e3:=e2
 left
 refine⟨_,_,e3,fun h hs hfree=>?_⟩
 intro F E w vs hI hall
 subst hf
 obtain⟨E1,HI,hK⟩:=(hconv h hs).2 F E w hI
 have hnone:=(hconv h hs).1
 have hs1:BM (apD s.h δ0) (apD h δ0):=hs.apD δ0
 have hall1:=C4 hK _ hall
 revert hst hvals e3
 generalize hbr:en.to.flat=br
 generalize hhp:(if br then Py (apD s.h δ0) (dB ρ en.ti.hs 0)else roH (apD s.h δ0))=hp
 intro hst hvals e3
 let J:Nat->Prop:=fun b=>E1.I b\/(br=true/\∃r κ n,E1.ι r κ=some (b,n)/\¬∃q c,ρ.getD q none=some r/\(en.ti.objs0 x).getD q none=some c/\c.ro=false)
 have hpk:PackOK hp E1 (apD h δ0) w J:=by
  refine⟨fun b hb=>.inl hb,?_,.inr HI.heap,fun r c hcc κ b n h1=>?_⟩
  ·rw[<-hhp]
   cases br with
   |false=>exact hs1.ro
   |true=>
    intro r c hcc hd
    simp only[if_true]at hcc
    rw[Ni]at hcc
    split at hcc
    ·cases hcc
    ·exact hs1 r c hcc hd
  ·rw[<-hhp]at hcc
   cases br with
   |false=>
    left
    simp only[Bool.false_eq_true,if_false]at hcc
    rw[OF]at hcc
    refine HI.heap.roI r κ b n h1 ?_
    cases e4:(apD s.h δ0).getD r none with
    |none=>rw[e4]at hcc;cases hcc
    |some c'=>
     rw[e4]at hcc
     by_cases hcr:c'.ro=true
     ·have:∀(n l:Nat),c'≠.shp n l:=by rintro n l rfl;cases hcr
      rw[B9 (hs1.lst e4 (by rintro rfl;cases hcr) this)];exact hcr
     ·simp only[hcr,Bool.false_eq_true,if_false]at hcc;cases hcc
   |true=>
    refine .inr ⟨rfl,r,κ,n,h1,?_⟩
    rintro⟨q,c',h2,h3,h4⟩
    simp only[if_true]at hcc
    rw[Ni,if_pos]at hcc
    ·cases hcc
    ·exact rX en.ti.hs 0 _ q c' h3 h4 r (by rw[zJj];exact h2)
 have hlen0:(en.ti.objs0 x).length=en.ti.hs.len:=Gd en.ti.hs 0 _
 have hsrc:∀q,q<en.ti.hs.len->∃c,(en.ti.objs0 x).getD q none=some c/\sM br 0 en.ti.hs.len (apD h δ0) (apD s.h δ0) hp ρ en.ti.hs.ver q c:=by
  intro q hq
  have h1:=hst q hq
  cases ho':(en.ti.objs0 x).getD q none with
  |some c=>rw[ho']at h1;exact⟨c,rfl,h1.src hs1⟩
  |none=>
   rw[ho']at h1
   rcases h1 with h1|⟨_,h1,_⟩|⟨_,h1⟩|⟨r,_,h1⟩
   ·cases h1
   ·omega
   ·rcases h1 with⟨_,_,h1⟩|⟨_,_,h1⟩<;>cases h1
   ·rcases h1 with⟨_,_,_,_,_,h1,_⟩|⟨_,_,_,_,_,_,h1,_⟩|⟨_,_,_,_,h1,_⟩<;>cases h1
 have hbig:∀q,en.ti.hs.len<=q->(en.ti.objs0 x).getD q none=none:=fun q hq=>Kh (by rw[hlen0];exact hq)
 have hro1:∀q r c,ρ.getD q none=some r->(en.ti.objs0 x).getD q none=some c->c≠.dead->c.ro=false->DV (apD h δ0) r=false:=by
  intro q r c hr hcc hd hcr
  have hq:q<en.ti.hs.len:=by
   rcases Nat.lt_or_ge q en.ti.hs.len with h1|h1
   ·exact h1
   ·rw[hbig q h1]at hcc;cases hcc
  obtain⟨c',h1,h2⟩:=hsrc q hq
  rw[hcc]at h1;obtain rfl:c=c':=by simpa using h1
  rcases h2 with rfl|⟨h3,_⟩|⟨r',h3,h4⟩
  ·exact absurd rfl hd
  ·rw[hr]at h3;cases h3
  ·rw[hr]at h3;obtain rfl:r=r':=by simpa using h3
   rcases h4 with⟨ro,ro',t,xs,h5,rfl,h6⟩|⟨ro,ro',v',t,xs,h5,rfl,h6,_⟩|⟨k,cs,cs',h5,rfl,_⟩
   ·obtain rfl:ro=false:=hcr
    rw[B9 h5];cases ro'<;>first|rfl|cases h6
   ·obtain rfl:ro=false:=hcr
    rw[B9 h5];cases ro'<;>first|rfl|cases h6
   ·rw[B9 h5];rfl
 have hHeap:HeapOK (E1.ren (en.ti.objs0 x) ρ J) (en.ti.objs0 x) w:=by
  refine X7 HI.heap hs1 hsrc hbig hpk hnd (fun b hb=>?_) (fun q r κ b n hr hro hex h1 hJ=>?_) (fun q r κ b n hr hro h1=>?_)
  ·rcases hb with hb|⟨_,r,κ,n,h1,_⟩
   ·exact HI.heap.I_lt b hb
   ·exact HI.heap.own_lt b ⟨r,κ,n,h1⟩
  ·obtain⟨c,hcc,hd⟩:=hex
   have hcr:c.ro=false:=by rw[B9 hcc]at hro;exact hro
   rcases hJ with hJ|⟨_,r',κ',n',h2,h3⟩
   ·exact HI.heap.apart r κ b n h1 (hro1 q r c hr hcc hd hcr) hJ
   ·obtain⟨rfl,_⟩:=HI.heap.inj _ _ _ _ _ _ _ h1 h2
    exact h3 ⟨q,c,hr,hcc,hcr⟩
  ·cases hbr':br with
   |true=>
    refine .inr ⟨hbr',r,κ,n,h1,?_⟩
    rintro⟨q',c',h2,h3,h4⟩
    have:=R8 hnd hr h2
    subst this
    rw[B9 h3,h4]at hro;cases hro
   |false=>
    left
    refine HI.heap.roI r κ b n h1 ?_
    unfold DV at hro
    split at hro
    ·rename_i c hcc
     have hq:q<en.ti.hs.len:=by
      rcases Nat.lt_or_ge q en.ti.hs.len with h1|h1
      ·exact h1
      ·rw[hbig q h1]at hcc;cases hcc
     obtain⟨c',h1,h2⟩:=hsrc q hq
     rw[hcc]at h1;obtain rfl:c=c':=by simpa using h1
     subst hbr'
     rcases h2 with rfl|⟨h3,_⟩|⟨r',h3,h4⟩
     ·cases hro
     ·rw[hr]at h3;cases h3
     ·rw[hr]at h3;obtain rfl:r=r':=by simpa using h3
      rcases h4 with⟨ro,ro',t,xs,h5,rfl,h6⟩|⟨ro,ro',v',t,xs,h5,rfl,h6,_⟩|⟨k,cs,cs',h5,rfl,_⟩
      ·obtain rfl:ro=true:=hro
       rw[B9 h5];cases ro'<;>first|rfl|cases h6
      ·obtain rfl:ro=true:=hro
       rw[B9 h5];cases ro'<;>first|rfl|cases h6
      ·cases hro
    ·cases hro
 have hargs:=hvals _ _ _ _ _ (Ug hs1 hsrc hpk) vs hall1
 refine(hspec x y hy _ w vs hHeap hargs).mono ?_
 rintro en' w' ⟨us,Ec,rfl,HC,hres⟩
 have hfree1:∀j,j<en.to.hs.len->(apD h δ0).getD (base+j) none=none:=fun j hj=>hnone _ (hfree j hj)
 have X:Cx br en.ti.hs.len en.to.hs.len base (apD s.h δ0) hp ρ en.ti.hs.ver en.to.hs.ver (en.ti.objs0 x) (en.to.objs0 y) (en.to.objs (rho ρ base) (JB (apD s.h δ0) ρ en.to.hs.ver) y) J F E1 (apD h δ0) w Ec w':=by
  have hfl2:en.to.fl br=true:=by rw[<-hbr];exact hfl
  obtain⟨hf1,hf2⟩:=Mh hfl2
  have hwr:=(RV (nm:=rho ρ base) (nu:=JB (apD s.h δ0) ρ en.to.hs.ver) (ver:=en.to.hs.ver) en.to.ts hf1 en.to.hs.ty y).1
  have hks:=fun q=>Wg en.ti.hs en.to.hs hkinds 0 id en.ti.hs.ver (en.ti.ts.write id en.ti.hs.ver en.ti.hs.ty x).2 (en.to.ts.write (rho ρ base) (JB (apD s.h δ0) ρ en.to.hs.ver) en.to.hs.ty y).2 (rho ρ base) (JB (apD s.h δ0) ρ en.to.hs.ver) 0 (fun k=>by rw[zJj]) q
  refine⟨hs1,HI,hnd,hst,hbig,fun q hq=>(hks q).1 hq,fun q h1 h2=>(hks q).2 h1 h2,fun q=>?_,Gd en.to.hs 0 _,ZO _ _ hkinds,fun q hq=>Kh (by omega),hfree1,fun q hq h1=>?_,fun q hq h1=>?_,fun b hb=>.inl hb,fun hb b hJ=>?_,HC⟩
  ·have:=rm (nm:=rho ρ base) (nu:=JB (apD s.h δ0) ρ en.to.hs.ver) (ver:=en.to.hs.ver) en.to.hs hf2 0 (en.to.ts.write id en.to.hs.ver en.to.hs.ty y).2 q
   rw[zJj]at this
   show Two br _ _ _ q _ ((en.to.hs.write (rho ρ base) (JB (apD s.h δ0) ρ en.to.hs.ver) 0 (en.to.ts.write (rho ρ base) (JB (apD s.h δ0) ρ en.to.hs.ver) en.to.hs.ty y).2).getD q none)
   rw[hwr];exact this
  ·have:=dK (ρ:=ρ) en.to.hs 0 hkb _ q hq h1
   rw[zJj]at this;exact this
  ·rcases Nat.lt_or_ge q en.ti.hs.len with h2|h2
   ·exact(Qq en.ti.hs en.to.hs hkinds 0 id en.ti.hs.ver (en.ti.ts.write id en.ti.hs.ver en.ti.hs.ty x).2 _ _ _ 0 (fun k=>by rw[zJj]) q h2 h1).1
   ·obtain⟨c,h3,_⟩:=(hks q).2 h2 hq
    have h1':((en.to.hs.write (rho ρ base) (JB (apD s.h δ0) ρ en.to.hs.ver) 0 (en.to.ts.write (rho ρ base) (JB (apD s.h δ0) ρ en.to.hs.ver) en.to.hs.ty y).2).getD q none)=none:=h1
    rw[h3]at h1';cases h1'
  ·rcases hJ with hJ|⟨h1,_⟩
   ·exact hJ
   ·rw[hb]at h1;cases h1
 obtain⟨g1,g2⟩:=X.inv
 have hfl2:en.to.fl br=true:=by rw[<-hbr];exact hfl
 have hval:=(RV (nm:=rho ρ base) (nu:=JB (apD s.h δ0) ρ en.to.hs.ver) (ver:=en.to.hs.ver) en.to.ts (Mh hfl2).1 en.to.hs.ty y).2 _ _ _ _ _ X.up us hres
 have hap:apD (apD h δ0) (D6 ρ base 0 (en.to.objs (rho ρ base) (JB (apD s.h δ0) ρ en.to.hs.ver) y))=apD h (δ0++D6 ρ base 0 (en.to.objs (rho ρ base) (JB (apD s.h δ0) ρ en.to.hs.ver) y)):=KE _ _ _
 rw[hap]at g1 g2 hval
 exact⟨_,_,rfl,g1,hK.trans g2,ry hval⟩
theorem Q7 {R:Type}(HE:∀e∈C.ents,Aj P e){base:Nat}{s:St}{g:FuncId}{as:List AV}{K:AV->Bx->Option R}{z:R}(e:SZ C base s.h g as K=some z):
 (∃fn,P.funcs[g]? =some fn/\(fn.name== "runtime.NumGoroutine")=false/\fn.body.isNone=false)/\∃v δ,K v δ=some z/\∀h,BM s.h h->(∀j,j+1<C.cs->h.getD (base+j) none=none)->WP P g h as v δ:=by
 unfold SZ at e
 split at e
 case h_2=>cases e
 rename_i en hen
 obtain⟨hmem,hf⟩:=PT hen
 refine⟨by rw[<-hf];exact(HE en hmem).1,?_⟩
 split at e
 case isFalse=>cases e
 rename_i hcs
 have hcs:=Nat.le_of_ble_eq_true hcs
 split at e
 ·split at e
  case h_2=>cases e
  rename_i e2 he2
  obtain⟨hmem2,hf2⟩:=Rg he2
  split at e
  case isFalse=>cases e
  rename_i hcs2
  have hcs2:=Nat.le_of_ble_eq_true hcs2
  rcases R7 HE hmem hf e with⟨v,δ,h1,h2⟩|h1
  ·exact⟨v,δ,h1,fun h hs hfree=>h2 h hs fun j hj=>hfree j (by omega)⟩
  ·rw[aH]at h1
   rcases R7 HE hmem2 hf2 h1 with⟨v,δ,h1,h2⟩|h2
   ·exact⟨v,δ,h1,fun h hs hfree=>h2 h hs fun j hj=>hfree j (by omega)⟩
   ·cases h2
 ·rw[aH]at e
  rcases R7 HE hmem hf e with⟨v,δ,h1,h2⟩|h2
  ·exact⟨v,δ,h1,fun h hs hfree=>h2 h hs fun j hj=>hfree j (by omega)⟩
  ·cases h2
theorem sC {R:Type}(HE:∀e∈C.ents,Aj P e){base:Nat}{s:St}{g:FuncId}{as:List AV}{K:AV->Bx->Option R}{z:R}(e:qZ C base s.h g as K=some z):
 (∃fn,P.funcs[g]? =some fn/\(fn.name== "runtime.NumGoroutine")=false/\fn.body.isNone=false)/\∃v δ,K v δ=some z/\∀h,BM s.h h->(∀j,j<C.cs->h.getD (base+j) none=none)->WP P g h as v δ:=by
 unfold qZ Agp at e
 split at e
 ·obtain⟨h0,v,δ,h1,h2⟩:=Q7 HE e
  exact⟨h0,v,δ,h1,fun h hs hfree=>h2 h hs fun j hj=>hfree j (by omega)⟩
 ·split at e
  ·rename_i q i k v0 rest
   split at e
   case h_2=>cases e
   rename_i ver t xs hq
   split at e
   case isFalse=>cases e
   rename_i hv
   subst hv
   obtain⟨x,hx,e⟩:=Bf e
   obtain⟨hi,rfl⟩:=zQj.1 hx
   split at e
   case h_2=>cases e
   rename_i u ys hk
   obtain⟨h0,v,δ,h1,h2⟩:=Q7 (s:=⟨s.t,apD s.h [(q,.tree false (v0+1) t xs (some (i,k))),(base,.lst false u ys)]⟩) HE e
   refine⟨h0,v,_,h1,fun h hs hfree=>?_⟩
   intro F E w vs hI hall
   have hc:=hs.lst hq (by simp) (by simp)
   by_cases hcs:0<C.cs
   ·have hb:=hfree 0 hcs
    rw[Nat.add_zero]at hb
    obtain⟨E1,g1,g2,g3⟩:=qI hI hc hi hk hb
    simp only[Ak]at hall
    obtain⟨p,us,rfl,hp,hr⟩:=hall
    simp only[Ag]at hp
    have h3:=h2 (apD h [(q,.tree false (v0+1) t xs (some (i,k))),(base,.lst false u ys)]) (hs.apD [(q,.tree false (v0+1) t xs (some (i,k))),(base,.lst false u ys)]) (fun j hj=>by
     have hn:=hfree (j+1) hj
     have hne:base+1+j≠q:=by rintro rfl;rw[show base+1+j=base+(j+1) by omega,hn]at hc;cases hc
     simp only[apD]
     rw[An,if_neg (by omega),An,if_neg hne,show base+1+j=base+(j+1) by omega];exact hn) F E1 w (p::us) g1 (Ak.cons (by simp only[Ag];exact g3 p hp) (C4 g2 _ hr))
    refine h3.mono ?_
    rintro e' w' ⟨val,E',rfl,k1,k2,k3⟩
    rw[<-KE]
    exact⟨val,E',rfl,k1,g2.trans k2,k3⟩
   ·exfalso
    have e':SZ C (base+1) (apD s.h [(q,.tree false (v0+1) t xs (some (i,k))),(base,.lst false u ys)]) g (.own base none none::rest) (fun v δ=>K v ([(q,Cont.tree false (v0+1) t xs (some (i,k))),(base,Cont.lst false u ys)]++δ))=some z:=e
    unfold SZ at e'
    split at e'
    ·rename_i en _
     split at e'
     ·rename_i hh;have:=Nat.le_of_ble_eq_true hh;omega
     ·cases e'
    ·cases e'
  ·obtain⟨h0,v,δ,h1,h2⟩:=Q7 HE e
   exact⟨h0,v,δ,h1,fun h hs hfree=>h2 h hs fun j hj=>hfree j (by omega)⟩
theorem A8n {R:Type}(HE:∀e∈C.ents,Aj P e){base:Nat}{s:St}{o:Oper}{c:Call}{fo:Operand}{g:FuncId}{cap:List AV}{K:AV->Bx->Option R}{z:R}(ho:o.op=.call c)(hc:c.callee=.value fo)(hcal:callee (ev s.t fo)=some (g,cap))
 (e:qZ C base s.h g (c.args.toList.map (ev s.t)++cap) K=some z):∃v δ,K v δ=some z/\∀h,BM s.h h->(∀j,j<IV C o->h.getD (base+j) none=none)->Ml P s.t h o v δ:=by
 have hslots:IV C o=C.cs:=by unfold IV;simp only[ho,hc]
 obtain⟨⟨fn,hfn,hnum,hbody⟩,v,δ,h1,h2⟩:=sC HE e
 refine⟨v,δ,h1,fun h hs hfree=>?_⟩
 intro F E w a next Q hI hop hk
 obtain⟨vs,hall,hrun⟩:=sB ho hc hcal hfn hnum hbody h E w a hop
 unfold Oper.wp
 rw[hrun,Oper.upon_enter]
 refine(h2 h hs (fun j hj=>hfree j (by rw[hslots];exact hj)) F E w vs hI hall).mono ?_
 rintro e' w' ⟨val,E',rfl,g1,g2,g3⟩
 exact hk val E' w' g1 g2 g3
end
end Go.Ab
end
section
namespace Go.Ab
open Go.RowKit
theorem Lq {α:Type}{l:List α}{f:α×Nat->Bool}(h:l.zipIdx.all f=true){i:Nat}{a:α}(hi:l[i]? =some a):f (a,i)=true:=by
 refine List.all_eq_true.1 h _ ?_
 rw[List.mem_iff_getElem?]
 exact⟨i,by simp[hi]⟩
section
variable {ops:Array Oper}(H:Og ops=true)
include H
theorem Ajc {i:Nat}{o:Oper}(ho:ops[i]? =some o){e:Edge}(he:e∈o.after)(hb:Region.binds .any e=true):e.on<i:=by
 unfold Og at H;simp only[zJq]at H
 have:=Lq H.1.1 (show ops.toList[i]? =some o by simpa using ho)
 have:=Array.all_eq_true_iff_forall_mem.1 this e he
 simpa[hb]using this
theorem RD {i j:Nat}{o p:Oper}(ho:ops[i]? =some o)(hp:ops[j]? =some p){d:Tmp}(h1:o.dst=some d)(h2:p.dst=some d):i=j:=by
 unfold Og at H;simp only[zJq]at H
 have:=Lq H.1.2 (show ops.toList[i]? =some o by simpa using ho)
 have:=Lq this (show ops.toList[j]? =some p by simpa using hp)
 simpa[h1,h2]using this
theorem tm {i j:Nat}{o p:Oper}(ho:ops[j]? =some o)(hp:ops[i]? =some p){t:Tmp}(ht:t∈ZY ops o)(hd:p.dst=some t)(hne:j≠i):(i<j/\aft o i=true)\/(j<i/\aft p j=true):=by
 unfold Og at H;simp only[zJq]at H
 have:=Lq H.2 (show ops.toList[j]? =some o by simpa using ho)
 have:=List.all_eq_true.1 this t ht
 have:=Lq this (show ops.toList[i]? =some p by simpa using hp)
 simpa[hne,hd]using this
end
theorem aQ {o:Oper}{i:Nat}(h:aft o i=true):∃e∈o.after,Region.binds .any e=true/\e.on=i:=by
 unfold aft at h
 obtain⟨e,he,hb⟩:=Array.any_eq_true'.1 h
 simp only[zJq,beq_iff_eq]at hb
 exact⟨e,he,hb.1,hb.2⟩
inductive Anc (ops:Array Oper)(k:Nat):Nat->Prop
 |one {i:Nat} {o:Oper} {e:Edge}:ops[i]? =some o->e∈o.after->Region.binds .any e=true->e.on=k->Anc ops k i
 |step {i:Nat} {o:Oper} {e:Edge}:ops[i]? =some o->e∈o.after->Region.binds .any e=true->Anc ops k e.on->Anc ops k i
theorem PW {acc:List Nat}{k:Nat}:(es:List Edge)->Nat.testBit (SM acc es) k=true->∃e∈es,Region.binds .any e=true/\(e.on=k\/Nat.testBit (acc.getD e.on 0) k=true)
 |[],h=>by simp[SM]at h
 |e::es,h=>by
  unfold SM at h
  split at h
  ·rename_i hb
   have h:Nat.testBit ((2 ^ e.on ||| acc.getD e.on 0) ||| SM acc es) k=true:=h
   rw[Nat.testBit_or,Nat.testBit_or,Bool.or_eq_true,Bool.or_eq_true]at h
   rcases h with(h|h)|h
   ·rw[Nat.testBit_two_pow]at h
    exact⟨e,by simp,hb,.inl (by simpa using h)⟩
   ·exact⟨e,by simp,hb,.inr h⟩
   ·obtain⟨e',h1,h2⟩:=PW es h
    exact⟨e',by simp[h1],h2⟩
  ·obtain⟨e',h1,h2⟩:=PW es h
   exact⟨e',by simp[h1],h2⟩
theorem SL {ops:Array Oper}:(l:List Oper)->(acc:List Nat)->(∀i,i<acc.length->∀k,Nat.testBit (acc.getD i 0) k=true->Anc ops k i)->(∀i o,l[i]? =some o->ops[acc.length+i]? =some o)->
 ∀i k,Nat.testBit ((LV l acc).getD i 0) k=true->Anc ops k i
 |[],acc,ha,_,i,k,h=>by
  unfold LV at h
  by_cases hi:i<acc.length
  ·exact ha i hi k h
  ·rw[zKz,List.getElem?_eq_none (by omega)]at h;simp at h
 |o::l,acc,ha,hl,i,k,h=>by
  unfold LV at h
  refine SL l _ (fun j hj k' hk'=>?_) (fun j o' ho'=>?_) i k h
  ·by_cases hj2:j<acc.length
   ·rw[zKz,List.getElem?_append_left hj2,<-zKz]at hk'
    exact ha j hj2 k' hk'
   ·have hj3:j=acc.length:=by simp at hj;omega
    subst hj3
    rw[zKz,List.getElem?_append_right (by omega)]at hk'
    simp only[Nat.sub_self,List.getElem?_cons_zero,Option.getD_some]at hk'
    obtain⟨e,h1,h2,h3⟩:=PW _ hk'
    have ho:=hl 0 o (by simp)
    rw[Nat.add_zero]at ho
    rcases h3 with h3|h3
    ·exact .one ho (by simpa using h1) h2 h3
    ·by_cases hlt:e.on<acc.length
     ·exact .step ho (by simpa using h1) h2 (ha _ hlt _ h3)
     ·rw[zKz,List.getElem?_eq_none (by omega)]at h3;simp at h3
  ·have:=hl (j+1) o' (by simpa using ho')
   simp only[zJk,List.length_cons,List.length_nil]
   rw[show acc.length+(0+1)+j=acc.length+(j+1) by omega];exact this
theorem Anc.down {ops:Array Oper}{L:Array Bool}(hd:∀(i:Nat) (o:Oper) (e:Edge),L.getD i false=true->ops[i]? =some o->e∈o.after->Region.binds .any e=true->L.getD e.on false=true){k i:Nat}(h:Anc ops k i):L.getD i false=true->L.getD k false=true:=by
 induction h with
 |one h1 h2 h3 h4=>intro hi;subst h4;exact hd _ _ _ hi h1 h2 h3
 |step h1 h2 h3 _ ih=>intro hi;exact ih (hd _ _ _ hi h1 h2 h3)
theorem Anc.ready {ops:Array Oper}{L:Array Bool}(hd:∀(i:Nat) (o:Oper) (e:Edge),L.getD i false=true->ops[i]? =some o->e∈o.after->Region.binds .any e=true->L.getD e.on false=true){k i:Nat}(h:Anc ops k i){o:Oper}(ho:ops[i]? =some o)(hr:∀e∈o.after,Region.binds .any e=true->L.getD e.on false=true):L.getD k false=true:=by
 cases h with
 |one h1 h2 h3 h4=>rw[ho]at h1;obtain rfl:o=_:=by simpa using h1
                   subst h4;exact hr _ h2 h3
 |step h1 h2 h3 h4=>rw[ho]at h1;obtain rfl:o=_:=by simpa using h1
                    exact h4.down hd (hr _ h2 h3)
end Go.Ab
end
section
namespace Go.Ab
open Go.RowKit
theorem Wx {F:Fr}{E:Env}{h h':Am}{w:World}(e:∀r,h'.getD r none=h.getD r none)(H:Inv F E h w):Inv F E h' w/\Keep E h w E h' w:=by
 have T:Touch (fun _=>False) E h w E h' w:=
  {hh:=fun r _=>e r,hι:=fun _ _ _=>rfl,II:=fun _ hb=>hb,size:=zQq _,os:=rfl,tape:=rfl,output:=⟨rfl,zQq _⟩,blk:=fun _ _ _=>rfl,asz:=fun b a t ha=>⟨a,ha,rfl⟩,
   off:=fun _ _ h=>h.elim,on:=fun _ _ _ h=>h.elim,som:=fun _ h=>h.elim,fix:=fun _ h=>h.elim,obj:=fun _ _ _ _ h=>h.elim,siz:=fun _ _ _ _ _ h=>h.elim,from_:=fun _ _ _ _ h=>h.elim,
   inj:=fun _ _ _ _ _ _ _ h=>h.elim,live:=fun _ _ _ h=>h.elim,Inew:=fun _ hb=>.inl hb,apart:=fun _ _ _ _ h=>h.elim,roI:=fun _ _ _ _ h=>h.elim}
 exact T.inv H
theorem Qb {δ:Bx}{r:Nat}:r∈Fm δ↔∃c,(r,c)∈δ:=by
 unfold Fm;simp
theorem Pf:(δ:Bx)->{h h':Am}->{r:Nat}->r∈Fm δ->(apD h δ).getD r none=(apD h' δ).getD r none/\∃c,(apD h δ).getD r none=some c
 |[],h,h',r,hr=>by simp[Fm]at hr
 |p::δ,h,h',r,hr=>by
  by_cases h1:r∈Fm δ
  ·exact Pf δ h1
  ·have hn:∀c,(r,c)∉δ:=fun c hc=>h1 (Qb.2 ⟨c,hc⟩)
   have hp:r=p.1:=by
    simp only[Fm,List.map_cons,List.mem_cons]at hr
    rcases hr with hr|hr
    ·exact hr
    ·exact absurd hr h1
   subst hp
   simp only[apD]
   rw[Pg δ hn,Pg δ hn,An,if_pos rfl,An,if_pos rfl]
   exact⟨rfl,_,rfl⟩
theorem Mj {δ:Bx}{h:Am}{r:Nat}(hr:r∉Fm δ):(apD h δ).getD r none=h.getD r none:=Pg δ fun c hc=>hr (Qb.2 ⟨c,hc⟩)
theorem sJ {δ:Bx}{h:Am}{r:Nat}{c:Cont}(hc:h.getD r none=some c):∃c,(apD h δ).getD r none=some c:=by
 by_cases hr:r∈Fm δ
 ·exact(Pf (h':=h) δ hr).2
 ·rw[Mj hr];exact⟨c,hc⟩
def CO (h0:Am)(dels:List Bx):Nat->Am
 |0=>h0
 |i+1=>match dels[i]? with
  |some δ=>apD (CO h0 dels i) δ
  |none=>CO h0 dels i
def tch (dels:List Bx)(k r:Nat):Prop:=∃δ,dels[k]? =some δ/\r∈Fm δ
theorem KT {h0:Am}{dels:List Bx}{a b r:Nat}(hab:a<=b)(hn:∀k,a<=k->k<b->¬tch dels k r):(CO h0 dels b).getD r none=(CO h0 dels a).getD r none:=by
 induction b with
 |zero=>obtain rfl:a=0:=by omega
        rfl
 |succ b ih=>
  by_cases e:a=b+1
  ·subst e;rfl
  ·have ih:=ih (by omega) (fun k h1 h2=>hn k h1 (by omega))
   simp only[CO]
   split
   ·rename_i δ hδ
    rw[Mj (fun hr=>hn b (by omega) (by omega) ⟨δ,hδ,hr⟩)];exact ih
   ·exact ih
theorem al {h0:Am}{dels:List Bx}{a b r:Nat}(hab:a<=b){c:Cont}(hc:(CO h0 dels a).getD r none=some c):∃c,(CO h0 dels b).getD r none=some c:=by
 induction b with
 |zero=>obtain rfl:a=0:=by omega
        exact⟨c,hc⟩
 |succ b ih=>
  by_cases e:a=b+1
  ·subst e;exact⟨c,hc⟩
  ·obtain⟨c',ih⟩:=ih (by omega)
   simp only[CO]
   split
   ·exact sJ ih
   ·exact⟨c',ih⟩
theorem sX {h0:Am}{dels:List Bx}{k b r:Nat}(hk:tch dels k r)(hb:k<b):∃c,(CO h0 dels b).getD r none=some c:=by
 obtain⟨δ,h1,h2⟩:=hk
 have:∃c,(CO h0 dels (k+1)).getD r none=some c:=by
  simp only[CO,h1];exact(Pf (h':=h0) δ h2).2
 obtain⟨c,h3⟩:=this
 exact al hb h3
section
variable (P:Program)(ops:Array Oper)
def ed (T:List AV)(vis:Am)(base cnt:Nat)(o:Oper)(v:AV)(δ:Bx):Prop:=
 ∀h,BM vis h->(∀j,j<cnt->h.getD (base+j) none=none)->Ml P T h o v δ
def OO (T:List AV)(vis:Am)(base cnt:Nat)(o:Oper)(v:AV)(δ:Bx):Prop:=
 match o.guard with
 |none=>ed P T vis base cnt o v δ
 |some (j,want)=>∃d,(ops[j]?).bind (·.dst)=some d/\
   ((∃b,T.getD d .junk=.pv .bool b/\((b=want/\ed P T vis base cnt o v δ)\/(b≠want/\v=.undef/\δ=[])))\/(T.getD d .junk=.undef/\v=.undef/\δ=[]))
def Fn (T0:List AV)(vals:List AV):Nat->List AV
 |0=>T0
 |i+1=>match ops[i]?,vals[i]? with
  |some o,some v=>put (Fn T0 vals i) o.dst v
  |_,_=>Fn T0 vals i
end
section
variable {P:Program}{ops:Array Oper}{T0 vals:List AV}
theorem LW (i:Nat):(Fn ops T0 vals i).length=T0.length:=by
 induction i with
 |zero=>rfl
 |succ i ih=>
  simp only[Fn]
  split
  ·unfold put;split<;>simp[ih]
  ·exact ih
theorem P8 {i j:Nat}(hij:i<=j){t:Nat}(hno:∀k o,i<=k->k<j->ops[k]? =some o->o.dst≠some t):(Fn ops T0 vals j)[t]? =(Fn ops T0 vals i)[t]?:=by
 induction j with
 |zero=>have:i=0:=by omega
        subst this;rfl
 |succ j ih=>
  by_cases e:i=j+1
  ·subst e;rfl
  ·have ih:=ih (by omega) (fun k o h1 h2 h3=>hno k o h1 (by omega) h3)
   simp only[Fn]
   split
   ·rename_i o v ho hv
    have:=hno j o (by omega) (by omega) ho
    unfold put
    split
    ·rename_i d hd
     rw[List.getElem?_set_ne (by rintro rfl;exact this hd)];exact ih
    ·exact ih
   ·exact ih
theorem qG (H:Og ops=true){i j:Nat}{o:Oper}{v:AV}(hij:i<j)(ho:ops[i]? =some o)(hv:vals[i]? =some v){d:Tmp}(hd:o.dst=some d)(hlt:d<T0.length):(Fn ops T0 vals j)[d]? =some v:=by
 rw[P8 (i:=i+1) (by omega) (fun k p h1 h2 hp hdp=>by have:=RD H ho hp hd hdp;omega)]
 simp only[Fn,ho,hv,put,hd]
 rw[List.getElem?_set_self (by rw[LW];exact hlt)]
structure AnyInv (ops:Array Oper)(h0:Am)(dels:List Bx)(T0 vals:List AV)(d0:List Deferred)(F:Fr)(L:Array Bool)(h:Am)(E:Env)(a:Act)(w:World):Prop where
 inv:Inv F E h w
 sz:T0.length=a.tmps.size
 don:∀(i:Nat) (o:Oper) (d:Tmp) (v:AV),L.getD i false=true->ops[i]? =some o->o.dst=some d->vals[i]? =some v->∀val,a.tmps[d]? =some val->Ag E h w v val
 rest:∀(t:Nat) (c:AV),T0[t]? =some c->(∀(i:Nat) (o:Oper),L.getD i false=true->ops[i]? =some o->o.dst≠some t)->∃val,a.tmps[t]? =some val/\Ag E h w c val
 down:∀(i:Nat) (o:Oper) (e:Edge),L.getD i false=true->ops[i]? =some o->e∈o.after->Region.binds .any e=true->L.getD e.on false=true
 lsz:L.size=ops.size
 defers:a.defers=d0
 hp:∀r,∃b,b<=ops.size/\(∀k,tch dels k r->(L.getD k false=true↔k<b))/\h.getD r none=(CO h0 dels b).getD r none
theorem HH {L:Array Bool}{i j:Nat}(hi:i<L.size):(L.setIfInBounds i true).getD j false=true↔j=i\/L.getD j false=true:=by
 by_cases e:i=j
 ·subst e;simp[hi]
 ·rw[getD_set_ne false e]
  exact⟨.inr,fun hh=>hh.elim (fun h1=>absurd h1.symm e) id⟩
variable {h0:Am}{dels:List Bx}
theorem sg (H:Og ops=true)(hlen:vals.length=ops.size){d0:List Deferred}{F:Fr}{L:Array Bool}{h:Am}{E:Env}{a:Act}{w:World}(A:AnyInv ops h0 dels T0 vals d0 F L h E a w)
 {j:Nat}{o:Oper}(ho:ops[j]? =some o)(hun:L.getD j false=false)(hready:∀e∈o.after,Region.binds .any e=true->L.getD e.on false=true){t:Tmp}(ht:t∈ZY ops o):
 Ag E h w ((Fn ops T0 vals j).getD t .junk) (a.tmps.getD t undef):=by
 have hjlt:j<ops.size:=(Array.getElem?_eq_some_iff.1 ho).1
 by_cases hlt:t<T0.length
 ·have hval:∃val,a.tmps[t]? =some val:=⟨a.tmps[t]'(A.sz▸hlt),by simp[A.sz▸hlt]⟩
  obtain⟨val,hval⟩:=hval
  have hv:a.tmps.getD t undef=val:=by simp[hval]
  rw[hv,zKz]
  by_cases hex:∃i p,ops[i]? =some p/\p.dst=some t/\j≠i
  ·obtain⟨i,p,hp,hd,hne⟩:=hex
   have hilt:i<ops.size:=(Array.getElem?_eq_some_iff.1 hp).1
   rcases tm H ho hp ht hd hne with⟨hij,ha⟩|⟨hji,ha⟩
   ·obtain⟨e,he,hb,rfl⟩:=aQ ha
    have hl:=hready e he hb
    obtain⟨v,hvi⟩:∃v,vals[e.on]? =some v:=⟨vals[e.on]'(by omega),by simp[hlen▸hilt]⟩
    rw[qG H hij hp hvi hd hlt]
    exact A.don _ p t v hl hp hd hvi val hval
   ·have hnot:∀(k:Nat) (q:Oper),L.getD k false=true->ops[k]? =some q->q.dst≠some t:=by
     intro k q hk hq hdq
     have:=RD H hp hq hd hdq
     subst this
     obtain⟨e,he,hb,hon⟩:=aQ ha
     have:=A.down i p e hk hp he hb
     rw[hon]at this
     rw[hun]at this;cases this
    obtain⟨c,hc⟩:∃c,T0[t]? =some c:=⟨T0[t],by simp[hlt]⟩
    obtain⟨val',h1,h2⟩:=A.rest t c hc hnot
    rw[hval]at h1;obtain rfl:val=val':=by simpa using h1
    have:(Fn ops T0 vals j)[t]? =T0[t]?:=P8 (i:=0) (j:=j) (Nat.zero_le _) (fun k q _ hk hq hdq=>by have e:=RD H hp hq hd hdq;exact absurd (Nat.lt_trans (e▸hji) hk) (Nat.lt_irrefl _))
    rw[this,hc];exact h2
  ·have hnot:∀(k:Nat) (q:Oper),L.getD k false=true->ops[k]? =some q->q.dst≠some t:=by
    intro k q hk hq hdq
    by_cases e:j=k
    ·subst e;rw[hun]at hk;cases hk
    ·exact hex ⟨k,q,hq,hdq,e⟩
   obtain⟨c,hc⟩:∃c,T0[t]? =some c:=⟨T0[t],by simp[hlt]⟩
   obtain⟨val',h1,h2⟩:=A.rest t c hc hnot
   rw[hval]at h1;obtain rfl:val=val':=by simpa using h1
   have:(Fn ops T0 vals j)[t]? =T0[t]?:=P8 (i:=0) (j:=j) (Nat.zero_le _) (fun k q _ hk hq hdq=>hex ⟨k,q,hq,hdq,Nat.ne_of_gt hk⟩)
   rw[this,hc];exact h2
 ·have:(Fn ops T0 vals j).getD t .junk=.junk:=by
   have hle:(Fn ops T0 vals j).length<=t:=by rw[LW];exact Nat.le_of_not_lt hlt
   rw[zKz,List.getElem?_eq_none hle];rfl
  rw[this];simp only[Ag]
structure TrOK (ops:Array Oper)(h0:Am)(dels:List Bx)(trs:List Tr):Prop where
 vis:∀i a,trs[i]? =some a->∀r c,a.vis.getD r none=some c->(CO h0 dels i).getD r none=some c/\∀k,k<i->tch dels k r->Anc ops k i
 apart:∀i k a r,k<i->trs[k]? =some a->tch dels i r->Anc ops k i\/(a.vis.getD r none=none/\¬tch dels k r/\¬(a.base<=r/\r<a.base+a.cnt))
 free:∀i a,trs[i]? =some a->∀j,j<a.cnt->(CO h0 dels i).getD (a.base+j) none=none
theorem AnyInv.shows {trs:List Tr}(TO:TrOK ops h0 dels trs)(hld:dels.length=ops.size){d0:List Deferred}{F:Fr}{L:Array Bool}{h:Am}{E:Env}{a:Act}{w:World}(A:AnyInv ops h0 dels T0 vals d0 F L h E a w)
 {j:Nat}{o:Oper}(ho:ops[j]? =some o)(hun:L.getD j false=false)(hready:∀e∈o.after,Region.binds .any e=true->L.getD e.on false=true){tr:Tr}(htr:trs[j]? =some tr):
 BM tr.vis h/\∀k,k<tr.cnt->h.getD (tr.base+k) none=none:=by
 have hanc:∀k,Anc ops k j->L.getD k false=true:=fun k hk=>hk.ready A.down ho hready
 have hnot:∀k,Anc ops j k->L.getD k false=true->False:=fun k hk hl=>by have:=hk.down A.down hl;rw[hun]at this;cases this
 constructor
 ·intro r c hc hd
  obtain⟨h1,h2⟩:=TO.vis j tr htr r c hc
  obtain⟨b,_,h3,h4⟩:=A.hp r
  left
  rw[h4,<-h1]
  rcases Nat.le_total b j with hbj|hjb
  ·exact(KT hbj fun k hk1 hk2 ht=>by
    have:=(h3 k ht).1 (hanc k (h2 k hk2 ht));omega).symm
  ·refine KT hjb fun k hk1 hk2 ht=>?_
   have hl:=(h3 k ht).2 hk2
   have hne:k≠j:=by rintro rfl;rw[hun]at hl;cases hl
   rcases TO.apart k j tr r (by omega) htr ht with h5|⟨h5,_⟩
   ·exact hnot k h5 hl
   ·rw[hc]at h5;cases h5
 ·intro x hx
  have h1:=TO.free j tr htr x hx
  obtain⟨b,_,h3,h4⟩:=A.hp (tr.base+x)
  rw[h4];refine Eq.trans ?_ h1
  rcases Nat.le_total b j with hbj|hjb
  ·exact(KT hbj fun k hk1 hk2 ht=>by
    obtain⟨c,h5⟩:=sX (h0:=h0) ht hk2
    rw[h1]at h5;cases h5).symm
  ·refine KT hjb fun k hk1 hk2 ht=>?_
   have hl:=(h3 k ht).2 hk2
   have hne:k≠j:=by rintro rfl;rw[hun]at hl;cases hl
   rcases TO.apart k j tr _ (by omega) htr ht with h5|⟨_,_,h5⟩
   ·exact hnot k h5 hl
   ·exact h5 ⟨by omega,by omega⟩
theorem AnyInv.step (H:Og ops=true){trs:List Tr}(TO:TrOK ops h0 dels trs){d0:List Deferred}{F:Fr}{L:Array Bool}{h:Am}{E E':Env}{a:Act}{w w':World}(A:AnyInv ops h0 dels T0 vals d0 F L h E a w)
 {j:Nat}{o:Oper}{v:AV}{δ:Bx}(hun:L.getD j false=false)(ho:ops[j]? =some o)(hv:vals[j]? =some v)(hδ:dels[j]? =some δ)(hI:Inv F E' (apD h δ) w')(hx:Keep E h w E' (apD h δ) w')(hready:∀e∈o.after,Region.binds .any e=true->L.getD e.on false=true)(hld:dels.length=ops.size)(htl:trs.length=ops.size){val:Value}(hval:Ag E' (apD h δ) w' v val):
 AnyInv ops h0 dels T0 vals d0 F (L.setIfInBounds j true) (apD h δ) E' (a.put o.dst val) w':=by
 have hjlt:j<L.size:=by rw[A.lsz];exact(Array.getElem?_eq_some_iff.1 ho).1
 refine⟨hI,?_,?_,?_,?_,by simpa using A.lsz,?_,fun r=>?_⟩
 ·rw[A.sz];cases hd:o.dst<;>simp[Act.put]
 ·intro i p d u hl hp hd hu val' hval'
  rcases(HH hjlt).1 hl with rfl|hl'
  ·rw[ho]at hp;obtain rfl:o=p:=by simpa using hp
   rw[hv]at hu;obtain rfl:v=u:=by simpa using hu
   simp only[Act.put,hd]at hval'
   rw[Array.getElem?_setIfInBounds]at hval'
   simp only[if_true]at hval'
   split at hval'
   ·obtain rfl:val=val':=by simpa using hval'
    exact hval
   ·cases hval'
  ·by_cases e:i=j
   ·subst e
    rw[ho]at hp;obtain rfl:o=p:=by simpa using hp
    rw[hv]at hu;obtain rfl:v=u:=by simpa using hu
    simp only[Act.put,hd]at hval'
    rw[Array.getElem?_setIfInBounds]at hval'
    simp only[if_true]at hval'
    split at hval'
    ·obtain rfl:val=val':=by simpa using hval'
     exact hval
    ·cases hval'
   ·have hne:o.dst≠some d:=fun hdo=>e (RD H hp ho hd hdo)
    have:(a.put o.dst val).tmps[d]? =a.tmps[d]?:=by
     cases hd':o.dst with
     |none=>rfl
     |some d'=>simp only[Act.put];rw[Array.getElem?_setIfInBounds_ne (by rintro rfl;exact hne hd')]
    rw[this]at hval'
    exact IZ hx u (A.don i p d u hl' hp hd hu val' hval')
 ·intro t c hc hno
  have hne:o.dst≠some t:=hno j o ((HH hjlt).2 (.inl rfl)) ho
  obtain⟨val',h1,h2⟩:=A.rest t c hc (fun i p hl hp=>hno i p ((HH hjlt).2 (.inr hl)) hp)
  refine⟨val',?_,IZ hx c h2⟩
  rw[<-h1]
  cases hd':o.dst with
  |none=>rfl
  |some d'=>simp only[Act.put];rw[Array.getElem?_setIfInBounds_ne (by rintro rfl;exact hne hd')]
 ·intro i p e hl hp he hb
  rcases(HH hjlt).1 hl with rfl|hl'
  ·rw[ho]at hp;obtain rfl:o=p:=by simpa using hp
   exact(HH hjlt).2 (.inr (hready e he hb))
  ·exact(HH hjlt).2 (.inr (A.down i p e hl' hp he hb))
 ·rw[<-A.defers];cases o.dst<;>rfl
 ·have hanc:∀k,Anc ops k j->L.getD k false=true:=fun k hk=>hk.ready A.down ho hready
  have hnot:∀k,Anc ops j k->L.getD k false=true->False:=fun k hk hl=>by have:=hk.down A.down hl;rw[hun]at this;cases this
  have hjN:j<ops.size:=by rw[<-A.lsz];exact hjlt
  by_cases hr:r∈Fm δ
  ·have htj:tch dels j r:=⟨δ,hδ,hr⟩
   refine⟨j+1,hjN,fun k hk=>?_,?_⟩
   ·rw[HH hjlt]
    have hkN:k<ops.size:=by obtain⟨δ',h1,_⟩:=hk;rw[<-hld];exact(zQj.1 h1).1
    rcases Nat.lt_trichotomy k j with hkj|rfl|hkj
    ·obtain⟨tr,htr⟩:∃tr,trs[k]? =some tr:=⟨trs[k]'(by omega),by simp[htl,hkN]⟩
     rcases TO.apart j k tr r hkj htr htj with h5|⟨_,h5,_⟩
     ·exact⟨fun _=>by omega,fun _=>.inr (hanc k h5)⟩
     ·exact absurd hk h5
    ·exact⟨fun _=>by omega,fun _=>.inl rfl⟩
    ·obtain⟨tr,htr⟩:∃tr,trs[j]? =some tr:=⟨trs[j]'(by omega),by simp[htl,hjN]⟩
     rcases TO.apart k j tr r hkj htr hk with h5|⟨_,h5,_⟩
     ·exact⟨fun h6=>by
       rcases h6 with h6|h6
       ·omega
       ·exact(hnot k h5 h6).elim,fun h6=>by omega⟩
     ·exact absurd htj h5
   ·simp only[CO,hδ]
    exact(Pf δ hr).1
  ·obtain⟨b,hb,h3,h4⟩:=A.hp r
   refine⟨b,hb,fun k hk=>?_,by rw[Mj hr];exact h4⟩
   have hkj:k≠j:=by
    rintro rfl
    obtain⟨δ',h1,h2⟩:=hk
    rw[hδ]at h1;obtain rfl:δ=δ':=by simpa using h1
    exact hr h2
   rw[HH hjlt,<-h3 k hk]
   exact⟨fun h=>h.elim (fun h=>absurd h hkj) id,.inr⟩
theorem eb (H:Og ops=true){L:Array Bool}(hsz:L.size=ops.size)(hr:Region.ready .any ops L=[]):∀(i:Nat),i<ops.size->L.getD i false=true:=by
 intro i
 induction i using Nat.strongRecOn with
 |_ i ih=>
  intro hi
  cases e:L.getD i false with
  |true=>rfl
  |false=>
   have:i∈Region.ready .any ops L:=by
    rw[mem_ready]
    refine⟨by rw[<-e];simp[hsz,hi],ops[i],by simp[hi],fun e' he hb=>?_⟩
    have hlt:=Ajc H (show ops[i]? =some ops[i] by simp[hi]) he hb
    exact ih e'.on hlt (by omega)
   rw[hr]at this;cases this
theorem sK (H:Og ops=true)(hlen:vals.length=ops.size)(hld:dels.length=ops.size){trs:List Tr}(htl:trs.length=ops.size)(TO:TrOK ops h0 dels trs)
 (hsteps:∀(i:Nat) (o:Oper) (v:AV) (δ:Bx) (tr:Tr),ops[i]? =some o->vals[i]? =some v->dels[i]? =some δ->trs[i]? =some tr->OO P ops (Fn ops T0 vals i) tr.vis tr.base tr.cnt o v δ)
 {d0:List Deferred}{F:Fr}{Q:Exit->Act->World->Prop}(hQ:∀E a w,Inv F E (CO h0 dels ops.size) w->KZ E (CO h0 dels ops.size) w (Fn ops T0 vals ops.size) a.tmps->a.defers=d0->Q .normal a w):
 ∀(fuel:Nat) (L:Array Bool) (h:Am) (E:Env) (a:Act) (w:World),AnyInv ops h0 dels T0 vals d0 F L h E a w->((List.range ops.size).filter fun i=>!L.getD i false).length<=fuel->wpAny P .any ops Q fuel L a w:=by
 have fin:∀(L:Array Bool) (h:Am) (E:Env) (a:Act) (w:World),AnyInv ops h0 dels T0 vals d0 F L h E a w->Region.ready .any ops L=[]->Q .normal a w:=by
  intro L h E a w A hr
  have hall:=eb H A.lsz hr
  have heq:∀r,(CO h0 dels ops.size).getD r none=h.getD r none:=by
   intro r
   obtain⟨b,hb,h3,h4⟩:=A.hp r
   rw[h4]
   refine KT hb fun k hk1 hk2 ht=>?_
   have:=(h3 k ht).1 (hall k hk2);omega
  obtain⟨g1,g2⟩:=Wx heq A.inv
  refine hQ E a w g1 (KZ.keep ⟨by rw[LW];exact A.sz,fun t c hc=>?_⟩ g2) A.defers
  have hlt:t<T0.length:=by
   have:=(zQj.1 hc).1
   rwa [LW]at this
  obtain⟨val,hval⟩:∃val,a.tmps[t]? =some val:=⟨a.tmps[t]'(A.sz▸hlt),by simp[A.sz▸hlt]⟩
  by_cases hex:∃(i:Nat) (p:Oper),ops[i]? =some p/\p.dst=some t
  ·obtain⟨i,p,hp,hd⟩:=hex
   have hilt:i<ops.size:=(Array.getElem?_eq_some_iff.1 hp).1
   obtain⟨v,hvi⟩:∃v,vals[i]? =some v:=⟨vals[i]'(by omega),by simp[hlen▸hilt]⟩
   rw[qG H hilt hp hvi hd hlt]at hc
   obtain rfl:v=c:=by simpa using hc
   exact⟨val,hval,A.don i p t v (hall i hilt) hp hd hvi val hval⟩
  ·rw[P8 (i:=0) (Nat.zero_le _) (fun k q _ _ hq hdq=>hex ⟨k,q,hq,hdq⟩)]at hc
   exact A.rest t c hc (fun k q _ hq hdq=>hex ⟨k,q,hq,hdq⟩)
 have stp:∀(K:Act->World->Prop) (L:Array Bool) (h:Am) (E:Env) (a:Act) (w:World),AnyInv ops h0 dels T0 vals d0 F L h E a w->∀j∈Region.ready .any ops L,(∀h' E' a' w',AnyInv ops h0 dels T0 vals d0 F (L.setIfInBounds j true) h' E' a' w'->K a' w')->wpOp P ops Q j K a w:=by
  intro K L h E a w A j hj hK
  obtain⟨hun,o,ho,hready⟩:=mem_ready.1 hj
  have hjlt:j<ops.size:=(Array.getElem?_eq_some_iff.1 ho).1
  have hun':L.getD j false=false:=by
   have:j<L.size:=by rw[A.lsz];exact hjlt
   simpa[this]using hun
  obtain⟨v,hv⟩:∃v,vals[j]? =some v:=⟨vals[j]'(by omega),by simp[hlen▸hjlt]⟩
  obtain⟨δ,hδ⟩:∃δ,dels[j]? =some δ:=⟨dels[j]'(by omega),by simp[hld▸hjlt]⟩
  obtain⟨tr,htr⟩:∃tr,trs[j]? =some tr:=⟨trs[j]'(by omega),by simp[htl▸hjlt]⟩
  have hst:=hsteps j o v δ tr ho hv hδ htr
  have hlook:=fun t ht=>sg H hlen A ho hun' hready (t:=t) ht
  have hskip:v=.undef->δ=[]->K (a.put o.dst undef) w:=by
   rintro rfl rfl
   exact hK h E _ w (A.step H TO hun' ho hv hδ A.inv (Keep.refl E h w) hready hld htl (by simp only[Ag];exact⟨[],rfl,Ak.nil⟩))
  have hdo:ed P (Fn ops T0 vals j) tr.vis tr.base tr.cnt o v δ->o.wp P a w K Q:=by
   intro hq
   obtain⟨g1,g2⟩:=AnyInv.shows TO hld A ho hun' hready htr
   refine hq h g1 g2 F E w a K Q A.inv (fun x hx=>?_) (fun val E' w' hI hxt hr=>hK _ E' _ w' (A.step H TO hun' ho hv hδ hI hxt hready hld htl hr))
   cases x with
   |tmp t=>
    exact hlook t (by unfold ZY;refine List.mem_append_left _ ?_;rw[List.mem_filterMap];exact⟨.tmp t,by simpa using hx,rfl⟩)
   |const c=>exact Ji c
   |global g=>simp[ev,Ag]
   |func f=>simp only[ev,Act.eval,Ag];exact⟨[],by simp,Ak.nil⟩
  unfold wpOp
  simp only[ho]
  unfold OO at hst
  cases hg:o.guard with
  |none=>
   rw[hg]at hst
   have:Region.wanted o (yielded ops a.tmps)=true:=by simp[Region.wanted,hg]
   rw[this];simp only[if_true]
   exact .inl (hdo hst)
  |some gw=>
   obtain⟨g,want⟩:=gw
   rw[hg]at hst
   obtain⟨d,hd,hcases⟩:=hst
   have hl:=hlook d (by unfold ZY;refine List.mem_append_right _ ?_;rw[hg];simp[hd])
   have hy:∀u,a.tmps.getD d undef=u->yielded ops a.tmps g=(match u with| .bool b=>some b|_=>none):=by
    rintro u rfl
    unfold yielded
    rw[hd]
    simp only[Option.bind_some]
    cases e:a.tmps[d]? with
    |none=>simp[e,undef]
    |some u=>simp only[Array.getD_eq_getD_getElem?,e,Option.getD_some];cases u<;>rfl
   rcases hcases with⟨b,hb,hcase⟩|⟨hb,rfl,rfl⟩
   ·rw[hb]at hl
    have hy':=hy _ (KP hl)
    rcases hcase with⟨rfl,hq⟩|⟨hne,rfl,rfl⟩
    ·have:Region.wanted o (yielded ops a.tmps)=true:=by simp[Region.wanted,hg,hy']
     rw[this];simp only[if_true]
     exact .inl (hdo hq)
    ·have:Region.wanted o (yielded ops a.tmps)=false:=by simp[Region.wanted,hg,hy',hne]
     rw[this];simp only[Bool.false_eq_true,if_false]
     exact hskip rfl rfl
   ·rw[hb]at hl
    simp only[Ag]at hl
    obtain⟨vs,hu,hnil⟩:=hl
    have hy':=hy _ hu
    have:Region.wanted o (yielded ops a.tmps)=false:=by simp[Region.wanted,hg,hy']
    rw[this];simp only[Bool.false_eq_true,if_false]
    exact hskip rfl rfl
 intro fuel
 induction fuel with
 |zero=>
  intro L h E a w A hc
  have hr:Region.ready .any ops L=[]:=by
   rw[List.eq_nil_iff_forall_not_mem]
   intro j hj
   obtain⟨hun,o,ho,_⟩:=mem_ready.1 hj
   have hjlt:j<ops.size:=(Array.getElem?_eq_some_iff.1 ho).1
   have:j∈(List.range ops.size).filter fun i=>!L.getD i false:=by
    rw[List.mem_filter,List.mem_range]
    have:j<L.size:=by rw[A.lsz];exact hjlt
    exact⟨hjlt,by simpa[this]using hun⟩
   rw[List.eq_nil_of_length_eq_zero (Nat.le_zero.1 hc)]at this
   cases this
  exact⟨hr,fin L h E a w A hr⟩
 |succ fuel ih=>
  intro L h E a w A hc
  refine⟨fun hr=>fin L h E a w A hr,fun j hj=>stp _ L h E a w A j hj fun h' E' a' w' A'=>ih _ h' E' a' w' A' ?_⟩
  obtain⟨hun,o,ho,_⟩:=mem_ready.1 hj
  have hjlt:j<ops.size:=(Array.getElem?_eq_some_iff.1 ho).1
  have hjL:j<L.size:=by rw[A.lsz];exact hjlt
  have hun':L.getD j false=false:=by simpa[hjL]using hun
  have hsub:((List.range ops.size).filter fun i=>!(L.setIfInBounds j true).getD i false)=((List.range ops.size).filter fun i=>!L.getD i false).filter fun i=>i != j:=by
   rw[List.filter_filter]
   apply List.filter_congr
   intro i hi
   by_cases e:i=j
   ·subst e;simp[hjL]
   ·rw[getD_set_ne false (Ne.symm e)];simp[e]
  have hmem:j∈(List.range ops.size).filter fun i=>!L.getD i false:=by
   rw[List.mem_filter,List.mem_range];exact⟨hjlt,by simp[hun']⟩
  rw[hsub]
  have:=(List.length_filter_lt_length_iff_exists (p:=fun i=>i != j) (l:=(List.range ops.size).filter fun i=>!L.getD i false)).2 ⟨j,hmem,by simp⟩
  omega
end
end Go.Ab
end
section
namespace Go.Ab
open Go.RowKit
section
variable {P:Program}{C:Cfg}(HC:TabOK P C)
include HC in
theorem sA {R:Type}{base:Nat}{s:St}{o:Oper}{args:Array Operand}{ats:Array TypeId}{K:AV->Bx->Option R}{r:R}(ho:o.op=.call {callee:=.builtin .clear,args:=args,argTypes:=ats})(h:Ls C base s o K=some r):∃v δ,K v δ=some r/\∀hp,BM s.h hp->(∀j,j<JS C o->hp.getD (base+j) none=none)->Ml P s.t hp o v δ:=by
 unfold Ls at h;simp only[ho]at h
 split at h
 case h_2=>cases h
 rename_i x t hargs hts
 split at h
 case h_2=>cases h
 rename_i size e code zero lim hti
 obtain⟨_,d,_,hund,_,hu,_⟩:=HC.ti t _ hti
 simp only[Fl]at hu;subst hu
 split at h
 case h_2=>cases h
 rename_i ie hie
 have hte:=HC.ti e ie hie
 obtain⟨inf,_,hinf,_,hsize,_,⟨zv,hz1,hz2,hz3⟩,_⟩:=id hte
 split at h
 case h_2=>cases h
 rename_i u hcode
 split at h
 case isFalse=>cases h
 rename_i husz
 obtain⟨z,rest,hz,hpk⟩:=(HU u).1 _ _ _ _ h
 split at hz
 case isFalse=>cases hz
 rename_i hre
 obtain rfl:rest=[]:=by simpa using hre
 unfold A8l at hz
 split at hz
 case h_2=>cases hz
 rename_i q rg ex
 split at hz
 case h_2=>cases hz
 rename_i t' xs hq
 obtain⟨z',hz',hK⟩:=Bf hz
 obtain⟨rfl,rfl⟩:=DA hz'
 have ha:args=#[x]:=by rw[<-Array.toArray_toList (xs:=args),hargs]
 have ht':ats=#[t]:=by rw[<-Array.toArray_toList (xs:=ats),hts]
 have hxo:x∈o.op.operands:=by rw[ho];simp[Op.operands,Call.operands,ha]
 refine⟨_,_,hK,fun hp hs hfree F E w a next Q hI hop hk=>?_⟩
 have hc:=hs.lst hq (by simp) (by simp)
 have hst:=Av hc (by simp)
 have h1:=hop x hxo;rw[ex]at h1
 simp only[Ag]at h1
 rw[BG hst]at h1
 obtain⟨hle,h2⟩:=h1
 simp only[Cont.len,Cont.sz,key]at hle h2
 have undefOK:∀(E:Env) (h:Am) (w:World),Ag E h w .undef undef:=fun E h w=>by simp only[Ag];exact⟨[],rfl,Ak.nil⟩
 have hexec:∀(v:Value) (w':World),(Builtin.clear_ #[t] o.type #[a.eval x]).run P w=.ok v w'->(execOp a.eval o).run P w=.ok (.value v) w':=by
  intro v w' hr
  simp only[execOp,ho,resolve,ha,ht',List.map_toArray,List.map_cons,List.map_nil,Sem.run_bind,Sem.run_pure,Result.andThen_ok,invoke,builtin]
  rw[hr];rfl
 have none_:(rg.getD (0,xs.length)).2=0->(∃A n,a.eval x=.slice A 0 n)->o.wp P a w next Q:=by
  rintro h0 ⟨A,n,e1⟩
  unfold Oper.wp
  rw[hexec undef w (by rw[e1];cases A<;>simp[Builtin.clear_,run_underlying hund]<;>rfl)]
  have hsame:(xs.take (rg.getD (0,xs.length)).1++List.replicate (rg.getD (0,xs.length)).2 z'++xs.drop ((rg.getD (0,xs.length)).1+(rg.getD (0,xs.length)).2))=xs:=by rw[h0];simp
  have:apD hp [(q,.lst false u (xs.take (rg.getD (0,xs.length)).1++List.replicate (rg.getD (0,xs.length)).2 z'++xs.drop ((rg.getD (0,xs.length)).1+(rg.getD (0,xs.length)).2)))]=hp:=by
   rw[hsame];exact OT hp q _ hc
  refine hk undef E w ?_ ?_ (undefOK _ _ _)
  ·show Inv F E (apD hp [(q,_)]) w
   rw[this];exact hI
  ·show Keep E hp w E (apD hp [(q,_)]) w
   rw[this];exact Keep.refl E hp w
 rcases h2 with⟨h0,e1⟩|⟨b,n,ad,hι,e1,hn,had,arr,ty,hb,hcap⟩
 ·exact none_ (by omega) ⟨none,0,e1⟩
 ·by_cases hz0:(rg.getD (0,xs.length)).2=0
  ·exact none_ hz0 ⟨some ad,n,by rw[e1,hz0]⟩
  ·have had:=had (by omega)
   subst had
   obtain⟨vs,ws,hsplit,h3,h4⟩:=hpk E hp w E.I Sr _ (show Ak E hp w ie.zero zv.cells.toList by rw[hz2];exact Ak.of (by simp) (fun j h1 h2=>by simpa using Ji _))
   simp only[Ak]at h4;subst h4
   rw[List.append_nil]at hsplit
   have hvl:vs.length=u.size:=B5.length u h3
   have hvr:=Dn (h:=hp) (w:=w) (E:=E) u h3
   obtain⟨w',k1,k2,k3⟩:=Sp P hI hc hι (by omega) (o:=(rg.getD (0,xs.length)).1) (ys:=List.replicate (rg.getD (0,xs.length)).2 z') (by simpa using hle)
    (us:=(List.replicate (rg.getD (0,xs.length)).2 vs).flatten) (by rw[J4 (sz:=u.size) _ (by intro l hl;rw[(List.mem_replicate.1 hl).2];exact hvl)];simp)
    (by
      intro v hv
      obtain⟨l,hl,hv⟩:=List.mem_flatten.1 hv
      rw[(List.mem_replicate.1 hl).2]at hv
      obtain⟨j,hj,rfl⟩:=List.getElem_of_mem hv
      have hl2:=hvr.length
      exact KW (Js u z' _ (List.getElem_mem (show j<(flat u z').length by omega))) (hvr.getAt j (by omega) hj))
    (fun i hi=>⟨vs,hvl,by simp only[List.getElem_replicate];exact hvr,fun j hj=>by
      rw[KU (sz:=u.size) (List.replicate (rg.getD (0,xs.length)).2 vs) (by intro l hl;rw[(List.mem_replicate.1 hl).2];exact hvl) i j (vs:=vs) (by rw[List.getElem?_replicate,if_pos (by simpa using hi)]) (by omega)]
      simp[hj]⟩)
   have hzc:=PA zv.cells (rg.getD (0,xs.length)).2
   unfold Oper.wp
   rw[hexec undef w' (by
    rw[e1]
    obtain⟨m,hm⟩:=Nat.exists_eq_succ_of_ne_zero hz0
    have hzz:(Builtin.zeroCells zv.cells (rg.getD (0,xs.length)).2).toList=(List.replicate (rg.getD (0,xs.length)).2 vs).flatten:=by
     unfold Builtin.zeroCells;rw[hzc,<-hsplit]
    simp only[Builtin.clear_,Sem.run_bind,Sem.run_pure,run_underlying hund,Result.andThen_ok,List.getElem?_toArray,List.getElem?_cons_zero]
    rw[hm]at hzz k1 ⊢
    simp only[zeroValue,typeInfo,Sem.run_bind,run_program,hinf,hz1,Result.andThen_ok,Sem.run_pure,hzz,k1]
    rfl)]
   simp only[List.length_replicate]at k2 k3
   exact hk undef E w' k2 k3 (undefOK _ _ _)
include HC in
theorem A8h {R:Type}{base:Nat}{s:St}{o:Oper}{args:Array Operand}{ats:Array TypeId}{K:AV->Bx->Option R}{r:R}(ho:o.op=.call {callee:=.builtin .copy,args:=args,argTypes:=ats})(h:Ls C base s o K=some r):∃v δ,K v δ=some r/\∀hp,BM s.h hp->(∀j,j<JS C o->hp.getD (base+j) none=none)->Ml P s.t hp o v δ:=by
 unfold Ls at h;simp only[ho]at h
 split at h
 case h_2=>cases h
 rename_i x y t t2 hargs hts
 split at h
 case h_2=>cases h
 rename_i size e code zero lim hti
 obtain⟨_,d,_,hund,_,hu,_⟩:=HC.ti t _ hti
 simp only[Fl]at hu;subst hu
 split at h
 case h_2=>cases h
 rename_i ie hie
 have hte:=HC.ti e ie hie
 unfold Aj1 at h
 split at h
 case h_2=>cases h
 rename_i q rg ex
 split at h
 case h_2=>cases h
 rename_i u xs hq
 split at h
 case isFalse=>cases h
 rename_i husz
 obtain⟨ys,hK,hsrc⟩:=OS h
 have ha:args=#[x,y]:=by rw[<-Array.toArray_toList (xs:=args),hargs]
 have ht':ats=#[t,t2]:=by rw[<-Array.toArray_toList (xs:=ats),hts]
 have hxo:x∈o.op.operands:=by rw[ho];simp[Op.operands,Call.operands,ha]
 have hyo:y∈o.op.operands:=by rw[ho];simp[Op.operands,Call.operands,ha]
 refine⟨_,_,hK,fun hp hs hfree F E w a next Q hI hop hk=>?_⟩
 have hc:=hs.lst hq (by simp) (by simp)
 have hst:=Av hc (by simp)
 have h1:=hop x hxo;rw[ex]at h1
 simp only[Ag]at h1
 rw[BG hst]at h1
 obtain⟨hle,h2⟩:=h1
 simp only[Cont.len,Cont.sz,key]at hle h2
 obtain⟨A,m',news,hy,hm',hnl,hone,hA,hels⟩:=(hsrc hp hs E w hI.heap _ (hop y hyo)).raw
 have hexec:∀(v:Value) (w':World),(Builtin.copy_ #[t,t2] o.type #[a.eval x,a.eval y]).run P w=.ok v w'->(execOp a.eval o).run P w=.ok (.value v) w':=by
  intro v w' hr
  simp only[execOp,ho,resolve,ha,ht',List.map_toArray,List.map_cons,List.map_nil,Sem.run_bind,Sem.run_pure,Result.andThen_ok,invoke,builtin]
  rw[hr];rfl
 let N:=(rg.getD (0,xs.length)).2
 let M:=Nat.min ys.length N
 have hMN:min N ys.length=M:=by simp only[M];exact Nat.min_comm _ _
 have hfirst:(Builtin.firstCells ie.size M (.slice A ys.length m')).run P w=.ok (news.take (M*ie.size)).toArray w:=by
  by_cases hM:ys.length=0
  ·have:M=0:=by simp only[M];rw[hM];exact Nat.zero_min _
   rw[this]
   cases A with
   |none=>simp[Builtin.firstCells]
   |some b=>simp[Builtin.firstCells,loadCells,loadCellsFrom]
  ·obtain⟨sa,rfl,hcells⟩:=hA hM
   refine run_firstCells_some (P:=P) w ie.size M sa ys.length m' _ ?_ (fun j z hj=>?_)
   ·rw[List.length_take,hnl,husz]
    have:M*ie.size<=ys.length*ie.size:=zJx _ (Nat.min_le_left _ _)
    omega
   ·rw[List.getElem?_take]at hj
    split at hj
    ·exact hcells j z hj
    ·cases hj
 have hrun:∀(B:Option Addr) (n:Nat) (w':World),(∀a,B=some a->(storeCells a (news.take (M*ie.size))).run P w=.ok () w')->(B=none->w'=w)->(Builtin.copy_ #[t,t2] o.type #[.slice B N n,.slice A ys.length m']).run P w=.ok (goInt M) w':=by
  intro B n w' h3 h4
  simp only[Builtin.copy_,Sem.run_bind,Sem.run_pure,run_underlying hund,Result.andThen_ok,List.getElem?_toArray,List.getElem?_cons_zero,List.getElem?_cons_succ,Builtin.lenOf,EF hte]
  rw[show Nat.min ys.length N=M from rfl,hfirst]
  cases B with
  |none=>rw[h4 rfl];simp
  |some a'=>simp[h3 a' rfl]
 have hval:∀(E:Env) (h:Am) (w:World),Ag E h w (.n ((min (rg.getD (0,xs.length)).2 ys.length:Nat):Int)) (goInt M):=by
  intro E h w
  rw[show min (rg.getD (0,xs.length)).2 ys.length=M from hMN]
  exact HX _ _
 have htl:(ys.take N).length=M:=by rw[List.length_take];exact hMN
 by_cases hM0:M=0
 ·have hsame:QH xs (rg.getD (0,xs.length)).1 (rg.getD (0,xs.length)).2 ys=xs:=by
   have:ys.take N=[]:=List.eq_nil_of_length_eq_zero (by omega)
   unfold QH
   rw[show ys.take (rg.getD (0,xs.length)).2=[]from this];simp
  have hap:apD hp [(q,.lst false u (QH xs (rg.getD (0,xs.length)).1 (rg.getD (0,xs.length)).2 ys))]=hp:=by
   rw[hsame];exact OT hp q _ hc
  have hsl:∃B n,a.eval x=.slice B N n:=by
   rcases h2 with⟨h0,e1⟩|⟨b,n,ad,hι,e1,_⟩
   ·exact⟨none,0,by rw[e1];congr 1;simp only[N];omega⟩
   ·exact⟨_,_,e1⟩
  obtain⟨B,n,e1⟩:=hsl
  unfold Oper.wp
  rw[hexec (goInt M) w (by rw[e1,hy];exact hrun B n w (fun a' _=>by rw[hM0];simp[storeCells]) (fun _=>rfl))]
  refine hk _ E w ?_ ?_ (hval _ _ _)
  ·rw[hap];exact hI
  ·rw[hap];exact Keep.refl E hp w
 ·have hMN2:M<=N:=Nat.min_le_right _ _
  have hMy:M<=ys.length:=Nat.min_le_left _ _
  rcases h2 with⟨h0,e1⟩|⟨b,n,ad,hι,e1,hn,had,arr,ty,hb,hcap⟩
  ·exact absurd (show M=0 by simp only[N]at hMN2;omega) hM0
  have had:=had (by simp only[N]at hMN2;omega)
  subst had
  have hms:M*u.size<=ys.length*u.size:=zJx _ hMy
  obtain⟨w',k1,k2,k3⟩:=Sp P hI hc hι (by simp only[N]at hMN2;omega) (o:=(rg.getD (0,xs.length)).1) (ys:=ys.take N) (by rw[htl];simp only[N]at hMN2;omega)
   (us:=news.take (M*u.size)) (by rw[List.length_take,hnl,htl];omega) (fun v hv=>hone v (List.mem_of_mem_take hv))
   (fun i hi=>by
     rw[htl]at hi
     obtain⟨vs,g1,⟨g0,g2⟩,g3⟩:=hels i (by omega)
     refine⟨vs,g1,by simpa using g2,fun j hj=>?_⟩
     have:i*u.size+u.size<=M*u.size:=by rw[<-Nat.succ_mul];exact zJx _ hi
     rw[List.getElem?_take,if_pos (by omega)];exact g3 j hj)
  unfold Oper.wp
  rw[hexec (goInt M) w' (by rw[e1,hy];exact hrun _ n w' (fun a' ha'=>by rw[<-Option.some.inj ha',<-husz];exact k1) (fun h=>by cases h))]
  exact hk _ E w' k2 k3 (hval _ _ _)
end
end Go.Ab
end
section
namespace Go.Ab
open Go.RowKit
section
variable {P:Program}{C:Cfg}(HC:CfgOK P C)
include HC in
theorem sP {R:Type}{base:Nat}{s:St}{o:Oper}{K:AV->Bx->Option R}{r:R}(h:Ls C base s o K=some r):∃v δ,K v δ=some r/\∀hp,BM s.h hp->(∀j,j<JS C o->hp.getD (base+j) none=none)->Ml P s.t hp o v δ:=by
 have other:I9 C s o (fun v=>K v [])=some r->∃v δ,K v δ=some r/\∀hp,BM s.h hp->(∀j,j<JS C o->hp.getD (base+j) none=none)->Ml P s.t hp o v δ:=fun hq=>
  let⟨v,h1,h2⟩:=sO HC.tab hq
  ⟨v,[],h1,fun hp hs _=>Ml.of_q (h2 hp hs)⟩
 cases ho:o.op with
 |box t x=>exact Agj ho h
 |alloc t=>exact sL HC.tab ho h
 |buildSlice t n ps=>exact T2 HC.tab ho h
 |makeSlice t l c=>exact Te HC.tab ho h
 |store t x y=>exact ru HC.tab ho h
 |call c=>
  obtain⟨cal,args,ats⟩:=c
  cases cal with
  |builtin b=>
   cases b with
   |append=>exact dZ HC.tab ho h
   |clear=>exact sA HC.tab ho h
   |copy=>exact A8h HC.tab ho h
   |_=>unfold Ls at h;simp only[ho]at h;exact other h
  |_=>unfold Ls at h;simp only[ho]at h;exact other h
 |_=>unfold Ls at h;simp only[ho]at h;exact other h
include HC in
theorem WQ {R:Type}{base:Nat}{s:St}{o:Oper}{K:AV->Bx->Option R}{r:R}(h:rn C base s o K=some r):∃v δ,K v δ=some r/\ed P s.t s.h base (IV C o) o v δ:=by
 have other:Ls C base s o K=some r->IV C o=JS C o->∃v δ,K v δ=some r/\ed P s.t s.h base (IV C o) o v δ:=fun hq e=>by
  obtain⟨v,δ,h1,h2⟩:=sP HC hq
  exact⟨v,δ,h1,fun hp hs hf=>h2 hp hs (fun j hj=>hf j (by rw[e];exact hj))⟩
 unfold rn at h
 cases ho:o.op with
 |call c=>
  simp only[ho]at h
  cases hc:c.callee with
  |value fo=>
   simp only[hc]at h
   split at h
   ·rename_i f cap hcal
    obtain⟨v,δ,h1,h2⟩:=A8n HC.ents ho hc hcal h
    exact⟨v,δ,h1,h2⟩
   ·cases h
  |builtin b=>simp only[hc]at h;exact other h (by unfold IV;simp only[ho,hc])
  |invoke x m=>simp only[hc]at h;exact other h (by unfold IV;simp only[ho,hc])
 |_=>simp only[ho]at h;exact other h (by unfold IV;simp only[ho])
def A8o:Value->Option Bool
 | .bool b=>some b
 |_=>none
theorem Tm {o:Oper}{ops:Array Oper}{j:Nat}{want:Bool}(hg:o.guard=some (j,want)){d:Tmp}(hd:(ops[j]?).bind (·.dst)=some d){a:Act}{u:Value}(hu:a.tmps.getD d undef=u):
 Region.wanted o (yielded ops a.tmps)=(A8o u==some want):=by
 unfold Region.wanted
 rw[hg]
 simp only
 congr 1
 unfold yielded
 rw[hd]
 simp only[Option.bind_some]
 cases e:a.tmps[d]? with
 |none=>simp[e,undef]at hu;subst hu;rfl
 |some x=>simp[e]at hu;subst hu;cases x<;>rfl
theorem WW {T:List AV}{d:Nat}{v:AV}(h:T.getD d .junk=v)(hv:v≠.junk):T.set d v=T:=by
 rw[zKz]at h
 cases e:T[d]? with
 |none=>rw[e]at h;exact absurd h.symm hv
 |some x=>
  rw[e]at h
  obtain rfl:x=v:=h
  apply List.ext_getElem?
  intro i
  by_cases hi:d=i
  ·subst hi;rw[e,List.getElem?_set_self (zQj.1 e).1]
  ·rw[List.getElem?_set_ne hi]
include HC in
theorem QL {R:Type}{all:Array Oper}{r:R}{F:Fr}{Q:Exit->Act->World->Prop}:(l:List Oper)->{s:St}->{K:St->Option R}->Rb C all l s K=some r->
 {E:Env}->{w:World}->{a:Act}->Inv F E s.h w->KZ E s.h w s.t a.tmps->
 (∀s' E' a' w',K s'=some r->Inv F E' s'.h w'->KZ E' s'.h w' s'.t a'.tmps->a'.defers=a.defers->Q .normal a' w')->wpList P all Q l a w
 |[],s,K,h,E,w,a,hI,ht,hQ=>hQ s E a w (by simpa only[Rb]using h) hI ht rfl
 |o::l,s,K,h,E,w,a,hI,ht,hQ=>by
  have hput:∀v,(a.put o.dst v).defers=a.defers:=fun v=>by cases o.dst<;>rfl
  have go:(rn C s.h.length ⟨s.t,s.h⟩ o fun v δ=>Rb C all l ⟨put s.t o.dst v,apD s.h δ⟩ K)=some r->Region.wanted o (yielded all a.tmps)=true->wpList P all Q (o::l) a w:=by
   intro h hw
   obtain⟨v,δ,hK,hs0⟩:=WQ HC h
   have hs:=hs0 s.h (BM.refl _) (fun j hj=>Kh (by omega))
   unfold wpList
   rw[if_pos hw]
   refine .inl (hs F E w a _ Q hI (fun x _=>ht.eval x) fun val E' w' hI' hx' hv'=>?_)
   refine QL l hK hI' ((ht.keep hx').put o.dst hv') fun s'' E'' a'' w'' h1 h2 h3 h4=>hQ s'' E'' a'' w'' h1 h2 h3 (by rw[h4,hput])
  have skip:Rb C all l ⟨put s.t o.dst .undef,s.h⟩ K=some r->Region.wanted o (yielded all a.tmps)=false->wpList P all Q (o::l) a w:=by
   intro h hw
   unfold wpList
   rw[if_neg (by simp[hw])]
   exact QL l h hI (ht.put o.dst (by simp only[Ag];exact⟨[],rfl,Ak.nil⟩)) fun s'' E'' a'' w'' h1 h2 h3 h4=>hQ s'' E'' a'' w'' h1 h2 h3 (by rw[h4,hput])
  unfold Rb at h
  split at h
  ·rename_i hg
   exact go h (by simp[Region.wanted,hg])
  ·rename_i j want hg
   split at h
   ·cases h
   ·rename_i d hd
    have hval:Ag E s.h w (s.t.getD d .junk) (a.tmps.getD d undef):=ht.eval (.tmp d)
    split at h
    ·rename_i t ht'
     have hsame:s.t.set d (.pv .bool t)=s.t:=WW ht' (by simp)
     rw[ht']at hval
     have hw:=Tm hg hd (KP hval)
     simp only[A8o]at hw
     split at h
     ·rw[hsame]at h
      split at h
      ·rename_i e;subst e;exact go h (by rw[hw];rfl)
      ·rename_i e;exact skip h (by rw[hw];cases want<;>simp_all)
     ·rw[hsame]at h
      split at h
      ·rename_i e;subst e;exact go h (by rw[hw];rfl)
      ·rename_i e;exact skip h (by rw[hw];cases want<;>simp_all)
    ·rename_i ht'
     rw[ht']at hval
     simp only[Ag]at hval
     obtain⟨vs,hu,hnil⟩:=hval
     have hw:=Tm hg hd hu
     exact skip h (by rw[hw];rfl)
    ·cases h
theorem Ov {ops:Array Oper}{T0 vals ws:List AV}:∀{j:Nat},j<=vals.length->Fn ops T0 (vals++ws) j=Fn ops T0 vals j
 |0,_=>rfl
 |j+1,h=>by
  simp only[Fn]
  rw[Ov (by omega),List.getElem?_append_left (by omega)]
theorem Iu {h0:Am}{dels ds:List Bx}:∀{j:Nat},j<=dels.length->CO h0 (dels++ds) j=CO h0 dels j
 |0,_=>rfl
 |j+1,h=>by
  simp only[CO]
  rw[Iu (by omega),List.getElem?_append_left (by omega)]
theorem Ks {dels ds:List Bx}{k r:Nat}(hk:k<dels.length):tch (dels++ds) k r↔tch dels k r:=by
 unfold tch;rw[List.getElem?_append_left hk]
theorem WS {dels:List Bx}{δ:Bx}{r:Nat}:tch (dels++[δ]) dels.length r↔r∈Fm δ:=by
 unfold tch;simp
theorem Aj6 {dels:List Bx}{k r:Nat}(h:tch dels k r):k<dels.length:=by
 obtain⟨δ,h1,_⟩:=h;exact(zQj.1 h1).1
theorem Re {ms:List Nat}{i:Nat}:(tr:List Tr)->(k0:Nat)->∀k a r,tr[k]? =some a->r∈a.t->r∉PB ms i tr k0->ord ms (k0+k) i=true
 |[],k0,k,a,r,h,_,_=>by simp at h
 |b::tr,k0,k,a,r,h,hr,hn=>by
  unfold PB at hn
  cases k with
  |zero=>
   simp at h;subst h
   split at hn
   ·assumption
   ·exact absurd (List.mem_append_left _ hr) hn
  |succ k=>
   have:=Re tr (k0+1) k a r (by simpa using h) hr (by
    split at hn
    ·exact hn
    ·exact fun h1=>hn (List.mem_append_right _ h1))
   rw[show k0+(k+1)=k0+1+k by omega];exact this
theorem Pz {ms:List Nat}{i:Nat}{t:List Nat}:(tr:List Tr)->(k0:Nat)->OL ms i t tr k0=true->∀k a,tr[k]? =some a->∀r∈t,ord ms (k0+k) i=true\/WM a r=true
 |[],k0,_,k,a,h,_,_=>by simp at h
 |b::tr,k0,hb,k,a,h,r,hr=>by
  unfold OL at hb
  rw[zJq,Bool.or_eq_true]at hb
  cases k with
  |zero=>
   simp at h;subst h
   exact hb.1.imp id fun h1=>List.all_eq_true.1 h1 r hr
  |succ k=>
   rw[show k0+(k+1)=k0+1+k by omega]
   exact Pz tr (k0+1) hb.2 k a (by simpa using h) r hr
theorem aN {a:Tr}{r:Nat}(h:WM a r=true):a.vis.getD r none=none/\r∉a.t/\¬(a.base<=r/\r<a.base+a.cnt):=by
 unfold WM at h
 rw[zJq,zJq]at h
 obtain⟨⟨h1,h2⟩,h3⟩:=h
 refine⟨?_,by simpa using h2,?_⟩
 ·split at h1
  ·rename_i e;exact e
  ·cases h1
 ·rintro⟨h4,h5⟩
  have e1:Nat.ble a.base r=true:=Nat.ble_eq_true_of_le h4
  have e2:Nat.blt r (a.base+a.cnt)=true:=Nat.ble_eq_true_of_le h5
  rw[e1,e2]at h3;cases h3
structure Part (P:Program)(ops:Array Oper)(h0:Am)(T0 vals:List AV)(dels:List Bx)(trs:List Tr):Prop where
 ld:dels.length=vals.length
 lt:trs.length=vals.length
 ok:TrOK ops h0 dels trs
 tt:∀k a,trs[k]? =some a->∀r,tch dels k r->r∈a.t
 steps:∀(j:Nat) (o:Oper) (v:AV) (δ:Bx) (tr:Tr),ops[j]? =some o->vals[j]? =some v->dels[j]? =some δ->trs[j]? =some tr->OO P ops (Fn ops T0 vals j) tr.vis tr.base tr.cnt o v δ
theorem Part.add {ops:Array Oper}{h0:Am}{T0 vals:List AV}{dels:List Bx}{trs:List Tr}(A:Part P ops h0 T0 vals dels trs){o:Oper}(ho:ops[vals.length]? =some o){v:AV}{δ:Bx}{tr:Tr}(htr:∀r,r∈Fm δ->r∈tr.t)
 (hstep:OO P ops (Fn ops T0 vals vals.length) tr.vis tr.base tr.cnt o v δ)
 (hvis:∀r c,tr.vis.getD r none=some c->(CO h0 dels vals.length).getD r none=some c/\∀k,k<vals.length->tch dels k r->Anc ops k vals.length)
 (hap:∀k a r,k<vals.length->trs[k]? =some a->r∈Fm δ->Anc ops k vals.length\/(a.vis.getD r none=none/\r∉a.t/\¬(a.base<=r/\r<a.base+a.cnt)))
 (hfree:∀j,j<tr.cnt->(CO h0 dels vals.length).getD (tr.base+j) none=none):Part P ops h0 T0 (vals++[v]) (dels++[δ]) (trs++[tr]):=by
 have hld:=A.ld
 have hlt:=A.lt
 have split:∀{k:Nat} {a:Tr},(trs++[tr])[k]? =some a->(k<vals.length/\trs[k]? =some a)\/(k=vals.length/\a=tr):=by
  intro k a h
  rcases Nat.lt_trichotomy k vals.length with h1|h1|h1
  ·left;rw[List.getElem?_append_left (by omega)]at h;exact⟨h1,h⟩
  ·right;subst h1;rw[<-hlt,List.getElem?_concat_length]at h;exact⟨rfl,by simpa using h.symm⟩
  ·rw[List.getElem?_eq_none (by simp;omega)]at h;cases h
 refine⟨by simp[hld],by simp[hlt],⟨fun i a h r c hc=>?_,fun i k a r hki h ht=>?_,fun i a h j hj=>?_⟩,fun k a h r ht=>?_,fun j o' v' δ' tr' ho' hv' hδ' htr'=>?_⟩
 ·rcases split h with⟨h1,h2⟩|⟨rfl,rfl⟩
  ·obtain⟨g1,g2⟩:=A.ok.vis i a h2 r c hc
   exact⟨by rw[Iu (by omega)];exact g1,fun k hk ht=>g2 k hk ((Ks (by omega)).1 ht)⟩
  ·obtain⟨g1,g2⟩:=hvis r c hc
   exact⟨by rw[Iu (by omega)];exact g1,fun k hk ht=>g2 k hk ((Ks (by omega)).1 ht)⟩
 ·have hi:=Aj6 ht
  simp only[zJk,List.length_cons,List.length_nil]at hi
  have hk:k<vals.length:=by omega
  rcases split h with⟨_,h2⟩|⟨h1,_⟩
  ·by_cases hiv:i<vals.length
   ·rcases A.ok.apart i k a r hki h2 ((Ks (by omega)).1 ht)with h3|⟨h3,h4,h5⟩
    ·exact .inl h3
    ·exact .inr ⟨h3,fun h6=>h4 ((Ks (by omega)).1 h6),h5⟩
   ·obtain rfl:i=dels.length:=by omega
    have ht:=WS.1 ht
    rw[hld]
    rcases hap k a r hk h2 ht with h3|⟨h3,h4,h5⟩
    ·exact .inl h3
    ·exact .inr ⟨h3,fun h6=>h4 (A.tt k a h2 r ((Ks (by omega)).1 h6)),h5⟩
  ·omega
 ·rcases split h with⟨h1,h2⟩|⟨rfl,rfl⟩
  ·rw[Iu (by omega)];exact A.ok.free i a h2 j hj
  ·rw[Iu (by omega)];exact hfree j hj
 ·rcases split h with⟨h1,h2⟩|⟨rfl,rfl⟩
  ·exact A.tt k a h2 r ((Ks (by omega)).1 ht)
  ·rw[<-hld]at ht;exact htr r (WS.1 ht)
 ·have hj:j<=vals.length:=by
   have:=(zQj.1 hv').1;simp at this;omega
  rw[Ov hj]
  rcases split htr' with⟨h1,h2⟩|⟨rfl,rfl⟩
  ·rw[List.getElem?_append_left (by omega)]at hv' hδ'
   exact A.steps j o' v' δ' tr' ho' hv' hδ' h2
  ·rw[List.getElem?_concat_length]at hv'
   rw[<-hld,List.getElem?_concat_length]at hδ'
   rw[ho]at ho'
   obtain rfl:o=o':=by simpa using ho'
   obtain rfl:v=v':=by simpa using hv'
   obtain rfl:δ=δ':=by simpa using hδ'
   exact hstep
include HC in
theorem Rc {R:Type}{id:Nat}{ops:Array Oper}{r:R}{h0:Am}{T0:List AV}:(l:List Oper)->{vals:List AV}->{dels:List Bx}->{trs:List Tr}->Part P ops h0 T0 vals dels trs->(∀i o,l[i]? =some o->ops[vals.length+i]? =some o)->ops.size=vals.length+l.length->{base:Nat}->{K:St->Option R}->
 Ps C id (LV ops.toList []) ops l trs base ⟨Fn ops T0 vals vals.length,CO h0 dels vals.length⟩ K=some r->
 ∃vals dels trs,Part P ops h0 T0 vals dels trs/\vals.length=ops.size/\K ⟨Fn ops T0 vals ops.size,CO h0 dels ops.size⟩=some r
 |[],vals,dels,trs,A,hl,hsz,base,K,h=>⟨vals,dels,trs,A,by simpa using hsz.symm,by rw[show ops.size=vals.length by simpa using hsz];simpa only[Ps]using h⟩
 |o::l,vals,dels,trs,A,hl,hsz,base,K,h=>by
  have ho:ops[vals.length]? =some o:=by have:=hl 0 o (by simp);simpa using this
  have hanc:∀k i,ord (LV ops.toList []) k i=true->Anc ops k i:=fun k i hk=>SL ops.toList [] (fun i hi=>absurd hi (Nat.not_lt_zero _)) (fun i o ho=>by simpa using ho) i k hk
  have next:∀{v:AV} {δ:Bx} {tr:Tr} {base':Nat} {hh:Am},Part P ops h0 T0 (vals++[v]) (dels++[δ]) (trs++[tr])->hh=apD (CO h0 dels vals.length) δ->Ps C id (LV ops.toList []) ops l (trs++[tr]) base' ⟨put (Fn ops T0 vals vals.length) o.dst v,hh⟩ K=some r->
   ∃vals dels trs,Part P ops h0 T0 vals dels trs/\vals.length=ops.size/\K ⟨Fn ops T0 vals ops.size,CO h0 dels ops.size⟩=some r:=by
   rintro v δ tr base' hh A' rfl h'
   have e1:Fn ops T0 (vals++[v]) (vals++[v]).length=put (Fn ops T0 vals vals.length) o.dst v:=by
    rw[zJk,List.length_cons,List.length_nil]
    simp only[zJj,Fn,ho,List.getElem?_concat_length]
    rw[Ov (zQq _)]
   have e2:CO h0 (dels++[δ]) (vals++[v]).length=apD (CO h0 dels vals.length) δ:=by
    rw[zJk,List.length_cons,List.length_nil]
    simp only[zJj,CO]
    rw[<-A.ld,List.getElem?_concat_length]
    simp only
    rw[Iu (zQq _)]
   refine Rc l A' (fun i o' ho'=>?_) (by simp only[zJk,List.length_cons,List.length_nil]at hsz ⊢;omega) (base:=base') (K:=K) (by rw[e1,e2];exact h')
   have:=hl (i+1) o' (by simpa using ho')
   rw[zJk,List.length_cons,List.length_nil,show vals.length+(0+1)+i=vals.length+(i+1) by omega];exact this
  unfold Ps at h
  have go:(if Nat.ble (CO h0 dels vals.length).length base=true then rn C base ⟨Fn ops T0 vals vals.length,Py (CO h0 dels vals.length) (A7s C id trs.length++PB (LV ops.toList []) trs.length trs 0)⟩ o fun v δ=>
   if OL (LV ops.toList []) trs.length (Fm δ) trs 0=true then Ps C id (LV ops.toList []) ops l (trs++[⟨Py (CO h0 dels vals.length) (A7s C id trs.length++PB (LV ops.toList []) trs.length trs 0),base,IV C o,Fm δ⟩]) (base+IV C o) ⟨put (Fn ops T0 vals vals.length) o.dst v,apD (CO h0 dels vals.length) δ⟩ K else none
   else none)=some r->(∀v δ vis,ed P (Fn ops T0 vals vals.length) vis base (IV C o) o v δ->OO P ops (Fn ops T0 vals vals.length) vis base (IV C o) o v δ)->∃vals dels trs,Part P ops h0 T0 vals dels trs/\vals.length=ops.size/\K ⟨Fn ops T0 vals ops.size,CO h0 dels ops.size⟩=some r:=by
   intro h hos
   split at h
   case isFalse=>cases h
   rename_i hbase
   have hbase:=Nat.le_of_ble_eq_true hbase
   obtain⟨v,δ,h1,h2⟩:=WQ HC h
   split at h1
   case isFalse=>cases h1
   rename_i hall
   refine next (A.add ho (fun r hr=>hr) (hos v δ _ h2) (fun r c hc=>?_) (fun k a r hk ha hr=>?_) (fun j hj=>Kh (Nat.le_trans hbase (Nat.le_add_right _ _)))) rfl h1
   ·rw[Ni]at hc
    split at hc
    ·cases hc
    ·rename_i hn
     refine⟨hc,fun k hk ht=>hanc k _ ?_⟩
     obtain⟨a,ha⟩:∃a,trs[k]? =some a:=⟨trs[k]'(by rw[A.lt];exact hk),by simp[A.lt,hk]⟩
     have:=Re trs 0 k a r ha (A.tt k a ha r ht) (fun h3=>hn (List.mem_append_right _ h3))
     rw[zJj,A.lt]at this;exact this
   ·rcases Pz trs 0 hall k a ha r hr with h3|h3
    ·rw[zJj,A.lt]at h3;exact .inl (hanc k _ h3)
    ·exact .inr (aN h3)
  have skip:Ps C id (LV ops.toList []) ops l (trs++[⟨[],0,0,[]⟩]) base ⟨put (Fn ops T0 vals vals.length) o.dst .undef,CO h0 dels vals.length⟩ K=some r->OO P ops (Fn ops T0 vals vals.length) [] 0 0 o .undef []->∃vals dels trs,Part P ops h0 T0 vals dels trs/\vals.length=ops.size/\K ⟨Fn ops T0 vals ops.size,CO h0 dels ops.size⟩=some r:=by
   intro h hos
   exact next (A.add (v:=.undef) (δ:=[]) (tr:=⟨[],0,0,[]⟩) ho (fun r hr=>by simp[Fm]at hr) hos (fun r c hc=>by simp at hc) (fun k a r hk ha hr=>by simp[Fm]at hr) (fun j hj=>absurd hj (Nat.not_lt_zero _))) rfl h
  dsimp only at h
  cases hg:o.guard with
  |none=>
   rw[hg]at h
   exact go h fun v δ vis hv=>by unfold OO;rw[hg];exact hv
  |some gw=>
   obtain⟨j,want⟩:=gw
   rw[hg]at h
   dsimp only at h
   cases hd:(ops[j]?).bind (·.dst)with
   |none=>rw[hd]at h;cases h
   |some d=>
    rw[hd]at h
    dsimp only at h
    have skip2:(∃b,(Fn ops T0 vals vals.length).getD d .junk=.pv .bool b/\b≠want)\/(Fn ops T0 vals vals.length).getD d .junk=.undef->OO P ops (Fn ops T0 vals vals.length) [] 0 0 o .undef []:=by
     intro h1
     unfold OO;rw[hg]
     refine⟨d,hd,?_⟩
     rcases h1 with⟨b,h1,h2⟩|h1
     ·exact .inl ⟨b,h1,.inr ⟨h2,rfl,rfl⟩⟩
     ·exact .inr ⟨h1,rfl,rfl⟩
    generalize hv:(Fn ops T0 vals vals.length).getD d .junk=gv at h
    have go2:∀b,gv=.pv .bool b->b=want->∀v δ vis,ed P (Fn ops T0 vals vals.length) vis base (IV C o) o v δ->OO P ops (Fn ops T0 vals vals.length) vis base (IV C o) o v δ:=by
     intro b h1 h2 v δ vis h3
     unfold OO;rw[hg]
     exact⟨d,hd,.inl ⟨b,hv.trans h1,.inl ⟨h2,h3⟩⟩⟩
    split at h
    ·rename_i t
     have hsame:(Fn ops T0 vals vals.length).set d (.pv .bool t)=Fn ops T0 vals vals.length:=WW hv (by simp)
     cases t with
     |true=>
      dsimp only at h
      have hs1:(Fn ops T0 vals vals.length).set d (.b true)=Fn ops T0 vals vals.length:=hsame
      rw[hs1]at h
      by_cases e:want=true
      ·rw[if_pos e]at h;exact go h (go2 true rfl e.symm)
      ·rw[if_neg e]at h;exact skip h (skip2 (.inl ⟨true,hv,fun h=>e h.symm⟩))
     |false=>
      dsimp only at h
      have hs1:(Fn ops T0 vals vals.length).set d (.b false)=Fn ops T0 vals vals.length:=hsame
      rw[hs1]at h
      by_cases e:want=false
      ·rw[if_pos e]at h;exact go h (go2 false rfl e.symm)
      ·rw[if_neg e]at h;exact skip h (skip2 (.inl ⟨false,hv,fun h=>e h.symm⟩))
    ·exact skip h (skip2 (.inr hv))
    ·cases h
theorem Q5 (n i:Nat):(Array.replicate n false).getD i false=false:=by
 rw[Array.getD_eq_getD_getElem?,Array.getElem?_replicate];split<;>rfl
include HC in
theorem sx {R:Type}{id:Nat}{ops:Array Oper}(hreg:Og ops=true){r:R}{F:Fr}{Q:Exit->Act->World->Prop}{s:St}{base:Nat}{K:St->Option R}(h:Ps C id (LV ops.toList []) ops ops.toList [] base s K=some r){E:Env}{w:World}{a:Act}(hI:Inv F E s.h w)(ht:KZ E s.h w s.t a.tmps)
 (hQ:∀s' E' a' w',K s'=some r->Inv F E' s'.h w'->KZ E' s'.h w' s'.t a'.tmps->a'.defers=a.defers->Q .normal a' w'):(Code.region id ops true).wp P Q a w:=by
 obtain⟨T,hp⟩:=s
 obtain⟨vals,dels,trs,A,h1,h2⟩:=Rc (P:=P) HC ops.toList (vals:=[]) (dels:=[]) (trs:=[]) (T0:=T) (h0:=hp) ⟨rfl,rfl,⟨fun i a h=>by simp at h,fun i k a r _ h=>by simp at h,fun i a h=>by simp at h⟩,fun k a h=>by simp at h,fun j o v δ tr _ h=>by simp at h⟩ (fun i o ho=>by simpa using ho) (by simp) h
 refine wp_region_any HC.wide (sK hreg h1 (by rw[A.ld,h1]) (trs:=trs) (by rw[A.lt,h1]) A.ok A.steps (d0:=a.defers) (fun E a' w' hI' ht' hd=>hQ _ E a' w' h2 hI' ht' hd) ops.size (Array.replicate ops.size false) hp E a _ ⟨hI.draw,ht.1,?_,?_,?_,by simp,rfl,fun r=>⟨0,Nat.zero_le _,fun k _=>?_,rfl⟩⟩ ?_)
 ·intro i o d v hl;rw[Q5]at hl;cases hl
 ·intro t c hc _
  obtain⟨val,q1,q2⟩:=ht.2 t c hc
  exact⟨val,q1,IZ (QZ E hp w) c q2⟩
 ·intro i o e hl;rw[Q5]at hl;cases hl
 ·rw[Q5];exact⟨(fun h=>by cases h),(fun h=>absurd h (Nat.not_lt_zero _))⟩
 ·exact Nat.le_trans (List.length_filter_le _ _) (by simp)
end
end Go.Ab
end
section
namespace Go.Ab
theorem Ox (live:List Nat):(l:List AV)->(i:Nat)->(keep live l i).length=l.length
 |[],_=>rfl
 |v::l,i=>by simp[keep,Ox live l]
theorem af (live:List Nat):(l:List AV)->(i j:Nat)->(c:AV)->(keep live l i)[j]? =some c->c=.junk\/l[j]? =some c
 |[],_,j,c,h=>by simp[keep]at h
 |v::l,i,0,c,h=>by
  simp only[keep,List.getElem?_cons_zero,Option.some.injEq]at h ⊢
  split at h
  ·exact .inr h
  ·exact .inl h.symm
 |v::l,i,j+1,c,h=>by
  simp only[keep,List.getElem?_cons_succ]at h ⊢
  exact af live l (i+1) j c h
theorem X3 {E:Env}{h:Am}{w:World}{t:List AV}{a:Array Value}(ht:KZ E h w t a)(live:List Nat):KZ E h w (keep live t 0) a:=by
 refine⟨by rw[Ox];exact ht.1,fun i c hi=>?_⟩
 rcases af live t 0 i c hi with rfl|h1
 ·have:i<a.size:=by
   rw[<-ht.1,<-Ox live t 0]
   exact(zQj.1 hi).1
  exact⟨a[i],by simp[this],by simp only[Ag]⟩
 ·exact ht.2 i c h1
theorem U0 {σ ρ:Type}{B:σ->Option (σ ⊕ ρ)}{s:σ}{r:ρ}(h:Au B s=some r):∃n,Kr B n s=some r:=by
 unfold Au at h
 split at h
 ·exact⟨_,h⟩
 ·cases h
def Ex.out:Ex->Exit
 | .normal=>.normal
 | .ret=>.ret
 | .exit id=>.exit id
def Aj3 (P:Program)(n:Nat)(c:Code){R:Type}(s:St)(K:Ex->St->Option R)(r:R):Prop:=
 ∀(F:Fr) (E:Env) (w:World) (a:Act) (Q:Exit->Act->World->Prop),FrOK n F->Inv F E s.h w->KZ E s.h w s.t a.tmps->
  (∀e s' E' a' w',K e s'=some r->Inv F E' s'.h w'->KZ E' s'.h w' s'.t a'.tmps->a'.defers=a.defers->Q e.out a' w')->c.wp P Q a w
def ej (P:Program)(n:Nat)(c:Code)(F:ek):Prop:=∀(R:Type) (s:St) (K:Ex->St->Option R) (r:R),F s R K=some r->Aj3 P n (.loop c) s K r
def EV:Code->List Code
 | .seq a b=>EV a++EV b
 | .cond _ a b=>EV a++EV b
 | .block _ c=>EV c
 | .loop c=>c::EV c
 |_=>[]
def Ph (P:Program)(C:Cfg)(c:Code):Prop:=∀b∈EV c,∀F,(C.ann.find? fun x=>x.1==KL b).map (·.2)=some F->ej P C.lent b F
section
variable {P:Program}{C:Cfg}(HC:CfgOK P C)
include HC in
theorem K3:(c:Code)->Ph P C c->{R:Type}->{s:St}->{K:Ex->St->Option R}->{r:R}->Kk C c s K=some r->Aj3 P C.lent c s K r
 | .skip,HL,R,s,K,r,h=>fun F E w a Q FO hI ht hQ=>wp_skip (hQ .normal s E a w (by simpa only[Kk]using h) hI ht rfl)
 | .label _,HL,R,s,K,r,h=>fun F E w a Q FO hI ht hQ=>wp_label (hQ .normal s E a w (by simpa only[Kk]using h) hI ht rfl)
 | .region id ops draw,HL,R,s,K,r,h=>fun F E w a Q FO hI ht hQ=>by
   unfold Kk at h
   cases draw with
   |true=>
    simp only[if_true]at h
    split at h
    ·rename_i hreg
     obtain⟨δ,h,hconv⟩:=JX _ h
     obtain⟨E1,hI1,hK1⟩:=(hconv s.h (BM.refl _)).2 F E w hI
     exact sx HC hreg (s:=⟨s.t,apD s.h δ⟩) h hI1 (ht.keep hK1) fun s' E' a' w' h1 h2 h3 h4=>hQ .normal s' E' a' w' h1 h2 h3 h4
    ·cases h
   |false=>
    simp only[Bool.false_eq_true,if_false]at h
    refine wp_region_list (QL HC ops.toList h hI ht fun s' E' a' w' h1 h2 h3 h4=>hQ .normal s' E' a' w' h1 h2 h3 h4)
 | .seq x y,HL,R,s,K,r,h=>fun F E w a Q FO hI ht hQ=>by
   unfold Kk at h
   refine wp_seq (K3 x (fun b hb=>HL b (List.mem_append_left _ hb)) h F E w a _ FO hI ht fun e s' E' a' w' h1 h2 h3 h4=>?_)
   cases e with
   |normal=>exact K3 y (fun b hb=>HL b (List.mem_append_right _ hb)) h1 F E' w' a' _ FO h2 h3 fun e s'' E'' a'' w'' k1 k2 k3 k4=>hQ e s'' E'' a'' w'' k1 k2 k3 (k4.trans h4)
   |ret=>exact hQ .ret s' E' a' w' h1 h2 h3 h4
   |exit id=>exact hQ (.exit id) s' E' a' w' h1 h2 h3 h4
 | .cond c x y,HL,R,s,K,r,h=>fun F E w a Q FO hI ht hQ=>by
   unfold Kk at h
   have hc:=ht.eval c
   split at h
   ·rename_i t e
    rw[e]at hc
    have hb:=KP hc
    split at h
    ·exact wp_cond_true hb (K3 x (fun b hb=>HL b (List.mem_append_left _ hb)) h F E w a _ FO hI ht hQ)
    ·exact wp_cond_false hb (K3 y (fun b hb=>HL b (List.mem_append_right _ hb)) h F E w a _ FO hI ht hQ)
   ·rename_i e
    rw[e]at hc
    simp only[Ag]at hc
    obtain⟨b,hb⟩:=hc
    obtain⟨h1,h2⟩:=sE h
    cases b with
    |true=>exact wp_cond_true hb (K3 x (fun b hb=>HL b (List.mem_append_left _ hb)) h1 F E w a _ FO hI ht hQ)
    |false=>exact wp_cond_false hb (K3 y (fun b hb=>HL b (List.mem_append_right _ hb)) h2 F E w a _ FO hI ht hQ)
   ·cases h
 | .block id c,HL,R,s,K,r,h=>fun F E w a Q FO hI ht hQ=>by
   unfold Kk at h
   refine wp_block (K3 c HL h F E w a _ FO hI ht fun e s' E' a' w' h1 h2 h3 h4=>?_)
   cases e with
   |normal=>exact hQ .normal s' E' a' w' h1 h2 h3 h4
   |ret=>exact hQ .ret s' E' a' w' h1 h2 h3 h4
   |exit j=>
    simp only[Ex.out,Exit.inBlock]
    simp only at h1
    split at h1
    ·rename_i e;rw[if_pos e];exact hQ .normal s' E' a' w' h1 h2 h3 h4
    ·rename_i e;rw[if_neg e];exact hQ (.exit j) s' E' a' w' h1 h2 h3 h4
 | .loop c,HL,R,s,K,r,h=>by
   unfold Kk at h
   split at h
   ·cases h
   ·rename_i F hF
    exact HL c (List.mem_cons_self ..) F hF R s K r h
 | .exit id,HL,R,s,K,r,h=>fun F E w a Q FO hI ht hQ=>wp_exit (hQ (.exit id) s E a w (by simpa only[Kk]using h) hI ht rfl)
 | .ret,HL,R,s,K,r,h=>fun F E w a Q FO hI ht hQ=>wp_ret (hQ .ret s E a w (by simpa only[Kk]using h) hI ht rfl)
 | .rangeFunc ..,HL,R,s,K,r,h=>by simp[Kk]at h
 | .scope ..,HL,R,s,K,r,h=>by simp[Kk]at h
 | .goto ..,HL,R,s,K,r,h=>by simp[Kk]at h
 | .refuse ..,HL,R,s,K,r,h=>by simp[Kk]at h
include HC in
theorem Af2 {c:Code}(HL:Ph P C c)(T:Tmpl)(live:List Nat){ι ν π:Type}(mk:ι->ν->den T.ty)(sp:den T.ty->ι×ν)(hsp:∀x,mk (sp x).1 (sp x).2=x)
 (D:ι->ν->(R:Type)->((ν ⊕ π)->Option R)->Option R)(hD:∀i v (R:Type) (K:(ν ⊕ π)->Option R),D i v R K=(D i v _ some).bind K)
 (FK:ι->π->(R:Type)->(Ex->St->Option R)->Option R)
 (kk:ι->π->Ex×St)(hFK:∀i p R K,FK i p R K=K (kk i p).1 (kk i p).2)
 (hbody:∀i v,Kk C c (T.write (mk i v)) (Qr T C.lent live)=D i v _ fun r=>some (Sum.map (mk i) (kk i) r)):
 ej P C.lent c fun s R K=>T.readS C.lent s fun x=>(Au (fun v=>D (sp x).1 v _ some) (sp x).2).bind fun p=>FK (sp x).1 p R K:=by
 intro R s K r h F E w a Q FO hI ht hQ
 obtain⟨x,h,hx⟩:=TA h
 obtain⟨p,hp,h⟩:=Bf h
 rw[hFK]at h
 have hx':=hsp x
 obtain⟨E0,k1,k2⟩:=hx F E w a.tmps FO hI ht
 revert hp h hx' k1 k2
 generalize (sp x).1=i
 generalize (sp x).2=v0
 intro hp h hx' k1 k2
 subst hx'
 obtain⟨N,hN⟩:=U0 hp
 refine wp_loop_rounds N ?_
 have key:∀N (v:ν) (E:Env) (a':Act) (w:World),Kr (fun v=>D i v _ some) N v=some p->Inv F E (T.write (mk i v)).h w->KZ E (T.write (mk i v)).h w (T.write (mk i v)).t a'.tmps->a'.defers=a.defers->Code.rounds P c Q N a' w:=by
  intro N
  induction N with
  |zero=>intro v E a' w h;simp[Kr]at h
  |succ N ih=>
   intro v E a' w hN hI ht hd
   unfold Kr at hN
   obtain⟨q,hq,hN⟩:=Bf hN
   have hb:=hbody i v
   rw[hD,hq]at hb
   have hb2:Kk C c (T.write (mk i v)) (Qr T C.lent live)=some (Sum.map (mk i) (kk i) q):=hb
   rw[rounds_succ]
   refine K3 HC c HL hb2 F E w a' _ FO hI ht fun e s' E' a'' w'' h1 h2 h3 h4=>?_
   cases e with
   |normal=>
    simp only[Qr]at h1
    obtain⟨y,e1,hy⟩:=TA h1
    cases q with
    |inl v'=>
     have e2:y=mk i v':=by simpa using e1
     subst e2
     obtain⟨_,k1,k2⟩:=hy F E' w'' a''.tmps FO h2 h3
     exact ih v' _ a'' w'' hN k1 k2 (h4.trans hd)
    |inr p'=>cases e1
   |ret=>
    simp only[Qr,Option.some.injEq]at h1
    cases q with
    |inl v'=>cases h1
    |inr p'=>
     obtain rfl:p'=p:=by simpa using hN
     have e1:(Ex.ret,s'.trim live)=kk i p':=by simpa using h1
     rw[<-e1]at h
     exact hQ .ret (s'.trim live) E' a'' w'' h h2 (X3 h3 live) (h4.trans hd)
   |exit id=>
    simp only[Qr,Option.some.injEq]at h1
    cases q with
    |inl v'=>cases h1
    |inr p'=>
     obtain rfl:p'=p:=by simpa using hN
     have e1:(Ex.exit id,s'.trim live)=kk i p':=by simpa using h1
     rw[<-e1]at h
     exact hQ (.exit id) (s'.trim live) E' a'' w'' h h2 (X3 h3 live) (h4.trans hd)
 exact key N v0 _ a w hN k1 k2 rfl
end
end Go.Ab
end
section
namespace Go.Ab
open Go.RowKit
section
variable {F:Fr}{E:Env}{h:Am}{w:World}
theorem Tf (H:Inv F E h w){r:Nat}(hr:h.getD r none=none)(t:Ty):Inv F E (setH h r (.tree false 0 t [] none)) w/\Keep E h w E (setH h r (.tree false 0 t [] none)) w:=by
 have hg:(setH h r (.tree false 0 t [] none)).getD r none=some (.tree false 0 t [] none):=by rw[An,if_pos rfl]
 have hno:∀κ x,E.ι r κ≠some x:=fun κ x hx=>by obtain⟨c',h1,_⟩:=H.heap.live r κ x hx;rw[hr]at h1;cases h1
 have hst:∀s c,AC (setH h r (.tree false 0 t [] none)) r s=.on c->s=none/\c=.tree false 0 t [] none:=by
  intro s c e
  cases s with
  |none=>rw[AB hg]at e;exact⟨rfl,by simpa using e.symm⟩
  |some p=>
   obtain⟨i,k,v⟩:=p
   obtain⟨_,_,hn⟩:=DB hg e
   obtain⟨u,ys,_,hi,_⟩:=HV hn
   simp at hi
 have T:Touch (fun q=>q=r) E h w E (setH h r (.tree false 0 t [] none)) w:=by
  refine{hh:=fun q hq=>by rw[An,if_neg hq],hι:=fun q κ hq=>rfl,II:=fun b hb=>hb,size:=zQq _,os:=rfl,tape:=rfl,output:=⟨rfl,zQq _⟩,
         blk:=fun b hb _=>rfl,asz:=fun b a t ha=>⟨a,ha,rfl⟩,off:=?_,on:=?_,som:=?_,fix:=(fun q hq h1=>by subst hq;simp only[DV,hr]at h1;cases h1),obj:=?_,siz:=?_,from_:=?_,inj:=?_,live:=?_,Inew:=fun b hb=>.inl hb,apart:=?_,roI:=?_}
  ·rintro q s rfl e;rw[EH hr]at e;cases e
  ·rintro q s c0 rfl e;rw[EH hr]at e;cases e
  ·rintro q rfl;exact⟨_,hg⟩
  ·rintro K q s c0 rfl e
   obtain⟨rfl,rfl⟩:=hst s c0 e
   exact .inl rfl
  ·rintro q s c0 b n rfl e h1;exact absurd h1 (hno _ _)
  ·rintro q κ b n rfl h1;exact absurd h1 (hno _ _)
  ·rintro q κ q' κ' b n n' rfl rfl h1 h2;exact absurd h1 (hno _ _)
  ·rintro q κ x rfl h1;exact absurd h1 (hno _ _)
  ·rintro q κ b n rfl h1;exact absurd h1 (hno _ _)
  ·rintro q κ b n rfl h1;exact absurd h1 (hno _ _)
 exact T.inv H
theorem qY (H:Inv F E h w){r r2:Nat}{t:Ty}{xs:List (den t)}{n:Nat}{rg:Option (Nat×Nat)}(hc:h.getD r none=some (.lst false t xs))(hnew:h.getD r2 none=none)(hrg:rg.getD (0,xs.length)=(0,n)){v:Value}(hv:Ag E h w (.own r none rg) v):
 ∃E',Inv F E' (setH (setH h r .dead) r2 (.lst false t (xs.take n))) w/\Keep E h w E' (setH (setH h r .dead) r2 (.lst false t (xs.take n))) w/\Ag E' (setH (setH h r .dead) r2 (.lst false t (xs.take n))) w (.own r2 none none) v:=by
 have hst:=Av hc (by simp)
 simp only[Ag]at hv ⊢
 rw[BG hst]at hv
 obtain⟨hle,h1⟩:=hv
 simp only[Cont.len,Cont.sz,key,hrg]at hle h1
 have hl:(xs.take n).length=n:=by simp;omega
 have hne:r2≠r:=by rintro rfl;rw[hc]at hnew;cases hnew
 have hst2:AC (setH (setH h r .dead) r2 (.lst false t (xs.take n))) r2 none=.on (.lst false t (xs.take n)):=Av (by rw[An,if_pos rfl]) (by simp)
 rcases h1 with⟨h0,rfl⟩|⟨b,m,a,hι,rfl,hm,ha,arr,ty,hb,hcap⟩
 ·obtain⟨k1,k2⟩:=Qw H hc rfl
  obtain⟨k3,k4⟩:=SN k1 (r:=r2) (by rw[An,if_neg hne];exact hnew) (.lst false t (xs.take n)) trivial (by show(xs.take n).length=0;omega)
  refine⟨_,k3,k2.trans k4,?_⟩
  rw[BG hst2]
  exact⟨by simp[Cont.len],.inl ⟨by show(xs.take n).length=0;omega,rfl⟩⟩
 ·simp only[Nat.zero_mul,zJj]at ha hcap
  have hnm:n*t.size<=m*t.size:=zJx _ hm
  obtain⟨k1,k2⟩:=Qv H hc trivial hnew (d:=.lst false t (xs.take n)) trivial hb (fun _ _ _=>rfl) (.inl ⟨hι,fun a' t' e=>by rw[hb]at e;simp only[Option.some.injEq,Obj.cells.injEq]at e;exact⟨e.2.1.symm,by rw[e.1]⟩⟩) (zQq _) (Array.getElem?_eq_some_iff.1 hb).1 rfl rfl ⟨rfl,zQq _⟩ (by show(xs.take n).length*t.size<=_;rw[hl];omega) (fun i hi=>by
   have hi:i<(xs.take n).length:=hi
   rcases H.heap.obj r none _ hst with h0|⟨b',arr',ty',hι',hb',_,hels⟩
   ·simp only[Cont.len]at h0;omega
   simp only[key,Cont.sz]at hι'
   rw[hι]at hι';obtain rfl:b=b':=by simpa using hι'
   rw[hb]at hb'
   simp only[Option.some.injEq,Obj.cells.injEq]at hb'
   obtain⟨rfl,_⟩:=hb'
   obtain⟨cs,vs,g1,g2,g3,g4⟩:=hels i (by show i<xs.length;omega)
   exact⟨cs,vs,by rw[<-g1];simp only[Cont.at?];rw[List.getElem?_take,if_pos (by omega)],g2,g3,g4⟩)
  refine⟨_,k1,k2,?_⟩
  rw[BG hst2]
  exact⟨by simp[Cont.len],.inr ⟨b,m,a,by simp[Env.set,key,Cont.sz],by simp[Cont.len,hl],by simp[Cont.len,hl];omega,by simpa using ha,arr,ty,hb,by simpa[Cont.sz]using hcap⟩⟩
theorem A8f (H:Inv F E h w){r r2:Nat}{ver:Nat}{t:Ty}{xs:List (den t)}(hc:h.getD r none=some (.tree false ver t xs none))(hnew:h.getD r2 none=none){v:Value}(hv:Ag E h w (.own r none none) v):
 ∃E',Inv F E' (setH (setH h r .dead) r2 (.tree false 0 t xs none)) w/\Keep E h w E' (setH (setH h r .dead) r2 (.tree false 0 t xs none)) w/\Ag E' (setH (setH h r .dead) r2 (.tree false 0 t xs none)) w (.own r2 none none) v:=by
 have hst:=AB hc
 have hne:r2≠r:=by rintro rfl;rw[hc]at hnew;cases hnew
 have hg2:(setH (setH h r .dead) r2 (.tree false 0 t xs none)).getD r2 none=some (.tree false 0 t xs none):=by rw[An,if_pos rfl]
 simp only[Ag]at hv ⊢
 rw[BG hst]at hv
 rcases JJ hv with⟨h0,rfl⟩|⟨b,m,a,arr,ty,rfl,hm,ha,hb,hcap,hι⟩
 ·have hx:xs=[]:=List.eq_nil_of_length_eq_zero h0
  subst hx
  obtain⟨k1,k2⟩:=Qw H hc rfl
  obtain⟨k3,k4⟩:=Tf k1 (r:=r2) (by rw[An,if_neg hne];exact hnew) t
  exact⟨_,k3,k2.trans k4,(BG (AB hg2)).2 ⟨by simp[Cont.len],.inl ⟨rfl,rfl⟩⟩⟩
 ·simp only[Cont.len,Cont.sz]at hm hcap hι
  have hnm:xs.length*t.size<=m*t.size:=zJx _ hm
  have hbroot:∀q κ n,E.ι q (some κ)≠some (b,n):=fun q κ n e=>by have:=(H.heap.inj _ _ _ _ _ _ _ e hι).2;cases this
  obtain⟨E',g1,g2,g3⟩:=LF H (r:=r2) (ver:=0) (t:=t) (xs:=xs) (K:=fun q=>q=r) (fun q hq=>⟨by rw[hq];exact Ne.symm hne,.tree false ver t xs none,by rw[hq];exact hc,rfl⟩) (h':=setH (setH h r .dead) r2 (.tree false 0 t xs none)) hg2 (fun q hq=>by rw[hq,An,if_neg (Ne.symm hne),An,if_pos rfl]) (fun q k1 k2=>by rw[An,if_neg k1,An,if_neg k2]) hb (fun _ _ _=>rfl) (.inl hnew) (.inl ⟨r,_,.inr rfl,hι,fun a' t' e=>by rw[hb]at e;simp only[Option.some.injEq,Obj.cells.injEq]at e;exact⟨e.2.1.symm,by rw[e.1]⟩⟩) (zQq _) (Array.getElem?_eq_some_iff.1 hb).1 rfl rfl ⟨rfl,zQq _⟩ (by omega) (fun p=>E.ι r (some p))
   (fun p b0 n0 e=>⟨r,some p,.inr rfl,e,fun hbb=>by subst hbb;exact hbroot _ _ _ e⟩) (fun p p' b0 n0 n1 e e'=>by have:=(H.heap.inj _ _ _ _ _ _ _ e e').2;simpa using this)
   (fun i hi=>by
     obtain⟨b',arr',ty0,t1,t2,t3,t4⟩:=Lp H.heap hc (by omega)
     rw[hι]at t1;obtain rfl:b=b':=by simpa using t1
     rw[hb]at t2
     simp only[Option.some.injEq,Obj.cells.injEq]at t2
     obtain⟨rfl,_⟩:=t2
     obtain⟨vs,k1,k2,k3⟩:=t4 i hi
     exact⟨vs,Ju.of (by rw[Dq,k1]) fun j hj1 hj2=>by rw[zJj];exact k3 j hj1 hj2 (by simp),k2⟩)
  exact⟨E',g1,g2,(BG (AB hg2)).2 ⟨by simp[Cont.len],.inr ⟨b,m,a,by simpa[key,Cont.sz]using g3,by simp[Cont.len],by simpa[Cont.len]using hm,by simpa using ha,arr,ty,hb,by simpa[Cont.sz]using hcap⟩⟩⟩
theorem Ajd (H:Inv F E h w){b n k:Nat}{es es':List AV}(hc:h.getD b none=some (.cells n [es]))(hrep:∀b' arr ty (vs:List Value),E.ι b none=some (b',n)->w.heap[b']? =some (.cells arr ty (0,0))->vs.length=n->(∀(j:Nat) (hj:j<vs.length),arr[j]? =some vs[j])->Ak E h w es vs->Ak E h w es' vs):
 Inv F E (setH h b (.cells n [es'])) w/\Keep E h w E (setH h b (.cells n [es'])) w:=by
 have hst:=Av hc (by simp)
 rcases H.heap.obj b none _ hst with h0|⟨b',arr,ty,hι,hb,hfit,hels⟩
 ·simp[Cont.len]at h0
 simp only[key,Cont.sz]at hι hfit hels
 refine RQ H hc trivial (c':=.cells n [es']) trivial rfl (arr':=arr) hι hb rfl rfl rfl hfit (fun i hi=>?_) (fun k _=>?_) (zQq _) rfl rfl ⟨rfl,zQq _⟩
 ·obtain⟨cs,vs,k1,k2,k3,k4⟩:=hels i hi
  have hi0:i=0:=by have:i<1:=hi;omega
  subst hi0
  obtain rfl:es=cs:=by simpa[Cont.at?]using k1
  exact⟨es',vs,rfl,k2,hrep b' arr ty vs hι hb k2 (fun j hj=>by simpa using k4 j hj) k3,k4⟩
 ·by_cases e:k=b'
  ·subst e;rw[if_pos rfl,hb]
  ·rw[if_neg e]
end
theorem Ags {F:Fr}{E:Env}{h:Am}{w:World}(H:Inv F E h w){r r2:Nat}{c c':Cont}(hc:h.getD r none=some c)(hr:Uf c=some c')(hnew:h.getD r2 none=none){v:Value}(hv:Ag E h w (.own r none none) v):
 ∃E',Inv F E' (setH (setH h r .dead) r2 c') w/\Keep E h w E' (setH (setH h r .dead) r2 c') w/\Ag E' (setH (setH h r .dead) r2 c') w (.own r2 none none) v:=by
 unfold Uf at hr
 split at hr
 ·rename_i t xs
  obtain rfl:_=c':=by simpa using hr
  have:=qY H (n:=xs.length) hc hnew rfl hv
  rwa [List.take_length]at this
 ·obtain rfl:_=c':=by simpa using hr
  exact A8f H hc hnew hv
 ·cases hr
theorem X5 {E:Env}{h:Am}{w:World}{c:AV}:{es:List AV}->{vs:List Value}->(k:Nat)->Ak E h w es vs->(∀v,vs[k]? =some v->Ag E h w c v)->Ak E h w (es.set k c) vs
 |[],vs,k,hr,_=>by simpa using hr
 |e::es,vs,0,hr,hc=>by
  simp only[Ak]at hr
  obtain⟨v,us,rfl,h1,h2⟩:=hr
  exact Ak.cons (hc v rfl) h2
 |e::es,vs,k+1,hr,hc=>by
  simp only[Ak]at hr
  obtain⟨v,us,rfl,h1,h2⟩:=hr
  exact Ak.cons h1 (X5 k h2 (fun v' hv'=>hc v' (by simpa using hv')))
theorem A8g {R:Type}{c:Option (Nat×Nat)}{h:Am}{vs:List AV}{K:Am->List AV->Option R}{r:R}(e:Amk c h vs K=some r):
 ∃h' vs',K h' vs'=some r/\∀(F:Fr) (E:Env) (w:World) (us:List Value),Inv F E h w->Ak E h w vs us->∃E',Inv F E' h' w/\Ak E' h' w vs' us:=by
 have hnew:h.getD h.length none=none:=by simp
 unfold Amk at e
 split at e
 ·split at e
  ·rename_i q l
   split at e
   case h_2=>cases e
   rename_i c hq
   split at e
   case h_2=>cases e
   rename_i c' hc'
   refine⟨_,_,e,fun F E w us H hr=>?_⟩
   simp only[Ak]at hr
   obtain⟨u,us,rfl,h1,h2⟩:=hr
   obtain⟨E',k1,k2,k3⟩:=Ags H hq hc' hnew h1
   exact⟨E',k1,Ak.cons k3 (C4 k2 l h2)⟩
  ·rename_i q p l
   split at e
   case h_2=>cases e
   rename_i t xs hq
   split at e
   case isFalse=>cases e
   rename_i hp
   refine⟨_,_,e,fun F E w us H hr=>?_⟩
   simp only[Ak]at hr
   obtain⟨u,us,rfl,h1,h2⟩:=hr
   obtain⟨E',k1,k2,k3⟩:=qY H (n:=p.2) hq hnew (by simp only[Option.getD_some];rw[<-hp]) h1
   exact⟨E',k1,Ak.cons k3 (C4 k2 l h2)⟩
  ·exact⟨h,_,e,fun F E w us H hr=>⟨E,H,hr⟩⟩
  ·cases e
 ·rename_i b k
  split at e
  case h_2=>cases e
  rename_i n es hb
  split at e
  ·rename_i q hk
   split at e
   case h_2=>cases e
   rename_i c hq
   split at e
   case h_2=>cases e
   rename_i c' hc'
   refine⟨_,_,e,fun F E w us H hr=>?_⟩
   have hst:=Av hb (by simp)
   rcases H.heap.obj b none _ hst with h0|⟨b',arr,ty,hι,hbb,hfit,hels⟩
   ·simp[Cont.len]at h0
   obtain⟨cs,ws,k1,k2,k3,k4⟩:=hels 0 (by simp[Cont.len])
   obtain rfl:es=cs:=by simpa[Cont.at?]using k1
   obtain⟨v,hv,h1⟩:=k3.get k hk
   have hqb:b≠q:=by
    rintro rfl
    rw[hb]at hq
    obtain rfl:=by simpa using hq
    cases hc'
   have hbl:b≠h.length:=by rintro rfl;rw[hb]at hnew;cases hnew
   obtain⟨E',m1,m2,m3⟩:=Ags H hq hc' hnew h1
   have hb2:(setH (setH h q .dead) h.length c').getD b none=some (.cells n [es]):=by rw[An,if_neg hbl,An,if_neg hqb];exact hb
   simp only[key,Cont.sz]at hι k2 k4
   have hιE:E'.ι b none=some (b',n):=by
    rcases m2.on b none _ hst with g1|⟨c2,g1,_,_,g2,_⟩
    ·rw[Av hb2 (by simp)]at g1;cases g1
    ·exact g2.trans hι
   obtain⟨j1,j2⟩:=Ajd (k:=k) m1 hb2 (es':=es.set k (.own h.length none none)) (fun b2 arr2 ty2 vs2 g1 g2 g3 g4 g5=>by
    rw[hιE]at g1;obtain rfl:b'=b2:=by simpa using g1
    rw[hbb]at g2
    simp only[Option.some.injEq,Obj.cells.injEq]at g2
    obtain⟨rfl,_⟩:=g2
    refine X5 k g5 (fun v' hv'=>?_)
    obtain⟨hkl,hke⟩:=zQj.1 hv
    obtain⟨hkl',hke'⟩:=zQj.1 hv'
    have e1:=g4 k hkl'
    have e2:=k4 k hkl
    simp only[Nat.zero_mul,zJj]at e2
    rw[e2]at e1
    have:v=v':=by rw[<-hke,<-hke'];exact Option.some.inj e1
    subst this;exact m3)
   exact⟨E',j1,C4 (m2.trans j2) vs hr⟩
  ·exact⟨h,vs,e,fun F E w us H hr=>⟨E,H,hr⟩⟩
  ·cases e
theorem R6 {R:Type}:(cs:List (Option (Nat×Nat)))->{h:Am}->{vs:List AV}->{K:Am->List AV->Option R}->{r:R}->U6 cs h vs K=some r->
 ∃h' vs',K h' vs'=some r/\∀(F:Fr) (E:Env) (w:World) (us:List Value),Inv F E h w->Ak E h w vs us->∃E',Inv F E' h' w/\Ak E' h' w vs' us
 |[],h,vs,K,r,e=>⟨h,vs,e,fun F E w us H hr=>⟨E,H,hr⟩⟩
 |c::cs,h,vs,K,r,e=>by
  unfold U6 at e
  obtain⟨h1,vs1,e1,k1⟩:=A8g e
  obtain⟨h2,vs2,e2,k2⟩:=R6 cs e1
  refine⟨h2,vs2,e2,fun F E w us H hr=>?_⟩
  obtain⟨E1,m1,m2⟩:=k1 F E w us H hr
  exact k2 F E1 w us m1 m2
end Go.Ab
end
section
namespace Go.Ab
open Go.RowKit
section
variable {P:Program}{C:Cfg}(HC:CfgOK P C)
def QP (tmps:Array Value):ResultVar->Sem Value
 | .tmp t=>pure (tmps.getD t undef)
 | .cell a t=>do loadVar t (<-asAddr (tmps.getD a undef))
theorem SP {E:Env}{h:Am}{w:World}{t:List AV}{a:Array Value}(ht:KZ E h w t a)(i:Nat):Ag E h w (t.getD i .junk) (a.getD i undef):=by
 have:=ht.eval (a:={tmps:=a,defers:=[]}) (.tmp i)
 simpa[ev,Act.eval]using this
theorem A7f {R:Type}{i:TI}{cs:List AV}{K:AV->Option R}{r:R}(h:ldK i cs K=some r):∃v,Nb i cs=some v/\K v=some r:=by
 unfold ldK at h
 split at h
 ·rename_i v e;exact⟨v,e,h⟩
 ·cases h
include HC in
theorem tj {R:Type}{s:St}{rv:ResultVar}{K:AV->Option R}{r:R}(h:Ajb C s rv K=some r):
 ∃v,K v=some r/\∀{E:Env} {w:World} {a:Array Value},HeapOK E s.h w->KZ E s.h w s.t a->∃u,(QP a rv).run P w=.ok u w/\Ag E s.h w v u:=by
 cases rv with
 |tmp t=>
  exact⟨_,h,fun{E w a} H ht=>⟨_,rfl,SP ht t⟩⟩
 |cell x t=>
  simp only[Ajb]at h
  split at h
  case h_2=>cases h
  rename_i i hi
  split at h
  ·rename_i n e hu
   obtain⟨v,hK,hv⟩:=Rk (P:=P) (HC.tab.ti _ _ hi) hu h
   refine⟨v,hK,fun{E w a} H ht=>?_⟩
   have hx:=SP ht x
   obtain⟨u,k5,k6⟩:=hv s.h (BM.refl _) E w _ H hx
   refine⟨u,?_,k6⟩
   unfold Ou at h
   split at h
   case h_2=>cases h
   rename_i q hp
   rw[hp]at hx
   simp only[Ag]at hx
   obtain⟨a',hv'⟩:=MB hx
   rw[hv']at k5
   rw[Instr.loadAt]at k5
   simp only[QP,hv',asAddr,Sem.run_bind,Sem.run_pure,Result.andThen_ok]
   simpa[Instr.sureAddr]using k5
  split at h
  ·rename_i r' q j off hp
   obtain⟨c,h1,_,h2⟩:=FS h
   obtain⟨cs,h3,h4⟩:=T5 h1
   obtain⟨v,h5,h6⟩:=A7f h4
   refine⟨v,h6,fun{E w a} H ht=>?_⟩
   have hx:=SP ht x
   rw[hp]at hx
   simp only[Ag]at hx
   have hon:=(h2 s.h (BM.refl _)).at h3
   rw[JO hon]at hx
   obtain⟨b,hι,hv⟩:=hx
   obtain⟨b',vs,k1,k2,k3,k4⟩:=QW H hon h3
   rw[hι]at k1;obtain rfl:b=b':=by simpa using k1
   obtain⟨u,k5,k6⟩:=Lz (HC.tab.ti _ _ hi) (k3.drop off) (Nr k4 off) h5
   refine⟨u,?_,k6⟩
   rw[Instr.loadAt]at k5
   simp only[QP,hv,asAddr,Sem.run_bind,Sem.run_pure,Result.andThen_ok]
   simpa[Instr.sureAddr]using k5
  ·cases h
include HC in
theorem Tu {R:Type}{s:St}:(l:List ResultVar)->{K:List AV->Option R}->{r:R}->X2 C s l K=some r->
 ∃vs,K vs=some r/\∀{E:Env} {w:World} {a:Array Value},HeapOK E s.h w->KZ E s.h w s.t a->∃us,(l.mapM (QP a)).run P w=.ok us w/\Ak E s.h w vs us
 |[],K,r,h=>⟨[],h,fun{E w a} H ht=>⟨[],rfl,Ak.nil⟩⟩
 |rv::l,K,r,h=>by
  unfold X2 at h
  obtain⟨v,h1,h2⟩:=tj (P:=P) HC h
  obtain⟨vs,h3,h4⟩:=Tu l h1
  refine⟨v::vs,h3,fun{E w a} H ht=>?_⟩
  obtain⟨u,k1,k2⟩:=h2 H ht
  obtain⟨us,k3,k4⟩:=h4 H ht
  exact⟨u::us,by simp[List.mapM_cons,k1,k3],Ak.cons k2 k4⟩
theorem X1 {fn:Func}{a:Act}{w:World}{us:List Value}(h1:(fn.results.toList.mapM (QP a.tmps)).run P w=.ok us w):(results fn a.tmps).run P w=.ok (S7 us) w:=by
 have e:results fn a.tmps=(do let vs <-fn.results.mapM (QP a.tmps);pure (if h:vs.size=1 then vs[0]else .tuple vs)):=by
  unfold results
  congr 1
 rw[e,Array.mapM_eq_mapM_toList]
 simp only[Sem.run_bind,map_eq_pure_bind,h1,Result.andThen_ok,Sem.run_pure,bind_assoc,pure_bind]
 congr 1
 unfold S7
 match us with
 |[]=>rfl
 |[u]=>rfl
 |u::v::us=>simp
theorem rp {ρ ν:Nat->Nat}:(l:TmH)->l.ver0=true->(q0:Nat)->(∀k,ν (q0+k)=l.ver k)->(x:den l.ty)->∀k ro v t xs ho,(l.write ρ ν q0 x).getD k none=some (.tree ro v t xs ho)->v=0:=by
 have sh:∀{a:TmH} {f:TmH->TmH} {q0:Nat} {ν:Nat->Nat},(∀k,ν (q0+k)=(f a).ver k)->(∀k,(f a).ver (k+1)=a.ver k)->∀k,ν (q0+1+k)=a.ver k:=by
  intro a f q0 ν h1 h2 k
  rw[<-h2,<-h1];congr 1;omega
 intro l
 induction l with
 |nil=>intro _ q0 _ x k ro v t xs ho h;simp[TmH.write]at h
 |gone l ih=>
  intro h0 q0 hν x k ro v t xs ho h
  cases k with
  |zero=>simp[TmH.write]at h
  |succ k=>exact ih h0 (q0+1) (sh (f:=.gone) hν (fun k=>rfl)) x k ro v t xs ho h
 |kept l ih=>
  intro h0 q0 hν x k ro v t xs ho h
  cases k with
  |zero=>simp[TmH.write]at h
  |succ k=>exact ih h0 (q0+1) (sh (f:=.kept) hν (fun k=>rfl)) x k ro v t xs ho h
 |lst r u l ih=>
  intro h0 q0 hν x k ro v t xs ho h
  cases k with
  |zero=>simp[TmH.write]at h
  |succ k=>exact ih h0 (q0+1) (sh (f:=.lst r u) hν (fun k=>rfl)) x.2 k ro v t xs ho h
 |tree r v0 u l ih=>
  intro h0 q0 hν x k ro v t xs ho h
  unfold TmH.ver0 at h0
  rw[zJq]at h0
  obtain rfl:=eq_of_beq h0.1
  cases k with
  |zero=>
   have hν0:ν q0=0:=hν 0
   simp only[TmH.write,List.getD_cons_zero,Option.some.injEq,Cont.tree.injEq]at h
   rw[<-h.2.1];exact hν0
  |succ k=>exact ih h0.2 (q0+1) (sh (f:=.tree r 0 u) hν (fun k=>rfl)) x.2 k ro v t xs ho h
 |one u l ih=>
  intro h0 q0 hν x k ro v t xs ho h
  cases k with
  |zero=>simp[TmH.write]at h
  |succ k=>exact ih h0 (q0+1) (sh (f:=.one u) hν (fun k=>rfl)) x.2 k ro v t xs ho h
 |cells n ms l ih=>
  intro h0 q0 hν x k ro v t xs ho h
  cases k with
  |zero=>simp[TmH.write]at h
  |succ k=>exact ih h0 (q0+1) (sh (f:=.cells n ms) hν (fun k=>rfl)) _ k ro v t xs ho h
include HC in
theorem rq {f:FuncId}{fn:Func}{ti to:Tmpl}{x:den ti.ty}{y:den to.ty}(hf:P.funcs[f]? =some fn)(HL:∀c,fn.body=some c->Ph P C c)(h:RX C fn ti to x=some y):Aj4 P f ti to x y:=by
 intro E w vs hH hA
 unfold RX at h
 split at h
 ·cases h
 ·rename_i c hb
  split at h
  case isFalse=>cases h
  rename_i hc
  rw[zJq]at hc
  have hlent:C.lent=ti.hs.len:=Nat.eq_of_beq_eq_true hc.1
  have hlen0:(ti.objs0 x).length=ti.hs.len:=Gd ti.hs 0 _
  have FO:FrOK ti.hs.len (O3 E (ti.objs0 x) w):=by
   constructor
   ·intro r c hc
    rcases Nat.lt_or_ge r ti.hs.len with h1|h1
    ·exact h1
    ·have h2:(ti.objs0 x).getD r none=none:=Kh (by rw[hlen0];exact h1)
     have h3:(ti.objs0 x).getD r none=some c:=hc
     rw[h2]at h3;cases h3
   ·intro r ro v t xs ho h1
    exact rp ti.hs hc.2 0 (fun k=>by rw[zJj]) _ r ro v t xs ho h1
  obtain⟨h0,vs0,h,kc⟩:=R6 _ h
  obtain⟨E0,hI,hA⟩:=kc (O3 E (ti.objs0 x) w) E w vs ⟨hH,Bel.refl _ w,fun b hb=>(by
   obtain⟨r,κ,n,h1,_⟩:=hb
   exact hH.own_lt b ⟨r,κ,n,h1⟩),fun r κ b n h1 h2=>.inl ⟨r,κ,n,h1,h2⟩,fun b hb=>.inl hb,(Keep.refl E _ w).kept,fun r _=>.inl rfl⟩ hA
  have hlen:=hA.length
  refine calls_of_wp hf hb (K3 HC c (HL c hb) h (O3 E (ti.objs0 x) w) E0 w _ _ (by rw[hlent];exact FO) hI ⟨?_,?_⟩ fun e s E' a' w' h1 h2 h3 h4=>?_)
  ·simp[hlen]
  ·intro i c hi
   by_cases hlt:i<vs0.length
   ·rw[List.getElem?_append_left hlt]at hi
    obtain⟨v,k1,k2⟩:=hA.get i hi
    refine⟨v,?_,k2⟩
    rw[Array.getElem?_append_left (by simp;omega)]
    simpa using k1
   ·rw[List.getElem?_append_right (by omega)]at hi
    obtain⟨hlt',rfl⟩:=zQj.1 hi
    simp at hlt'
    refine⟨undef,?_,?_⟩
    ·rw[Array.getElem?_append_right (by simp;omega)]
     simp[Array.getElem?_replicate];omega
    ·simp only[List.getElem_replicate,Ag];exact⟨[],rfl,Ak.nil⟩
  ·have fin:X2 C s fn.results.toList (fun vs=>U6 C.cut s.h vs fun h vs=>A9c ti to ⟨s.t,h⟩ vs some)=some y->a'.defers=[]/\∃v,(results fn a'.tmps).run P w'=.ok v w'/\(∃us E',Ending.returned v=.returned (S7 us)/\Inv (O3 E (ti.objs0 x) w) E' (mrg (ti.objs0 x) (to.objs0 y)) w'/\Ak E' (mrg (ti.objs0 x) (to.objs0 y)) w' (to.vals0 y) us):=by
    intro h1
    obtain⟨vs',k1,k2⟩:=Tu (P:=P) HC _ h1
    obtain⟨us,k3,k4⟩:=k2 h2.heap h3
    obtain⟨hx',vx',k1,kc⟩:=R6 _ k1
    obtain⟨E1,h2,k4⟩:=kc (O3 E (ti.objs0 x) w) E' w' us h2 k4
    obtain⟨y',k5,k6⟩:=th k1
    obtain rfl:y'=y:=by simpa using k5
    obtain⟨E'',k7,k8⟩:=k6 (O3 E (ti.objs0 x) w) E1 w' x rfl FO h2 us k4
    exact⟨h4,_,X1 k3,us,E'',rfl,k7,k8⟩
   cases e with
   |normal=>exact fin h1
   |ret=>exact fin h1
   |exit id=>cases h1
include HC in
theorem Aj.of_vcall {f:FuncId}{fn:Func}{ti to:Tmpl}{S:den ti.ty->Option (den to.ty)}(hf:P.funcs[f]? =some fn)(HL:∀c,fn.body=some c->Ph P C c)(hn:(fn.name== "runtime.NumGoroutine")=false)(hb:fn.body.isNone=false)(h:∀x,RX C fn ti to x=S x):Aj P ⟨f,ti,to,S⟩:=
 ⟨⟨fn,hf,hn,hb⟩,fun x y hy=>rq HC hf HL ((h x).trans hy)⟩
end
end Go.Ab
end
section
namespace Go.Ab
open Go.RowKit Go.ChangeShapes Go.WideShapes
def wf:(t:Ty)->den t->Prop
 | .int k,n=>k.min<=n/\n<=k.max
 | .str,s=>(s:ByteArray).size<=maxLen
 | .slice t,xs=>(xs:List (den t)).length<=maxLen/\∀x∈(xs:List (den t)),wf t x
 | .prod a b,x=>wf a x.1/\wf b x.2
 | .bool,_=>True
 | .unit,_=>True
 | .err,_=>True
 | .iref _,_=>True
 | .fn _ _,_=>True
 | .idx,_=>True
def Fk (P:Program):Ty->TypeId ⊕ (List Field×Nat)->Bool
 | .int k,.inl t=>match P.underlying t with|some (.int k')=>k==k'|_=>false
 | .bool,.inl t=>match P.underlying t with|some .bool=>true|_=>false
 | .str,.inl t=>match P.underlying t with|some .string=>true|_=>false
 | .slice u,.inl t=>match P.underlying t with|some (.slice e)=>P.cellsOf e==u.size&&decide (0<u.size)&&Fk P u (.inl e)|_=>false
 | .prod a b,.inl t=>match P.underlying t with
   |some (.struct fs)=>P.cellsOf t==a.size+b.size&&(match fs.toList with|f::r=>f.offset==0&&P.cellsOf f.type==a.size&&Fk P a (.inl f.type)&&Fk P b (.inr (r,0+a.size))|[]=>false)
   |_=>false
 | .prod a b,.inr (fs,off)=>match fs with|f::r=>f.offset==off&&P.cellsOf f.type==a.size&&Fk P a (.inl f.type)&&Fk P b (.inr (r,off+a.size))|[]=>false
 | .unit,.inr (fs,off)=>fs.isEmpty
 |_,_=>false
theorem Rq {α:Type}{p:Nat->α->Prop}:(n:Nat)->(∀i,i<n->∃x,p i x)->∃xs:List α,xs.length=n/\∀i (h:i<xs.length),p i xs[i]
 |0,_=>⟨[],rfl,fun i h=>by simp at h⟩
 |n+1,h=>by
  obtain⟨xs,h1,h2⟩:=Rq n fun i hi=>h i (by omega)
  obtain⟨x,hx⟩:=h n (by omega)
  refine⟨xs++[x],by simp[h1],fun i hi=>?_⟩
  by_cases hlt:i<xs.length
  ·rw[List.getElem_append_left hlt];exact h2 i hlt
  ·have:i=n:=by simp at hi;omega
   subst this
   rw[List.getElem_append_right (by omega)]
   simpa[h1]using hx
theorem TW {α β:Type}{f:α->Option β}:{l:List α}->{r:List β}->l.mapM f=some r->r.length=l.length/\∀(i:Nat) (h1:i<r.length) (h2:i<l.length),f l[i]=some r[i]
 |[],r,h=>by simp at h;subst h;exact⟨rfl,fun i h1 h2=>by simp at h1⟩
 |a::l,r,h=>by
  simp only[List.mapM_cons,Option.pure_def,Option.bind_eq_bind,Option.bind_eq_some_iff,Option.some.injEq]at h
  obtain⟨b,h1,bs,h2,rfl⟩:=h
  obtain⟨e,h3⟩:=TW h2
  refine⟨by simp[e],fun i h4 h5=>?_⟩
  cases i with
  |zero=>exact h1
  |succ i=>exact h3 i (by simpa using h4) (by simpa using h5)
theorem ZX {α β:Type}{f:α->Option β}{l:List α}{r:List β}(h:l.mapM f=some r):r.length=l.length/\∀i (h1:i<l.length),∃h2:i<r.length,f l[i]=some r[i]:=by
 obtain⟨h1,h2⟩:=TW h
 exact⟨h1,fun i hi=>⟨by omega,h2 i (by omega) hi⟩⟩
theorem aF {w:World}{a:Addr}{n:Nat}{cs:List Value}(h:w.cells? 0 a n=some cs):cs.length=n/\∀i (h1:i<cs.length),w.cell? (a.add i)=some cs[i]:=by
 unfold World.cells? at h
 rw[if_pos (Nat.zero_le _)]at h
 obtain⟨h1,h2⟩:=ZX h
 simp at h1
 refine⟨h1,fun i hi=>?_⟩
 obtain⟨_,h3⟩:=h2 i (by simp;omega)
 simpa using h3
theorem A8m {w:World}{a:Addr}{v:Value}(h:w.cell? a=some v):a.block<w.heap.size/\a.spot=none:=by
 unfold World.cell? at h
 split at h
 ·rename_i hb
  split at h
  ·cases h
  ·rename_i hs
   exact⟨(Array.getElem?_eq_some_iff.1 hb).1,by simpa using hs⟩
 ·cases h
theorem A6z {H:Type}{enc:TypeId×Value->H}{P:Program}{w:World}(ty:Ty):
 (∀t,Fk P ty (.inl t)=true->∀fuel cs d ps,DataW.trod enc P w 0 (fun _=>true) true fuel t cs=some (d,ps)->∃x,B5 (fun b=>b<w.heap.size) w ty x cs/\wf ty x)/\
 (∀(fs:List Field) (off:Nat),Fk P ty (.inr (fs,off))=true->∀fuel (cs:List Value) xs,cs.length=off+ty.size->(fs.mapM fun f:Field=>DataW.trod enc P w 0 (fun _=>true) true fuel f.type ((cs.drop f.offset).take (P.cellsOf f.type)))=some xs->∃x,B5 (fun b=>b<w.heap.size) w ty x (cs.drop off)/\wf ty x):=by
 induction ty with
 |int k=>
  refine⟨fun t ht fuel cs d ps h=>?_,fun fs off h=>by simp[Fk]at h⟩
  simp only[Fk]at ht
  split at ht
  ·rename_i k' hu
   have:k=k':=by simpa using ht
   subst this
   cases fuel with
   |zero=>simp[DataW.trod]at h
   |succ fuel=>
    unfold DataW.trod at h
    rw[hu]at h
    split at h<;>simp_all
    rename_i k2 n e
    simp[Lit.wf]at h
    obtain⟨⟨e1,h1⟩,e2⟩:=h
    subst e
    exact⟨n,by simp[B5,e1],h1⟩
  ·cases ht
 |bool=>
  refine⟨fun t ht fuel cs d ps h=>?_,fun fs off h=>by simp[Fk]at h⟩
  simp only[Fk]at ht
  split at ht
  ·rename_i hu
   cases fuel with
   |zero=>simp[DataW.trod]at h
   |succ fuel=>
    unfold DataW.trod at h
    rw[hu]at h
    split at h<;>try(simp_all;done)
    rename_i b hd
    exact⟨b,by simp[B5],trivial⟩
  ·cases ht
 |str=>
  refine⟨fun t ht fuel cs d ps h=>?_,fun fs off h=>by simp[Fk]at h⟩
  simp only[Fk]at ht
  split at ht
  ·rename_i hu
   cases fuel with
   |zero=>simp[DataW.trod]at h
   |succ fuel=>
    unfold DataW.trod at h
    rw[hu]at h
    split at h<;>simp_all
    rename_i s
    exact⟨s,by simp[B5],h.1⟩
  ·cases ht
 |err=>exact⟨fun t ht=>by simp[Fk]at ht,fun fs off h=>by simp[Fk]at h⟩
 |idx=>exact⟨fun t ht=>by simp[Fk]at ht,fun fs off h=>by simp[Fk]at h⟩
 |iref u=>exact⟨fun t ht=>by simp[Fk]at ht,fun fs off h=>by simp[Fk]at h⟩
 |fn f u=>exact⟨fun t ht=>by simp[Fk]at ht,fun fs off h=>by simp[Fk]at h⟩
 |unit=>
  refine⟨fun t ht=>by simp[Fk]at ht,fun fs off h fuel cs xs hl hx=>?_⟩
  refine⟨(),?_,trivial⟩
  simp only[B5,List.drop_eq_nil_iff]
  simp only[Ty.size]at hl;omega
 |slice u ih=>
  refine⟨fun t ht fuel cs d ps h=>?_,fun fs off h=>by simp[Fk]at h⟩
  simp only[Fk]at ht
  split at ht
  ·rename_i e hu
   simp only[zJq,beq_iff_eq,decide_eq_true_eq]at ht
   obtain⟨⟨hsz,hpos⟩,hf⟩:=ht
   cases fuel with
   |zero=>simp[DataW.trod]at h
   |succ fuel=>
    unfold DataW.trod at h
    rw[hu]at h
    split at h<;>try(simp_all;done)
    ·exact⟨[],by simp only[B5];exact⟨none,0,by simp,by simp,by simp⟩,by simp[wf,maxLen]⟩
    ·rename_i x1 x2 e' a len cap hd
     obtain rfl:e=e':=by simpa using hd
     dsimp only at h
     split at h
     ·rename_i hc
      obtain⟨elems,h1,h2⟩:=Bf h
      obtain⟨k1,k2⟩:=ZX h1
      simp only[List.length_range]at k1 k2
      have el:∀i,i<len->∃x:den u,(∃cs:List Value,cs.length=u.size/\B5 (fun b=>b<w.heap.size) w u x cs/\(∀j (hj:j<cs.length),w.cell? ((a.add (i*P.cellsOf e)).add j)=some cs[j]))/\wf u x:=by
       intro i hi
       obtain⟨hi2,h3⟩:=k2 i hi
       simp only[List.getElem_range]at h3
       obtain⟨cs,h4,h5⟩:=Bf h3
       obtain⟨h6,h7⟩:=aF h4
       obtain⟨x,h8,h9⟩:=ih.1 e hf fuel cs _ _ h5
       exact⟨x,⟨cs,by omega,h8,h7⟩,h9⟩
      obtain⟨xs,hxl,hxs⟩:=Rq len el
      refine⟨xs,?_,?_⟩
      ·simp only[B5]
       refine⟨some a,cap,by rw[hxl],by rw[hxl];exact hc.2.1,fun hne=>?_⟩
       obtain⟨⟨cs0,q1,q2,q3⟩,_⟩:=hxs 0 (by omega)
       have hl0:=A8m (q3 0 (by omega))
       have hspot:a.spot=none:=by
        have:=hl0.2
        unfold Addr.add at this
        cases hs:a.spot with
        |none=>rfl
        |some p=>simp[hs]at this
       have hblk:a.block<w.heap.size:=by
        have:=hl0.1
        unfold Addr.add at this
        simpa[hspot]using this
       obtain⟨b,o,sp⟩:=a
       simp only at hspot hblk;subst hspot
       refine⟨b,o,rfl,hblk,fun i hi=>?_⟩
       obtain⟨⟨cs,r1,r2,r3⟩,_⟩:=hxs i hi
       refine⟨cs,r1,r2,fun j hj=>?_⟩
       have:=r3 j hj
       rw[Io,Io,hsz]at this
       exact this
      ·simp only[wf]
       refine⟨by rw[hxl];exact Nat.le_trans hc.2.1 hc.2.2,fun x hx=>?_⟩
       obtain⟨i,hi,rfl⟩:=List.getElem_of_mem hx
       exact(hxs i hi).2
     ·cases h
  ·cases ht
 |prod a b iha ihb=>
  have B:∀(fs:List Field) (off:Nat),(match fs with|f::r=>f.offset==off&&P.cellsOf f.type==a.size&&Fk P a (.inl f.type)&&Fk P b (.inr (r,off+a.size))|[]=>false)=true->∀fuel (cs:List Value) xs,cs.length=off+(Ty.prod a b).size->(fs.mapM fun f:Field=>DataW.trod enc P w 0 (fun _=>true) true fuel f.type ((cs.drop f.offset).take (P.cellsOf f.type)))=some xs->∃x,B5 (fun b=>b<w.heap.size) w (.prod a b) x (cs.drop off)/\wf (.prod a b) x:=by
   intro fs off hf fuel cs xs hl hx
   cases fs with
   |nil=>cases hf
   |cons f r=>
    simp only[zJq,beq_iff_eq]at hf
    obtain⟨⟨⟨h1,h2⟩,h3⟩,h4⟩:=hf
    simp only[List.mapM_cons]at hx
    obtain⟨y,h5,h6⟩:=Option.bind_eq_some_iff.1 hx
    obtain⟨ys,h7,h8⟩:=Option.bind_eq_some_iff.1 h6
    simp only[Ty.size]at hl
    obtain⟨x,q1,q2⟩:=iha.1 f.type h3 fuel _ y.1 y.2 h5
    obtain⟨z,q3,q4⟩:=ihb.2 r (off+a.size) h4 fuel cs ys (by omega) h7
    refine⟨(x,z),?_,q2,q4⟩
    simp only[B5]
    refine⟨_,_,?_,q1,q3⟩
    rw[h1,h2,<-List.drop_drop,List.take_append_drop]
  refine⟨fun t ht fuel cs d ps h=>?_,fun fs off h=>B fs off (by simpa only[Fk]using h)⟩
  simp only[Fk]at ht
  split at ht
  ·rename_i fs hu
   simp only[zJq,beq_iff_eq]at ht
   cases fuel with
   |zero=>simp[DataW.trod]at h
   |succ fuel=>
    simp only[DataW.trod,hu]at h
    split at h
    ·rename_i hl
     simp only[Option.map_eq_some_iff]at h
     obtain⟨xs,h1,_⟩:=h
     have:=B fs.toList 0 ht.2 fuel cs xs (by rw[hl,ht.1];simp[Ty.size]) h1
     simpa using this
    ·cases h
  ·cases ht
theorem A70 {H:Type}{enc:TypeId×Value->H}{P:Program}{w:World}{ty:Ty}{t:TypeId}(hf:Fk P ty (.inl t)=true){r:Reach}{b0:Nat}{v:Value}{d:DataW H}{ps:List MemPlace}(hok:Value.okWide P w r b0 t v)(h:DataW.Trod enc P w 0 (fun _=>true) true t v d ps):
 ∃x,R9 (fun b=>b<w.heap.size) w ty x v/\wf ty x:=by
 obtain⟨fuel,h⟩:=h
 obtain⟨x,h1,h2⟩:=(A6z (enc:=enc) (w:=w) ty).1 t hf fuel _ _ _ h
 refine⟨x,?_,h2⟩
 unfold R9 LN
 by_cases hag:ty.agg=true
 ·rw[if_pos hag]
  have hst:∃fs,P.underlying t=some (.struct fs):=by
   cases ty<;>simp[Ty.agg]at hag
   ·simp[Fk]at hf
   ·simp only[Fk]at hf
    split at hf
    ·exact⟨_,by assumption⟩
    ·cases hf
  obtain⟨fs,hfs⟩:=hst
  obtain⟨cs,rfl,_⟩:=okWide_struct hfs hok
  exact⟨cs.toList,by simp,by simpa[Value.cells]using h1⟩
 ·rw[if_neg hag]
  have hc:v.cells.toList=[v]:=by
   cases v with
   |agg cs=>
    exfalso
    cases ty<;>simp[Ty.agg]at hag<;>simp only[Fk]at hf<;>(try cases hf;done)<;>(split at hf<;>first|(rename_i hu;simp[Value.okWide,hu,Cell.okWide,Cell.ok]at hok;done)|cases hf)
   |_=>rfl
  rw[hc]at h1
  exact h1
def SR (P:Program):Ty->List TypeId->Bool
 | .prod a b,t::ts=>Fk P a (.inl t)&&SR P b ts
 | .unit,[]=>true
 |_,_=>false
theorem TR {H:Type}{enc:TypeId×Value->H}{P:Program}{w:World}{r:Reach}{b0:Nat}:(ps:Ty)->(ts:List TypeId)->SR P ps ts=true->(vs:List Value)->(ds:List (DataW H))->(p:List MemPlace)->
 (∀(j:Nat) t v,ts[j]? =some t->vs[j]? =some v->Value.okWide P w r b0 t v)->DataW.TrodAll enc P w 0 (fun _=>true) true ts vs ds p->∃x,L0 (fun b=>b<w.heap.size) w ps x vs/\wf ps x
 | .prod a b,t::ts,hf,vs,ds,p,hok,h=>by
   simp only[SR,zJq]at hf
   match vs,ds,h with
   |v::vs,d::ds,h=>
    obtain⟨p1,q,h1,h2,_⟩:=h
    obtain⟨x,k1,k2⟩:=A70 hf.1 (hok 0 t v rfl rfl) h1
    obtain⟨y,k3,k4⟩:=TR b ts hf.2 vs ds q (fun j t v h1 h2=>hok (j+1) t v (by simpa using h1) (by simpa using h2)) h2
    refine⟨(x,y),?_,k2,k4⟩
    simp only[L0]
    exact⟨v,vs,rfl,k1,k3⟩
   |[],_,h=>exact h.elim
   |_::_,[],h=>exact h.elim
 | .unit,[],hf,vs,ds,p,hok,h=>by
   match vs,ds,h with
   |[],[],h=>exact⟨(),by simp[L0],trivial⟩
   |[],_::_,h=>exact h.elim
   |_::_,_,h=>exact h.elim
 | .unit,_::_,hf,vs,ds,p,hok,h=>by simp[SR]at hf
 | .prod _ _,[],hf,vs,ds,p,hok,h=>by simp[SR]at hf
 | .int _,_,hf,vs,ds,p,hok,h| .bool,_,hf,vs,ds,p,hok,h| .str,_,hf,vs,ds,p,hok,h| .err,_,hf,vs,ds,p,hok,h| .slice _,_,hf,vs,ds,p,hok,h| .iref _,_,hf,vs,ds,p,hok,h| .fn _ _,_,hf,vs,ds,p,hok,h=>by simp[SR]at hf
theorem O4 {H:Type}{enc:TypeId×Value->H}{P:Program}{w:World}{b:Nat}{sp:Nat->Bool}{hd:Bool}:(ts:List TypeId)->(vs:List Value)->(ds:List (DataW H))->(p:List MemPlace)->DataW.TrodAll enc P w b sp hd ts vs ds p->ds.length=ts.length
 |[],[],[],_,_=>rfl
 |t::ts,v::vs,d::ds,p,h=>by obtain⟨p1,q,h1,h2,_⟩:=h;simp[O4 ts vs ds q h2]
 |[],[],_::_,_,h=>h.elim
 |[],_::_,_,_,h=>h.elim
 |_::_,[],_,_,h=>h.elim
 |_::_,_::_,[],_,h=>h.elim
theorem Pt {H:Type}{enc:TypeId×Value->H}{P:Program}(hl:laidOutB P=true){W W':World}{sp:Nat->Bool}:(ts:List TypeId)->(∀t∈ts,P.readableRec t=true/\t<P.types.size)->(vs:List Value)->(ds:List (DataW H))->(p:List MemPlace)->
 DataW.TrodAll enc P W 0 (fun _=>true) true ts vs ds p->(∀q∈p,W.sameAt W' q)->(∀q∈p,sp q.block=true)->DataW.TrodAll enc P W' 0 sp true ts vs ds p
 |[],_,[],[],_,h,_,_=>h
 |t::ts,ht,v::vs,d::ds,p,h,hs,hp=>by
  obtain⟨p1,q,h1,h2,rfl⟩:=h
  exact⟨p1,q,WideElems.Trod_stays hl (ht t (by simp)).1 (ht t (by simp)).2 h1 (fun x hx=>hs x (by simp[hx])) (fun x hx=>hp x (by simp[hx])),
   Pt hl ts (fun t h=>ht t (by simp[h])) vs ds q h2 (fun x hx=>hs x (by simp[hx])) (fun x hx=>hp x (by simp[hx])),rfl⟩
 |[],_,[],_::_,_,h,_,_=>h.elim
 |[],_,_::_,_,_,h,_,_=>h.elim
 |_::_,_,[],_,_,h,_,_=>h.elim
 |_::_,_,_::_,[],_,h,_,_=>h.elim
def PJ:List Ty->TmL
 |[]=>.nil
 |t::ts=>.slot t (PJ ts)
def L1 (ts:List Ty):Tmpl:=⟨PJ ts,.nil⟩
theorem Tt {E:Env}{h:Am}{w:World}{ρ ν:Nat->Nat}:(ts:List Ty)->(x:den ((PJ ts).ty .unit))->(vs:List Value)->L0 E.I w ((PJ ts).ty .unit) x vs->Ak E h w ((PJ ts).write ρ ν .unit x).1 vs
 |[],x,vs,h1=>by simp only[PJ,TmL.ty,L0]at h1;subst h1;exact Ak.nil
 |t::ts,x,vs,h1=>by
  simp only[PJ,TmL.ty,L0]at h1
  obtain⟨v,us,rfl,h2,h3⟩:=h1
  exact Ak.cons (Oe h2) (Tt ts x.2 us h3)
theorem A7g {H:Type}{enc:TypeId×Value->H}{C:Checked}{os:Os}{f:FuncId}{fn:Func}{s:ChangeSpec}{conds:List PathCond}{apart fresh handsOn again:Bool}{ts:List Ty}{S:den (L1 ts).ty->Option (den (L1 [.bool]).ty)}{tb:TypeId}
 (own:ownKnob C.prog.godebug=none)(started:os.Started)(noInit:C.prog.inits.idxOf? f=none)(hfn:C.prog.funcs[f]? =some fn)
 (witness:∃(w:World) (tape:Tape) (i:Input),w.os=os/\(w.forCall tape i).Shaped C.prog/\i.vars=[]/\Input.okWide C.prog (w.forCall tape i) .any w.heap.size f i/\
   s.pre6 enc C.prog fn conds apart (w.forCall tape i).memory i.args/\({}:Assume).holds C.prog (lone (Frame.enter C.prog f i.args .normal) [] (w.forCall tape i)))
 (E:Aj C.prog ⟨f,L1 ts,L1 [.bool],S⟩)(hl:laidOutB C.prog=true)(hp:(fn.params.toList.all fun t=>C.prog.readableRec t&&decide (t<C.prog.types.size))=true)
 (hfit:SR C.prog (L1 ts).ty fn.params.toList=true)(hrt:fn.resultTypes=#[tb])(hb:C.prog.underlying tb=some .bool)(hv:s.vars=[])
 (hs:∀ds:List (DataW H),ds.length=fn.params.toList.length->s.fn H ds={results:=[.lit (.bool true)],args:=ds})
 (hS:∀x,wf (L1 ts).ty x->S x=some (true,())):
 ReturnsInHanded {} C os f .any (s.pre6 enc C.prog fn conds apart) (s.post enc C.prog fn apart fresh handsOn again):=by
 refine returnsInHanded_of_change own started noInit hfn witness ?_
 intro W base args ds gs CC hval hW hcnd _
 have hW':=hW
 obtain⟨p,q,hA,hV,rfl,hfz,hnd⟩:=hW
 rw[hv]at hV
 obtain⟨rfl,rfl⟩:=trodVars_none hV
 obtain⟨x,hx,hwf⟩:=TR (r:=.any) (b0:=base) (L1 ts).ty fn.params.toList hfit args.toList ds p (fun j t v h1 h2=>hval j t v (by simpa using h1) (by simpa using h2)) hA
 have hc:=E.2 x _ (hS x hwf) ⟨fun _ _=>none,fun b=>b<W.heap.size⟩ W args.toList (by
  constructor
  ·intro r s c h1
   have h2:((L1 ts).objs0 x).getD r none=none:=Kh (Nat.zero_le _)
   obtain⟨c0,h3⟩:=OQ h1
   rw[h2]at h3;cases h3
  ·intro r s c b n _ h1;cases h1
  ·intro r κ r' κ' b n n' h1;cases h1
  ·intro r κ x h1;cases h1
  ·intro b h1;exact h1
  ·rintro b ⟨r,κ,n,h1⟩;cases h1
  ·intro r κ b n h1;cases h1
  ·intro r κ b n h1;cases h1) (Tt (E:=⟨fun _ _=>none,fun b=>b<W.heap.size⟩) ts x _ hx)
 simp only[Array.toArray_toList]at hc
 refine hc.mono ?_
 rintro e W' ⟨us,E',rfl,HI,hr⟩
 have hbel:Below W.heap.size W W':=⟨HI.bel.os,HI.bel.tape,HI.bel.output.1,HI.bel.size,fun b hb=>HI.bel.blk b hb (by rintro⟨r,κ,n,h1,_⟩;cases h1)⟩
 have hvs:us=[.bool true]:=by
  have hr':Ak E' (mrg ((L1 ts).objs0 x) ((L1 [.bool]).objs0 (true,()))) W' [.pv .bool true] us:=hr
  simp only[Ak,Ag,B5]at hr'
  obtain⟨v,us',rfl,h1,rfl⟩:=hr'
  simp at h1;rw[h1]
 subst hvs
 refine⟨_,rfl,?_⟩
 have hlen:=O4 _ _ _ _ hA
 have hpt:∀t∈fn.params.toList,C.prog.readableRec t=true/\t<C.prog.types.size:=fun t ht=>by
  have:=List.all_eq_true.1 hp t ht
  simpa using this
 simp only[List.append_nil]at hW'
 have hsame:∀x∈p,W.sameAt W' x:=fun x hx=>hbel.same (hA.lt x hx)
 have hlt:=hA.lt
 have args':∀sp:Nat->Bool,(∀x∈p,sp x.block=true)->DataW.TrodAll enc C.prog W' 0 sp true fn.params.toList args.toList ds p:=fun sp hsp=>Pt hl _ hpt _ _ _ hA hsame hsp
 have res':∀(b:Nat) (sp:Nat->Bool) (hd:Bool),DataW.TrodAll enc C.prog W' b sp hd fn.resultTypes.toList ((Value.bool true).resultList fn.resultTypes.size) [.lit (.bool true)] []:=fun b sp hd=>by
  rw[hrt];exact trodAll_mk1 (shut_bool hb true)
 have hout:s.fn H (ds++[])={results:=[.lit (.bool true)],args:=ds}:=by rw[List.append_nil];exact hs ds hlen
 have vars':∀sp:Nat->Bool,DataW.TrodVars enc C.prog W' sp s.vars (s.fn H (ds++[])).vars []:=fun sp=>by rw[hout,hv];rfl
 refine⟨ds,[],p,[],p,[],hW',by rw[hout];exact res' _ _ _,by rw[hout];exact args' _ (fun x hx=>by simpa using hlt x hx),vars' _,World.keptBut_mono (fun x hx=>⟨hx,.inr (by simpa using hx)⟩) (hbel.frame _),fun _=>?_⟩
 refine⟨ok_one hrt rfl (okWide_bool_mk hb true),_,_,([]++p)++[],⟨[]++p,[],trodAll_append (args' _ fun _ _=>rfl) (res' _ _ _),vars' _,rfl,?_,?_⟩,?_⟩
 ·intro b off hx
  have hx':MemPlace.cell b off∈p:=by simpa using hx
  rw[hbel.frozen (hlt _ hx')]
  exact hfz b off (by simpa using hx')
 ·intro ha
  have:=hnd ha
  simpa using this
 ·intro x hx _
  simpa using hx
end Go.Ab
end
