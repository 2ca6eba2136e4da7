import Derived.Test.YtgljlakbfdnmfaaGreatF1
import Derived.Laws.CopyRow
import Derived.Laws.AppendOwn
import Derived.IntWalk
set_option linter.all false
open Option renaming bind_some->zQk
open List renaming getElem?_eq_getElem->zQx,getElem_mem->zQz,length_append->zJk,getElem_of_mem->zJz,replicate->zKq,mem_cons_self->zKj,getElem?_eq_some_iff->zQj
open Bool renaming and_eq_true->zJq
open Nat renaming zero_add->zJj,mul_le_mul_right->zJx,le_refl->zQq
section
namespace Go.Ab
open Go.RowKit
section
variable {F:Fr}{E:Env}{h:Am}{w:World}
theorem Qv (H:Inv F E h w){r r2:Nat}{c d:Cont}(hc:h.getD r none=some c)(hp:c.plain)(hr2:h.getD r2 none=none)(hd:d.plain){w':World}{b:Nat}{arr:Array Value}{ty:TypeId}
 (hb:w'.heap[b]? =some (.cells arr ty (0,0)))(hold:∀k,k≠b->k<w.heap.size->w'.heap[k]? =w.heap[k]?)
 (hbw:(E.ι r none=some (b,d.sz)/\∀a t,w.heap[b]? =some (.cells a t (0,0))->t=ty/\arr.size=a.size)\/(w.heap.size<=b))(hsize:w.heap.size<=w'.heap.size)(hblt:b<w'.heap.size)(hos:w'.os=w.os)(htape:w'.tape=w.tape)(hout:w'.output=w.output/\w.drawn<=w'.drawn)
 (hfit:d.len*d.sz<=arr.size)(hels:∀i,i<d.len->∃cs vs,d.at? r2 i=some cs/\vs.length=d.sz/\Ak E h w cs vs/\∀(j:Nat) (hj:j<vs.length),arr[i*d.sz+j]? =some vs[j]):
 Inv F ((E.clr r).set r2 none (some (b,d.sz))) (setH (setH h r .dead) r2 d) w'/\Keep E h w ((E.clr r).set r2 none (some (b,d.sz))) (setH (setH h r .dead) r2 d) w':=by
 have hne:r2≠r:=by rintro rfl;rw[hc]at hr2;cases hr2
 have hg2:(setH (setH h r .dead) r2 d).getD r2 none=some d:=by rw[An,if_pos rfl]
 have hg1:(setH (setH h r .dead) r2 d).getD r none=some .dead:=by rw[An,if_neg (Ne.symm hne),An,if_pos rfl]
 have hst2:=FH hg2 hd
 have hst1:=Ha hg1
 have hst0:=FH hc hp
 have hro:DV h r=false:=by rw[B9 hc];exact hp.ro.1
 have hno:∀κ x,E.ι r2 κ≠some x:=fun κ x hx=>by obtain⟨c',h1,_⟩:=H.heap.live r2 κ x hx;rw[hr2]at h1;cases h1
 have hι:∀q κ k n,q=r\/q=r2->((E.clr r).set r2 none (some (b,d.sz))).ι q κ=some (k,n)->q=r2/\κ=none/\k=b/\n=d.sz:=by
  intro q κ k n hq h1
  simp only[Env.set,Env.clr]at h1
  split at h1
  ·rename_i e;simp only[Option.some.injEq,Prod.mk.injEq]at h1;exact⟨e.1,e.2,h1.1.symm,h1.2.symm⟩
  ·split at h1
   ·cases h1
   ·rename_i e1 e2;rcases hq with rfl|rfl
    ·exact absurd rfl e2
    ·exact absurd h1 (hno _ _)
 have hbI:¬E.I b:=by
  rcases hbw with⟨h1,_⟩|h1
  ·exact H.heap.apart r none b _ h1 hro
  ·intro hI;have:=H.heap.I_lt b hI;omega
 have T:Touch (fun q=>q=r\/q=r2) E h w ((E.clr r).set r2 none (some (b,d.sz))) (setH (setH h r .dead) r2 d) w':=by
  refine{hh:=fun q hq=>by rw[An,if_neg (fun e=>hq (.inr e)),An,if_neg (fun e=>hq (.inl e))],hι:=fun q κ hq=>by simp only[Env.set,Env.clr];rw[if_neg (fun e=>hq (.inr e.1)),if_neg (fun e=>hq (.inl e))],
         II:=fun b hb=>hb,size:=hsize,os:=hos,tape:=htape,output:=hout,
         blk:=fun k hk hn=>?_,asz:=fun k a t ha=>?_,off:=?_,on:=?_,som:=?_,fix:=(fun q hq h1=>by rcases hq with rfl|rfl;(rw[hro]at h1;cases h1);(simp only[DV,hr2]at h1;cases h1)),obj:=?_,siz:=?_,from_:=?_,inj:=?_,live:=?_,Inew:=fun b hb=>.inl hb,apart:=?_,roI:=?_}
  ·refine hold k (fun e=>?_) hk
   subst e
   rcases hbw with⟨h1,_⟩|h1
   ·exact hn r none d.sz (.inl rfl) hro h1
   ·omega
  ·by_cases e:k=b
   ·subst e
    rcases hbw with⟨_,h1⟩|h1
    ·obtain⟨rfl,h2⟩:=h1 a t ha
     exact⟨arr,hb,h2⟩
    ·have:=(Array.getElem?_eq_some_iff.1 ha).1;omega
   ·exact⟨a,by rw[hold k e (Array.getElem?_eq_some_iff.1 ha).1];exact ha,rfl⟩
  ·rintro q s (rfl|rfl) e
   ·exact hst1 s
   ·rw[EH hr2]at e;cases e
  ·rintro q s c0 (rfl|rfl) e
   ·exact .inl (hst1 s)
   ·rw[EH hr2]at e;cases e
  ·rintro q (rfl|rfl)
   ·exact⟨_,hg1⟩
   ·exact⟨_,hg2⟩
  ·rintro K q s c0 (rfl|rfl) e
   ·rw[hst1]at e;cases e
   ·rw[hst2]at e
    cases s with
    |some p=>exact(LT e).elim
    |none=>
     obtain rfl:d=c0:=by simpa using e
     right
     refine⟨b,arr,ty,by simp[Env.set,key],hb,hfit,fun i hi=>?_⟩
     obtain⟨cs,vs,h1,h2,h3,h4⟩:=hels i hi
     exact⟨cs,vs,h1,h2,C4 K cs h3,h4⟩
  ·rintro q s c0 b0 n hq e h1
   obtain⟨rfl,hs,_,h2⟩:=hι _ _ _ _ hq h1
   rw[hst2]at e
   cases s with
   |some p=>exact(LT e).elim
   |none=>obtain rfl:d=c0:=by simpa using e
          exact h2
  ·rintro q κ b0 n hq h1
   obtain⟨_,_,rfl,_⟩:=hι _ _ _ _ hq h1
   rcases hbw with⟨h2,_⟩|h2
   ·exact .inr ⟨r,none,d.sz,.inl rfl,.inl hro,h2⟩
   ·exact .inl ⟨h2,hblt⟩
  ·rintro q κ q' κ' b0 n n' hq hq' h1 h2
   obtain⟨rfl,rfl,_⟩:=hι _ _ _ _ hq h1
   obtain⟨rfl,rfl,_⟩:=hι _ _ _ _ hq' h2
   exact⟨rfl,rfl⟩
  ·rintro q κ ⟨k,n⟩ hq h1
   obtain⟨rfl,_⟩:=hι _ _ _ _ hq h1
   exact⟨d,hg2,hd.ro.2⟩
  ·rintro q κ b0 n hq h1 _
   obtain⟨_,_,rfl,_⟩:=hι _ _ _ _ hq h1
   exact hbI
  ·rintro q κ b0 n hq h1 h2
   obtain⟨rfl,_⟩:=hι _ _ _ _ hq h1
   rw[B9 hg2,hd.ro.1]at h2;cases h2
 exact T.inv H
def Uc (E:Env)(r b:Nat):Prop:=∃κ n,E.ι r κ=some (b,n)
theorem dN (H:Inv F E h w){r:Nat}{ro:Bool}{t:Ty}{xs:List (den t)}(hc:h.getD r none=some (.lst ro t xs)):
 Inv F ⟨E.ι,fun b=>E.I b\/Uc E r b⟩ (setH h r (.lst true t xs)) w/\Keep E h w ⟨E.ι,fun b=>E.I b\/Uc E r b⟩ (setH h r (.lst true t xs)) w:=by
 have hg:(setH h r (.lst true t xs)).getD r none=some (.lst true t xs):=by rw[An,if_pos rfl]
 have T:Touch (fun q=>q=r) E h w ⟨E.ι,fun b=>E.I b\/Uc E r b⟩ (setH h r (.lst true t xs)) w:=by
  refine{hh:=fun q hq=>by rw[An,if_neg hq],hι:=fun q κ hq=>rfl,II:=fun b hb=>.inl hb,size:=zQq _,os:=rfl,tape:=rfl,output:=⟨rfl,zQq _⟩,
         blk:=fun b hb _=>rfl,asz:=fun b a t ha=>⟨a,ha,rfl⟩,off:=?_,on:=?_,som:=?_,fix:=(fun q hq h1=>by subst hq;rw[B9 hc]at h1;obtain rfl:ro=true:=h1;rw[hg,hc]),obj:=?_,siz:=?_,from_:=?_,inj:=?_,live:=?_,Inew:=?_,apart:=?_,roI:=?_}
  ·rintro q s rfl e
   cases s with
   |none=>simp only[AC,hc]at e;cases e
   |some p=>simp only[AC,hg]
  ·rintro q s c rfl e
   cases s with
   |none=>
    simp only[AC,hc]at e
    obtain rfl:=by simpa using e
    exact .inr ⟨.lst true t xs,by simp only[AC,hg],rfl,rfl,rfl⟩
   |some p=>simp only[AC,hc]at e;cases e
  ·rintro q rfl;exact⟨_,hg⟩
  ·rintro K q s c rfl e
   cases s with
   |some p=>simp only[AC,hg]at e;cases e
   |none=>
    simp only[AC,hg]at e
    obtain rfl:Cont.lst true t xs=c:=by simpa using e
    refine(H.heap.obj q none (.lst ro t xs) (by simp only[AC,hc])).imp id ?_
    rintro⟨b,arr,ty,h1,h2,h3,h4⟩
    refine⟨b,arr,ty,h1,h2,h3,fun i hi=>?_⟩
    obtain⟨cs,vs,k1,k2,k3,k4⟩:=h4 i hi
    exact⟨cs,vs,k1,k2,C4 K cs k3,k4⟩
  ·rintro q s c b n rfl e h1
   cases s with
   |some p=>simp only[AC,hg]at e;cases e
   |none=>
    simp only[AC,hg]at e
    obtain rfl:Cont.lst true t xs=c:=by simpa using e
    exact H.heap.siz q none (.lst ro t xs) b n (by simp only[AC,hc]) h1
  ·rintro q κ b n rfl h1
   right
   refine⟨q,κ,n,rfl,?_,h1⟩
   cases e:DV h q with
   |false=>exact .inl rfl
   |true=>exact .inr (H.heap.roI q κ b n h1 e)
  ·rintro q κ q' κ' b n n' rfl rfl h1 h2;exact H.heap.inj _ _ _ _ _ _ _ h1 h2
  ·rintro q κ x rfl h1;exact⟨_,hg,by simp⟩
  ·rintro b (hb|⟨κ,n,hb⟩)
   ·exact .inl hb
   ·cases e:DV h r with
    |false=>exact .inr (.inr ⟨r,κ,n,rfl,e,hb⟩)
    |true=>exact .inl (H.heap.roI r κ b n hb e)
  ·rintro q κ b n rfl h1 h2;rw[B9 hg]at h2;cases h2
  ·rintro q κ b n rfl h1 h2;exact .inr ⟨κ,n,h1⟩
 exact T.inv H
theorem JW {ro ro':Bool}{t:Ty}{xs:List (den t)}{i k:Nat}{c:Cont}(h:C0 ro t xs i k=some c):∃u ys,c=.lst ro u ys/\C0 ro' t xs i k=some (.lst ro' u ys):=by
 obtain⟨u,ys,rfl,hi,h2⟩:=HV h
 refine⟨u,ys,rfl,?_⟩
 unfold C0
 rw[zQx hi]
 simp only[zQk,h2]
theorem AB {r:Nat}{ro:Bool}{ver:Nat}{t:Ty}{xs:List (den t)}{ho:Option (Nat×Nat)}(hc:h.getD r none=some (.tree ro ver t xs ho)):AC h r none=.on (.tree ro ver t xs ho):=by
 simp only[AC,hc]
theorem AD {r:Nat}{ro:Bool}{ver:Nat}{t:Ty}{xs:List (den t)}{ho:Option (Nat×Nat)}(hc:h.getD r none=some (.tree ro ver t xs ho))(i k v:Nat):AC h r (some (i,k,v))=(if ver<v then .no else if v<ver\/ho=some (i,k)then .off else match C0 ro t xs i k with
 |some c=>.on c
 |none=>.no):=by
 simp only[AC,hc];rfl
theorem DB {r:Nat}{ro:Bool}{ver:Nat}{t:Ty}{xs:List (den t)}{ho:Option (Nat×Nat)}(hc:h.getD r none=some (.tree ro ver t xs ho)){i k v:Nat}{c:Cont}(e:AC h r (some (i,k,v))=.on c):v=ver/\ho≠some (i,k)/\C0 ro t xs i k=some c:=by
 rw[AD hc]at e
 split at e
 ·cases e
 ·split at e
  ·cases e
  ·rename_i h1 h2
   rw[not_or]at h2
   split at e
   ·rename_i c' hn
    obtain rfl:c'=c:=by simpa using e
    exact⟨by omega,h2.2,hn⟩
   ·cases e
theorem ai (H:Inv F E h w){r:Nat}{ro:Bool}{ver:Nat}{t:Ty}{xs:List (den t)}(hc:h.getD r none=some (.tree ro ver t xs none)):
 Inv F ⟨E.ι,fun b=>E.I b\/Uc E r b⟩ (setH h r (.tree true ver t xs none)) w/\Keep E h w ⟨E.ι,fun b=>E.I b\/Uc E r b⟩ (setH h r (.tree true ver t xs none)) w:=by
 have hg:(setH h r (.tree true ver t xs none)).getD r none=some (.tree true ver t xs none):=by rw[An,if_pos rfl]
 have tr:∀s c,AC h r s=.on c->∃c',AC (setH h r (.tree true ver t xs none)) r s=.on c'/\c'.len=c.len/\c'.sz=c.sz/\∀q i,c'.at? q i=c.at? q i:=by
  intro s c e
  cases s with
  |none=>
   rw[AB hc]at e;obtain rfl:Cont.tree ro ver t xs none=c:=by simpa using e
   exact⟨.tree true ver t xs none,AB hg,rfl,rfl,fun _ _=>rfl⟩
  |some p=>
   obtain⟨i,k,v⟩:=p
   obtain⟨rfl,_,hn⟩:=DB hc e
   obtain⟨u,ys,rfl,hn'⟩:=JW (ro':=true) hn
   exact⟨.lst true u ys,by rw[AD hg];simp[hn'],rfl,rfl,fun _ _=>rfl⟩
 have tr':∀s c',AC (setH h r (.tree true ver t xs none)) r s=.on c'->∃c,AC h r s=.on c/\c'.len=c.len/\c'.sz=c.sz/\∀q i,c'.at? q i=c.at? q i:=by
  intro s c' e
  cases s with
  |none=>
   rw[AB hg]at e;obtain rfl:Cont.tree true ver t xs none=c':=by simpa using e
   exact⟨.tree ro ver t xs none,AB hc,rfl,rfl,fun _ _=>rfl⟩
  |some p=>
   obtain⟨i,k,v⟩:=p
   obtain⟨rfl,_,hn⟩:=DB hg e
   obtain⟨u,ys,rfl,hn'⟩:=JW (ro':=ro) hn
   exact⟨.lst ro u ys,by rw[AD hc];simp[hn'],rfl,rfl,fun _ _=>rfl⟩
 have T:Touch (fun q=>q=r) E h w ⟨E.ι,fun b=>E.I b\/Uc E r b⟩ (setH h r (.tree true ver t xs none)) w:=by
  refine{hh:=fun q hq=>by rw[An,if_neg hq],hι:=fun q κ hq=>rfl,II:=fun b hb=>.inl hb,size:=zQq _,os:=rfl,tape:=rfl,output:=⟨rfl,zQq _⟩,
         blk:=fun b hb _=>rfl,asz:=fun b a t ha=>⟨a,ha,rfl⟩,off:=?_,on:=?_,som:=?_,fix:=(fun q hq h1=>by subst hq;rw[B9 hc]at h1;obtain rfl:ro=true:=h1;rw[hg,hc]),obj:=?_,siz:=?_,from_:=?_,inj:=?_,live:=?_,Inew:=?_,apart:=?_,roI:=?_}
  ·rintro q s rfl e
   cases s with
   |none=>rw[AB hc]at e;cases e
   |some p=>
    obtain⟨i,k,v⟩:=p
    rw[AD hc]at e;rw[AD hg]
    split at e
    ·cases e
    ·split at e
     ·rename_i h1 h2;rw[if_neg h1,if_pos h2]
     ·split at e<;>cases e
  ·rintro q s c rfl e
   obtain⟨c',h1,h2,h3,_⟩:=tr s c e
   exact .inr ⟨c',h1,h2,h3,rfl⟩
  ·rintro q rfl;exact⟨_,hg⟩
  ·rintro K q s c' rfl e
   obtain⟨c,h1,h2,h3,h4⟩:=tr' s c' e
   unfold A8t
   rw[h2,h3]
   refine(H.heap.obj q s c h1).imp id ?_
   rintro⟨b,arr,ty,k1,k2,k3,k4⟩
   refine⟨b,arr,ty,k1,k2,k3,fun i hi=>?_⟩
   obtain⟨cs,vs,m1,m2,m3,m4⟩:=k4 i hi
   exact⟨cs,vs,by rw[h4];exact m1,m2,C4 K cs m3,m4⟩
  ·rintro q s c' b n rfl e h1
   obtain⟨c,k1,_,k3,_⟩:=tr' s c' e
   rw[k3];exact H.heap.siz q s c b n k1 h1
  ·rintro q κ b n rfl h1
   right
   refine⟨q,κ,n,rfl,?_,h1⟩
   cases e:DV h q with
   |false=>exact .inl rfl
   |true=>exact .inr (H.heap.roI q κ b n h1 e)
  ·rintro q κ q' κ' b n n' rfl rfl h1 h2;exact H.heap.inj _ _ _ _ _ _ _ h1 h2
  ·rintro q κ x rfl h1;exact⟨_,hg,by simp⟩
  ·rintro b (hb|⟨κ,n,hb⟩)
   ·exact .inl hb
   ·cases e:DV h r with
    |false=>exact .inr (.inr ⟨r,κ,n,rfl,e,hb⟩)
    |true=>exact .inl (H.heap.roI r κ b n hb e)
  ·rintro q κ b n rfl h1 h2;rw[B9 hg]at h2;cases h2
  ·rintro q κ b n rfl h1 h2;exact .inr ⟨κ,n,h1⟩
 exact T.inv H
def Src (E:Env)(h:Am)(w:World)(σ:Nat×Nat->Option (Nat×Nat))(i k:Nat)(u:Ty)(ys:List (den u))(v:Value):Prop:=
 (∃q s,AC h q s=.on (.lst false u ys)/\E.ι q (key s)=σ (i,k)/\La E w q s (.lst false u ys) none v)\/(ys=[]/\σ (i,k)=none/\v=.slice none 0 0)
def JN (E:Env)(h:Am)(w:World)(σ:Nat×Nat->Option (Nat×Nat))(i k:Nat)(c:AV)(v:Value):Prop:=
 match c with
 | .pv (.slice u) ys=>Src E h w σ i k u ys v
 |c=>Ag E h w c v
def Ju (E:Env)(h:Am)(w:World)(σ:Nat×Nat->Option (Nat×Nat))(i:Nat):Nat->List AV->List Value->Prop
 |_,[],vs=>vs=[]
 |k,c::cs,vs=>∃v us,vs=v::us/\JN E h w σ i k c v/\Ju E h w σ i (k+1) cs us
theorem Ju.of {E:Env}{h:Am}{w:World}{σ:Nat×Nat->Option (Nat×Nat)}{i:Nat}:{cs:List AV}->{k:Nat}->{vs:List Value}->cs.length=vs.length->(∀(j:Nat) (h1:j<cs.length) (h2:j<vs.length),JN E h w σ i (k+j) cs[j] vs[j])->Ju E h w σ i k cs vs
 |[],k,[],_,_=>rfl
 |c::cs,k,v::vs,hl,hh=>⟨v,vs,rfl,hh 0 (Nat.succ_pos _) (Nat.succ_pos _),Ju.of (by simpa using hl) fun j h1 h2=>by have:=hh (j+1) (by simpa using h1) (by simpa using h2);rw[show k+1+j=k+(j+1) by omega];simpa using this⟩
theorem Ju.at {E:Env}{h:Am}{w:World}{σ:Nat×Nat->Option (Nat×Nat)}{i:Nat}:{cs:List AV}->{k:Nat}->{vs:List Value}->Ju E h w σ i k cs vs->∀(j:Nat) (h1:j<cs.length) (h2:j<vs.length),JN E h w σ i (k+j) cs[j] vs[j]
 |[],k,vs,_,j,h1,_=>absurd h1 (Nat.not_lt_zero _)
 |c::cs,k,vs,hs,j,h1,h2=>by
  simp only[Ju]at hs;obtain⟨v,us,rfl,h3,h4⟩:=hs
  cases j with
  |zero=>exact h3
  |succ j=>have:=Ju.at h4 j (by simpa using h1) (by simpa using h2);rw[show k+(j+1)=k+1+j by omega];simpa using this
theorem Ju.length {E:Env}{h:Am}{w:World}{σ:Nat×Nat->Option (Nat×Nat)}{i:Nat}:(cs:List AV)->{k:Nat}->{vs:List Value}->Ju E h w σ i k cs vs->vs.length=cs.length
 |[],k,vs,h1=>by simp only[Ju]at h1;subst h1;rfl
 |c::cs,k,vs,h1=>by simp only[Ju]at h1;obtain⟨v,us,rfl,_,h2⟩:=h1;simp[Ju.length cs h2]
theorem Ju.get {E:Env}{h:Am}{w:World}{σ:Nat×Nat->Option (Nat×Nat)}{i:Nat}:(cs:List AV)->{k:Nat}->{vs:List Value}->Ju E h w σ i k cs vs->∀(j:Nat) {u:Ty} {ys:List (den u)},cs[j]? =some (.pv (.slice u) ys)->∃v,vs[j]? =some v/\Src E h w σ i (k+j) u ys v
 |[],k,vs,h1,j,u,ys,e=>by simp at e
 |c::cs,k,vs,h1,0,u,ys,e=>by
  simp only[Ju]at h1;obtain⟨v,us,rfl,h2,_⟩:=h1
  obtain rfl:c=.pv (.slice u) ys:=by simpa using e
  exact⟨v,rfl,h2⟩
 |c::cs,k,vs,h1,j+1,u,ys,e=>by
  simp only[Ju]at h1;obtain⟨v,us,rfl,_,h2⟩:=h1
  obtain⟨v',h3,h4⟩:=Ju.get cs h2 j (by simpa using e)
  exact⟨v',by simpa using h3,by rw[show k+(j+1)=k+1+j by omega];exact h4⟩
theorem LF (H:Inv F E h w){r ver:Nat}{t:Ty}{xs:List (den t)}{K:Nat->Prop}(hK:∀q,K q->q≠r/\∃c,h.getD q none=some c/\c.ro=false)
 {h':Am}(hg:h'.getD r none=some (.tree false ver t xs none))(hgK:∀q,K q->h'.getD q none=some .dead)(hgo:∀q,q≠r->¬K q->h'.getD q none=h.getD q none)
 {w':World}{b:Nat}{arr:Array Value}{ty:TypeId}(hb:w'.heap[b]? =some (.cells arr ty (0,0)))(hold:∀k,k≠b->k<w.heap.size->w'.heap[k]? =w.heap[k]?)
 (hr:h.getD r none=none\/∃c0,h.getD r none=some c0/\c0.ro=false/\c0≠.dead/\c0.len=xs.length/\c0.sz=t.size/\E.ι r none=some (b,t.size)/\∀p,AC h r (some p)≠.no->p.2.2<ver)
 (hbw:(∃q n,(q=r\/K q)/\E.ι q none=some (b,n)/\∀a ty',w.heap[b]? =some (.cells a ty' (0,0))->ty'=ty/\arr.size=a.size)\/w.heap.size<=b)
 (hsize:w.heap.size<=w'.heap.size)(hblt:b<w'.heap.size)(hos:w'.os=w.os)(htape:w'.tape=w.tape)(hout:w'.output=w.output/\w.drawn<=w'.drawn)
 (hfit:xs.length*t.size<=arr.size)(σ:Nat×Nat->Option (Nat×Nat))
 (hσ:∀p b' n',σ p=some (b',n')->∃q κ,(q=r\/K q)/\E.ι q κ=some (b',n')/\b'≠b)(hσi:∀p p' b' n n',σ p=some (b',n)->σ p'=some (b',n')->p=p')
 (hels:∀i (hi:i<xs.length),∃vs:List Value,Ju E h w σ i 0 (flat t xs[i]) vs/\∀(j:Nat) (hj:j<vs.length),arr[i*t.size+j]? =some vs[j]):
 ∃E',Inv F E' h' w'/\Keep E h w E' h' w'/\E'.ι r none=some (b,t.size):=by
 let E':Env:=⟨fun q κ=>if q=r then(match κ with|none=>some (b,t.size)|some p=>σ p)else open Classical in (if K q then none else E.ι q κ),E.I⟩
 have hιr:∀p,E'.ι r (some p)=σ p:=fun p=>by simp[E']
 have hιr0:E'.ι r none=some (b,t.size):=by simp[E']
 have hιK:∀q κ,K q->E'.ι q κ=none:=fun q κ hq=>by simp only[E'];rw[if_neg (hK q hq).1,if_pos hq]
 have hιo:∀q κ,q≠r->¬K q->E'.ι q κ=E.ι q κ:=fun q κ h1 h2=>by simp only[E'];rw[if_neg h1,if_neg h2]
 have hroK:∀q,(q=r\/K q)->∀κ x,E.ι q κ=some x->DV h q=false:=by
  rintro q (rfl|hq) κ x hx
  ·rcases hr with h1|⟨c0,h1,h2,_⟩
   ·obtain⟨c',h3,_⟩:=H.heap.live q κ x hx;rw[h1]at h3;cases h3
   ·rw[B9 h1,h2]
  ·obtain⟨_,c,h1,h2⟩:=hK q hq;rw[B9 h1,h2]
 have hfix:∀q,(q=r\/K q)->DV h q=true->h'.getD q none=h.getD q none:=by
  rintro q (rfl|hq) h1
  ·rcases hr with h2|⟨c0,h2,h3,_⟩
   ·simp only[DV,h2]at h1;cases h1
   ·rw[B9 h2,h3]at h1;cases h1
  ·obtain⟨_,c0,h2,h3⟩:=hK q hq;rw[B9 h2,h3]at h1;cases h1
 have hbI:¬E.I b:=by
  rcases hbw with⟨q,n,hq,h1,_⟩|h1
  ·exact H.heap.apart q none b n h1 (hroK q hq _ _ h1)
  ·intro hI;have:=H.heap.I_lt b hI;omega
 have hσI:∀p b' n',σ p=some (b',n')->¬E.I b':=by
  intro p b' n' h1
  obtain⟨q,κ,hq,h2,_⟩:=hσ p b' n' h1
  exact H.heap.apart q κ b' n' h2 (hroK q hq _ _ h2)
 have hDι:∀q κ b0 n,(q=r\/K q)->E'.ι q κ=some (b0,n)->q=r/\((κ=none/\b0=b/\n=t.size)\/∃p,κ=some p/\σ p=some (b0,n)):=by
  rintro q κ b0 n (rfl|hq) h1
  ·refine⟨rfl,?_⟩
   cases κ with
   |none=>rw[hιr0]at h1;simp only[Option.some.injEq,Prod.mk.injEq]at h1;exact .inl ⟨rfl,h1.1.symm,h1.2.symm⟩
   |some p=>rw[hιr]at h1;exact .inr ⟨p,rfl,h1⟩
  ·rw[hιK q κ hq]at h1;cases h1
 have hstK:∀q,K q->∀s,AC h' q s=.off:=fun q hq=>Ha (hgK q hq)
 have hnest:∀i k v c,AC h' r (some (i,k,v))=.on c->v=ver/\∃u ys,c=.lst false u ys/\∃hi:i<xs.length,(flat t xs[i])[k]? =some (.pv (.slice u) ys):=by
  intro i k v c e
  obtain⟨rfl,_,hn⟩:=DB hg e
  obtain⟨u,ys,rfl,hi,h2⟩:=HV hn
  exact⟨rfl,u,ys,rfl,hi,h2⟩
 have hsrc:∀i k u (ys:List (den u)) (hi:i<xs.length),(flat t xs[i])[k]? =some (.pv (.slice u) ys)->∃v,Src E h w σ i k u ys v:=by
  intro i k u ys hi e
  obtain⟨vs,h1,_⟩:=hels i hi
  obtain⟨v,_,h2⟩:=Ju.get _ h1 k e
  rw[zJj]at h2
  exact⟨v,h2⟩
 have hbk:∀k,k≠b->k<w.heap.size->w'.heap[k]? =w.heap[k]?:=hold
 have T:Touch (fun q=>q=r\/K q) E h w E' h' w':=by
  refine{hh:=fun q hq=>hgo q (fun e=>hq (.inl e)) (fun e=>hq (.inr e)),hι:=fun q κ hq=>hιo q κ (fun e=>hq (.inl e)) (fun e=>hq (.inr e)),
         II:=fun b hb=>hb,size:=hsize,os:=hos,tape:=htape,output:=hout,
         blk:=fun k hk hn=>?_,asz:=fun k a ty' ha=>?_,off:=?_,on:=?_,som:=?_,fix:=hfix,obj:=?_,siz:=?_,from_:=?_,inj:=?_,live:=?_,Inew:=fun b hb=>.inl hb,apart:=?_,roI:=?_}
  ·refine hold k (fun e=>?_) hk
   subst e
   rcases hbw with⟨q,n,hq,h1,_⟩|h1
   ·exact hn q none n hq (hroK q hq _ _ h1) h1
   ·omega
  ·by_cases e:k=b
   ·subst e
    rcases hbw with⟨_,_,_,_,h1⟩|h1
    ·obtain⟨rfl,h2⟩:=h1 a ty' ha
     exact⟨arr,hb,h2⟩
    ·have:=(Array.getElem?_eq_some_iff.1 ha).1;omega
   ·exact⟨a,by rw[hold k e (Array.getElem?_eq_some_iff.1 ha).1];exact ha,rfl⟩
  ·rintro q s (rfl|hq) e
   ·rcases hr with h1|⟨c0,h1,h2,h3,h4,h5,h6,h7⟩
    ·rw[EH h1]at e;cases e
    ·cases s with
     |none=>rw[Av h1 h3]at e;cases e
     |some p=>
      obtain⟨i,k,v⟩:=p
      have:v<ver:=h7 (i,k,v) (by rw[e];simp)
      rw[AD hg,if_neg (by omega),if_pos (.inl this)]
   ·exact hstK q hq s
  ·rintro q s c (rfl|hq) e
   ·rcases hr with h1|⟨c0,h1,h2,h3,h4,h5,h6,h7⟩
    ·rw[EH h1]at e;cases e
    ·cases s with
     |none=>
      rw[Av h1 h3]at e;obtain rfl:c0=c:=by simpa using e
      exact .inr ⟨_,AB hg,h4.symm,h5.symm,by simp only[key];rw[hιr0,h6]⟩
     |some p=>
      obtain⟨i,k,v⟩:=p
      have:v<ver:=h7 (i,k,v) (by rw[e];simp)
      left;rw[AD hg,if_neg (by omega),if_pos (.inl this)]
   ·exact .inl (hstK q hq s)
  ·rintro q (rfl|hq)
   ·exact⟨_,hg⟩
   ·exact⟨_,hgK q hq⟩
  ·rintro Kp q s c (rfl|hq) e
   ·cases s with
    |none=>
     rw[AB hg]at e
     obtain rfl:Cont.tree false ver t xs none=c:=by simpa using e
     right
     refine⟨b,arr,ty,hιr0,hb,hfit,fun i hi=>?_⟩
     have hi':i<xs.length:=hi
     obtain⟨vs,h1,h2⟩:=hels i hi'
     refine⟨CB q ver none i 0 (flat t xs[i]),vs,by simp[Cont.at?,hi'],by rw[Ju.length _ h1,Dq];rfl,?_,h2⟩
     have:∀(cs:List AV) (k:Nat) (us:List Value),(∀j,j<cs.length->(flat t xs[i])[k+j]? =cs[j]?)->Ju E h w σ i k cs us->Ak E' h' w' (CB q ver none i k cs) us:=by
      intro cs
      induction cs with
      |nil=>intro k us _ hs;simp only[Ju]at hs;subst hs;exact Ak.nil
      |cons c cs ih=>
       intro k us hcs hs
       simp only[Ju]at hs
       obtain⟨v,us,rfl,h3,h4⟩:=hs
       have ih:=ih (k+1) us (fun j hj=>by have:=hcs (j+1) (by simp;omega);rw[show k+1+j=k+(j+1) by omega,this];simp) h4
       have hk:=hcs 0 (by simp)
       simp only[Nat.add_zero,List.getElem?_cons_zero]at hk
       cases c with
       |pv t' x=>
        cases t' with
        |slice u=>
         simp only[CB,reduceCtorEq,if_false]
         refine Ak.cons ?_ ih
         simp only[Ag]
         have hst:AC h' q (some (i,k,ver))=.on (.lst false u x):=by
          have hn:C0 false t xs i k=some (.lst false u x):=by
           unfold C0;rw[zQx hi'];simp only[zQk,hk]
          rw[AD hg];simp[hn]
         rw[BG hst]
         rcases h3 with⟨q0,s0,h5,h6,h7⟩|⟨h5,h6,rfl⟩
         ·obtain⟨hle,h8⟩:=h7
          refine⟨hle,h8.imp id ?_⟩
          rintro⟨b0,n,a,k1,k2,k3,k4,arr0,ty0,k5,k6⟩
          rw[h6]at k1
          obtain⟨q1,κ1,hq1,k7,hne⟩:=hσ _ _ _ k1
          exact⟨b0,n,a,by simp only[key];rw[hιr];exact k1,k2,k3,k4,arr0,ty0,by rw[hold b0 hne (H.heap.own_lt b0 ⟨_,_,_,k7⟩)];exact k5,k6⟩
         ·subst h5;exact⟨by simp[Cont.len],.inl ⟨rfl,rfl⟩⟩
        |_=>exact Ak.cons (IZ Kp _ h3) ih
       |_=>exact Ak.cons (IZ Kp _ h3) ih
     exact this _ 0 vs (fun j hj=>by rw[zJj]) h1
    |some p=>
     obtain⟨i,k,v⟩:=p
     obtain⟨rfl,u,ys,rfl,hi,hk⟩:=hnest i k v c e
     obtain⟨v',hs⟩:=hsrc i k u ys hi hk
     rcases hs with⟨q0,s0,h5,h6,h7⟩|⟨h5,h6,rfl⟩
     ·refine(H.heap.obj q0 s0 _ h5).imp id ?_
      rintro⟨b0,arr0,ty0,k1,k2,k3,k4⟩
      rw[h6]at k1
      obtain⟨q1,κ1,hq1,k7,hne⟩:=hσ _ _ _ k1
      refine⟨b0,arr0,ty0,by simp only[key];rw[hιr];exact k1,by rw[hold b0 hne (H.heap.own_lt b0 ⟨_,_,_,k7⟩)];exact k2,k3,fun j hj=>?_⟩
      obtain⟨cs,vs,m1,m2,m3,m4⟩:=k4 j hj
      exact⟨cs,vs,m1,m2,C4 Kp cs m3,m4⟩
     ·subst h5;exact .inl rfl
   ·rw[hstK q hq]at e;cases e
  ·rintro q s c b0 n (rfl|hq) e h1
   ·cases s with
    |none=>
     rw[AB hg]at e
     obtain rfl:Cont.tree false ver t xs none=c:=by simpa using e
     simp only[key]at h1;rw[hιr0]at h1;simp only[Option.some.injEq,Prod.mk.injEq]at h1;exact h1.2.symm
    |some p=>
     obtain⟨i,k,v⟩:=p
     obtain⟨rfl,u,ys,rfl,hi,hk⟩:=hnest i k v c e
     simp only[key]at h1;rw[hιr]at h1
     obtain⟨v',hs⟩:=hsrc i k u ys hi hk
     rcases hs with⟨q0,s0,h5,h6,h7⟩|⟨h5,h6,rfl⟩
     ·exact H.heap.siz q0 s0 _ b0 n h5 (h6.trans h1)
     ·rw[h6]at h1;cases h1
   ·rw[hstK q hq]at e;cases e
  ·rintro q κ b0 n hq h1
   obtain⟨rfl,⟨_,rfl,_⟩|⟨p,_,h2⟩⟩:=hDι q κ b0 n hq h1
   ·rcases hbw with⟨q0,n0,hq0,h3,_⟩|h3
    ·exact .inr ⟨q0,none,n0,hq0,.inl (hroK q0 hq0 _ _ h3),h3⟩
    ·exact .inl ⟨h3,hblt⟩
   ·obtain⟨q0,κ0,hq0,h3,_⟩:=hσ p b0 n h2
    exact .inr ⟨q0,κ0,n,hq0,.inl (hroK q0 hq0 _ _ h3),h3⟩
  ·rintro q κ q' κ' b0 n n' hq hq' h1 h2
   obtain⟨rfl,h3⟩:=hDι q κ b0 n hq h1
   obtain⟨rfl,h4⟩:=hDι q' κ' b0 n' hq' h2
   refine⟨rfl,?_⟩
   rcases h3 with⟨rfl,rfl,_⟩|⟨p,rfl,h3⟩<;>rcases h4 with⟨rfl,e4,_⟩|⟨p',rfl,h4⟩
   ·rfl
   ·obtain⟨_,_,_,_,hne⟩:=hσ p' _ _ h4;exact absurd rfl hne
   ·subst e4;obtain⟨_,_,_,_,hne⟩:=hσ p _ _ h3;exact absurd rfl hne
   ·rw[hσi p p' b0 n n' h3 h4]
  ·rintro q κ ⟨b0,n⟩ hq h1
   obtain⟨rfl,_⟩:=hDι q κ b0 n hq h1
   exact⟨_,hg,by simp⟩
  ·rintro q κ b0 n hq h1 _
   obtain⟨rfl,⟨_,rfl,_⟩|⟨p,_,h2⟩⟩:=hDι q κ b0 n hq h1
   ·exact hbI
   ·exact hσI p b0 n h2
  ·rintro q κ b0 n hq h1 h2
   obtain⟨rfl,_⟩:=hDι q κ b0 n hq h1
   rw[B9 hg]at h2;cases h2
 exact⟨E',(T.inv H).1,(T.inv H).2,hιr0⟩
end
end Go.Ab
end
section
namespace Go.Ab
open Go.RowKit
def Ml (P:Program)(T:List AV)(h:Am)(o:Oper)(v:AV)(δ:Bx):Prop:=
 ∀(F:Fr) (E:Env) (w:World) (a:Act) (next:Act->World->Prop) (Q:Exit->Act->World->Prop),Inv F E h w->(∀x∈o.op.operands,Ag E h w (ev T x) (a.eval x))->
  (∀val E' w',Inv F E' (apD h δ) w'->Keep E h w E' (apD h δ) w'->Ag E' (apD h δ) w' v val->next (a.put o.dst val) w')->o.wp P a w next Q
theorem Ml.of_q {P:Program}{T:List AV}{h:Am}{o:Oper}{v:AV}(hq:DL P T h o v):Ml P T h o v []:=hq
theorem Ml.ghost {P:Program}{T:List AV}{h:Am}{o:Oper}{v:AV}{δ δ':Bx}(hg:∀(F:Fr) (E:Env) (w:World),Inv F E h w->∃E',Inv F E' (apD h δ) w/\Keep E h w E' (apD h δ) w)(he:Ml P T (apD h δ) o v δ')(hap:apD (apD h δ) δ'=apD h (δ++δ')):Ml P T h o v (δ++δ'):=by
 intro F E w a next Q hI hop hk
 obtain⟨E1,h1,h2⟩:=hg F E w hI
 refine he F E1 w a next Q h1 (fun x hx=>IZ h2 _ (hop x hx)) fun val E' w' h3 h4 h5=>?_
 rw[hap]at h3 h4 h5
 exact hk val E' w' h3 (h2.trans h4) h5
theorem KE:(h:Am)->(δ δ':Bx)->apD (apD h δ) δ'=apD h (δ++δ')
 |h,[],δ'=>rfl
 |h,p::δ,δ'=>KE (setH h p.1 p.2) δ δ'
theorem KU {sz:Nat}:(vss:List (List Value))->(∀vs∈vss,vs.length=sz)->(i j:Nat)->{vs:List Value}->vss[i]? =some vs->j<sz->vss.flatten[i*sz+j]? =vs[j]?
 |[],_,i,j,vs,h,_=>by simp at h
 |us::vss,hl,0,j,vs,h,hj=>by
  simp at h;subst h
  have:=hl us (by simp)
  simp only[List.flatten_cons,Nat.zero_mul,zJj]
  rw[List.getElem?_append_left (by omega)]
 |us::vss,hl,i+1,j,vs,h,hj=>by
  have:=hl us (by simp)
  simp only[List.flatten_cons]
  rw[List.getElem?_append_right (by rw[Nat.add_mul];omega)]
  have e:(i+1)*sz+j-us.length=i*sz+j:=by rw[Nat.add_mul];omega
  rw[e]
  exact KU vss (fun v hv=>hl v (by simp[hv])) i j (by simpa using h) hj
theorem J4 {sz:Nat}:(vss:List (List Value))->(∀vs∈vss,vs.length=sz)->vss.flatten.length=vss.length*sz
 |[],_=>by simp
 |us::vss,hl=>by
  rw[List.flatten_cons,zJk,J4 vss (fun v hv=>hl v (by simp[hv])),hl us (by simp)]
  simp[Nat.add_mul];omega
theorem Rn {sz:Nat}:(vss:List (List Value))->(∀vs∈vss,vs.length=sz)->(i:Nat)->i<vss.length->(us:List Value)->us.length=sz->(vss.set i us).flatten=vss.flatten.take (i*sz)++us++vss.flatten.drop (i*sz+us.length)
 |[],_,i,hi,_,_=>by simp at hi
 |ws::vss,hl,0,_,us,hus=>by
  have:=hl ws (by simp)
  simp[List.drop_append,this,hus]
 |ws::vss,hl,i+1,hi,us,hus=>by
  have hw:=hl ws (by simp)
  have ih:=Rn vss (fun v hv=>hl v (by simp[hv])) i (by simpa using hi) us hus
  simp only[List.set_cons_succ,List.flatten_cons,ih]
  have e1:(i+1)*sz=ws.length+i*sz:=by rw[Nat.add_mul];omega
  have e2:ws.length+i*sz+us.length=ws.length+(i*sz+us.length):=by omega
  rw[e1,e2,List.take_length_add_append,List.drop_length_add_append]
  simp
theorem PA (z:Array Value)(n:Nat):(Array.range (n*z.size)).map (fun i=>z[i % z.size]!)=(zKq n z.toList).flatten.toArray:=by
 apply Array.ext
 ·simp[J4 (sz:=z.size) (zKq n z.toList) (by simp)]
 ·intro k h1 h2
  simp only[Array.size_map,Array.size_range]at h1
  have hz:0<z.size:=by rcases Nat.eq_zero_or_pos z.size with h|h;· rw[h]at h1;simp at h1
                       ·exact h
  have hd:k / z.size<n:=Nat.div_lt_of_lt_mul (by rwa [Nat.mul_comm])
  have hm:=Nat.mod_lt k hz
  have:=KU (sz:=z.size) (zKq n z.toList) (by simp) (k / z.size) (k % z.size) (vs:=z.toList) (by simp[hd]) hm
  rw[Nat.div_add_mod' k z.size]at this
  simp only[Array.getElem_map,Array.getElem_range]
  rw[getElem!_pos z (k % z.size) hm]
  have e:(zKq n z.toList).flatten[k]? =some z[k % z.size]:=by rw[this];simp[hm]
  obtain⟨_,e'⟩:=zQj.1 e
  simpa using e'.symm
section
variable {P:Program}{C:Cfg}(HC:TabOK P C)
theorem U5 {sz:Nat}{E:Env}{h:Am}{w:World}:∀(ps:List (Nat×AV)) (es:List (List AV)) (qs:List (Nat×Value)) (vss:List (List Value)),(∀e∈es,e.length=sz)->es.length=vss.length->(∀(k:Nat) (h1:k<es.length) (h2:k<vss.length),Ak E h w es[k] vss[k])->
 (∀p∈ps,p.1<es.length/\p.2.ok=true/\p.2.cells.length=sz)->ps.length=qs.length->(∀(i:Nat) (h1:i<ps.length) (h2:i<qs.length),ps[i].1=qs[i].1/\Ag E h w ps[i].2 qs[i].2)->
 ∃vss':List (List Value),Instr.fill (fun i=>some (i*sz,sz)) vss.flatten.toArray qs=some vss'.flatten.toArray/\(∀e∈Ny es ps,e.length=sz)/\(Ny es ps).length=es.length/\(Ny es ps).length=vss'.length/\(∀(k:Nat) (h1:k<(Ny es ps).length) (h2:k<vss'.length),Ak E h w (Ny es ps)[k] vss'[k])
 |[],es,[],vss,hes,hl,hr,_,_,_=>⟨vss,rfl,hes,rfl,hl,hr⟩
 |p::ps,es,q::qs,vss,hes,hl,hr,hp,hpl,hq=>by
  obtain⟨hlt,hok,hcl⟩:=hp p (by simp)
  obtain⟨e1,hrep⟩:=hq 0 (by simp) (by simp)
  simp only[List.getElem_cons_zero]at e1 hrep
  obtain⟨h1,_⟩:=MK hok hrep
  have hul:q.2.cells.toList.length=sz:=by rw[<-h1.length];exact hcl
  have hvl:∀vs∈vss,vs.length=sz:=by
   intro vs hvs
   obtain⟨k,hk,rfl⟩:=zJz hvs
   rw[<-(hr k (by omega) hk).length];exact hes _ (zQz _)
  have ih:=U5 ps (es.set p.1 p.2.cells) qs (vss.set p.1 q.2.cells.toList) (fun e he=>by
   rcases List.mem_or_eq_of_mem_set he with h'|h'
   ·exact hes e h'
   ·rw[h'];exact hcl) (by simpa using hl) (fun k h2 h3=>by
   simp only[List.getElem_set]
   split
   ·exact h1
   ·exact hr k (by simpa using h2) (by simpa using h3)) (fun p' hp'=>by simpa using hp p' (by simp[hp'])) (by simpa using hpl) (fun i h2 h3=>hq (i+1) (by simpa using h2) (by simpa using h3))
  obtain⟨vss',h2,h3,h4,h5,h6⟩:=ih
  refine⟨vss',?_,h3,(show(Ny (es.set p.1 p.2.cells) ps).length=es.length by rw[h4,List.length_set]),h5,h6⟩
  have hlt':p.1<vss.length:=by omega
  have hfl:=J4 vss hvl
  have hle:p.1*sz+sz<=vss.length*sz:=by rw[<-Nat.succ_mul];exact zJx _ hlt'
  simp only[Instr.fill,<-e1]
  have hs:q.2.cells.size=sz:=by simpa using hul
  rw[if_neg (by simp[hs,hfl];omega)]
  rw[<-h2]
  congr 1
  rw[Rn vss hvl p.1 hlt' _ hul]
  have hf:=QD vss.flatten.toArray (p.1*sz) q.2.cells.toList 0 (by simp only[Nat.add_zero,List.size_toArray,hfl,hul];omega)
  simp only[Nat.add_zero]at hf
  rw[<-hf,<-Array.foldl_toList,Array.toList_zipIdx]
 |[],_,_::_,_,_,_,_,_,hl,_=>by simp at hl
 |_::_,_,[],_,_,_,_,_,hl,_=>by simp at hl
theorem eA {F:Fr}{E:Env}{h:Am}{w:World}(H:Inv F E h w){r:Nat}(hr:h.getD r none=none)(c:Cont)(hc:c.plain)(arr:Array Value)(ty:TypeId)(n:Nat)(hn:c.len<=n)(hfit:n*c.sz<=arr.size)
 (hels:∀i,i<c.len->∃cs vs,c.at? r i=some cs/\vs.length=c.sz/\Ak E h w cs vs/\∀(j:Nat) (hj:j<vs.length),arr[i*c.sz+j]? =some vs[j]):
 ∃E',Inv F E' (setH h r c) (w.alloc (.cells arr ty (0,0)))/\Keep E h w E' (setH h r c) (w.alloc (.cells arr ty (0,0)))/\Ag E' (setH h r c) (w.alloc (.cells arr ty (0,0))) (.own r none none) (.slice (some ⟨w.heap.size,0,none⟩) c.len n):=by
 obtain⟨E',h1,h2,h3⟩:=Ww H hr c hc arr ty (Nat.le_trans (zJx _ hn) hfit) hels
 refine⟨E',h1,h2,?_⟩
 have hst:AC (setH h r c) r none=.on c:=Av (by rw[An,if_pos rfl]) hc.ro.2
 simp only[Ag]
 rw[BG hst]
 exact⟨by simp,.inr ⟨w.heap.size,n,⟨w.heap.size,0,none⟩,h3,rfl,hn,by simp,arr,ty,by show(w.heap.push _)[w.heap.size]? =_;simp,by simpa using hfit⟩⟩
theorem ra {F:Fr}{E:Env}{h:Am}{w:World}(H:Inv F E h w){r:Nat}(hr:h.getD r none=none){cs:List AV}{vs:List Value}(hrep:Ak E h w cs vs)(ty:TypeId):
 ∃E',Inv F E' (setH h r (.cells cs.length [cs])) (w.alloc (.cells vs.toArray ty (0,0)))/\Keep E h w E' (setH h r (.cells cs.length [cs])) (w.alloc (.cells vs.toArray ty (0,0)))/\
  Ag E' (setH h r (.cells cs.length [cs])) (w.alloc (.cells vs.toArray ty (0,0))) (.ptr r none 0 0) (.pointer (some ⟨w.heap.size,0,none⟩)):=by
 have hl:=hrep.length
 obtain⟨E',h1,h2,h3⟩:=Ww H hr (.cells cs.length [cs]) trivial vs.toArray ty (by simp[Cont.len,Cont.sz,hl]) (fun i hi=>by
  have:i=0:=by simpa[Cont.len]using hi
  subst this
  exact⟨cs,vs,rfl,by simp[Cont.sz,hl],hrep,fun j hj=>by simp[hj]⟩)
 refine⟨E',h1,h2,?_⟩
 have hst:AC (setH h r (.cells cs.length [cs])) r none=.on (.cells cs.length [cs]):=Av (by rw[An,if_pos rfl]) (by simp)
 simp only[Ag]
 rw[JO hst]
 exact⟨_,h3,by simp⟩
theorem Agj {R:Type}{base:Nat}{s:St}{o:Oper}{t:TypeId}{x:Operand}{K:AV->Bx->Option R}{r:R}(ho:o.op=.box t x)(h:Ls C base s o K=some r):∃v δ,K v δ=some r/\∀hp,BM s.h hp->(∀j,j<JS C o->hp.getD (base+j) none=none)->Ml P s.t hp o v δ:=by
 have hx:x∈o.op.operands:=by rw[ho];simp[Op.operands]
 unfold Ls at h;simp only[ho]at h
 split at h
 ·rename_i i hi
  split at h
  ·rename_i hc
   refine⟨_,_,h,fun hp hs hfree F E w a next Q hI hop hk=>?_⟩
   obtain⟨hr,_⟩:=MK hc.1 (hop x hx)
   obtain⟨E',h1,h2,h3⟩:=ra hI (by simpa using hfree 0 (by simp[JS,ho])) hr t
   rw[hc.2]at h1 h2 h3
   unfold Oper.wp
   have:(execOp a.eval o).run P w=.ok (.value (.pointer (some ⟨w.heap.size,0,none⟩))) (w.alloc (.cells (a.eval x).cells.toList.toArray t (0,0))):=by
    simp only[execOp,ho,Instr.box,newVar,newRow,Sem.run_bind,run_newObj,Result.andThen_ok,Sem.run_pure,Array.toArray_toList];rfl
   rw[this]
   exact hk _ E' _ h1 h2 h3
  ·cases h
 ·cases h
include HC in
theorem sL {R:Type}{base:Nat}{s:St}{o:Oper}{t:TypeId}{K:AV->Bx->Option R}{r:R}(ho:o.op=.alloc t)(h:Ls C base s o K=some r):∃v δ,K v δ=some r/\∀hp,BM s.h hp->(∀j,j<JS C o->hp.getD (base+j) none=none)->Ml P s.t hp o v δ:=by
 unfold Ls at h;simp only[ho]at h
 split at h
 ·rename_i i hi
  obtain⟨inf,d,hinf,hund,hsize,hu,⟨zv,hz1,hz2,hz3⟩,_⟩:=HC.ti t i hi
  have hrun:∀(w:World) (a:Act),(execOp a.eval o).run P w=.ok (.value (.pointer (some ⟨w.heap.size,0,none⟩))) (w.alloc (.cells zv.cells.toList.toArray t (0,0))):=by
   intro w a
   simp only[execOp,ho,Instr.alloc,zeroValue,typeInfo,newVar,newRow,Sem.run_bind,run_program,hinf,hz1,run_newObj,Result.andThen_ok,Sem.run_pure,Array.toArray_toList];rfl
  split at h
  ·rename_i n e he
   split at h
   case h_2=>cases h
   rename_i k _ _ _ hie
   split at h
   case h_2=>cases h
   rename_i ys hys
   refine⟨_,_,h,fun hp hs hfree F E w a next Q hI hop hk=>?_⟩
   have hzero:Ak E hp w i.zero zv.cells.toList:=by
    rw[hz2]
    exact Ak.of (by simp) (fun j h1 h2=>by simpa using Ji _)
   rw[LY hys]at hzero
   have hzz:=Qx ys hzero
   have hyl:zv.cells.toList.length=ys.length:=by rw[hzz];simp
   obtain⟨E',k1,k2,k3⟩:=Ww hI (by simpa using hfree 0 (by simp[JS,ho])) (.lst false (.int k) ys) trivial zv.cells.toList.toArray t (by simp only[Cont.len,Cont.sz,Ty.size,Nat.mul_one,List.size_toArray];omega) (fun j hj=>by
    have hj:j<ys.length:=hj
    refine⟨[.pv (.int k) ys[j]],[.int k ys[j]],by simp[Cont.at?,hj,flat],by simp[Cont.sz,Ty.size],Ak.cons (HX k _) Ak.nil,fun m hm=>?_⟩
    have:m=0:=by simpa using hm
    subst this
    simp only[Cont.sz,Ty.size,Nat.mul_one,Nat.add_zero,List.getElem?_toArray]
    rw[hzz];simp[hj])
   unfold Oper.wp
   rw[hrun]
   refine hk _ E' _ k1 k2 ?_
   simp only[Ag]
   show CY E' (setH hp base (.lst false (.int k) ys)) base none 0 0 _
   rw[JO (Av (by rw[An,if_pos rfl]) (by simp))]
   exact⟨_,k3,by simp⟩
  refine⟨_,_,h,fun hp hs hfree F E w a next Q hI hop hk=>?_⟩
  have hzero:Ak E hp w i.zero zv.cells.toList:=by
   rw[hz2]
   exact Ak.of (by simp) (fun j h1 h2=>by simpa using Ji _)
  obtain⟨E',h1,h2,h3⟩:=ra hI (by simpa using hfree 0 (by simp[JS,ho])) hzero t
  have hl:=hzero.length
  have hls:i.zero.length=i.size:=by rw[hl];simpa using hz3
  rw[hls]at h1 h2 h3
  unfold Oper.wp
  rw[hrun]
  exact hk _ E' _ h1 h2 h3
 ·cases h
theorem W9 {hp h:Am}{E:Env}{w:World}(hs:BM hp h)(H:HeapOK E h w):PackOK (roH hp) E h w E.I:=
 ⟨fun _ hb=>hb,hs.ro,.inr H,fun r c hc κ b n hι=>by
  refine H.roI r κ b n hι ?_
  rw[OF]at hc
  split at hc
  ·rename_i c' hc'
   split at hc
   ·rename_i hro
    obtain rfl:c'=c:=by simpa using hc
    rcases hs r c' hc' (by rintro rfl;cases hro)with h1|⟨n,l,c'',rfl,_⟩
    ·rw[B9 h1];exact hro
    ·cases hro
   ·cases hc
  ·cases hc⟩
theorem Sr {E:Env}{h:Am}{w:World}:PackOK [] E h w E.I:=⟨fun _ hb=>hb,BM.nil h,.inl rfl,fun r c hc=>by simp at hc⟩
theorem Wn {R:Type}{hp:Am}{i:TI}{es:List (List AV)}{K:Cont->Option R}{r:R}(h:Wp hp i es K=some r):∃c,K c=some r/\c.len=es.length/\c.sz=i.size/\(c.plain\/∃t,c=.tree false 0 t [] none/\es=[])/\
 ∀h0,BM hp h0->∀(E:Env) (w:World),HeapOK E h0 w->∀(q k:Nat) (hk:k<es.length) vs,Ak E h0 w es[k] vs->∃cs,c.at? q k=some cs/\Ak E h0 w cs vs:=by
 have hcells:K (.cells i.size es)=some r->∃c,K c=some r/\c.len=es.length/\c.sz=i.size/\(c.plain\/∃t,c=.tree false 0 t [] none/\es=[])/\
  ∀h0,BM hp h0->∀(E:Env) (w:World),HeapOK E h0 w->∀(q k:Nat) (hk:k<es.length) vs,Ak E h0 w es[k] vs->∃cs,c.at? q k=some cs/\Ak E h0 w cs vs:=fun h=>
  ⟨_,h,rfl,rfl,.inl trivial,fun h0 _ E w _ q k hk vs hr=>⟨es[k],by simp[Cont.at?,hk],hr⟩⟩
 unfold Wp at h
 split at h
 ·rename_i t ht
  split at h
  ·rename_i hsz
   split at h
   ·rename_i he
    have he:es=[]:=by simpa using he.2
    subst he
    exact⟨_,h,rfl,hsz,.inr ⟨t,rfl,rfl⟩,fun h0 _ E w _ q k hk=>absurd hk (Nat.not_lt_zero _)⟩
   ·split at h
    ·obtain⟨xs,h1,h2,h3⟩:=Lg es h (fun e x=>∀h0,BM hp h0->∀(E:Env) (w:World),HeapOK E h0 w->∀vs,Ak E h0 w e vs->B5 E.I w t x vs) (fun e _ K r hpk=>by
      obtain⟨x,rest,k1,k2⟩:=(HU t).1 _ _ _ _ hpk
      refine⟨x,rest,k1,fun hr h0 hs E w H vs hvs=>?_⟩
      subst hr
      obtain⟨us,ws,rfl,k3,k4⟩:=k2 E h0 w E.I (W9 hs H) vs hvs
      simp only[Ak]at k4;subst k4
      rw[List.append_nil];exact k3)
     exact⟨_,h1,h2,hsz,.inl trivial,fun h0 hs E w H q k hk vs hr=>⟨flat t (xs[k]'(by omega)),by simp[Cont.at?,h2,hk],Dn t (h3 k (by omega) hk h0 hs E w H vs hr)⟩⟩
    ·exact hcells h
  ·exact hcells h
 ·exact hcells h
include HC in
theorem T3 {T:List AV}{hp:Am}{o:Oper}{t e:TypeId}{n:Nat}{ps:Array (Nat×Operand)}{ie:TI}(ho:o.op=.buildSlice t n ps)(hund:P.underlying t=some (.slice e))(hie:C.info e=some ie)
 (hps:(ps.toList.all fun p=>decide (p.1<n)&&(ev T p.2).ok&&(ev T p.2).cells.length==ie.size)=true)(hlim:n*ie.size<=16777216)
 {E:Env}{w:World}{ρ:Operand->Value}(hev:∀p∈ps.toList,Ag E hp w (ev T p.2) (ρ p.2)):
 ∃arr:Array Value,(execOp ρ o).run P w=.ok (.value (.slice (some ⟨w.heap.size,0,none⟩) n n)) (w.alloc (.cells arr e (0,0)))/\n*ie.size=arr.size/\
  (Ny (Lr n ie.zero) (ps.toList.map fun p=>(p.1,ev T p.2))).length=n/\
  ∀i (hi:i<(Ny (Lr n ie.zero) (ps.toList.map fun p=>(p.1,ev T p.2))).length),∃vs:List Value,vs.length=ie.size/\Ak E hp w (Ny (Lr n ie.zero) (ps.toList.map fun p=>(p.1,ev T p.2)))[i] vs/\
   ∀(j:Nat) (hj:j<vs.length),arr[i*ie.size+j]? =some vs[j]:=by
 have hte:=HC.ti e ie hie
 obtain⟨inf,_,hinf,_,hsize,_,⟨zv,hz1,hz2,hz3⟩,_⟩:=hte
 have hzero:Ak E hp w ie.zero zv.cells.toList:=by
  rw[hz2]
  exact Ak.of (by simp) (fun j h1 h2=>by simpa using Ji _)
 have hzl:ie.zero.length=ie.size:=by rw[hzero.length];simpa using hz3
 obtain⟨vss,h1,h2,h3,h4,h5⟩:=U5 (sz:=ie.size) (E:=E) (h:=hp) (w:=w) (ps.toList.map fun p=>(p.1,ev T p.2)) (Lr n ie.zero) (ps.toList.map fun p=>(p.1,ρ p.2)) (zKq n zv.cells.toList)
  (fun e he=>by simp only[Lr,List.mem_replicate]at he;rw[he.2];exact hzl) (by simp[Lr]) (fun k h1 h2=>by simpa[Lr]using hzero)
  (fun p hp=>by
    obtain⟨p',hp',rfl⟩:=List.mem_map.1 hp
    have:=List.all_eq_true.1 hps p' hp'
    simp only[zJq,decide_eq_true_eq,beq_iff_eq]at this
    exact⟨by simpa[Lr]using this.1.1,this.1.2,this.2⟩) (by simp) (fun i h1 h2=>by simp only[List.getElem_map,true_and];exact hev _ (zQz _))
 have hn:(Ny (Lr n ie.zero) (ps.toList.map fun p=>(p.1,ev T p.2))).length=n:=by rw[h3];simp[Lr]
 have hvl:∀vs∈vss,vs.length=ie.size:=by
  intro vs hvs
  obtain⟨k,hk,rfl⟩:=zJz hvs
  rw[<-(h5 k (by omega) hk).length];exact h2 _ (zQz _)
 have hvn:vss.length=n:=by rw[<-h4,hn]
 have hfl:=J4 vss hvl
 have hrun:(execOp ρ o).run P w=.ok (.value (.slice (some ⟨w.heap.size,0,none⟩) n n)) (w.alloc (.cells vss.flatten.toArray e (0,0))):=by
  have hzs:zv.cells.size=ie.size:=hz3
  simp only[execOp,ho,Instr.buildSlice,Sem.run_bind,run_underlying hund,Result.andThen_ok,EF (HC.ti e ie hie),Sem.run_ite]
  rw[if_neg (show ¬n*ie.size>2 ^ 24 by omega)]
  have hfill:Instr.fill (fun i=>some (i*ie.size,ie.size)) ((Array.range (n*ie.size)).map fun i=>(if n*ie.size=0 then #[]else zv.cells)[i % (if n*ie.size=0 then #[]else zv.cells).size]!) (ps.toList.map fun p=>(p.1,ρ p.2))=some vss.flatten.toArray:=by
   rw[<-h1]
   congr 1
   by_cases h0:n*ie.size=0
   ·simp only[h0,if_true]
    have:(zKq n zv.cells.toList).flatten.length=0:=by rw[J4 (sz:=ie.size) _ (by simp[hzs])];simpa using h0
    rw[List.eq_nil_of_length_eq_zero this];simp
   ·simp only[h0,if_false]
    rw[<-PA,hzs]
  by_cases h0:n*ie.size=0
  ·simp only[h0,if_true,Sem.run_pure,Result.andThen_ok]at hfill ⊢
   have hps':(ps.map fun p=>(p.1,ρ p.2)).toList=ps.toList.map fun p=>(p.1,ρ p.2):=by simp
   rw[hps',hfill]
   simp[newRow]
  ·simp only[h0,if_false,Sem.run_bind,zeroValue,typeInfo,run_program,hinf,hz1,Sem.run_pure,Result.andThen_ok]at hfill ⊢
   have hps':(ps.map fun p=>(p.1,ρ p.2)).toList=ps.toList.map fun p=>(p.1,ρ p.2):=by simp
   rw[hps',hfill]
   simp[newRow]
 refine⟨vss.flatten.toArray,hrun,by simp[hfl,hvn],hn,fun i hi=>?_⟩
 have hi2:i<vss.length:=by omega
 refine⟨vss[i],hvl _ (zQz _),h5 i hi hi2,fun j hj=>?_⟩
 have hj':j<ie.size:=by rw[<-hvl _ (zQz hi2)];exact hj
 rw[List.getElem?_toArray,KU vss hvl i j (zQx hi2) hj']
 simp[hj]
theorem aV {F:Fr}{E:Env}{h:Am}{w:World}(H:Inv F E h w){r:Nat}(hr:h.getD r none=none)(t:Ty)(arr:Array Value)(ty:TypeId)(n:Nat)(hfit:n*t.size<=arr.size):
 ∃E',Inv F E' (setH h r (.tree false 0 t [] none)) (w.alloc (.cells arr ty (0,0)))/\Keep E h w E' (setH h r (.tree false 0 t [] none)) (w.alloc (.cells arr ty (0,0)))/\Ag E' (setH h r (.tree false 0 t [] none)) (w.alloc (.cells arr ty (0,0))) (.own r none none) (.slice (some ⟨w.heap.size,0,none⟩) 0 n):=by
 have hold:∀b,b<w.heap.size->(w.alloc (.cells arr ty (0,0))).heap[b]? =w.heap[b]?:=fun b hb=>Below.heap_alloc w _ b hb
 have hnew:(w.alloc (.cells arr ty (0,0))).heap[w.heap.size]? =some (.cells arr ty (0,0)):=by show(w.heap.push _)[w.heap.size]? =_;simp
 have hsize:(w.alloc (.cells arr ty (0,0))).heap.size=w.heap.size+1:=by show(w.heap.push _).size=_;simp
 obtain⟨E',h1,h2,h3⟩:=LF H (r:=r) (ver:=0) (t:=t) (xs:=[]) (K:=fun _=>False) (fun q hq=>hq.elim) (h':=setH h r (.tree false 0 t [] none)) (by rw[An,if_pos rfl]) (fun q hq=>hq.elim) (fun q hq _=>by rw[An,if_neg hq]) hnew (fun k _ hk=>hold k hk) (.inl hr) (.inr (zQq _)) (by omega) (by omega) rfl rfl ⟨rfl,zQq _⟩ (by simp) (fun _=>none) (fun p b' n' e=>by cases e) (fun p p' b' n n' e=>by cases e) (fun i hi=>absurd hi (Nat.not_lt_zero _))
 refine⟨E',h1,h2,?_⟩
 simp only[Ag]
 rw[BG (AB (by rw[An,if_pos rfl]))]
 exact⟨by simp[Cont.len],.inr ⟨w.heap.size,n,⟨w.heap.size,0,none⟩,h3,rfl,Nat.zero_le _,by simp,arr,ty,hnew,by simpa[Cont.sz,Cont.len]using hfit⟩⟩
include HC in
theorem T2 {R:Type}{base:Nat}{s:St}{o:Oper}{t:TypeId}{n:Nat}{ps:Array (Nat×Operand)}{K:AV->Bx->Option R}{r:R}(ho:o.op=.buildSlice t n ps)(h:Ls C base s o K=some r):∃v δ,K v δ=some r/\∀hp,BM s.h hp->(∀j,j<JS C o->hp.getD (base+j) none=none)->Ml P s.t hp o v δ:=by
 unfold Ls at h;simp only[ho]at h
 split at h
 ·rename_i size e code zero lim hti
  obtain⟨_,d,_,hund,_,hu,_⟩:=HC.ti t _ hti
  simp only[Fl]at hu;subst hu
  split at h
  ·rename_i ie hie
   split at h
   ·rename_i hc
    simp only[zJq,decide_eq_true_eq]at hc
    obtain⟨hps,hlim⟩:=hc
    obtain⟨c,hK,hcl,hcs,hcp,hcat⟩:=Wn h
    refine⟨_,_,hK,fun hp hs hfree F E w a next Q hI hop hk=>?_⟩
    have hfree:=hfree 0 (by simp[JS,ho])
    rw[Nat.add_zero]at hfree
    obtain⟨arr,hrun,hasz,hfl,hels⟩:=T3 HC ho hund hie hps hlim (E:=E) (w:=w) (ρ:=a.eval) (fun p hpm=>hop p.2 (by rw[ho];simp only[Op.operands];exact List.mem_toArray.2 (List.mem_map.2 ⟨p,hpm,rfl⟩)))
    unfold Oper.wp
    rw[hrun]
    rcases hcp with hcp|⟨t',rfl,hes⟩
    ·obtain⟨E',q1,q2,q3⟩:=eA hI hfree c hcp arr e n (by rw[hcl,hfl];exact zQq _) (by rw[hcs,hasz];exact zQq _) (fun i hi=>by
      obtain⟨vs,h1,h2,h3⟩:=hels i (by rw[<-hcl];exact hi)
      obtain⟨cs,h4,h5⟩:=hcat hp hs E w hI.heap base i (by rw[<-hcl];exact hi) vs h2
      exact⟨cs,vs,h4,by rw[hcs];exact h1,h5,fun j hj=>by rw[hcs];exact h3 j hj⟩)
     rw[hcl,hfl]at q3
     exact hk _ E' _ q1 q2 q3
    ·rw[hes]at hfl
     have hn0:n=0:=by simpa using hfl.symm
     obtain⟨E',q1,q2,q3⟩:=aV hI hfree t' arr e n (by rw[hn0];simp)
     rw[hn0]at q3 ⊢
     exact hk _ E' _ q1 q2 q3
   ·cases h
  ·cases h
 ·cases h
end
end Go.Ab
end
section
namespace Go.Ab
open Go.RowKit
def Q8 (c d:AV):Prop:=c=d\/(c=.nils/\∃u,d=.pv (.slice u) ([]:List (den u)))
theorem U9 {c d:AV}(h:Q8 c d):∀(j:Nat) (h1:j<[c].length) (h2:j<[d].length),Q8 [c][j] [d][j]:=fun j h1 h2=>by
 have:j=0:=by simpa using h1
 subst this;exact h
theorem PU:(t:Ty)->{R:Type}->{cs:List AV}->{K:den t->List AV->Option R}->{r:R}->DF [] t cs K=some r->(∀c∈cs,(∃u x,c=.pv u x)\/c=.nils)->
 ∃x rest pre,K x rest=some r/\cs=pre++rest/\pre.length=t.size/\∀(j:Nat) (h1:j<pre.length) (h2:j<(flat t x).length),Q8 pre[j] (flat t x)[j]
 | .prod a b,R,cs,K,r,h,hc=>by
   simp only[DF]at h
   obtain⟨x,r1,p1,h1,rfl,h2,h3⟩:=PU a h hc
   obtain⟨y,r2,p2,h4,rfl,h5,h6⟩:=PU b h1 (fun c hcm=>hc c (by simp[hcm]))
   refine⟨(x,y),r2,p1++p2,h4,by simp,by simp[h2,h5,Ty.size],fun j h7 h8=>?_⟩
   simp only[flat]
   have hl:(flat a x).length=p1.length:=by rw[Dq,h2]
   by_cases hlt:j<p1.length
   ·rw[List.getElem_append_left hlt,List.getElem_append_left (by omega)];exact h3 j hlt (by omega)
   ·rw[List.getElem_append_right (by omega),List.getElem_append_right (by omega)]
    simp only[hl]
    exact h6 (j-p1.length) (by simp at h7;omega) (by simp only[flat,zJk]at h8;omega)
 | .unit,R,cs,K,r,h,hc=>by
   simp only[DF]at h
   exact⟨(),cs,[],h,rfl,rfl,fun j h1=>by simp at h1⟩
 | .slice t,R,cs,K,r,h,hc=>by
   simp only[DF]at h
   split at h
   ·obtain⟨z,h3,hK⟩:=Bf h
    obtain⟨rfl,rfl⟩:=DA h3
    exact⟨_,_,[_],hK,rfl,rfl,U9 (.inl rfl)⟩
   ·exact⟨_,_,[_],h,rfl,rfl,U9 (.inr ⟨rfl,t,rfl⟩)⟩
   ·have:=hc _ (zKj ..)
    rcases this with⟨u,x,e⟩|e<;>cases e
   ·cases h
 | .int _,R,cs,K,r,h,hc| .bool,R,cs,K,r,h,hc| .str,R,cs,K,r,h,hc| .idx,R,cs,K,r,h,hc=>by
   simp only[DF]at h
   split at h
   ·obtain⟨z,h3,hK⟩:=Bf h
    obtain⟨rfl,rfl⟩:=DA h3
    exact⟨_,_,[_],hK,rfl,rfl,U9 (.inl rfl)⟩
   ·cases h
 | .err,R,cs,K,r,h,hc=>by
   simp only[DF]at h
   split at h
   ·obtain⟨z,h3,hK⟩:=Bf h
    obtain⟨rfl,rfl⟩:=DA h3
    exact⟨_,_,[_],hK,rfl,rfl,U9 (.inl rfl)⟩
   ·rcases hc _ (zKj ..)with⟨u,x,e⟩|e<;>cases e
   ·cases h
 | .iref t,R,cs,K,r,h,hc=>by
   simp only[DF]at h
   split at h
   ·obtain⟨z,h3,hK⟩:=Bf h
    obtain⟨rfl,rfl⟩:=DA h3
    exact⟨_,_,[_],hK,rfl,rfl,U9 (.inl rfl)⟩
   ·rcases hc _ (zKj ..)with⟨u,x,e⟩|e<;>cases e
   ·rcases hc _ (zKj ..)with⟨u,x,e⟩|e<;>cases e
   ·rcases hc _ (zKj ..)with⟨u,x,e⟩|e<;>cases e
   ·cases h
 | .fn f t,R,cs,K,r,h,hc=>by
   simp only[DF]at h
   split at h
   ·obtain⟨z,h3,hK⟩:=Bf h
    obtain⟨rfl,rfl⟩:=DA h3
    exact⟨_,_,[_],hK,rfl,rfl,U9 (.inl rfl)⟩
   ·rcases hc _ (zKj ..)with⟨u,x,e⟩|e<;>cases e
   ·cases h
theorem Ok {t:Ty}{R:Type}{cs:List AV}{K:den t->Option R}{r:R}(h:DF [] t cs (fun x rest=>if rest.isEmpty then K x else none)=some r)(hc:∀c∈cs,(∃u x,c=.pv u x)\/c=.nils):
 ∃x,K x=some r/\cs.length=t.size/\∀(j:Nat) (h1:j<cs.length) (h2:j<(flat t x).length),Q8 cs[j] (flat t x)[j]:=by
 obtain⟨x,rest,pre,h1,rfl,h2,h3⟩:=PU t h hc
 split at h1
 ·rename_i he
  obtain rfl:rest=[]:=by simpa using he
  refine⟨x,h1,by simpa using h2,fun j h4 h5=>?_⟩
  have:=h3 j (by simpa using h4) h5
  simpa using this
 ·cases h1
def RU (h:Am)(c d:AV):Prop:=
 (∃q u ys,c=.own q none none/\h.getD q none=some (.lst false u ys)/\d=.pv (.slice u) ys)\/(c=.nils/\d=.nils)\/(∃t x,c=.pv t x/\t.scalar=true/\d=.pv t x)
theorem HG {h:Am}:(cs:List AV)->{ds:List AV}->Ky h cs=some ds->ds.length=cs.length/\∀(j:Nat) (h1:j<cs.length) (h2:j<ds.length),RU h cs[j] ds[j]
 |[],ds,e=>by simp[Ky]at e;subst e;exact⟨rfl,fun j h1=>by simp at h1⟩
 |c::cs,ds,e=>by
  simp only[Ky]at e
  split at e
  ·cases e
  ·rename_i ds' e'
   obtain⟨hl,hh⟩:=HG cs e'
   have fin:∀d,RU h c d->some (d::ds')=some ds->ds.length=(c::cs).length/\∀(j:Nat) (h1:j<(c::cs).length) (h2:j<ds.length),RU h (c::cs)[j] ds[j]:=by
    intro d hd e
    obtain rfl:d::ds'=ds:=by simpa using e
    refine⟨by simp[hl],fun j h1 h2=>?_⟩
    cases j with
    |zero=>exact hd
    |succ j=>exact hh j (by simpa using h1) (by simpa using h2)
   split at e
   ·split at e
    ·rename_i q u ys hq;exact fin _ (.inl ⟨_,_,_,rfl,hq,rfl⟩) e
    ·cases e
   ·exact fin _ (.inr (.inl ⟨rfl,rfl⟩)) e
   ·split at e
    ·rename_i hs;exact fin _ (.inr (.inr ⟨_,_,rfl,hs,rfl⟩)) e
    ·cases e
   ·cases e
theorem OX {h:Am}{cs ds:List AV}(e:Ky h cs=some ds):∀d∈ds,(∃u x,d=.pv u x)\/d=.nils:=by
 obtain⟨hl,hh⟩:=HG cs e
 intro d hd
 obtain⟨j,hj,rfl⟩:=zJz hd
 rcases hh j (by omega) hj with⟨q,u,ys,_,_,h1⟩|⟨_,h1⟩|⟨t,x,_,_,h1⟩
 ·exact .inl ⟨_,_,h1⟩
 ·exact .inr h1
 ·exact .inl ⟨_,_,h1⟩
theorem KK (t:Ty)(x:den t):∀c∈flat t x,∃u y,c=.pv u y:=by
 induction t with
 |prod a b iha ihb=>
  intro c hc
  simp only[flat,List.mem_append]at hc
  rcases hc with hc|hc
  ·exact iha x.1 c hc
  ·exact ihb x.2 c hc
 |unit=>intro c hc;simp[flat]at hc
 |_=>intro c hc;simp only[flat,List.mem_singleton]at hc;exact⟨_,_,hc⟩
theorem WZ {c:AV}{q:Nat}(h:S5 c=some q):c=.own q none none:=by
 unfold S5 at h
 split at h
 ·obtain rfl:=by simpa using h
  rfl
 ·cases h
theorem IY:(cs:List AV)->(q:Nat)->q∈CP cs↔∃j:Nat,cs[j]? =some (AV.own q none none)
 |[],q=>by simp[CP]
 |c::cs,q=>by
  have ih:=IY cs q
  have step:(∃j:Nat,(c::cs)[j]? =some (AV.own q none none))↔c=AV.own q none none\/∃j:Nat,cs[j]? =some (AV.own q none none):=by
   constructor
   ·rintro⟨j,hj⟩
    cases j with
    |zero=>left;simpa using hj
    |succ j=>right;exact⟨j,by simpa using hj⟩
   ·rintro(rfl|⟨j,hj⟩)
    ·exact⟨0,rfl⟩
    ·exact⟨j+1,by simpa using hj⟩
  rw[step,<-ih,show CP (c::cs)=(match S5 c with|some r=>r::CP cs|none=>CP cs)from rfl]
  split
  ·rename_i r e
   have:=WZ e
   subst this
   simp only[List.mem_cons,AV.own.injEq,and_true]
   constructor
   ·rintro(h|h)
    ·exact .inl h.symm
    ·exact .inr h
   ·rintro(h|h)
    ·exact .inl h.symm
    ·exact .inr h
  ·rename_i e
   constructor
   ·exact .inr
   ·rintro(rfl|h)
    ·simp[S5]at e
    ·exact h
theorem LU {a:Nat}{l:List Nat}(h:Ka (a::l)=true):a∉l/\Ka l=true:=by
 simp only[Ka,zJq]at h
 refine⟨fun hm=>?_,h.2⟩
 have:=h.1;simp[hm]at this
theorem QY:(cs:List AV)->Ka (CP cs)=true->∀(j k:Nat) (q:Nat),cs[j]? =some (AV.own q none none)->cs[k]? =some (AV.own q none none)->j=k
 |[],_,j,k,q,h,_=>by simp at h
 |c::cs,hn,j,k,q,hj,hk=>by
  have hn':Ka (CP cs)=true:=by
   unfold CP at hn
   split at hn
   ·exact(LU hn).2
   ·exact hn
  have hno:c=.own q none none->∀i:Nat,cs[i]?≠some (AV.own q none none):=by
   rintro rfl i hi
   have:CP (AV.own q none none::cs)=q::CP cs:=rfl
   rw[this]at hn
   exact(LU hn).1 ((IY cs q).2 ⟨i,hi⟩)
  cases j with
  |zero=>cases k with
   |zero=>rfl
   |succ k=>exact absurd (by simpa using hk) (hno (by simpa using hj) k)
  |succ j=>cases k with
   |zero=>exact absurd (by simpa using hj) (hno (by simpa using hk) j)
   |succ k=>rw[QY cs hn' j k q (by simpa using hj) (by simpa using hk)]
end Go.Ab
end
section
namespace Go.Ab
open Go.RowKit
theorem Ak.getAt {E:Env}{h:Am}{w:World}{cs:List AV}{vs:List Value}(hr:Ak E h w cs vs)(j:Nat)(h1:j<cs.length)(h2:j<vs.length):Ag E h w cs[j] vs[j]:=by
 obtain⟨v,h3,h4⟩:=hr.get j (zQx h1)
 rw[zQx h2]at h3
 obtain rfl:vs[j]=v:=by simpa using h3
 exact h4
theorem QS {E:Env}{h hp:Am}{w:World}(hs:BM hp h){c d f:AV}{v:Value}{i k:Nat}{σ:Nat×Nat->Option (Nat×Nat)}(hp':RU hp c d)(hc:Q8 d f)(hr:Ag E h w c v)
 (hσ:∀q,c=.own q none none->σ (i,k)=E.ι q none)(hn:c=.nils->σ (i,k)=none):JN E h w σ i k f v:=by
 rcases hp' with⟨q,u,ys,rfl,hq,rfl⟩|⟨rfl,rfl⟩|⟨t,x,rfl,ht,rfl⟩
 ·rcases hc with rfl|⟨e,_⟩
  ·simp only[Ag]at hr
   have hst:AC h q none=.on (.lst false u ys):=by
    rcases hs q _ hq (by simp)with h1|⟨n,l,c',e,_⟩
    ·exact Av h1 (by simp)
    ·cases e
   rw[BG hst]at hr
   exact .inl ⟨q,none,hst,(hσ q rfl).symm,hr⟩
  ·cases e
 ·rcases hc with rfl|⟨_,u,rfl⟩
  ·exact hr
  ·simp only[Ag]at hr
   exact .inr ⟨rfl,hn rfl,hr⟩
 ·rcases hc with rfl|⟨e,_⟩
  ·cases t<;>first|exact hr|(simp[Ty.scalar]at ht)
  ·cases e
section
variable {P:Program}{C:Cfg}(HC:TabOK P C)
theorem L2 {h:Am}:(cs:List AV)->Gh cs=true->(∀c∈cs,∀q,c≠AV.own q none none)->Ky h cs=some cs
 |[],_,_=>rfl
 |c::cs,hs,hn=>by
  cases c with
  |nils=>
   simp only[Gh]at hs
   simp only[Ky,L2 cs hs (fun c hc=>hn c (by simp[hc]))]
  |pv t x=>
   simp only[Gh,zJq]at hs
   simp only[Ky,L2 cs hs.2 (fun c hc=>hn c (by simp[hc])),hs.1,if_true]
  |own q s rg=>
   cases s with
   |none=>cases rg with
    |none=>exact absurd rfl (hn _ (zKj ..) q)
    |some p=>simp[Gh]at hs
   |some p=>simp[Gh]at hs
  |_=>simp[Gh]at hs
include HC in
theorem Te {R:Type}{base:Nat}{s:St}{o:Oper}{t:TypeId}{l c:Operand}{K:AV->Bx->Option R}{r:R}(ho:o.op=.makeSlice t l c)(h:Ls C base s o K=some r):∃v δ,K v δ=some r/\∀hp,BM s.h hp->(∀j,j<JS C o->hp.getD (base+j) none=none)->Ml P s.t hp o v δ:=by
 have hlo:l∈o.op.operands:=by rw[ho];simp[Op.operands]
 have hco:c∈o.op.operands:=by rw[ho];simp[Op.operands]
 unfold Ls at h;simp only[ho]at h
 split at h
 case h_2=>cases h
 rename_i size e code zero lim n m hti hn hm
 obtain⟨_,d,_,hund,_,hu,_⟩:=HC.ti t _ hti
 simp only[Fl]at hu;subst hu
 split at h
 case h_2=>cases h
 rename_i ie hie
 have hte:=HC.ti e ie hie
 obtain⟨inf,_,hinf,_,hsize,_,⟨zv,hz1,hz2,hz3⟩,hlim1,hlim2⟩:=hte
 split at h
 case isFalse=>cases h
 rename_i hb
 split at h
 case h_2=>cases h
 rename_i u hu
 obtain⟨hb0,hb1,hb2⟩:=hb
 let N:=n.toNat
 let M:=m.toNat
 have hM:(M:Int)=m:=Int.toNat_of_nonneg (by omega)
 have hN:(N:Int)=n:=Int.toNat_of_nonneg hb0
 have hzero:∀(E:Env) (hp:Am) (w:World),Ak E hp w ie.zero zv.cells.toList:=by
  intro E hp w
  rw[hz2]
  exact Ak.of (by simp) (fun j h1 h2=>by simpa using Ji _)
 have hzc:∀c∈ie.zero,∀q,c≠AV.own q none none:=by
  intro c hc q e
  rw[hz2]at hc
  obtain⟨v,_,rfl⟩:=List.mem_map.1 hc
  unfold AV.const at e
  split at e<;>cases e
 have run:∀(hp:Am) (E:Env) (w:World) (a:Act),(∀x∈o.op.operands,Ag E hp w (ev s.t x) (a.eval x))->(execOp a.eval o).run P w=.ok (.value (.slice (some ⟨w.heap.size,0,none⟩) N M)) (w.alloc (.cells (zKq M zv.cells.toList).flatten.toArray e (0,0))):=by
  intro hp E w a hop
  have e1:=hop l hlo;rw[HY hn]at e1;have e1:=BU e1
  have e2:=hop c hco;rw[HY hm]at e2;have e2:=BU e2
  have hw1:IntKind.i64.wrap n=n:=by exact IntWalk.i64_in _ (by omega)
  have hw2:IntKind.i64.wrap m=m:=by exact IntWalk.i64_in _ (by omega)
  have hbytes:(inf.bytes:Int)*m<=281474976710656:=by
   have h1:M*inf.bytes<=ie.lim*inf.bytes:=zJx _ (by omega)
   have h2:((M*inf.bytes:Nat):Int)=(inf.bytes:Int)*m:=by rw[<-hM];simp[Int.mul_comm]
   omega
  simp only[execOp,ho,e1,e2,Instr.makeSlice,Sem.run_bind,run_underlying hund,Result.andThen_ok,asInt,asIntOf,Sem.run_pure,typeInfo,run_program,hinf,Sem.run_ite,hw1,hw2]
  have h48:(2:Int) ^ 48=281474976710656:=by decide
  rw[if_neg (by simp only[h48,Bool.or_eq_true,decide_eq_true_eq];omega)]
  simp only[run_askRoom,Result.andThen_ok,EF (HC.ti e ie hie)]
  have hz:=PA zv.cells M
  rw[hz3]at hz
  have hMn:m.toNat=M:=rfl
  have hNn:n.toNat=N:=rfl
  by_cases h0:M*ie.size=0
  ·simp only[hMn,hNn,h0,if_true,Sem.run_pure,Result.andThen_ok,newRow,Sem.run_bind,run_newObj]
   rw[h0]at hz
   rw[<-hz]
   simp[show Array.range 0=#[]from rfl]
  ·simp only[hMn,hNn,h0,if_false,Sem.run_bind,zeroValue,typeInfo,run_program,hinf,hz1,Sem.run_pure,Result.andThen_ok,newRow,run_newObj,hz3]
   rw[hz];simp
 have harr:((zKq M zv.cells.toList).flatten).length=M*ie.size:=by
  rw[J4 (sz:=ie.size) _ (by simp[hz3])];simp
 have hget:∀i j,i<N->j<ie.size->((zKq M zv.cells.toList).flatten.toArray)[i*ie.size+j]? =zv.cells.toList[j]?:=by
  intro i j hi hj
  rw[List.getElem?_toArray,KU (sz:=ie.size) (zKq M zv.cells.toList) (by intro vs hvs;rw[(List.mem_replicate.1 hvs).2];simpa using hz3) i j (vs:=zv.cells.toList) (by rw[List.getElem?_replicate,if_pos (by omega)]) hj]
 split at h
 case isFalse=>cases h
 rename_i husz
 split at h
 ·
  rename_i hsl
  split at h
  case isFalse=>cases h
  rename_i hfree0
  have hpl:=L2 (h:=[]) _ hfree0 hzc
  obtain⟨z,hK,hzl,hcell⟩:=Ok h (OX hpl)
  refine⟨_,_,hK,fun hp hs hfree F E w a next Q hI hop hk=>?_⟩
  have hfree:=hfree 0 (by simp[JS,ho])
  rw[Nat.add_zero]at hfree
  unfold Oper.wp
  rw[run hp E w a hop]
  obtain⟨_,hpis⟩:=HG _ hpl
  have hzv:zv.cells.toList.length=ie.size:=by simpa using hz3
  have hold:∀b,b<w.heap.size->(w.alloc (.cells (zKq M zv.cells.toList).flatten.toArray e (0,0))).heap[b]? =w.heap[b]?:=fun b hb=>Below.heap_alloc w _ b hb
  have hnew:(w.alloc (.cells (zKq M zv.cells.toList).flatten.toArray e (0,0))).heap[w.heap.size]? =some (.cells (zKq M zv.cells.toList).flatten.toArray e (0,0)):=by show(w.heap.push _)[w.heap.size]? =_;simp
  have hsize2:(w.alloc (.cells (zKq M zv.cells.toList).flatten.toArray e (0,0))).heap.size=w.heap.size+1:=by show(w.heap.push _).size=_;simp
  have hNM:N*u.size<=M*ie.size:=by rw[husz];exact zJx _ (by omega)
  obtain⟨E',h1,h2,h3⟩:=LF hI (r:=base) (ver:=0) (t:=u) (xs:=zKq N z) (K:=fun _=>False) (fun q hq=>hq.elim) (h':=setH hp base (.tree false 0 u (zKq N z) none)) (by rw[An,if_pos rfl]) (fun q hq=>hq.elim) (fun q hq _=>by rw[An,if_neg hq]) hnew (fun k _ hk=>hold k hk) (.inl hfree) (.inr (zQq _)) (by omega) (by omega) rfl rfl ⟨rfl,zQq _⟩ (by rw[List.size_toArray,harr,List.length_replicate];exact hNM) (fun _=>none) (fun p b' n' e=>by cases e) (fun p p' b' n n' e=>by cases e) (fun i hi=>by
   have hiN:i<N:=by simpa using hi
   refine⟨zv.cells.toList,?_,fun j hj=>?_⟩
   ·simp only[List.getElem_replicate]
    refine Ju.of (by rw[Dq,husz,hzv]) fun j hj1 hj2=>?_
    have hj0:j<ie.zero.length:=by rw[hzl,<-Dq (x:=z)];exact hj1
    exact QS (BM.nil hp) (hpis j hj0 hj0) (hcell j hj0 hj1) ((hzero E hp w).getAt j hj0 hj2) (fun q e=>absurd e (hzc _ (zQz _) q)) (fun _=>rfl)
   ·rw[husz,hget i j hiN (by rw[<-hzv];exact hj)]
    simp)
  refine hk _ E' _ h1 h2 ?_
  simp only[Ag]
  show Cz E' (setH hp base (.tree false 0 u (zKq N z) none)) _ base none none _
  rw[BG (AB (by rw[An,if_pos rfl]))]
  refine⟨by simp[Cont.len],.inr ⟨w.heap.size,M,⟨w.heap.size,0,none⟩,h3,by simp[Cont.len],by simp[Cont.len];omega,by simp,_,e,hnew,?_⟩⟩
  simp only[Option.getD_none,Cont.sz,List.size_toArray,harr,husz];omega
 ·obtain⟨z,rest,hz,hpk⟩:=(HU u).1 _ _ _ _ h
  split at hz
  case isFalse=>cases hz
  rename_i hre
  obtain rfl:rest=[]:=by simpa using hre
  refine⟨_,_,hz,fun hp hs hfree F E w a next Q hI hop hk=>?_⟩
  have hfree:=hfree 0 (by simp[JS,ho])
  rw[Nat.add_zero]at hfree
  obtain⟨us,ws,hsplit,h3,h4⟩:=hpk E hp w E.I Sr _ (hzero E hp w)
  simp only[Ak]at h4;subst h4
  rw[List.append_nil]at hsplit
  obtain⟨E',q1,q2,q3⟩:=eA hI hfree (.lst false u (zKq N z)) trivial ((zKq M zv.cells.toList).flatten.toArray) e M (by show(zKq N z).length<=M;rw[List.length_replicate];omega) (by show M*u.size<=_;rw[List.size_toArray,harr,husz];exact zQq _) (fun i hi=>by
   simp only[Cont.len,List.length_replicate]at hi
   refine⟨flat u z,us,by simp[Cont.at?,hi],?_,Dn u h3,fun j hj=>?_⟩
   ·simp only[Cont.sz];exact B5.length u h3
   ·simp only[Cont.sz,husz]
    rw[hget i j hi (by rw[<-husz,<-B5.length u h3];exact hj),hsplit]
    simp[hj])
  unfold Oper.wp
  rw[run hp E w a hop]
  simp only[Cont.len,List.length_replicate]at q3
  exact hk _ E' _ q1 q2 q3
end
end Go.Ab
end
section
namespace Go.Ab
open Go.RowKit
theorem CI {w:World}{g:Nat}{cur cur':Array Value}{ty:TypeId}(hg:w.heap[g]? =some (.cells cur ty (0,0)))(b:Nat):(w.setRow g cur').heap[b]? =if b=g then some (.cells cur' ty (0,0))else w.heap[b]?:=by
 by_cases e:b=g
 ·subst e;rw[if_pos rfl];exact setRow_heap w b cur cur' ty (0,0) hg
 ·rw[if_neg e]
  simp only[World.setRow,Array.getElem?_modify,if_neg (Ne.symm e)]
theorem Mm (P:Program){w:World}{b:Nat}{arr:Array Value}{ty:TypeId}(hb:w.heap[b]? =some (.cells arr ty (0,0))){pos:Nat}{us:List Value}(hpos:pos+us.length<=arr.size)(h1:∀u∈us,u.oneCell'=true):
 ∃arr':Array Value,(storeCells ⟨b,pos,none⟩ us).run P w=.ok () (w.setRow b arr')/\arr'.size=arr.size/\(∀k,arr'[k]? =if k<pos then arr[k]? else if k<pos+us.length then us[k-pos]? else arr[k]?):=by
 let arr':=(arr.toList.take pos++us++arr.toList.drop (pos+us.length)).toArray
 have hrun:=run_storeCells_at P b pos ty us 0 arr w hb (by simpa using hpos) h1
 simp only[Nat.add_zero]at hrun
 refine⟨arr',hrun,by simp[arr'];omega,fun k=>?_⟩
 have hl:(arr.toList.take pos).length=pos:=by simp;omega
 simp only[arr',List.getElem?_toArray]
 by_cases h2:k<pos
 ·rw[if_pos h2,List.append_assoc,List.getElem?_append_left (by omega),List.getElem?_take,if_pos h2];simp
 ·rw[if_neg h2]
  by_cases h3:k<pos+us.length
  ·rw[if_pos h3,List.append_assoc,List.getElem?_append_right (by omega),List.getElem?_append_left (by omega),hl]
  ·rw[if_neg h3,List.getElem?_append_right (by simp;omega)]
   simp only[zJk,hl,List.getElem?_drop]
   rw[show pos+us.length+(k-(pos+us.length))=k by omega];simp
theorem PK {arr arr':Array Value}{sz j off:Nat}{us:List Value}(hoff:off+us.length<=sz)(hget:∀k,arr'[k]? =if k<j*sz+off then arr[k]? else if k<j*sz+off+us.length then us[k-(j*sz+off)]? else arr[k]?)
 {i:Nat}{vs:List Value}(hl:vs.length=sz)(hv:∀(k:Nat) (hk:k<vs.length),arr[i*sz+k]? =some vs[k]):
 (i≠j->∀(k:Nat) (hk:k<vs.length),arr'[i*sz+k]? =some vs[k])/\(i=j->∀(k:Nat) (hk:k<(vs.take off++us++vs.drop (off+us.length)).length),arr'[i*sz+k]? =some (vs.take off++us++vs.drop (off+us.length))[k]):=by
 refine⟨fun hne k hk=>?_,fun e k hk=>?_⟩
 ·rw[hget,hv k hk]
  by_cases hlt:i<j
  ·have:i*sz+sz<=j*sz:=by rw[<-Nat.succ_mul];exact zJx _ hlt
   rw[if_pos (by omega)]
  ·have:j*sz+sz<=i*sz:=by rw[<-Nat.succ_mul];exact zJx _ (by omega)
   rw[if_neg (by omega),if_neg (by omega)]
 ·subst e
  have hk':k<sz:=by simp at hk;omega
  have hwl:(vs.take off).length=off:=by simp;omega
  rw[hget]
  have hofs:=hv k (by omega)
  by_cases h2:k<off
  ·rw[if_pos (by omega),hofs]
   congr 1
   rw[List.getElem_append_left (by simp;omega),List.getElem_append_left (by omega)];simp
  ·rw[if_neg (by omega)]
   by_cases h3:k<off+us.length
   ·rw[if_pos (by omega)]
    rw[List.getElem_append_left (by simp;omega),List.getElem_append_right (by omega)]
    have:i*sz+k-(i*sz+off)=k-(vs.take off).length:=by rw[hwl];omega
    rw[this];simp
   ·rw[if_neg (by omega),hofs]
    congr 1
    rw[List.getElem_append_right (by simp;omega)]
    simp only[List.getElem_drop,zJk,hwl]
    congr 1;omega
section
variable {F:Fr}{E:Env}{h:Am}{w:World}
theorem A7j (H:Inv F E h w){r:Nat}{c c':Cont}(hc:h.getD r none=some c)(hro:c.ro=false)(hd':c'≠.dead)(hro':c'.ro=false){b:Nat}{arr arr':Array Value}{ty:TypeId}(hbr:∃κ n,E.ι r κ=some (b,n))
 (hb:w.heap[b]? =some (.cells arr ty (0,0)))(harr:arr'.size=arr.size)
 (hcorr:∀s c0,AC h r s=.on c0->∃c1,AC (setH h r c') r s=.on c1/\c1.len=c0.len/\c1.sz=c0.sz)(hcorr':∀s c1,AC (setH h r c') r s=.on c1->∃c0,AC h r s=.on c0/\c1.len=c0.len/\c1.sz=c0.sz)
 (hoffs:∀s,AC h r s=.off->AC (setH h r c') r s=.off)
 (hels:Keep E h w E (setH h r c') (w.setRow b arr')->∀s c1,AC (setH h r c') r s=.on c1->A8t E (setH h r c') (w.setRow b arr') r s c1):
 Inv F E (setH h r c') (w.setRow b arr')/\Keep E h w E (setH h r c') (w.setRow b arr'):=by
 have hg:(setH h r c').getD r none=some c':=by rw[An,if_pos rfl]
 have hroh:DV h r=false:=by rw[B9 hc];exact hro
 have hw:=fun k=>CI (cur':=arr') hb k
 obtain⟨κb,nb,hbr⟩:=hbr
 have T:Touch (fun q=>q=r) E h w E (setH h r c') (w.setRow b arr'):=by
  refine{hh:=fun q hq=>by rw[An,if_neg hq],hι:=fun q κ hq=>rfl,II:=fun b hb=>hb,size:=by simp[World.setRow],os:=rfl,tape:=rfl,output:=⟨rfl,zQq _⟩,
         blk:=fun k hk hn=>by rw[hw,if_neg (fun e=>hn r κb nb rfl hroh (by rw[e];exact hbr))],asz:=fun k a t ha=>?_,off:=?_,on:=?_,som:=?_,fix:=(fun q hq h1=>by subst hq;rw[hroh]at h1;cases h1),obj:=?_,siz:=?_,from_:=?_,inj:=?_,live:=?_,Inew:=fun b hb=>.inl hb,apart:=?_,roI:=?_}
  ·rw[hw]
   by_cases e:k=b
   ·subst e;rw[hb]at ha;obtain⟨rfl,rfl⟩:arr=a/\ty=t:=by simpa using ha
    exact⟨arr',by simp,harr⟩
   ·exact⟨a,by rw[if_neg e];exact ha,rfl⟩
  ·rintro q s rfl e;exact hoffs s e
  ·rintro q s c0 rfl e
   obtain⟨c1,h1,h2,h3⟩:=hcorr s c0 e
   exact .inr ⟨c1,h1,h2,h3,rfl⟩
  ·rintro q rfl;exact⟨c',hg⟩
  ·rintro K q s c0 rfl e;exact hels K s c0 e
  ·rintro q s c1 b0 n rfl e h1
   obtain⟨c0,h2,_,h3⟩:=hcorr' s c1 e
   rw[h3];exact H.heap.siz _ s c0 b0 n h2 h1
  ·rintro q κ b0 n rfl h1;exact .inr ⟨q,κ,n,rfl,.inl hroh,h1⟩
  ·rintro q κ q' κ' b0 n n' rfl rfl h1 h2;exact H.heap.inj _ _ _ _ _ _ _ h1 h2
  ·rintro q κ x rfl h1;exact⟨c',hg,hd'⟩
  ·rintro q κ b0 n rfl h1 _;exact H.heap.apart _ _ _ _ h1 hroh
  ·rintro q κ b0 n rfl h1 h2;rw[B9 hg,hro']at h2;cases h2
 exact T.inv H
theorem aZ {t:Ty}{x x':den t}{k:Nat}{u:Ty}{ys:List (den u)}(h:tg t x k ys=some x'):k<(flat t x).length->∀(j:Nat) (h1:j<(flat t x).length) (h2:j<(flat t x').length),(flat t x')[j]=if j=k then .pv (.slice u) ys else(flat t x)[j]:=by
 intro hk j h1 h2
 unfold tg at h
 obtain⟨y,e,hl,hh⟩:=Ok (K:=fun y=>some y) h (fun c hc=>by
  rcases List.mem_or_eq_of_mem_set hc with h3|rfl
  ·exact .inl (KK t x c h3)
  ·exact .inl ⟨_,_,rfl⟩)
 obtain rfl:y=x':=by simpa using e
 have:=hh j (by simpa using h1) h2
 rw[List.getElem_set]at this
 rcases this with h3|⟨h3,_⟩
 ·rw[<-h3];by_cases e2:k=j
  ·subst e2;simp
  ·rw[if_neg e2,if_neg (Ne.symm e2)]
 ·exfalso
  split at h3
  ·cases h3
  ·obtain⟨u',y',e3⟩:=KK t x _ (zQz h1)
   rw[e3]at h3;cases h3
end
end Go.Ab
end
section
namespace Go.Ab
open Go.RowKit
theorem BM.lst {hp h:Am}(hs:BM hp h){r:Nat}{c:Cont}(hc:hp.getD r none=some c)(hd:c≠.dead)(hn:∀n l,c≠.shp n l):h.getD r none=some c:=by
 rcases hs r c hc hd with h1|⟨n,l,c',e,_⟩
 ·exact h1
 ·exact absurd e (hn n l)
theorem OT:(h:Am)->(r:Nat)->(c:Cont)->h.getD r none=some c->setH h r c=h
 |[],r,c,e=>by simp at e
 |o::h,0,c,e=>by simp at e;subst e;rfl
 |o::h,r+1,c,e=>by
  show o::setH h r c=o::h
  rw[OT h r c (by simpa using e)]
section
variable {P:Program}{F:Fr}{E:Env}{h:Am}{w:World}
theorem Sp (P:Program)(H:Inv F E h w){q:Nat}{t:Ty}{xs ys:List (den t)}(hc:h.getD q none=some (.lst false t xs)){b:Nat}(hι:E.ι q none=some (b,t.size))(h0:xs.length≠0){o:Nat}(hfit:o+ys.length<=xs.length){us:List Value}(hul:us.length=ys.length*t.size)(hone:∀u∈us,u.oneCell'=true)
 (hus:∀i (hi:i<ys.length),∃vs:List Value,vs.length=t.size/\Ak E h w (flat t ys[i]) vs/\∀(j:Nat) (hj:j<vs.length),us[i*t.size+j]? =some vs[j]):
 ∃w',(storeCells ⟨b,o*t.size,none⟩ us).run P w=.ok () w'/\Inv F E (setH h q (.lst false t (xs.take o++ys++xs.drop (o+ys.length)))) w'/\Keep E h w E (setH h q (.lst false t (xs.take o++ys++xs.drop (o+ys.length)))) w':=by
 have hst:=Av hc (by simp)
 rcases H.heap.obj q none _ hst with h1|⟨b',arr,ty,hι',hb,hfit',hels⟩
 ·exact absurd h1 h0
 simp only[key,Cont.sz]at hι'
 rw[hι]at hι';obtain rfl:b=b':=by simpa using hι'
 simp only[Cont.len,Cont.sz]at hfit'
 have hle:(o+ys.length)*t.size<=xs.length*t.size:=zJx _ hfit
 rw[Nat.add_mul]at hle
 obtain⟨arr',h2,h3,h4⟩:=Mm P hb (pos:=o*t.size) (us:=us) (by omega) hone
 refine⟨_,h2,?_⟩
 have hlen:(xs.take o++ys++xs.drop (o+ys.length)).length=xs.length:=by simp;omega
 have ht:(xs.take o).length=o:=by simp;omega
 refine RQ H hc trivial (c':=.lst false t (xs.take o++ys++xs.drop (o+ys.length))) trivial rfl (arr':=arr') hι hb hlen rfl h3 hfit' (fun i hi=>?_) (fun k _=>CI (cur':=arr') hb k) (by simp[World.setRow]) rfl rfl ⟨rfl,zQq _⟩
 have hi:i<xs.length:=hi
 have hi2:i<(xs.take o++ys++xs.drop (o+ys.length)).length:=by rw[hlen];exact hi
 have hat:(Cont.lst false t (xs.take o++ys++xs.drop (o+ys.length))).at? q i=some (flat t (xs.take o++ys++xs.drop (o+ys.length))[i]):=by
  simp only[Cont.at?];rw[zQx hi2];rfl
 obtain⟨cs,vs,k1,k2,k3,k4⟩:=hels i hi
 simp only[Cont.sz]at k2 k4
 have hcs:cs=flat t xs[i]:=(I8 k1).2
 by_cases hlt:i<o
 ·have hm:i*t.size+t.size<=o*t.size:=by rw[<-Nat.succ_mul];exact zJx _ hlt
  refine⟨_,vs,hat,k2,?_,fun j hj=>?_⟩
  ·rw[List.getElem_append_left (by simp;omega),List.getElem_append_left (by omega),List.getElem_take,<-hcs];exact k3
  ·show arr'[i*t.size+j]? =_
   rw[h4,if_pos (by omega)];exact k4 j hj
 ·by_cases hlt2:i<o+ys.length
  ·have hm:i*t.size=o*t.size+(i-o)*t.size:=by rw[<-Nat.add_mul];congr 1;omega
   have hm2:(i-o)*t.size+t.size<=ys.length*t.size:=by rw[<-Nat.succ_mul];exact zJx _ (by omega)
   obtain⟨vs',m1,m2,m3⟩:=hus (i-o) (by omega)
   refine⟨_,vs',hat,m1,?_,fun j hj=>?_⟩
   ·rw[List.getElem_append_left (by simp;omega),List.getElem_append_right (by omega)]
    simp only[ht];exact m2
   ·show arr'[i*t.size+j]? =_
    rw[h4,if_neg (by omega),if_pos (by omega),<-m3 j hj];congr 1;omega
  ·have hm:(o+ys.length)*t.size<=i*t.size:=zJx _ (by omega)
   rw[Nat.add_mul]at hm
   refine⟨_,vs,hat,k2,?_,fun j hj=>?_⟩
   ·rw[List.getElem_append_right (by simp;omega)]
    simp only[zJk,ht,List.getElem_drop]
    have:o+ys.length+(i-(o+ys.length))=i:=by omega
    simp only[this];rw[<-hcs];exact k3
   ·show arr'[i*t.size+j]? =_
    rw[h4,if_neg (by omega),if_neg (by omega)];exact k4 j hj
end
end Go.Ab
end
section
namespace Go.Ab
open Go.RowKit
theorem Of {E:Env}{h:Am}{w:World}{cs vs:List AV}{ws us:List Value}{off:Nat}(h1:Ak E h w vs us)(h2:Ak E h w cs ws):Ak E h w (GJ cs off vs) (ws.take off++us++ws.drop (off+us.length)):=by
 unfold GJ;rw[h1.length];exact Ak.append (Ak.append (h2.take _) h1) (h2.drop _)
theorem Pv {cs vs:List AV}{off:Nat}(h:off+vs.length<=cs.length):(GJ cs off vs).length=cs.length:=by unfold GJ;simp;omega
theorem aW {cs vs:List AV}{off:Nat}(h:off+vs.length<=cs.length)(j:Nat)(hj:j<(GJ cs off vs).length):(GJ cs off vs)[j]=if h2:off<=j/\j<off+vs.length then vs[j-off]'(by omega)else cs[j]'(by rw[Pv h]at hj;exact hj):=by
 have hto:(cs.take off).length=off:=by simp;omega
 have key:∀(l:List AV) (hl:j<l.length),l=cs.take off++vs++cs.drop (off+vs.length)->l[j]=if h2:off<=j/\j<off+vs.length then vs[j-off]'(by omega)else cs[j]'(by rw[Pv h]at hj;exact hj):=by
  intro l hl e
  subst e
  by_cases h1:j<off
  ·rw[dif_neg (by omega)]
   rw[List.getElem_append_left (by simp;omega),List.getElem_append_left (by omega)];simp
  ·by_cases h3:j<off+vs.length
   ·rw[dif_pos ⟨by omega,h3⟩]
    rw[List.getElem_append_left (by simp;omega),List.getElem_append_right (by omega)]
    simp only[hto]
   ·rw[dif_neg (by omega)]
    rw[List.getElem_append_right (by simp;omega)]
    simp only[List.getElem_drop,zJk,hto]
    congr 1;omega
 exact key _ hj rfl
theorem rB (r ver:Nat)(ho:Option (Nat×Nat))(i:Nat):∀(l:List AV) (m j:Nat) (hj:j<l.length) (hj':j<(CB r ver ho i m l).length),(CB r ver ho i m l)[j]=(match l[j]with| .pv (.slice _) _=>if ho=some (i,m+j)then .junk else .own r (some (i,m+j,ver)) none|c=>c):=by
 intro l
 induction l with
 |nil=>intro m j hj;exact absurd hj (Nat.not_lt_zero _)
 |cons c l ih=>
  intro m j hj hj'
  cases j with
  |zero=>cases c with
   |pv t x=>cases t<;>rfl
   |_=>rfl
  |succ j=>
   have ih:=ih (m+1) j (by simpa using hj)
   have e:m+1+j=m+(j+1):=by omega
   rw[e]at ih
   cases c with
   |pv t x=>cases t<;>(simp only[CB]at hj' ⊢;simp only[List.getElem_cons_succ];exact ih (by simpa using hj'))
   |_=>simp only[CB]at hj' ⊢;simp only[List.getElem_cons_succ];exact ih (by simpa using hj')
theorem Tw {E:Env}{h:Am}{w:World}{r ver:Nat}{t:Ty}{xs:List (den t)}{ho:Option (Nat×Nat)}(hc:h.getD r none=some (.tree false ver t xs ho)){i:Nat}(hi:i<xs.length){vs:List Value}(hr:Ak E h w (CB r ver ho i 0 (flat t xs[i])) vs):
 ∀(k:Nat) (h1:k<(flat t xs[i]).length) (h2:k<vs.length),ho≠some (i,k)->JN E h w (fun p=>E.ι r (some p)) i k (flat t xs[i])[k] vs[k]:=by
 intro k h5 h6 hno
 have hl:(CB r ver ho i 0 (flat t xs[i])).length=(flat t xs[i]).length:=Qd _ _ _ _ _ _
 have hg:=hr.getAt k (by omega) h6
 rw[rB _ _ _ _ _ 0 k h5 (by omega)]at hg
 simp only[zJj]at hg
 obtain⟨u,y,e⟩:=KK t xs[i] _ (zQz h5)
 rw[e]at hg ⊢
 cases u with
 |slice u=>
  simp only[if_neg hno,Ag]at hg
  have hst:AC h r (some (i,k,ver))=.on (.lst false u y):=by
   have hn:C0 false t xs i k=some (.lst false u y):=by
    unfold C0;rw[zQx hi];simp only[zQk,zQx h5,e]
   rw[AD hc];simp[hn,hno]
  rw[BG hst]at hg
  exact .inl ⟨r,some (i,k,ver),hst,rfl,hg⟩
 |_=>exact hg
theorem Lp {E:Env}{h:Am}{w:World}(H:HeapOK E h w){r ver:Nat}{t:Ty}{xs:List (den t)}{ho:Option (Nat×Nat)}(hc:h.getD r none=some (.tree false ver t xs ho))(hne:xs.length≠0):
 ∃b arr ty,E.ι r none=some (b,t.size)/\w.heap[b]? =some (.cells arr ty (0,0))/\xs.length*t.size<=arr.size/\∀i (hi:i<xs.length),∃vs:List Value,vs.length=t.size/\(∀(j:Nat) (hj:j<vs.length),arr[i*t.size+j]? =some vs[j])/\
  ∀(k:Nat) (h1:k<(flat t xs[i]).length) (h2:k<vs.length),ho≠some (i,k)->JN E h w (fun p=>E.ι r (some p)) i k (flat t xs[i])[k] vs[k]:=by
 rcases H.obj r none _ (AB hc)with h0|⟨b,arr,ty,h1,h2,h3,h4⟩
 ·exact absurd h0 hne
 ·refine⟨b,arr,ty,h1,h2,h3,fun i hi=>?_⟩
  obtain⟨cs,vs,k1,k2,k3,k4⟩:=h4 i hi
  obtain⟨_,rfl⟩:=KN k1
  exact⟨vs,k2,k4,Tw hc hi k3⟩
section
variable {P:Program}{C:Cfg}(HC:TabOK P C)
theorem KB:(ks:List Nat)->(h:Am)->(q:Nat)->(apD h (Kc ks)).getD q none=if q∈ks then some .dead else h.getD q none
 |[],h,q=>by simp[Kc,apD]
 |a::ks,h,q=>by
  have ih:=KB ks (setH h a .dead) q
  have e:apD h (Kc (a::ks))=apD (setH h a .dead) (Kc ks):=rfl
  rw[e,ih,An]
  by_cases h1:q∈ks
  ·simp[h1]
  ·by_cases h2:q=a
   ·simp[h1,h2]
   ·simp[h1,h2]
include HC in
theorem ru {R:Type}{base:Nat}{s:St}{o:Oper}{t:TypeId}{x y:Operand}{K:AV->Bx->Option R}{r:R}(ho:o.op=.store t x y)(h:Ls C base s o K=some r):∃v δ,K v δ=some r/\∀hp,BM s.h hp->(∀j,j<JS C o->hp.getD (base+j) none=none)->Ml P s.t hp o v δ:=by
 have hx:x∈o.op.operands:=by rw[ho];simp[Op.operands]
 have hy:y∈o.op.operands:=by rw[ho];simp[Op.operands]
 unfold Ls at h;simp only[ho]at h
 split at h
 case h_2=>cases h
 rename_i i hi
 have hti:=HC.ti t i hi
 split at h
 ·rename_i n e hu
  unfold Tp at h
  split at h
  case h_2=>cases h
  rename_i q ex
  split at h
  case h_2=>cases h
  rename_i k xs hq
  split at h
  case h_2=>cases h
  rename_i ys hys
  split at h
  case isFalse=>cases h
  rename_i hl
  refine⟨_,_,h,fun hp hs hfree F E w a next Q hI hop hk=>?_⟩
  have hc:=hs.lst hq (by simp) (by simp)
  have hst:=Av hc (by simp)
  have h1:=hop x hx;rw[ex]at h1
  simp only[Ag]at h1
  obtain⟨b,hι,hax⟩:=(JO hst).1 h1
  have hcells:=LY hys
  have hok:(ev s.t y).ok=true:=by unfold AV.ok;rw[hcells];simp[AV.cell,Ty.agg]
  obtain⟨hr,_⟩:=MK hok (hop y hy)
  rw[hcells]at hr
  have hvs:=Qx ys hr
  have hyl:(a.eval y).cells.size=i.size:=by
   have:=congrArg List.length hvs
   simp only[List.length_map]at this
   rw[<-hl.1,<-this];simp
  have undefOK:∀(E:Env) (h:Am) (w:World),Ag E h w .undef undef:=fun E h w=>by simp only[Ag];exact⟨[],rfl,Ak.nil⟩
  have fin:∀w',(storeCells ⟨b,0,none⟩ (ys.map fun n=>Value.int k n)).run P w=.ok () w'->Inv F E (setH hp q (.lst false (.int k) ys)) w'->Keep E hp w E (setH hp q (.lst false (.int k) ys)) w'->o.wp P a w next Q:=by
   intro w' k1 k2 k3
   unfold Oper.wp
   have:(execOp a.eval o).run P w=.ok .skip w':=by
    simp only[execOp,ho,hax,Instr.storeAt,Instr.sureAddr,storeVar,Sem.run_bind,Sem.run_pure,Result.andThen_ok,EF hti,hyl,ne_eq,not_true_eq_false,if_false,Sem.run_ite,hvs]
    simp only[Cont.sz,Ty.size,Nat.zero_mul,Nat.add_zero]
    rw[k1];rfl
   rw[this,Oper.upon_skip]
   exact hk undef E w' k2 k3 (undefOK _ _ _)
  by_cases h0:xs.length=0
  ·have hx0:xs=[]:=List.eq_nil_of_length_eq_zero h0
   have hy0:ys=[]:=List.eq_nil_of_length_eq_zero (by omega)
   subst hy0
   have hsame:setH hp q (.lst false (.int k) [])=hp:=OT hp q _ (by rw[hc,hx0])
   refine fin w (by simp[storeCells]) ?_ ?_
   ·rw[hsame];exact hI
   ·rw[hsame];exact Keep.refl E hp w
  ·obtain⟨w',k1,k2,k3⟩:=Sp P hI (t:=.int k) (xs:=xs) (ys:=ys) hc hι h0 (o:=0) (by omega) (us:=ys.map fun n=>Value.int k n) (by simp[Ty.size]) (fun u hu=>by obtain⟨n,_,rfl⟩:=List.mem_map.1 hu;rfl) (fun j hj=>⟨[.int k ys[j]],by simp[Ty.size],Ak.cons (HX k _) Ak.nil,fun m hm=>by
    have:m=0:=by simpa using hm
    subst this
    simp[Ty.size,hj]⟩)
   have hx1:xs.take 0++ys++xs.drop (0+ys.length)=ys:=by
    rw[List.drop_of_length_le (by omega)];simp
   rw[hx1]at k2 k3
   simp only[Ty.size,Nat.zero_mul]at k1
   exact fin w' k1 k2 k3
 unfold tc at h
 split at h
 case isFalse=>cases h
 rename_i hok
 have run:∀(hp:Am) (E:Env) (w:World) (a:Act) (next:Act->World->Prop) (Q:Exit->Act->World->Prop) (b pos:Nat) (arr:Array Value) (ty:TypeId),(∀z∈o.op.operands,Ag E hp w (ev s.t z) (a.eval z))->a.eval x=.pointer (some ⟨b,pos,none⟩)->w.heap[b]? =some (.cells arr ty (0,0))->pos+i.size<=arr.size->
  ∃(us:List Value) (arr':Array Value),us.length=i.size/\Ak E hp w (ev s.t y).cells us/\arr'.size=arr.size/\(∀k,arr'[k]? =if k<pos then arr[k]? else if k<pos+us.length then us[k-pos]? else arr[k]?)/\(next (a.put o.dst undef) (w.setRow b arr')->o.wp P a w next Q):=by
  intro hp E w a next Q b pos arr ty hop hax hb hpos
  obtain⟨hr,hone⟩:=MK hok.1 (hop y hy)
  have hvs:(a.eval y).cells.toList.length=i.size:=by rw[<-hr.length];exact hok.2
  obtain⟨arr',h2,h3,h4⟩:=Mm P hb (pos:=pos) (us:=(a.eval y).cells.toList) (by rw[hvs];exact hpos) hone
  refine⟨_,arr',hvs,hr,h3,h4,fun hn=>?_⟩
  unfold Oper.wp
  have:(execOp a.eval o).run P w=.ok .skip (w.setRow b arr'):=by
   simp only[execOp,ho,hax,Instr.storeAt,Instr.sureAddr,storeVar,Sem.run_bind,Sem.run_pure,Result.andThen_ok,EF hti,show(a.eval y).cells.size=i.size by simpa using hvs,ne_eq,not_true_eq_false,if_false,Sem.run_ite,h2]
  rw[this,Oper.upon_skip]
  exact hn
 have undefOK:∀(E:Env) (h:Am) (w:World),Ag E h w .undef undef:=fun E h w=>by simp only[Ag];exact⟨[],rfl,Ak.nil⟩
 have plain:∀(q j off:Nat) (c c':Cont) (cs cs':List AV),ev s.t x=.ptr q none j off->s.h.getD q none=some c->c.plain->c'.plain->c'.past=c.past->c.at? q j=some cs->off+i.size<=c.sz->c'.len=c.len->c'.sz=c.sz->c'.at? q j=some cs'->
  (∀hp,BM s.h hp->∀(E:Env) (w:World) (us ws:List Value),HeapOK E hp w->Ak E hp w (ev s.t y).cells us->Ak E hp w cs ws->Ak E hp w cs' (ws.take off++us++ws.drop (off+us.length)))->(∀k,k≠j->c'.at? q k=c.at? q k)->∀hp,BM s.h hp->Ml P s.t hp o .undef [(q,c')]:=by
  intro q j off c c' cs cs' ex hcs hpl hpl' hpast hat hfit hlen hsz hat' hrep hoth hp hs F E w a next Q hI hop hk
  have hc:hp.getD q none=some c:=by
   rcases hs q c hcs hpl.ro.2 with h1|⟨n,l,c'',e,_⟩
   ·exact h1
   ·subst e;cases hpl
  have hst:=Av hc hpl.ro.2
  have h1:=hop x hx;rw[ex]at h1
  simp only[Ag]at h1
  obtain⟨b,hι,hax⟩:=(JO hst).1 h1
  have hj:=A8p hat
  rcases hI.heap.obj q none c hst with h0|⟨b',arr,ty,hι',hb,hfit',hels⟩
  ·omega
  rw[hι]at hι';obtain rfl:b=b':=by simpa using hι'
  have hjs:j*c.sz+c.sz<=c.len*c.sz:=by rw[<-Nat.succ_mul];exact zJx _ hj
  obtain⟨us,arr',hul,hur,has,hget,hgo⟩:=run hp E w a next Q b (j*c.sz+off) arr ty hop hax hb (by omega)
  refine hgo ?_
  obtain⟨k1,k2⟩:=RQ hI hc hpl hpl' hpast (arr':=arr') hι hb hlen hsz has hfit' (fun k hkl=>by
   obtain⟨ds,ws,e1,e2,e3,e4⟩:=hels k hkl
   obtain⟨s1,s2⟩:=PK (by rw[hul];exact hfit) hget e2 e4
   by_cases hkj:k=j
   ·subst hkj
    rw[hat]at e1;obtain rfl:cs=ds:=by simpa using e1
    exact⟨cs',_,hat',by simp;omega,hrep hp hs E w us ws hI.heap hur e3,s2 rfl⟩
   ·exact⟨ds,ws,by rw[hoth k hkj];exact e1,e2,e3,s1 hkj⟩) (fun k _=>CI (cur':=arr') hb k) (by simp[World.setRow]) rfl rfl ⟨rfl,zQq _⟩
  exact hk undef E _ k1 k2 (undefOK _ _ _)
 have tree:∀(q j off ver:Nat) (t:Ty) (xs:List (den t)) (ho':Option (Nat×Nat)) (z:den t) (d:List AV),ev s.t x=.ptr q none j off->s.h.getD q none=some (.tree false ver t xs ho')->(hj:j<xs.length)->off+i.size<=t.size->Ka (q::CP (ev s.t y).cells)=true->
  (∀p,ho'=some p->j=p.1/\off<=p.2/\p.2<off+i.size)->Ky s.h (ev s.t y).cells=some d->(GJ (flat t xs[j]) off d).length=t.size->(∀(k:Nat) (h1:k<(GJ (flat t xs[j]) off d).length) (h2:k<(flat t z).length),Q8 (GJ (flat t xs[j]) off d)[k] (flat t z)[k])->
  ∀hp,BM s.h hp->Ml P s.t hp o .undef ((q,.tree false (ver+1) t (xs.set j z) none)::Kc (CP (ev s.t y).cells)):=by
  intro q j off ver t xs ho' z d ex hcs hj hfit hnd hhole hpl hspl hcell hp hs F E w a next Q hI hop hk
  have hc:hp.getD q none=some (.tree false ver t xs ho'):=by
   rcases hs q _ hcs (by simp)with h1|⟨n,l,c'',e,_⟩
   ·exact h1
   ·cases e
  have hst:=AB hc
  have h1:=hop x hx;rw[ex]at h1
  simp only[Ag]at h1
  obtain⟨b,hι,hax⟩:=(JO hst).1 h1
  obtain⟨b',arr,ty,hι',hb,hfit',hels⟩:=Lp hI.heap hc (by omega)
  simp only[key]at hι
  rw[hι]at hι';obtain⟨rfl,hsz'⟩:b=b'/\_:=by simpa using hι'
  simp only[Cont.sz]at hax hι
  have hjs:j*t.size+t.size<=xs.length*t.size:=by rw[<-Nat.succ_mul];exact zJx _ hj
  obtain⟨us,arr',hul,hur,has,hget,hgo⟩:=run hp E w a next Q b (j*t.size+off) arr ty hop hax hb (by omega)
  refine hgo ?_
  obtain⟨hdl,hpis⟩:=HG _ hpl
  have hvl:(ev s.t y).cells.length=i.size:=hok.2
  obtain⟨hq1,hq2⟩:=LU hnd
  let σ:Nat×Nat->Option (Nat×Nat):=fun p=>if p.1=j/\off<=p.2/\p.2<off+i.size then(match(ev s.t y).cells[p.2-off]? with|some (.own q' none none)=>E.ι q' none|_=>none)else E.ι q (some p)
  have hroot:∀q'∈CP (ev s.t y).cells,q'≠q/\∃u ys,hp.getD q' none=some (.lst false u ys):=by
   intro q' hm
   refine⟨fun e=>hq1 (by rw[<-e];exact hm),?_⟩
   obtain⟨m,hm'⟩:=(IY _ q').1 hm
   obtain⟨hml,hme⟩:=zQj.1 hm'
   rcases hpis m hml (by omega)with⟨q0,u,ys,e1,e2,_⟩|⟨e1,_⟩|⟨_,_,e1,_⟩
   ·rw[hme]at e1;obtain rfl:q'=q0:=by simpa using e1
    rcases hs q' _ e2 (by simp)with h3|⟨n,l,c'',e,_⟩
    ·exact⟨u,ys,h3⟩
    ·cases e
   ·rw[hme]at e1;cases e1
   ·rw[hme]at e1;cases e1
  have hσr:∀p b' n',σ p=some (b',n')->(¬(p.1=j/\off<=p.2/\p.2<off+i.size)/\E.ι q (some p)=some (b',n'))\/((p.1=j/\off<=p.2/\p.2<off+i.size)/\∃q',(ev s.t y).cells[p.2-off]? =some (.own q' none none)/\E.ι q' none=some (b',n')):=by
   intro p b' n' e
   simp only[σ]at e
   split at e
   ·rename_i hin
    split at e
    ·rename_i q' hq';exact .inr ⟨hin,q',hq',e⟩
    ·cases e
   ·rename_i hin;exact .inl ⟨hin,e⟩
  have hzl:(flat t z).length=t.size:=Dq
  obtain⟨E',g1,g2,g3⟩:=LF hI (r:=q) (ver:=ver+1) (t:=t) (xs:=xs.set j z) (K:=fun q'=>q'∈CP (ev s.t y).cells) (fun q' hm=>⟨(hroot q' hm).1,by obtain⟨u,ys,e⟩:=(hroot q' hm).2;exact⟨_,e,rfl⟩⟩)
   (h':=apD hp ((q,.tree false (ver+1) t (xs.set j z) none)::Kc (CP (ev s.t y).cells))) (by show(apD (setH hp q _) (Kc _)).getD q none=_;rw[KB,if_neg hq1,An,if_pos rfl]) (fun q' hm=>by show(apD (setH hp q _) (Kc _)).getD q' none=_;rw[KB,if_pos hm]) (fun q' hne hm=>by show(apD (setH hp q _) (Kc _)).getD q' none=_;rw[KB,if_neg hm,An,if_neg hne])
   (w':=w.setRow b arr') (b:=b) (arr:=arr') (ty:=ty) (by rw[CI hb];simp) (fun k hne _=>by rw[CI hb,if_neg hne])
   (.inr ⟨_,hc,rfl,by simp,by simp[Cont.len],rfl,hι,fun p hne=>by
     obtain⟨i0,k0,v0⟩:=p
     rw[AD hc]at hne
     by_cases hlt:ver<v0
     ·rw[if_pos hlt]at hne;exact absurd rfl hne
     ·show v0<ver+1;omega⟩)
   (.inl ⟨q,_,.inl rfl,hι,fun a' ty' ha'=>(by rw[hb]at ha';have h9:arr=a'/\ty=ty':=(by simpa using ha');exact⟨h9.2.symm,by rw[has,h9.1]⟩)⟩)
   (by simp[World.setRow]) (by have:=hI.heap.own_lt b ⟨_,_,_,hι⟩;simpa[World.setRow]using this) rfl rfl ⟨rfl,zQq _⟩ (by rw[List.length_set,has];exact hfit') σ
   (fun p b' n' e=>by
     rcases hσr p b' n' e with⟨_,h3⟩|⟨_,q',h3,h4⟩
     ·exact⟨q,some p,.inl rfl,h3,fun hbb=>by subst hbb;have:=(hI.heap.inj _ _ _ _ _ _ _ h3 hι).2;cases this⟩
     ·have hm:=(IY _ q').2 ⟨_,h3⟩
      exact⟨q',none,.inr hm,h4,fun hbb=>by subst hbb;exact(hroot q' hm).1 (hI.heap.inj _ _ _ _ _ _ _ h4 hι).1⟩)
   (fun p p' b' n n' e e'=>by
     rcases hσr p b' n e with⟨_,h3⟩|⟨hin,q1,h3,h4⟩<;>rcases hσr p' b' n' e' with⟨_,h5⟩|⟨hin',q2,h5,h6⟩
     ·have:=(hI.heap.inj _ _ _ _ _ _ _ h3 h5).2;simpa using this
     ·have:=(hI.heap.inj _ _ _ _ _ _ _ h3 h6).2;cases this
     ·have:=(hI.heap.inj _ _ _ _ _ _ _ h4 h5).2;cases this
     ·have:=(hI.heap.inj _ _ _ _ _ _ _ h4 h6).1;subst this
      have:=QY _ hq2 _ _ _ h3 h5
      obtain⟨p1,p2⟩:=p;obtain⟨p1',p2'⟩:=p'
      simp only at hin hin' this ⊢
      congr 1
      ·omega
      ·omega)
   (fun k hkl=>by
     have hkl':k<xs.length:=by simpa using hkl
     obtain⟨vs,e1,e2,e3⟩:=hels k hkl'
     obtain⟨s1,s2⟩:=PK (by rw[hul];exact hfit) hget e1 e2
     by_cases hkj:k=j
     ·subst hkj
      refine⟨_,?_,s2 rfl⟩
      simp only[List.getElem_set_self]
      have hwl:(vs.take off++us++vs.drop (off+us.length)).length=t.size:=by simp;omega
      refine Ju.of (by rw[hzl,hwl]) fun m hm1 hm2=>?_
      rw[zJj]
      have hm:m<t.size:=by rw[hzl]at hm1;exact hm1
      have hcm:=hcell m (by rw[hspl];exact hm) hm1
      have hdle:off+d.length<=(flat t xs[k]).length:=by rw[Dq,hdl,hvl];exact hfit
      rw[aW hdle]at hcm
      have hto:(vs.take off).length=off:=by simp;omega
      by_cases hin:off<=m/\m<off+i.size
      ·rw[dif_pos (by rw[hdl,hvl];exact hin)]at hcm
       have hml:m-off<(ev s.t y).cells.length:=by omega
       have hv:(vs.take off++us++vs.drop (off+us.length))[m]=us[m-off]'(by omega):=by
        rw[List.getElem_append_left (by simp;omega),List.getElem_append_right (by omega)]
        simp only[hto]
       rw[hv]
       refine QS hs (hpis (m-off) hml (by omega)) hcm (hur.getAt (m-off) hml (by omega)) (fun q' e=>?_) (fun e=>?_)
       ·simp only[σ];rw[if_pos ⟨trivial,hin⟩,zQx hml,e]
       ·simp only[σ];rw[if_pos ⟨trivial,hin⟩,zQx hml,e]
      ·rw[dif_neg (by rw[hdl,hvl];exact hin)]at hcm
       have hv:(vs.take off++us++vs.drop (off+us.length))[m]=vs[m]'(by omega):=by
        by_cases hlo:m<off
        ·rw[List.getElem_append_left (by simp;omega),List.getElem_append_left (by omega)];simp
        ·rw[List.getElem_append_right (by simp;omega)]
         simp only[List.getElem_drop,zJk,hto]
         congr 1;omega
       rw[hv]
       have hold:=e3 m (by rw[Dq];exact hm) (by omega) (fun e=>by have:=hhole _ e;simp only at this;exact hin this.2)
       have hf:(flat t z)[m]=(flat t xs[k])[m]'(by rw[Dq];exact hm):=by
        rcases hcm with h5|⟨h5,_⟩
        ·exact h5.symm
        ·obtain⟨u',y',e5⟩:=KK t xs[k] _ (zQz (by rw[Dq];exact hm))
         rw[e5]at h5;cases h5
       rw[hf]
       have hσm:σ (k,m)=E.ι q (some (k,m)):=by simp only[σ];rw[if_neg (by simpa using hin)]
       unfold JN at hold ⊢
       split
       ·rename_i u' ys' e5
        rw[e5]at hold
        simp only at hold
        rcases hold with⟨q0,s0,m1,m2,m3⟩|⟨m1,m2,m3⟩
        ·exact .inl ⟨q0,s0,m1,m2.trans hσm.symm,m3⟩
        ·exact .inr ⟨m1,hσm.trans m2,m3⟩
       ·rename_i hno
        split at hold
        ·rename_i u' ys' e5;exact absurd e5 (hno u' ys')
        ·exact hold
     ·refine⟨vs,?_,s1 hkj⟩
      simp only[List.getElem_set_ne (Ne.symm hkj)]
      refine Ju.of (by rw[Dq,e1]) fun m hm1 hm2=>?_
      rw[zJj]
      have hold:=e3 m hm1 hm2 (fun e=>by have:=hhole _ e;simp only at this;exact hkj this.1.symm)
      have hσm:σ (k,m)=E.ι q (some (k,m)):=by simp only[σ];rw[if_neg (fun e=>hkj e.1)]
      unfold JN at hold ⊢
      split
      ·rename_i u' ys' e5
       rw[e5]at hold
       simp only at hold
       rcases hold with⟨q0,s0,m1,m2,m3⟩|⟨m1,m2,m3⟩
       ·exact .inl ⟨q0,s0,m1,m2.trans hσm.symm,m3⟩
       ·exact .inr ⟨m1,hσm.trans m2,m3⟩
      ·rename_i hno
       split at hold
       ·rename_i u' ys' e5;exact absurd e5 (hno u' ys')
       ·exact hold)
  exact hk undef E' _ g1 g2 (undefOK _ _ _)
 split at h
 ·rename_i q j off ex
  split at h
  ·rename_i n es hc
   split at h
   ·rename_i cs hcs
    split at h
    ·rename_i hfit
     have hj:=(zQj.1 hcs).1
     refine⟨_,_,h,fun hp hs _ F E w a next Q hI hop hk=>?_⟩
     have hc':hp.getD q none=some (.cells n es):=by
      rcases hs q _ hc (by simp)with h1|⟨n,l,c'',e,_⟩
      ·exact h1
      ·cases e
     have hcsl:cs.length=n:=by
      rcases hI.heap.obj q none _ (Av hc' (by simp))with h0|⟨b,arr,ty,_,_,_,hels⟩
      ·simp only[Cont.len]at h0;omega
      ·obtain⟨ds,vs,e1,e2,e3,_⟩:=hels j hj
       simp only[Cont.at?,hcs,Option.some.injEq]at e1;subst e1
       rw[e3.length,e2];rfl
     exact plain q j off (.cells n es) (.cells n (es.set j (GJ cs off (ev s.t y).cells))) cs (GJ cs off (ev s.t y).cells) ex hc trivial trivial rfl hcs (by simp only[Cont.sz];omega) (by simp[Cont.len]) rfl (by simp[Cont.at?,hj])
      (fun hp hs E w us ws _ h1 h2=>Of h1 h2) (fun k hk=>by simp[Cont.at?,List.getElem?_set_ne (Ne.symm hk)]) hp hs F E w a next Q hI hop hk
    ·cases h
   ·cases h
  ·rename_i u xs hc
   obtain⟨z,hz,h⟩:=Bf h
   obtain⟨hj,rfl⟩:=zQj.1 hz
   split at h
   ·rename_i hfit
    obtain⟨z',rest,hz',hpk⟩:=(HU u).1 _ _ _ _ h
    split at hz'
    ·rename_i he
     obtain rfl:rest=[]:=by simpa using he
     refine⟨_,_,hz',fun hp hs _=>plain q j off (.lst false u xs) (.lst false u (xs.set j z')) (flat u xs[j]) (flat u z') ex hc trivial trivial rfl (by simp[Cont.at?,hj]) hfit (by simp[Cont.len]) rfl (by simp[Cont.at?,hj]) (fun hp hs E w us ws H h1 h2=>?_) (fun k hk=>by simp[Cont.at?,List.getElem?_set_ne (Ne.symm hk)]) hp hs⟩
     obtain⟨u1,u2,e,h4,h5⟩:=hpk E hp w E.I (W9 hs H) _ (Of h1 h2)
     simp only[Ak]at h5;subst h5
     rw[e,List.append_nil];exact Dn u h4
    ·cases hz'
   ·cases h
  ·rename_i ver u xs hc
   obtain⟨z,hz,h⟩:=Bf h
   obtain⟨hj,rfl⟩:=zQj.1 hz
   split at h
   ·rename_i hfit
    split at h
    ·rename_i d hd
     obtain⟨hdl,_⟩:=HG _ hd
     obtain⟨z',hK,hl,hcell⟩:=Ok h (fun c hcm=>by
      unfold GJ at hcm
      simp only[List.mem_append]at hcm
      rcases hcm with(h1|h1)|h1
      ·exact .inl (KK u _ c (List.mem_of_mem_take h1))
      ·exact OX hd c h1
      ·exact .inl (KK u _ c (List.mem_of_mem_drop h1)))
     exact⟨_,_,hK,fun hp hs _=>tree q j off ver u xs none z' d ex hc hj hfit.1 hfit.2 (fun p e=>by cases e) hd hl hcell hp hs⟩
    ·cases h
   ·cases h
  ·rename_i ver u xs p hc
   obtain⟨z,hz,h⟩:=Bf h
   obtain⟨hj,rfl⟩:=zQj.1 hz
   split at h
   ·rename_i hfit
    split at h
    ·rename_i d hd
     obtain⟨hdl,_⟩:=HG _ hd
     obtain⟨z',hK,hl,hcell⟩:=Ok h (fun c hcm=>by
      unfold GJ at hcm
      simp only[List.mem_append]at hcm
      rcases hcm with(h1|h1)|h1
      ·exact .inl (KK u _ c (List.mem_of_mem_take h1))
      ·exact OX hd c h1
      ·exact .inl (KK u _ c (List.mem_of_mem_drop h1)))
     exact⟨_,_,hK,fun hp hs _=>tree q j off ver u xs (some p) z' d ex hc hj hfit.1 hfit.2.1 (fun p' e=>(by have h9:p=p':=(by simpa using e);rw[<-h9];exact hfit.2.2)) hd hl hcell hp hs⟩
    ·cases h
   ·cases h
  ·cases h
 ·
  rename_i q i' k v' j off ex
  split at h
  case h_2=>cases h
  rename_i ver u xs hcs
  split at h
  case isFalse=>cases h
  rename_i hv
  subst hv
  obtain⟨x0,hx0,h⟩:=Bf h
  obtain⟨hi',rfl⟩:=zQj.1 hx0
  split at h
  case h_2=>cases h
  rename_i u1 ys hk0
  obtain⟨y0,hy0,h⟩:=Bf h
  obtain⟨hj,rfl⟩:=zQj.1 hy0
  split at h
  case isFalse=>cases h
  rename_i hfit
  obtain⟨z,rest,hz,hpk⟩:=(HU u1).1 _ _ _ _ h
  split at hz
  case isFalse=>cases hz
  rename_i hre
  obtain rfl:rest=[]:=by simpa using hre
  split at hz
  case h_2=>cases hz
  rename_i x' hx'
  refine⟨_,_,hz,fun hp hs _ F E w a next Q hI hop hk=>?_⟩
  obtain⟨hkl,hk1⟩:=zQj.1 hk0
  have hc:hp.getD q none=some (.tree false v' u xs none):=by
   rcases hs q _ hcs (by simp)with h1|⟨n,l,c'',e,_⟩
   ·exact h1
   ·cases e
  have hn:C0 false u xs i' k=some (.lst false u1 ys):=by
   unfold C0;rw[zQx hi'];simp only[zQk,hk0]
  have hst:AC hp q (some (i',k,v'))=.on (.lst false u1 ys):=by rw[AD hc];simp[hn]
  have hset:=aZ hx' hkl
  have hxl:(flat u x').length=(flat u xs[i']).length:=by rw[Dq,Dq]
  have h1:=hop x hx;rw[ex]at h1
  simp only[Ag]at h1
  obtain⟨b,hι,hax⟩:=(JO hst).1 h1
  rcases hI.heap.obj q _ _ hst with h0|⟨b',arr,ty,hι',hb,hfit',hels⟩
  ·simp only[Cont.len]at h0;omega
  rw[hι]at hι';obtain rfl:b=b':=by simpa using hι'
  have hjs:j*(Cont.lst false u1 ys).sz+(Cont.lst false u1 ys).sz<=(Cont.lst false u1 ys).len*(Cont.lst false u1 ys).sz:=by rw[<-Nat.succ_mul];exact zJx _ hj
  obtain⟨us,arr',hul,hur,has,hget,hgo⟩:=run hp E w a next Q b (j*(Cont.lst false u1 ys).sz+off) arr ty hop hax hb (by simp only[Cont.sz]at hjs hfit' ⊢;omega)
  refine hgo ?_
  have hg:(setH hp q (.tree false v' u (xs.set i' x') none)).getD q none=some (.tree false v' u (xs.set i' x') none):=by rw[An,if_pos rfl]
  have nest':∀i0 k0 c,C0 false u xs i0 k0=some c->∃c',C0 false u (xs.set i' x') i0 k0=some c'/\c'.len=c.len/\c'.sz=c.sz/\((i0=i'/\k0=k/\c'=.lst false u1 (ys.set j z))\/(¬(i0=i'/\k0=k)/\c'=c)):=by
   intro i0 k0 c hn0
   obtain⟨u2,ys2,rfl,hi0,hf0⟩:=HV hn0
   by_cases e:i0=i'
   ·subst e
    obtain⟨hl0,hf1⟩:=zQj.1 hf0
    have hs0:=hset k0 hl0 (by omega)
    by_cases e2:k0=k
    ·subst e2
     rw[if_pos rfl]at hs0
     rw[hk1]at hf1
     obtain⟨rfl,hh⟩:u1=u2/\HEq ys ys2:=by simpa using hf1
     obtain rfl:=eq_of_heq hh
     refine⟨.lst false u1 (ys.set j z),?_,by simp[Cont.len],rfl,.inl ⟨rfl,rfl,rfl⟩⟩
     unfold C0
     rw[List.getElem?_set_self (by simpa using hi0)]
     simp only[zQk,zQx (show k0<(flat u x').length by omega),hs0]
    ·rw[if_neg e2]at hs0
     refine⟨_,?_,rfl,rfl,.inr ⟨fun h=>e2 h.2,rfl⟩⟩
     unfold C0
     rw[List.getElem?_set_self (by simpa using hi0)]
     simp only[zQk,zQx (show k0<(flat u x').length by omega),hs0,hf1]
   ·refine⟨_,?_,rfl,rfl,.inr ⟨fun h=>e h.1,rfl⟩⟩
    unfold C0
    rw[List.getElem?_set_ne (Ne.symm e),zQx hi0]
    simp only[zQk,hf0]
  have nest'':∀i0 k0 c',C0 false u (xs.set i' x') i0 k0=some c'->∃c,C0 false u xs i0 k0=some c:=by
   intro i0 k0 c' hn0
   obtain⟨u2,ys2,rfl,hi0,hf0⟩:=HV hn0
   have hi1:i0<xs.length:=by simpa using hi0
   by_cases e:i0=i'
   ·subst e
    simp only[List.getElem_set_self]at hf0
    obtain⟨hl0,hf1⟩:=zQj.1 hf0
    have hs0:=hset k0 (by omega) hl0
    by_cases e2:k0=k
    ·subst e2;exact⟨_,hn⟩
    ·rw[if_neg e2,hf1]at hs0
     refine⟨.lst false u2 ys2,?_⟩
     unfold C0;rw[zQx hi1]
     simp only[zQk,zQx (show k0<(flat u xs[i0]).length by omega),<-hs0]
   ·rw[List.getElem_set_ne (Ne.symm e)]at hf0
    refine⟨.lst false u2 ys2,?_⟩
    unfold C0;rw[zQx hi1]
    simp only[zQk,hf0]
  obtain⟨g1,g2⟩:=A7j hI hc rfl (c':=.tree false v' u (xs.set i' x') none) (by simp) rfl (b:=b) (arr':=arr') ⟨_,_,hι⟩ hb has (fun s0 c0 e=>by
   cases s0 with
   |none=>rw[AB hc]at e;obtain rfl:Cont.tree false v' u xs none=c0:=by simpa using e
          exact⟨.tree false v' u (xs.set i' x') none,AB hg,by simp[Cont.len],rfl⟩
   |some p=>
    obtain⟨i0,k0,v0⟩:=p
    obtain⟨rfl,_,hn0⟩:=DB hc e
    obtain⟨c',hn1,h2,h3,_⟩:=nest' i0 k0 c0 hn0
    exact⟨c',by rw[AD hg];simp[hn1],h2,h3⟩) (fun s0 c1 e=>by
   cases s0 with
   |none=>rw[AB hg]at e;obtain rfl:Cont.tree false v' u (xs.set i' x') none=c1:=by simpa using e
          exact⟨.tree false v' u xs none,AB hc,by simp[Cont.len],rfl⟩
   |some p=>
    obtain⟨i0,k0,v0⟩:=p
    obtain⟨rfl,_,hn0⟩:=DB hg e
    obtain⟨c0,hn1⟩:=nest'' i0 k0 c1 hn0
    obtain⟨c1',hn2,h2,h3,_⟩:=nest' i0 k0 c0 hn1
    rw[hn0]at hn2;obtain rfl:c1=c1':=by simpa using hn2
    exact⟨c0,by rw[AD hc];simp[hn1],h2,h3⟩) (fun s0 e=>by
   cases s0 with
   |none=>rw[AB hc]at e;cases e
   |some p=>
    obtain⟨i0,k0,v0⟩:=p
    rw[AD hc]at e;rw[AD hg]
    split at e
    ·cases e
    ·split at e
     ·rename_i h1 h2;rw[if_neg h1,if_pos h2]
     ·split at e<;>cases e) (fun Kp s0 c1 e=>by
   have hw:=fun k=>CI (cur':=arr') hb k
   cases s0 with
   |none=>
    rw[AB hg]at e;obtain rfl:Cont.tree false v' u (xs.set i' x') none=c1:=by simpa using e
    rcases hI.heap.obj q none _ (AB hc)with h0|⟨b0,arr0,ty0,m1,m2,m3,m4⟩
    ·left;simpa[Cont.len]using h0
    ·right
     have hne:b0≠b:=by rintro rfl;have:=(hI.heap.inj _ _ _ _ _ _ _ m1 hι).2;cases this
     refine⟨b0,arr0,ty0,m1,by rw[hw,if_neg hne];exact m2,by simpa[Cont.len,Cont.sz]using m3,fun m hm=>?_⟩
     have hm':m<xs.length:=by simpa[Cont.len]using hm
     obtain⟨cs,vs,e1,e2,e3,e4⟩:=m4 m hm'
     obtain⟨_,rfl⟩:=KN e1
     have hm2:m<(xs.set i' x').length:=by simpa using hm'
     refine⟨CB q v' none m 0 (flat u ((xs.set i' x')[m]'hm2)),vs,by simp only[Cont.at?];rw[zQx hm2];rfl,e2,?_,e4⟩
     have:CB q v' none m 0 (flat u ((xs.set i' x')[m]'hm2))=CB q v' none m 0 (flat u xs[m]):=by
      by_cases e:m=i'
      ·subst e
       simp only[List.getElem_set_self]
       have same:∀(l l':List AV) (k1:Nat),l.length=l'.length->(∀(j:Nat) (h1:j<l.length) (h2:j<l'.length),l'[j]=l[j]\/(∃u3 y3 y3',l[j]=.pv (.slice u3) y3/\l'[j]=.pv (.slice u3) y3'))->CB q v' none m k1 l'=CB q v' none m k1 l:=by
        intro l
        induction l with
        |nil=>intro l' k1 hl _;cases l' with
         |nil=>rfl
         |cons _ _=>simp at hl
        |cons c l ih=>
         intro l' k1 hl hh
         cases l' with
         |nil=>simp at hl
         |cons c' l'=>
          have ih:=ih l' (k1+1) (by simpa using hl) (fun j h1 h2=>hh (j+1) (Nat.succ_lt_succ h1) (Nat.succ_lt_succ h2))
          rcases hh 0 (by simp) (by simp)with h1|⟨u3,y3,y3',h1,h2⟩
          ·simp only[List.getElem_cons_zero]at h1;subst h1
           cases c' with
           |pv t x=>cases t<;>simp only[CB,ih]
           |_=>simp only[CB,ih]
          ·simp only[List.getElem_cons_zero]at h1 h2;subst h1;subst h2
           simp only[CB,ih]
       refine same _ _ 0 hxl.symm fun j0 h1 h2=>?_
       rw[hset j0 h1 h2]
       by_cases e:j0=k
       ·subst e;rw[if_pos rfl];exact .inr ⟨u1,ys,ys.set j z,hk1,rfl⟩
       ·rw[if_neg e];exact .inl rfl
      ·rw[List.getElem_set_ne (Ne.symm e)]
     rw[this];exact C4 Kp _ e3
   |some p=>
    obtain⟨i0,k0,v0⟩:=p
    obtain⟨rfl,_,hn0⟩:=DB hg e
    obtain⟨c0,hn1⟩:=nest'' i0 k0 c1 hn0
    obtain⟨c1',hn2,h2,h3,h4⟩:=nest' i0 k0 c0 hn1
    rw[hn0]at hn2;obtain rfl:c1=c1':=by simpa using hn2
    have hst0:AC hp q (some (i0,k0,v0))=.on c0:=by rw[AD hc];simp[hn1]
    rcases h4 with⟨rfl,rfl,rfl⟩|⟨hne,rfl⟩
    ·right
     refine⟨b,arr',ty,hι,by rw[hw,if_pos rfl],by simpa[Cont.len,Cont.sz,has]using hfit',fun m hm=>?_⟩
     have hm':m<ys.length:=by simpa[Cont.len]using hm
     obtain⟨cs,vs,e1,e2,e3,e4⟩:=hels m hm'
     obtain⟨_,rfl⟩:=I8 e1
     obtain⟨s1,s2⟩:=PK (sz:=(Cont.lst false u1 ys).sz) (by rw[hul];exact hfit) hget e2 e4
     by_cases hmj:m=j
     ·subst hmj
      obtain⟨w1,w2,e5,h5,h6⟩:=hpk E hp w E.I Sr _ (Of hur e3)
      simp only[Ak]at h6;subst h6
      rw[List.append_nil]at e5
      have:=B5.length u1 h5
      exact⟨flat u1 z,w1,by simp only[Cont.at?];rw[List.getElem?_set_self hm'];rfl,this,C4 Kp _ (Dn u1 h5),by rw[<-e5];exact s2 rfl⟩
     ·exact⟨flat u1 (ys[m]'hm'),vs,by simp only[Cont.at?];rw[List.getElem?_set_ne (Ne.symm hmj),zQx hm'];rfl,e2,C4 Kp _ e3,s1 hmj⟩
    ·refine(hI.heap.obj q _ _ hst0).imp id ?_
     rintro⟨b0,arr0,ty0,m1,m2,m3,m4⟩
     have hne':b0≠b:=by
      rintro rfl;have:=(hI.heap.inj _ _ _ _ _ _ _ m1 hι).2
      simp only[key,Option.some.injEq,Prod.mk.injEq]at this;exact hne this
     refine⟨b0,arr0,ty0,m1,by rw[hw,if_neg hne'];exact m2,m3,fun m hm=>?_⟩
     obtain⟨cs,vs,e1,e2,e3,e4⟩:=m4 m hm
     exact⟨cs,vs,e1,e2,C4 Kp _ e3,e4⟩)
  exact hk undef E _ g1 g2 (undefOK _ _ _)
 ·cases h
end
end Go.Ab
end
section
namespace Go.Ab
open Go.RowKit
section
variable {F:Fr}{E:Env}{h:Am}{w:World}
theorem A7i (H:Inv F E h w){r ver:Nat}{t:Ty}{xs:List (den t)}(hc:h.getD r none=some (.tree false ver t xs none)):
 ∃E',Inv F E' (setH h r (.lst false t xs)) w/\Keep E h w E' (setH h r (.lst false t xs)) w:=by
 have hg:(setH h r (.lst false t xs)).getD r none=some (.lst false t xs):=by rw[An,if_pos rfl]
 have hro:DV h r=false:=by rw[B9 hc];rfl
 let E':Env:=⟨fun q κ=>if q=r/\κ≠none then none else E.ι q κ,fun b=>E.I b\/∃p n,E.ι r (some p)=some (b,n)⟩
 have hι0:E'.ι r none=E.ι r none:=by simp[E']
 have hιs:∀p,E'.ι r (some p)=none:=by intro p;simp[E']
 have hst:∀s,AC (setH h r (.lst false t xs)) r s=(match s with|none=>.on (.lst false t xs)|some _=>.off):=fun s=>FH hg trivial s
 have T:Touch (fun q=>q=r) E h w E' (setH h r (.lst false t xs)) w:=by
  refine{hh:=fun q hq=>by rw[An,if_neg hq],hι:=fun q κ hq=>by simp only[E'];rw[if_neg (fun e=>hq e.1)],II:=fun b hb=>.inl hb,size:=zQq _,os:=rfl,tape:=rfl,output:=⟨rfl,zQq _⟩,
         blk:=fun b hb _=>rfl,asz:=fun b a t ha=>⟨a,ha,rfl⟩,off:=?_,on:=?_,som:=?_,fix:=(fun q hq h1=>by subst hq;rw[hro]at h1;cases h1),obj:=?_,siz:=?_,from_:=?_,inj:=?_,live:=?_,Inew:=?_,apart:=?_,roI:=?_}
  ·rintro q s rfl e
   cases s with
   |none=>rw[AB hc]at e;cases e
   |some p=>rw[hst]
  ·rintro q s c rfl e
   cases s with
   |none=>
    rw[AB hc]at e;obtain rfl:Cont.tree false ver t xs none=c:=by simpa using e
    exact .inr ⟨.lst false t xs,by rw[hst],rfl,rfl,hι0⟩
   |some p=>exact .inl (by rw[hst])
  ·rintro q rfl;exact⟨_,hg⟩
  ·rintro K q s c rfl e
   rw[hst]at e
   cases s with
   |some p=>cases e
   |none=>
    obtain rfl:Cont.lst false t xs=c:=by simpa using e
    refine(H.heap.obj q none _ (AB hc)).imp id ?_
    rintro⟨b,arr,ty,h1,h2,h3,h4⟩
    refine⟨b,arr,ty,hι0.trans h1,h2,h3,fun i hi=>?_⟩
    obtain⟨cs,vs,k1,k2,k3,k4⟩:=h4 i hi
    obtain⟨hi',rfl⟩:=KN k1
    refine⟨flat t xs[i],vs,by simp only[Cont.at?];rw[zQx hi'];rfl,k2,?_,k4⟩
    exact Dn (E:=E') t (MN H.heap (J:=E'.I) (fun b hb=>.inl hb) hc (fun p b n hb=>.inr ⟨p,n,hb⟩) hi' t _ 0 (fun j hj=>by rw[zJj]) k3)
  ·rintro q s c b n rfl e h1
   rw[hst]at e
   cases s with
   |some p=>cases e
   |none=>
    obtain rfl:Cont.lst false t xs=c:=by simpa using e
    simp only[key]at h1;rw[hι0]at h1
    have h9:=H.heap.siz q none (.tree false ver t xs none) b n (AB hc) h1
    exact h9
  ·rintro q κ b n rfl h1
   cases κ with
   |none=>rw[hι0]at h1;exact .inr ⟨q,none,n,rfl,.inl hro,h1⟩
   |some p=>rw[hιs]at h1;cases h1
  ·rintro q κ q' κ' b n n' rfl rfl h1 h2
   cases κ with
   |none=>cases κ' with
    |none=>exact⟨rfl,rfl⟩
    |some p=>rw[hιs]at h2;cases h2
   |some p=>rw[hιs]at h1;cases h1
  ·rintro q κ x rfl h1;exact⟨_,hg,by simp⟩
  ·rintro b (hb|⟨p,n,hb⟩)
   ·exact .inl hb
   ·exact .inr (.inr ⟨r,some p,n,rfl,hro,hb⟩)
  ·rintro q κ b n rfl h1 h2 hI
   cases κ with
   |none=>
    rw[hι0]at h1
    rcases hI with hI|⟨p,n',hI⟩
    ·exact H.heap.apart _ _ _ _ h1 hro hI
    ·have:=(H.heap.inj _ _ _ _ _ _ _ h1 hI).2;cases this
   |some p=>rw[hιs]at h1;cases h1
  ·rintro q κ b n rfl h1 h2;rw[B9 hg]at h2;cases h2
 exact⟨E',T.inv H⟩
theorem sl (H:Inv F E h w){r n:Nat}{es:List (List AV)}{t:Ty}{xs:List (den t)}(hc:h.getD r none=some (.cells n es))(hn:t.size=n)(hl:xs.length=es.length)
 (hel:∀(i:Nat) (h1:i<xs.length) (h2:i<es.length) vs,Ak E h w es[i] vs->B5 E.I w t xs[i] vs):Inv F E (setH h r (.lst false t xs)) w/\Keep E h w E (setH h r (.lst false t xs)) w:=by
 have hg:(setH h r (.lst false t xs)).getD r none=some (.lst false t xs):=by rw[An,if_pos rfl]
 have hro:DV h r=false:=by rw[B9 hc];rfl
 have hst:∀s,AC (setH h r (.lst false t xs)) r s=(match s with|none=>.on (.lst false t xs)|some _=>.off):=fun s=>FH hg trivial s
 have hst0:=FH hc trivial
 have T:Touch (fun q=>q=r) E h w E (setH h r (.lst false t xs)) w:=by
  refine{hh:=fun q hq=>by rw[An,if_neg hq],hι:=fun q κ hq=>rfl,II:=fun b hb=>hb,size:=zQq _,os:=rfl,tape:=rfl,output:=⟨rfl,zQq _⟩,
         blk:=fun b hb _=>rfl,asz:=fun b a t ha=>⟨a,ha,rfl⟩,off:=?_,on:=?_,som:=?_,fix:=(fun q hq h1=>by subst hq;rw[hro]at h1;cases h1),obj:=?_,siz:=?_,from_:=?_,inj:=?_,live:=?_,Inew:=fun b hb=>.inl hb,apart:=?_,roI:=?_}
  ·rintro q s rfl e
   rw[hst0]at e
   cases s with
   |none=>cases e
   |some p=>cases e
  ·rintro q s c rfl e
   rw[hst0]at e
   cases s with
   |none=>obtain rfl:Cont.cells n es=c:=by simpa using e
          exact .inr ⟨.lst false t xs,by rw[hst],hl,hn,rfl⟩
   |some p=>cases e
  ·rintro q rfl;exact⟨_,hg⟩
  ·rintro K q s c rfl e
   rw[hst]at e
   cases s with
   |some p=>cases e
   |none=>
    obtain rfl:Cont.lst false t xs=c:=by simpa using e
    rcases H.heap.obj q none _ (Av hc (by simp))with h0|⟨b,arr,ty,h1,h2,h3,h4⟩
    ·left;exact hl.trans h0
    ·right
     simp only[Cont.sz,Cont.len]at h1 h3 h4
     refine⟨b,arr,ty,by simp only[Cont.sz];rw[hn];exact h1,h2,by simp only[Cont.sz,Cont.len];rw[hl,hn];exact h3,fun i hi=>?_⟩
     have hi':i<xs.length:=hi
     obtain⟨cs,vs,k1,k2,k3,k4⟩:=h4 i (by omega)
     simp only[Cont.at?]at k1
     obtain⟨hi2,rfl⟩:=zQj.1 k1
     exact⟨flat t (xs[i]'hi'),vs,by simp only[Cont.at?];rw[zQx hi'];rfl,by simp only[Cont.sz];rw[hn];exact k2,Dn t (hel i hi' hi2 vs k3),by simp only[Cont.sz];rw[hn];exact k4⟩
  ·rintro q s c b m rfl e h1
   rw[hst]at e
   cases s with
   |some p=>cases e
   |none=>
    obtain rfl:Cont.lst false t xs=c:=by simpa using e
    have:=H.heap.siz q none _ b m (Av hc (by simp)) h1
    simp only[Cont.sz]at this ⊢;omega
  ·rintro q κ b m rfl h1;exact .inr ⟨q,κ,m,rfl,.inl hro,h1⟩
  ·rintro q κ q' κ' b m m' rfl rfl h1 h2;exact H.heap.inj _ _ _ _ _ _ _ h1 h2
  ·rintro q κ x rfl h1;exact⟨_,hg,by simp⟩
  ·rintro q κ b m rfl h1 h2;exact H.heap.apart _ _ _ _ h1 hro
  ·rintro q κ b m rfl h1 h2;rw[B9 hg]at h2;cases h2
 exact T.inv H
theorem sm (H:Inv F E h w){hp:Am}(hs:BM hp h){r n:Nat}{e d:List AV}{t:Ty}{x:den t}(hc:h.getD r none=some (.cells n [e]))(hn:t.size=n)(hnd:Ka (r::CP e)=true)(hpl:Ky hp e=some d)
 (hdl:d.length=t.size)(hcell:∀(j:Nat) (h1:j<d.length) (h2:j<(flat t x).length),Q8 d[j] (flat t x)[j]):
 ∃E',Inv F E' (apD h ((r,.tree false 0 t [x] none)::Kc (CP e))) w/\Keep E h w E' (apD h ((r,.tree false 0 t [x] none)::Kc (CP e))) w:=by
 obtain⟨hpl1,hpis⟩:=HG _ hpl
 obtain⟨hq1,hq2⟩:=LU hnd
 rcases H.heap.obj r none _ (Av hc (by simp))with h0|⟨b,arr,ty,h1,h2,h3,h4⟩
 ·simp[Cont.len]at h0
 simp only[Cont.sz,Cont.len,key]at h1 h3 h4
 let σ:Nat×Nat->Option (Nat×Nat):=fun p=>if p.1=0 then(match e[p.2]? with|some (.own q' none none)=>E.ι q' none|_=>none)else none
 have hroot:∀q'∈CP e,q'≠r/\∃u ys,h.getD q' none=some (.lst false u ys):=by
  intro q' hm
  refine⟨fun e=>hq1 (by rw[<-e];exact hm),?_⟩
  obtain⟨m,hm'⟩:=(IY _ q').1 hm
  obtain⟨hml,hme⟩:=zQj.1 hm'
  rcases hpis m hml (by omega)with⟨q0,u,ys,e1,e2,_⟩|⟨e1,_⟩|⟨_,_,e1,_⟩
  ·rw[hme]at e1;obtain rfl:q'=q0:=by simpa using e1
   exact⟨u,ys,hs.lst e2 (by simp) (by simp)⟩
  ·rw[hme]at e1;cases e1
  ·rw[hme]at e1;cases e1
 have hσr:∀p b' n',σ p=some (b',n')->p.1=0/\∃q',e[p.2]? =some (.own q' none none)/\E.ι q' none=some (b',n'):=by
  intro p b' n' ee
  simp only[σ]at ee
  split at ee
  ·rename_i hin
   split at ee
   ·rename_i q' hq';exact⟨hin,q',hq',ee⟩
   ·cases ee
  ·cases ee
 obtain⟨E',g1,g2,g3⟩:=LF H (r:=r) (ver:=0) (t:=t) (xs:=[x]) (K:=fun q'=>q'∈CP e) (fun q' hm=>⟨(hroot q' hm).1,by obtain⟨u,ys,e⟩:=(hroot q' hm).2;exact⟨_,e,rfl⟩⟩)
  (h':=apD h ((r,.tree false 0 t [x] none)::Kc (CP e))) (by show(apD (setH h r _) (Kc _)).getD r none=_;rw[KB,if_neg hq1,An,if_pos rfl]) (fun q' hm=>by show(apD (setH h r _) (Kc _)).getD q' none=_;rw[KB,if_pos hm]) (fun q' hne hm=>by show(apD (setH h r _) (Kc _)).getD q' none=_;rw[KB,if_neg hm,An,if_neg hne])
  (w':=w) (b:=b) (arr:=arr) (ty:=ty) h2 (fun k _ _=>rfl)
  (.inr ⟨_,hc,rfl,by simp,by simp[Cont.len],by simp only[Cont.sz];exact hn.symm,by rw[hn];exact h1,fun p hne=>by
    exfalso;apply hne
    rw[FH hc trivial];rfl⟩)
  (.inl ⟨r,_,.inl rfl,h1,fun a' ty' ha'=>(by rw[h2]at ha';have h9:arr=a'/\ty=ty':=(by simpa using ha');exact⟨h9.2.symm,by rw[h9.1]⟩)⟩)
  (zQq _) (H.heap.own_lt b ⟨_,_,_,h1⟩) rfl rfl ⟨rfl,zQq _⟩ (by simpa[hn]using h3) σ
  (fun p b' n' ee=>by
    obtain⟨_,q',h5,h6⟩:=hσr p b' n' ee
    have hm:=(IY _ q').2 ⟨_,h5⟩
    exact⟨q',none,.inr hm,h6,fun hbb=>by subst hbb;exact(hroot q' hm).1 (H.heap.inj _ _ _ _ _ _ _ h6 h1).1⟩)
  (fun p p' b' m m' ee ee'=>by
    obtain⟨hin,q1,h5,h6⟩:=hσr p b' m ee
    obtain⟨hin',q2,h7,h8⟩:=hσr p' b' m' ee'
    have:=(H.heap.inj _ _ _ _ _ _ _ h6 h8).1;subst this
    have:=QY _ hq2 _ _ _ h5 h7
    obtain⟨p1,p2⟩:=p;obtain⟨p1',p2'⟩:=p'
    simp only at hin hin' this ⊢
    rw[hin,hin',this])
  (fun i hi=>by
    have hi0:i=0:=by simpa using hi
    subst hi0
    obtain⟨cs,vs,k1,k2,k3,k4⟩:=h4 0 (by simp)
    have hcs:e=cs:=by simpa[Cont.at?]using k1
    subst hcs
    refine⟨vs,?_,by rw[hn];exact k4⟩
    refine Ju.of (by rw[Dq,hn,k2]) fun m hm1 hm2=>?_
    rw[zJj]
    have hme:m<e.length:=by rw[<-hpl1,hdl,<-Dq (x:=x)];exact hm1
    exact QS hs (hpis m hme (by omega)) (hcell m (by omega) hm1) (k3.getAt m hme hm2) (fun q' ee=>by simp only[σ];rw[if_pos trivial,zQx hme,ee]) (fun ee=>by simp only[σ];rw[if_pos trivial,zQx hme,ee]))
 exact⟨E',g1,g2⟩
end
theorem T7:(δ:Bx)->{h:Am}->(∀p∈δ,∃c,h.getD p.1 none=some c)->∀q,h.getD q none=none->(apD h δ).getD q none=none
 |[],h,_,q,e=>e
 |p::δ,h,hp,q,e=>by
  have hne:q≠p.1:=by rintro rfl;obtain⟨c,h1⟩:=hp p (by simp);rw[e]at h1;cases h1
  refine T7 δ (fun p' hp'=>?_) q (by rw[An,if_neg hne];exact e)
  rw[An]
  split
  ·exact⟨_,rfl⟩
  ·exact hp p' (by simp[hp'])
theorem BM.some {hp h:Am}(hs:BM hp h){r:Nat}{c:Cont}(hc:hp.getD r none=some c)(hd:c≠.dead):∃c',h.getD r none=some c':=by
 rcases hs r c hc hd with h1|⟨n,l,c',e,h1,_⟩
 ·exact⟨_,h1⟩
 ·exact⟨_,h1⟩
theorem one {hp h:Am}(hs:BM hp h){r:Nat}{c c':Cont}(hc:hp.getD r none=some c)(hd:c≠.dead):∀q,h.getD q none=none->(apD h [(r,c')]).getD q none=none:=
 T7 _ (fun p hp=>by
  obtain rfl:p=(r,c'):=by simpa using hp
  exact hs.some hc hd)
theorem dU {R:Type}{c:Conv}{hp:Am}{K:Bx->Option R}{r:R}(e:U7 c hp K=some r):∃δ,K δ=some r/\∀h,BM hp h->(∀q,h.getD q none=none->(apD h δ).getD q none=none)/\∀(F:Fr) (E:Env) (w:World),Inv F E h w->∃E',Inv F E' (apD h δ) w/\Keep E h w E' (apD h δ) w:=by
 cases c with
 |fz q=>
  simp only[U7]at e
  split at e
  ·rename_i ro t xs hc
   exact⟨_,e,fun h hs=>⟨one hs hc (by simp),fun F E w H=>⟨_,dN H (hs.lst hc (by simp) (by simp))⟩⟩⟩
  ·rename_i ro v t xs hc
   exact⟨_,e,fun h hs=>⟨one hs hc (by simp),fun F E w H=>⟨_,ai H (hs.lst hc (by simp) (by simp))⟩⟩⟩
  ·cases e
 |thin q=>
  simp only[U7]at e
  split at e
  ·rename_i v t xs hc
   exact⟨_,e,fun h hs=>⟨one hs hc (by simp),fun F E w H=>A7i H (hs.lst hc (by simp) (by simp))⟩⟩
  ·cases e
 |solid q t=>
  simp only[U7]at e
  split at e
  ·rename_i n es hc
   split at e
   ·rename_i hn
    obtain⟨xs,h1,h2,h3⟩:=Lg es e (fun e x=>∀h0,BM hp h0->∀(E:Env) (w:World),HeapOK E h0 w->∀vs,Ak E h0 w e vs->B5 E.I w t x vs) (fun e _ K r hpk=>by
     obtain⟨x,rest,k1,k2⟩:=(HU t).1 _ _ _ _ hpk
     refine⟨x,rest,k1,fun hr h0 hs E w H vs hvs=>?_⟩
     subst hr
     obtain⟨us,ws,rfl,k3,k4⟩:=k2 E h0 w E.I (W9 hs H) vs hvs
     simp only[Ak]at k4;subst k4
     rw[List.append_nil];exact k3)
    exact⟨_,h1,fun h hs=>⟨one hs hc (by simp),fun F E w H=>⟨_,sl H (hs.lst hc (by simp) (by simp)) hn h2 (fun i h4 h5 vs hv=>h3 i h4 h5 h hs E w H.heap vs hv)⟩⟩⟩
   ·cases e
  ·cases e
 |plant q t=>
  simp only[U7]at e
  split at e
  ·rename_i n el hc
   split at e
   ·rename_i hn
    split at e
    ·rename_i d hd
     obtain⟨x,hK,hl,hcell⟩:=Ok e (OX hd)
     refine⟨_,hK,fun h hs=>⟨T7 _ (fun p hp=>?_),fun F E w H=>sm H hs (hs.lst hc (by simp) (by simp)) hn.1 hn.2 hd hl hcell⟩⟩
     simp only[List.mem_cons,Kc,List.mem_map]at hp
     rcases hp with rfl|⟨q',hq',rfl⟩
     ·exact hs.some hc (by simp)
     ·obtain⟨m,hm⟩:=(IY _ q').1 hq'
      obtain⟨hml,hme⟩:=zQj.1 hm
      obtain⟨hpl1,hpis⟩:=HG _ hd
      rcases hpis m hml (by omega)with⟨q0,u,ys,e1,e2,_⟩|⟨e1,_⟩|⟨_,_,e1,_⟩
      ·rw[hme]at e1;obtain rfl:q'=q0:=by simpa using e1
       exact hs.some e2 (by simp)
      ·rw[hme]at e1;cases e1
      ·rw[hme]at e1;cases e1
    ·cases e
   ·cases e
  ·cases e
theorem JX {R:Type}:(cs:List Conv)->{hp:Am}->{K:Bx->Option R}->{r:R}->OJ cs hp K=some r->∃δ,K δ=some r/\∀h,BM hp h->(∀q,h.getD q none=none->(apD h δ).getD q none=none)/\∀(F:Fr) (E:Env) (w:World),Inv F E h w->∃E',Inv F E' (apD h δ) w/\Keep E h w E' (apD h δ) w
 |[],hp,K,r,e=>⟨[],e,fun h hs=>⟨fun q e=>e,fun F E w H=>⟨E,H,Keep.refl E h w⟩⟩⟩
 |c::cs,hp,K,r,e=>by
  obtain⟨δ,h1,h2⟩:=dU e
  obtain⟨δ',h3,h4⟩:=JX cs h1
  refine⟨δ++δ',h3,fun h hs=>⟨fun q e=>by rw[<-KE];exact(h4 _ (hs.apD δ)).1 q ((h2 h hs).1 q e),fun F E w H=>?_⟩⟩
  obtain⟨E1,k1,k2⟩:=(h2 h hs).2 F E w H
  obtain⟨E2,k3,k4⟩:=(h4 (apD h δ) (hs.apD δ)).2 F E1 w k1
  rw[KE]at k3 k4
  exact⟨E2,k3,k2.trans k4⟩
end Go.Ab
end
section
namespace Go.Ab
open Go.RowKit
theorem QO (z:Array Value)(n:Nat):(Builtin.zeroCells z n).size=n*z.size:=by simp[Builtin.zeroCells]
section
variable {P:Program}{C:Cfg}(HC:TabOK P C)
theorem S4 {t e:TypeId}{ie:TI}(hund:P.underlying t=some (.slice e))(hte:C6 P e ie){ty:TypeId}{w:World}{A B:Option Addr}{n c c':Nat}(hnc:n<=c):
 (Builtin.append_ #[t,t] ty #[.slice A n c,.slice B 0 c']).run P w=.ok (.slice A n c) w:=by
 obtain⟨inf,d,hinf,_,hsz,_⟩:=hte
 have hf:(Builtin.firstCells inf.size 0 (.slice B 0 c')).run P w=.ok #[] w:=by
  cases B with
  |none=>simp[Builtin.firstCells]
  |some b=>simp[Builtin.firstCells,loadCells,loadCellsFrom]
 simp only[Builtin.append_,Sem.run_bind,Sem.run_pure,Result.andThen_ok,run_underlying hund,sizeOf,typeInfo,run_program,hinf,Builtin.lenOf]
 simp[hnc,hinf,Builtin.lenOf,run_underlying hund,hf,storeCells]
 cases A<;>simp[storeCells]
theorem WK {t e:TypeId}{ie:TI}(hund:P.underlying t=some (.slice e))(hte:C6 P e ie)(ty:TypeId){w:World}(hsz0:ie.size≠0\/True)
 {v:Value}{N:Nat}(hv:(N=0/\v=.slice none 0 0)\/∃b n a arr ty',v=.slice (some a) N n/\N<=n/\(n≠0->a=⟨b,0,none⟩)/\w.heap[b]? =some (.cells arr ty' (0,0))/\n*ie.size<=arr.size)
 {u:Value}{A:Option Addr}{M m':Nat}(hu:u=.slice A M m')(news:List Value)(hnl:news.length=M*ie.size)(hone:∀x∈news,x.oneCell'=true)
 (hA:M≠0->∃a,A=some a/\∀j z,news[j]? =some z->w.cell? (a.add j)=some z)(hm':M<=m')(hlim:N+M<=ie.lim):
 (M=0/\(Builtin.append_ #[t,t] ty #[v,u]).run P w=.ok v w)\/(M≠0/\∃w' b' n' arr' ty',(Builtin.append_ #[t,t] ty #[v,u]).run P w=.ok (.slice (some ⟨b',0,none⟩) (N+M) n') w'/\w'.heap[b']? =some (.cells arr' ty' (0,0))/\N+M<=n'/\n'*ie.size<=arr'.size/\
   w.heap.size<=w'.heap.size/\b'<w'.heap.size/\w'.os=w.os/\w'.tape=w.tape/\(w'.output=w.output/\w.drawn<=w'.drawn)/\(∀k,k≠b'->k<w.heap.size->w'.heap[k]? =w.heap[k]?)/\
   (∀k,k<N*ie.size->∀b n a arr ty'',v=.slice (some a) N n->(n≠0->a=⟨b,0,none⟩)->w.heap[b]? =some (.cells arr ty'' (0,0))->arr'[k]? =arr[k]?)/\(∀k,k<M*ie.size->arr'[N*ie.size+k]? =news[k]?)/\
   (w.heap.size<=b'\/∃n arr,v=.slice (some ⟨b',0,none⟩) N n/\n≠0/\w.heap[b']? =some (.cells arr ty' (0,0))/\arr'.size=arr.size)):=by
 subst hu
 obtain⟨inf,dd,hinf,_,hsz,_,⟨zv,hz1,hz2,hz3⟩,hlim1,hlim2⟩:=id hte
 by_cases hm0:M=0
 ·left
  refine⟨hm0,?_⟩
  rw[hm0]
  rcases hv with⟨_,rfl⟩|⟨b,n,a,arr,ty',rfl,hn,_⟩
  ·exact S4 hund hte (zQq _)
  ·exact S4 hund hte hn
 right
 refine⟨hm0,?_⟩
 obtain⟨sa,rfl,hcells⟩:=hA hm0
 have hbytes:(N+M)*inf.bytes<=140737488355328:=by
  have:=zJx inf.bytes hlim
  omega
 have hgc:∀w' need old,need<=9223372036854775807->need<=grownCap w' need old e:=by
  intro w' need old _;unfold grownCap Question.cut;exact Nat.le_add_right _ _
 have hdrew:∀(k:Nat),w.drew.heap[k]? =w.heap[k]?:=fun k=>rfl
 have fresh:∀(arr:Array Value) (n':Nat),(Builtin.append_ #[t,t] ty #[v,.slice (some sa) M m']).run P w=.ok (.slice (some ⟨w.heap.size,0,none⟩) (N+M) n') (w.drew.alloc (.cells arr e (0,0)))->N+M<=n'->n'*ie.size<=arr.size->
  (∀k,k<N*ie.size->∀b n a arr0 ty'',v=.slice (some a) N n->(n≠0->a=⟨b,0,none⟩)->w.heap[b]? =some (.cells arr0 ty'' (0,0))->arr[k]? =arr0[k]?)->(∀k,k<M*ie.size->arr[N*ie.size+k]? =news[k]?)->
  ∃w' b' n' arr' ty',(Builtin.append_ #[t,t] ty #[v,.slice (some sa) M m']).run P w=.ok (.slice (some ⟨b',0,none⟩) (N+M) n') w'/\w'.heap[b']? =some (.cells arr' ty' (0,0))/\N+M<=n'/\n'*ie.size<=arr'.size/\
  w.heap.size<=w'.heap.size/\b'<w'.heap.size/\w'.os=w.os/\w'.tape=w.tape/\(w'.output=w.output/\w.drawn<=w'.drawn)/\(∀k,k≠b'->k<w.heap.size->w'.heap[k]? =w.heap[k]?)/\
  (∀k,k<N*ie.size->∀b n a arr ty'',v=.slice (some a) N n->(n≠0->a=⟨b,0,none⟩)->w.heap[b]? =some (.cells arr ty'' (0,0))->arr'[k]? =arr[k]?)/\(∀k,k<M*ie.size->arr'[N*ie.size+k]? =news[k]?)/\
  (w.heap.size<=b'\/∃n arr,v=.slice (some ⟨b',0,none⟩) N n/\n≠0/\w.heap[b']? =some (.cells arr ty' (0,0))/\arr'.size=arr.size):=by
  intro arr n' hrun hn' hfit holds hnews
  refine⟨_,w.heap.size,n',arr,e,hrun,by show(w.drew.heap.push _)[w.heap.size]? =_;rw[show w.drew.heap=w.heap from rfl];simp,hn',hfit,by show _<=(w.drew.heap.push _).size;rw[show w.drew.heap=w.heap from rfl];simp,by show _<(w.drew.heap.push _).size;rw[show w.drew.heap=w.heap from rfl];simp,rfl,rfl,⟨rfl,Nat.le_succ _⟩,fun k _ hk=>?_,holds,hnews,.inl (zQq _)⟩
  exact Below.heap_alloc w.drew _ k hk
 rcases hv with⟨h0,rfl⟩|⟨b,n,a,arr,ty',rfl,hn,ha,hb,hcap⟩
 ·
  have hrun:=run_append_nil (P:=P) w t ty e inf zv hund hinf hz1 sa M m' news (by rw[hnl,hsz]) hcells (by omega) (by omega) (by rw[h0,zJj]at hbytes;omega)
  have hg:=hgc w M 0 (by omega)
  rw[h0,zJj]
  have:=fresh (news.toArray++Builtin.zeroCells zv.cells (grownCap w M 0 e-M)) (grownCap w M 0 e) (by rw[h0,zJj];exact hrun) (by omega) (by
   simp only[Array.size_append,List.size_toArray,hnl,QO,hz3]
   rw[<-Nat.add_mul];exact zJx _ (by omega)) (fun k hk=>by rw[h0]at hk;simp at hk) (fun k hk=>by
   rw[h0,Nat.zero_mul,zJj,Array.getElem?_append_left (by simp[hnl];exact hk)];simp)
  rw[h0,zJj,Nat.zero_mul]at this
  simpa[h0]using this
 ·by_cases hroom:N+M<=n
  ·
   have ha:=ha (by omega)
   subst ha
   have hrm:(N+M)*ie.size<=n*ie.size:=zJx _ hroom
   have hpos:N*ie.size+news.length<=arr.size:=by rw[hnl,<-Nat.add_mul];omega
   obtain⟨arr',hst,hasz,hget⟩:=Mm P hb hpos hone
   have hf:=run_firstCells_some (P:=P) w inf.size M sa M m' news (by rw[hnl,hsz]) hcells
   have hrun:(Builtin.append_ #[t,t] ty #[.slice (some ⟨b,0,none⟩) N n,.slice (some sa) M m']).run P w=.ok (.slice (some ⟨b,0,none⟩) (N+M) n) (w.setRow b arr'):=by
    rw[<-hsz]at hst
    simp[Builtin.append_,run_underlying hund,sizeOf,typeInfo,hinf,Builtin.lenOf,hroom,hf,Io,hst]
   have hbl:=(Array.getElem?_eq_some_iff.1 hb).1
   refine⟨_,b,n,arr',ty',hrun,by rw[CI hb];simp,hroom,by rw[hasz];exact hcap,by simp[World.setRow],by simpa[World.setRow]using hbl,rfl,rfl,⟨rfl,zQq _⟩,fun k hk _=>by rw[CI hb,if_neg hk],fun k hk b0 n0 a0 arr0 ty0 e1 e2 e3=>?_,fun k hk=>?_,.inr ⟨n,arr,rfl,by omega,hb,hasz⟩⟩
   ·obtain⟨rfl,rfl⟩:⟨b,0,none⟩=a0/\n=n0:=by simpa using e1
    have:=e2 (by omega)
    obtain rfl:b=b0:=by simpa using this
    rw[hb]at e3;obtain⟨rfl,_⟩:arr=arr0/\ty'=ty0:=by simpa using e3
    rw[hget,if_pos hk]
   ·rw[hget,if_neg (by omega),if_pos (by omega)];congr 1;omega
  ·
   have hNfit:N*ie.size<=arr.size:=Nat.le_trans (zJx _ hn) hcap
   let olds:=arr.toList.take (N*ie.size)
   have hol:olds.length=N*ie.size:=by simp[olds];omega
   have hrun:=run_append_grow (P:=P) w t ty e inf zv hund hinf hz1 a N n olds (by rw[hol,hsz]) (fun j z hj=>by
    have hlt:=(zQj.1 hj).1
    have hn0:n≠0:=by rintro rfl;have:N=0:=by omega
                     subst this;simp[olds]at hlt
    rw[ha hn0,Io]
    simp only[World.cell?,hb,Option.isSome_none,Bool.false_eq_true,if_false,zJj]
    simp only[olds]at hj
    rw[List.getElem?_take]at hj
    split at hj
    ·simpa using hj
    ·cases hj)
    sa M m' news (by rw[hnl,hsz]) hcells (by omega) (by omega) (growslice_fits (by omega) hbytes)
   have hg:=hgc w (N+M) n (by omega)
   refine fresh (olds.toArray++news.toArray++Builtin.zeroCells zv.cells (grownCap w (N+M) n e-(N+M))) (grownCap w (N+M) n e) hrun hg (by
    simp only[Array.size_append,List.size_toArray,hol,hnl,QO,hz3]
    rw[<-Nat.add_mul,<-Nat.add_mul];exact zJx _ (by omega)) (fun k hk b0 n0 a0 arr0 ty0 e1 e2 e3=>?_) (fun k hk=>?_)
   ·obtain⟨rfl,rfl⟩:a=a0/\n=n0:=by simpa using e1
    have hn0:n≠0:=by rintro rfl;have:N=0:=by omega
                     subst this;simp at hk
    have h1:=ha hn0
    have h2:=e2 hn0
    rw[h1]at h2
    obtain rfl:b=b0:=by simpa using h2
    rw[hb]at e3;obtain⟨rfl,_⟩:arr=arr0/\ty'=ty0:=by simpa using e3
    rw[Array.append_assoc,Array.getElem?_append_left (by simp[hol];exact hk)]
    simp only[List.getElem?_toArray,olds,List.getElem?_take,if_pos hk];simp
   ·rw[Array.append_assoc,Array.getElem?_append_right (by simp[hol]),Array.getElem?_append_left (by simp[hol,hnl];exact hk)]
    simp only[List.size_toArray,hol,List.getElem?_toArray];congr 1;omega
end
end Go.Ab
end
section
namespace Go.Ab
open Go.RowKit
theorem Tx {E E':Env}{h h':Am}{w:World}(Kp:Keep E h w E' h' w){σ:Nat×Nat->Option (Nat×Nat)}{q ver i:Nat}{ho:Option (Nat×Nat)}:(cs:List AV)->(k:Nat)->(us:List Value)->cs.length=us.length->
 (∀(j:Nat) (h1:j<cs.length) (h2:j<us.length),JN E h w σ i (k+j) cs[j] us[j])->
 (∀(j:Nat) (h1:j<cs.length) (u:Ty) (ys:List (den u)),cs[j]=.pv (.slice u) ys->ho≠some (i,k+j)->AC h' q (some (i,k+j,ver))=.on (.lst false u ys)/\E'.ι q (some (i,k+j))=σ (i,k+j))->
 Ak E' h' w (CB q ver ho i k cs) us
 |[],k,[],_,_,_=>Ak.nil
 |c::cs,k,v::us,hl,h1,h2=>by
  have ih:=Tx Kp cs (k+1) us (by simpa using hl) (fun j h3 h4=>by
   have:=h1 (j+1) (Nat.succ_lt_succ h3) (Nat.succ_lt_succ h4)
   rw[show k+(j+1)=k+1+j by omega]at this;exact this) (fun j h3 u ys e hn=>by
   have:=h2 (j+1) (Nat.succ_lt_succ h3) u ys e (by rw[show k+(j+1)=k+1+j by omega];exact hn)
   rw[show k+(j+1)=k+1+j by omega]at this;exact this)
  have a1:=h1 0 (Nat.succ_pos _) (Nat.succ_pos _)
  have a2:=h2 0 (Nat.succ_pos _)
  simp only[Nat.add_zero,List.getElem_cons_zero]at a1 a2
  cases c with
  |pv t x=>
   cases t with
   |slice u=>
    simp only[CB]
    by_cases hh:ho=some (i,k)
    ·rw[if_pos hh];exact Ak.cons (by simp only[Ag]) ih
    ·rw[if_neg hh]
     refine Ak.cons ?_ ih
     obtain⟨e1,e2⟩:=a2 u x rfl hh
     simp only[Ag]
     rw[BG e1]
     rcases a1 with⟨q0,s0,m1,m2,m3⟩|⟨m1,m2,m3⟩
     ·obtain⟨hle,m4⟩:=m3
      refine⟨hle,m4.imp id ?_⟩
      rintro⟨b0,n,a,k1,k2,k3,k4,arr0,ty0,k5,k6⟩
      exact⟨b0,n,a,by simp only[key];rw[e2,<-m2];exact k1,k2,k3,k4,arr0,ty0,k5,k6⟩
     ·subst m1;subst m3;exact⟨by simp[Cont.len],.inl ⟨rfl,rfl⟩⟩
   |_=>
    exact Ak.cons (IZ Kp _ a1) ih
  |_=>
   exact Ak.cons (IZ Kp _ a1) ih
theorem qI {F:Fr}{E:Env}{h:Am}{w:World}(H:Inv F E h w){q ver:Nat}{u:Ty}{xs:List (den u)}(hc:h.getD q none=some (.tree false ver u xs none)){i k:Nat}(hi:i<xs.length){u':Ty}{zs:List (den u')}(hk:(flat u xs[i])[k]? =some (.pv (.slice u') zs))
 {base:Nat}(hb:h.getD base none=none):
 ∃E',Inv F E' (setH (setH h q (.tree false (ver+1) u xs (some (i,k)))) base (.lst false u' zs)) w/\Keep E h w E' (setH (setH h q (.tree false (ver+1) u xs (some (i,k)))) base (.lst false u' zs)) w/\
  ∀v,Cz E h w q (some (i,k,ver)) none v->Cz E' (setH (setH h q (.tree false (ver+1) u xs (some (i,k)))) base (.lst false u' zs)) w base none none v:=by
 have hne:base≠q:=by rintro rfl;rw[hc]at hb;cases hb
 let h':=setH (setH h q (.tree false (ver+1) u xs (some (i,k)))) base (.lst false u' zs)
 have hg:h'.getD q none=some (.tree false (ver+1) u xs (some (i,k))):=by simp only[h'];rw[An,if_neg (Ne.symm hne),An,if_pos rfl]
 have hgb:h'.getD base none=some (.lst false u' zs):=by simp only[h'];rw[An,if_pos rfl]
 have hgo:∀r,r≠q->r≠base->h'.getD r none=h.getD r none:=fun r h1 h2=>by simp only[h'];rw[An,if_neg h2,An,if_neg h1]
 let E':Env:=⟨fun r κ=>if r=base then(if κ=none then E.ι q (some (i,k))else none)else if r=q/\κ=some (i,k)then none else E.ι r κ,E.I⟩
 have hro:DV h q=false:=by rw[B9 hc];rfl
 have hn:C0 false u xs i k=some (.lst false u' zs):=by unfold C0;rw[zQx hi];simp only[zQk,hk]
 have hst0:AC h q (some (i,k,ver))=.on (.lst false u' zs):=by rw[AD hc];simp[hn]
 have hstb:=FH hgb (c:=.lst false u' zs) trivial
 have hιb:E'.ι base none=E.ι q (some (i,k)):=by simp[E']
 have hιbs:∀p,E'.ι base (some p)=none:=by intro p;simp[E']
 have hιq0:E'.ι q none=E.ι q none:=by simp only[E'];rw[if_neg (Ne.symm hne),if_neg (fun e=>by cases e.2)]
 have hιqk:E'.ι q (some (i,k))=none:=by simp only[E'];rw[if_neg (Ne.symm hne),if_pos ⟨trivial,trivial⟩]
 have hιqo:∀p,p≠(i,k)->E'.ι q (some p)=E.ι q (some p):=fun p hp=>by simp only[E'];rw[if_neg (Ne.symm hne),if_neg (fun e=>hp (by simpa using e.2))]
 have hnob:∀κ x,E.ι base κ≠some x:=fun κ x hx=>by obtain⟨c',h1,_⟩:=H.heap.live base κ x hx;rw[hb]at h1;cases h1
 have hfrom:∀r κ x,(r=q\/r=base)->E'.ι r κ=some x->∃κ0,E.ι q κ0=some x/\(r=base->κ=none/\κ0=some (i,k))/\(r=q->κ0=κ/\κ≠some (i,k)):=by
  rintro r κ x (rfl|rfl) h1
  ·cases κ with
   |none=>rw[hιq0]at h1;exact⟨none,h1,fun e=>absurd e.symm hne,fun _=>(by simp)⟩
   |some p=>
    by_cases hp:p=(i,k)
    ·subst hp;rw[hιqk]at h1;cases h1
    ·rw[hιqo p hp]at h1;exact⟨some p,h1,fun e=>absurd e.symm hne,fun _=>⟨rfl,by simpa using hp⟩⟩
  ·cases κ with
   |none=>rw[hιb]at h1;exact⟨some (i,k),h1,fun _=>⟨rfl,rfl⟩,fun e=>absurd e hne⟩
   |some p=>rw[hιbs]at h1;cases h1
 have T:Touch (fun r=>r=q\/r=base) E h w E' h' w:=by
  refine{hh:=fun r hr=>hgo r (fun e=>hr (.inl e)) (fun e=>hr (.inr e)),hι:=fun r κ hr=>by simp only[E'];rw[if_neg (fun e=>hr (.inr e)),if_neg (fun e=>hr (.inl e.1))],II:=fun b hb=>hb,size:=zQq _,os:=rfl,tape:=rfl,output:=⟨rfl,zQq _⟩,
         blk:=fun b hb _=>rfl,asz:=fun b a t ha=>⟨a,ha,rfl⟩,off:=?_,on:=?_,som:=?_,fix:=(fun r hr h1=>by rcases hr with rfl|rfl;(rw[B9 hc]at h1;cases h1);(simp only[DV,hb]at h1;cases h1)),obj:=?_,siz:=?_,from_:=?_,inj:=?_,live:=?_,Inew:=fun b hb=>.inl hb,apart:=?_,roI:=?_}
  ·rintro r s (rfl|rfl) e
   ·cases s with
    |none=>rw[AB hc]at e;cases e
    |some p=>
     obtain⟨i0,k0,v0⟩:=p
     rw[AD hc]at e
     by_cases hlt:ver<v0
     ·rw[if_pos hlt]at e;cases e
     ·rw[AD hg,if_neg (by omega),if_pos (.inl (by omega))]
   ·rw[EH hb]at e;cases e
  ·rintro r s c (rfl|rfl) e
   ·cases s with
    |none=>
     rw[AB hc]at e;obtain rfl:Cont.tree false ver u xs none=c:=by simpa using e
     exact .inr ⟨_,AB hg,rfl,rfl,hιq0⟩
    |some p=>
     obtain⟨i0,k0,v0⟩:=p
     obtain⟨rfl,_,_⟩:=DB hc e
     left;rw[AD hg,if_neg (by omega),if_pos (.inl (by omega))]
   ·rw[EH hb]at e;cases e
  ·rintro r (rfl|rfl)
   ·exact⟨_,hg⟩
   ·exact⟨_,hgb⟩
  ·rintro Kp r s c (rfl|rfl) e
   ·cases s with
    |none=>
     rw[AB hg]at e;obtain rfl:Cont.tree false (ver+1) u xs (some (i,k))=c:=by simpa using e
     right
     obtain⟨b,arr,ty,h1,h2,h3,h4⟩:=Lp H.heap hc (by omega)
     refine⟨b,arr,ty,by simp only[key];rw[hιq0];exact h1,h2,h3,fun m hm=>?_⟩
     have hm':m<xs.length:=hm
     obtain⟨vs,k1,k2,k3⟩:=h4 m hm'
     refine⟨CB r (ver+1) (some (i,k)) m 0 (flat u (xs[m]'hm')),vs,by simp only[Cont.at?];rw[zQx hm'];rfl,k1,?_,k2⟩
     refine Tx Kp _ 0 vs (by rw[Dq,k1]) (fun j h5 h6=>by rw[zJj];exact k3 j h5 h6 (by simp)) (fun j h5 u3 ys3 e3 hno=>?_)
     rw[zJj]at hno ⊢
     refine⟨?_,hιqo _ (fun e=>hno (by rw[e]))⟩
     have hn3:C0 false u xs m j=some (.lst false u3 ys3):=by unfold C0;rw[zQx hm'];simp only[zQk,zQx h5,e3]
     rw[AD hg,if_neg (Nat.lt_irrefl _),if_neg (by rintro(h|h);exact Nat.lt_irrefl _ h;exact hno h),hn3]
    |some p=>
     obtain⟨i0,k0,v0⟩:=p
     obtain⟨rfl,hno,hn0⟩:=DB hg e
     have hst:AC h r (some (i0,k0,ver))=.on c:=by rw[AD hc];simp[hn0]
     refine(H.heap.obj r _ c hst).imp id ?_
     rintro⟨b,arr,ty,h1,h2,h3,h4⟩
     refine⟨b,arr,ty,by simp only[key];rw[hιqo _ (fun e=>hno (by rw[e]))];exact h1,h2,h3,fun m hm=>?_⟩
     obtain⟨u3,ys3,rfl,_⟩:=HV hn0
     obtain⟨cs,vs,k1,k2,k3,k4⟩:=h4 m hm
     exact⟨cs,vs,k1,k2,C4 Kp cs k3,k4⟩
   ·rw[hstb]at e
    cases s with
    |some p=>cases e
    |none=>
     obtain rfl:Cont.lst false u' zs=c:=by simpa using e
     refine(H.heap.obj q _ _ hst0).imp id ?_
     rintro⟨b,arr,ty,h1,h2,h3,h4⟩
     refine⟨b,arr,ty,by simp only[key];rw[hιb];exact h1,h2,h3,fun m hm=>?_⟩
     obtain⟨cs,vs,k1,k2,k3,k4⟩:=h4 m hm
     exact⟨cs,vs,k1,k2,C4 Kp cs k3,k4⟩
  ·rintro r s c b n (rfl|rfl) e h1
   ·cases s with
    |none=>
     rw[AB hg]at e;obtain rfl:Cont.tree false (ver+1) u xs (some (i,k))=c:=by simpa using e
     simp only[key]at h1;rw[hιq0]at h1
     have h9:=H.heap.siz r none (.tree false ver u xs none) b n (AB hc) h1
     exact h9
    |some p=>
     obtain⟨i0,k0,v0⟩:=p
     obtain⟨rfl,hno,hn0⟩:=DB hg e
     have hst:AC h r (some (i0,k0,ver))=.on c:=by rw[AD hc];simp[hn0]
     simp only[key]at h1;rw[hιqo _ (fun e=>hno (by rw[e]))]at h1
     exact H.heap.siz r _ c b n hst h1
   ·rw[hstb]at e
    cases s with
    |some p=>cases e
    |none=>
     obtain rfl:Cont.lst false u' zs=c:=by simpa using e
     simp only[key]at h1;rw[hιb]at h1
     exact H.heap.siz q _ _ b n hst0 h1
  ·rintro r κ b n hr h1
   obtain⟨κ0,h2,_⟩:=hfrom r κ _ hr h1
   exact .inr ⟨q,κ0,n,.inl rfl,.inl hro,h2⟩
  ·rintro r κ r' κ' b n n' hr hr' h1 h2
   obtain⟨κ0,h3,h4,h5⟩:=hfrom r κ _ hr h1
   obtain⟨κ1,h6,h7,h8⟩:=hfrom r' κ' _ hr' h2
   have:=(H.heap.inj _ _ _ _ _ _ _ h3 h6).2
   subst this
   rcases hr with rfl|rfl<;>rcases hr' with rfl|rfl
   ·obtain⟨rfl,_⟩:=h5 rfl;obtain⟨rfl,_⟩:=h8 rfl;exact⟨rfl,rfl⟩
   ·obtain⟨rfl,h9⟩:=h5 rfl;obtain⟨_,rfl⟩:=h7 rfl;exact absurd rfl h9
   ·obtain⟨_,rfl⟩:=h4 rfl;obtain⟨rfl,h9⟩:=h8 rfl;exact absurd rfl h9
   ·obtain⟨rfl,_⟩:=h4 rfl;obtain⟨rfl,_⟩:=h7 rfl;exact⟨rfl,rfl⟩
  ·rintro r κ x (rfl|rfl) h1
   ·exact⟨_,hg,by simp⟩
   ·exact⟨_,hgb,by simp⟩
  ·rintro r κ b n hr h1 _
   obtain⟨κ0,h2,_⟩:=hfrom r κ _ hr h1
   exact H.heap.apart _ _ _ _ h2 hro
  ·rintro r κ b n (rfl|rfl) h1 h2
   ·rw[B9 hg]at h2;cases h2
   ·rw[B9 hgb]at h2;cases h2
 obtain⟨g1,g2⟩:=T.inv H
 refine⟨E',g1,g2,fun v hv=>?_⟩
 rw[BG hst0]at hv
 rw[BG (show AC h' base none=_ from hstb none)]
 obtain⟨hle,hv⟩:=hv
 refine⟨hle,hv.imp id ?_⟩
 rintro⟨b,n,a,h1,h2⟩
 exact⟨b,n,a,by simp only[key];rw[hιb];exact h1,h2⟩
end Go.Ab
end
section
namespace Go.Ab
open Go.RowKit
def Na (w:World)(b o n:Nat):List Value:=(List.range n).map fun k=>(w.cell? ⟨b,o+k,none⟩).getD undef
theorem Me (w:World)(b o n:Nat):(Na w b o n).length=n:=by simp[Na]
theorem SK {w:World}{b o n k:Nat}(hk:k<n):(Na w b o n)[k]? =some ((w.cell? ⟨b,o+k,none⟩).getD undef):=by simp[Na,hk]
theorem Js (t:Ty)(x:den t):∀c∈flat t x,c.cell=true:=by
 induction t with
 |prod a b iha ihb=>
  intro c hc
  simp only[flat,List.mem_append]at hc
  rcases hc with hc|hc
  ·exact iha x.1 c hc
  ·exact ihb x.2 c hc
 |unit=>intro c hc;simp[flat]at hc
 |_=>intro c hc;simp only[flat,List.mem_singleton]at hc;subst hc;rfl
theorem PO (r ver i:Nat):(cs:List AV)->(k:Nat)->(∀c∈cs,c.cell=true)->∀c∈CB r ver none i k cs,c.cell=true
 |[],k,_,c,hc=>by simp[CB]at hc
 |d::cs,k,h,c,hc=>by
  have ih:=PO r ver i cs (k+1) (fun c hc=>h c (by simp[hc]))
  cases d with
  |pv t x=>
   cases t with
   |slice u=>
    simp only[CB,reduceCtorEq,if_false,List.mem_cons]at hc
    rcases hc with rfl|hc
    ·rfl
    ·exact ih c hc
   |_=>
    simp only[CB,List.mem_cons]at hc
    rcases hc with rfl|hc
    ·exact h _ (by simp)
    ·exact ih c hc
  |_=>
   simp only[CB,List.mem_cons]at hc
   rcases hc with rfl|hc
   ·exact h _ (by simp)
   ·exact ih c hc
structure RowsAt (w:World)(sz M b o:Nat)(cells:Nat->List Value):Prop where
 len:∀i,i<M->(cells i).length=sz
 at_:∀i,i<M->IM w b (o+i*sz) (cells i)
 one:∀i,i<M->∀v∈cells i,v.oneCell'=true
section
variable {w:World}{sz M b o:Nat}{cells:Nat->List Value}(H:RowsAt w sz M b o cells)
include H
theorem RowsAt.cell {k:Nat}(hk:k<M*sz):∃v,w.cell? ⟨b,o+k,none⟩=some v/\(Na w b o (M*sz))[k]? =some v/\v.oneCell'=true:=by
 have hs:0<sz:=by rcases Nat.eq_zero_or_pos sz with h|h;· rw[h]at hk;simp at hk
                  ·exact h
 have hd:k / sz<M:=Nat.div_lt_of_lt_mul (by rwa [Nat.mul_comm])
 have hm:=Nat.mod_lt k hs
 have hl:=H.len _ hd
 have:=H.at_ _ hd (k % sz) (by omega)
 rw[Nat.add_assoc,Nat.div_add_mod']at this
 exact⟨_,this,by rw[SK hk,this];rfl,H.one _ hd _ (zQz _)⟩
theorem RowsAt.news:(∀v∈Na w b o (M*sz),v.oneCell'=true)/\∀j z,(Na w b o (M*sz))[j]? =some z->w.cell? ((⟨b,o,none⟩:Addr).add j)=some z:=by
 refine⟨fun v hv=>?_,fun j z hj=>?_⟩
 ·obtain⟨k,hk,rfl⟩:=zJz hv
  rw[Me]at hk
  obtain⟨v,_,h2,h3⟩:=H.cell hk
  obtain⟨_,h4⟩:=zQj.1 h2
  rw[h4];exact h3
 ·have hlt:=(zQj.1 hj).1
  rw[Me]at hlt
  obtain⟨v,h1,h2,_⟩:=H.cell hlt
  rw[h2]at hj;obtain rfl:v=z:=by simpa using hj
  rw[Io];exact h1
theorem RowsAt.seg {i j:Nat}(hi:i<M)(hj:j<(cells i).length):(Na w b o (M*sz))[i*sz+j]? =some (cells i)[j]:=by
 have hl:=H.len _ hi
 have:i*sz+sz<=M*sz:=by rw[<-Nat.succ_mul];exact zJx _ hi
 rw[SK (by omega),<-Nat.add_assoc,H.at_ _ hi j hj];rfl
end
def OM (w:World)(sz M:Nat)(u:Value)(P:Nat->List Value->Prop):Prop:=
 ∃A m',u=.slice A M m'/\M<=m'/\(M≠0->∃b o cells,A=some ⟨b,o,none⟩/\RowsAt w sz M b o cells/\∀i,i<M->P i (cells i))
theorem Wi {E:Env}{h:Am}{w:World}(H:HeapOK E h w){r:Nat}{s:Sub}{c:Cont}(hc:AC h r s=.on c){rg:Option (Nat×Nat)}{u:Value}(hu:La E w r s c rg u)(hone:∀i cs,c.at? r i=some cs->∀d∈cs,d.cell=true):
 OM w c.sz (rg.getD (0,c.len)).2 u (fun i vs=>∃cs,c.at? r ((rg.getD (0,c.len)).1+i)=some cs/\Ak E h w cs vs):=by
 obtain⟨hle,h1⟩:=hu
 rcases h1 with⟨h0,rfl⟩|⟨b,n,a,hι,rfl,hn,ha,_⟩
 ·exact⟨none,0,by congr 1;omega,by omega,fun hne=>absurd (show(rg.getD (0,c.len)).2=0 by omega) hne⟩
 ·refine⟨some a,n,rfl,hn,fun hne=>?_⟩
  rcases H.obj r s c hc with h0|⟨b',arr,ty,hι',hb,hfit,hels⟩
  ·omega
  rw[hι]at hι';obtain rfl:b=b':=by simpa using hι'
  have hch:∀i,i<(rg.getD (0,c.len)).2->∃vs:List Value,vs.length=c.sz/\IM w b ((rg.getD (0,c.len)).1*c.sz+i*c.sz) vs/\∃cs,c.at? r ((rg.getD (0,c.len)).1+i)=some cs/\Ak E h w cs vs:=by
   intro i hi
   obtain⟨cs,vs,k1,k2,k3,k4⟩:=hels ((rg.getD (0,c.len)).1+i) (by omega)
   refine⟨vs,k2,fun j hj=>?_,cs,k1,k3⟩
   have:=k4 j hj
   simp only[World.cell?,hb,Option.isSome_none,Bool.false_eq_true,if_false]
   rw[<-this,Nat.add_mul]
  classical
  let cells:Nat->List Value:=fun i=>if hi:i<(rg.getD (0,c.len)).2 then(hch i hi).choose else[]
  have hcells:∀i (hi:i<(rg.getD (0,c.len)).2),cells i=(hch i hi).choose:=fun i hi=>by simp only[cells];rw[dif_pos hi]
  refine⟨b,(rg.getD (0,c.len)).1*c.sz,cells,by rw[ha (by omega)],⟨fun i hi=>?_,fun i hi=>?_,fun i hi v hv=>?_⟩,fun i hi=>?_⟩
  ·rw[hcells i hi];exact(hch i hi).choose_spec.1
  ·rw[hcells i hi];exact(hch i hi).choose_spec.2.1
  ·rw[hcells i hi]at hv
   obtain⟨cs,k1,k2⟩:=(hch i hi).choose_spec.2.2
   obtain⟨j,hj,rfl⟩:=zJz hv
   have hl:=k2.length
   exact KW (hone _ cs k1 _ (zQz (show j<cs.length by omega))) (k2.getAt j (by omega) hj)
  ·rw[hcells i hi];exact(hch i hi).choose_spec.2.2
theorem OS {R:Type}{hp:Am}{t:Ty}{y:AV}{K:List (den t)->Option R}{r:R}(e:WU hp t y K=some r):∃ys,K ys=some r/\∀h,BM hp h->∀(E:Env) (w:World),HeapOK E h w->∀u,Ag E h w y u->OM w t.size ys.length u (fun i vs=>∃hi:i<ys.length,Ak E h w (flat t ys[i]) vs):=by
 unfold WU at e
 split at e
 ·refine⟨_,e,fun h hs E w H u hu=>?_⟩
  simp only[Ag]at hu;subst hu
  exact⟨none,0,rfl,zQq _,fun hne=>absurd rfl hne⟩
 ·rename_i u' ys
  obtain⟨zs,h1,hK⟩:=Bf e
  obtain⟨rfl,rfl⟩:=DA h1
  refine⟨_,hK,fun h hs E w H u hu=>?_⟩
  simp only[Ag,B5]at hu
  obtain⟨A,c,e1,hlc,h2⟩:=hu
  have e1:u=.slice A (List.length zs) c:=by simpa using e1
  refine⟨A,c,e1,hlc,fun hne=>?_⟩
  obtain⟨b,o,rfl,hI,h3⟩:=h2 hne
  classical
  let cells:Nat->List Value:=fun i=>if hi:i<(List.length zs)then(h3 i hi).choose else[]
  have hcells:∀i (hi:i<(List.length zs)),cells i=(h3 i hi).choose:=fun i hi=>by simp only[cells];rw[dif_pos hi]
  refine⟨b,o,cells,rfl,⟨fun i hi=>?_,fun i hi=>?_,fun i hi v hv=>?_⟩,fun i hi=>⟨hi,?_⟩⟩
  ·rw[hcells i hi];exact(h3 i hi).choose_spec.1
  ·rw[hcells i hi];exact(h3 i hi).choose_spec.2.2
  ·rw[hcells i hi]at hv
   have k2:=Dn (E:=E) (h:=h) t (h3 i hi).choose_spec.2.1
   obtain⟨j,hj,rfl⟩:=zJz hv
   have hl:=k2.length
   exact KW (Js t _ _ (zQz (show j<(flat t zs[i]).length by omega))) (k2.getAt j (by omega) hj)
  ·rw[hcells i hi];exact Dn t (h3 i hi).choose_spec.2.1
 ·rename_i q s rg
  obtain⟨c,h1,_,hc⟩:=FS e
  split at h1
  ·rename_i ro u' ys
   obtain⟨zs,h2,hK⟩:=Bf h1
   obtain⟨e2,rfl⟩:=DA h2
   obtain rfl:u'=t:=by simpa using e2
   refine⟨_,hK,fun h hs E w H u hu=>?_⟩
   have hc:AC h q s=.on (.lst ro u' ys):=(hc h hs).elim id (fun⟨n,l,c',e,_⟩=>by cases e)
   simp only[Ag]at hu
   rw[BG hc]at hu
   have hle:=hu.1
   have:=Wi H hc hu (fun i cs hat d hd=>by obtain⟨_,rfl⟩:=I8 hat;exact Js u' _ d hd)
   have hlen:(Dr ys rg).length=(rg.getD (0,(Cont.lst ro u' ys).len)).2:=by
    cases rg with
    |none=>rfl
    |some p=>simp[Dr,Cont.len]at hle ⊢;omega
   obtain⟨A,m',k1,k2,k3⟩:=this
   refine⟨A,m',by rw[show(Dr ys rg).length=_ from hlen];exact k1,by rw[show(Dr ys rg).length=_ from hlen];exact k2,fun hne=>?_⟩
   have hne:(rg.getD (0,(Cont.lst ro u' ys).len)).2≠0:=by rw[<-hlen];exact hne
   obtain⟨b,o,cells,m1,m2,m3⟩:=k3 hne
   refine⟨b,o,cells,m1,by rw[show(Dr ys rg).length=_ from hlen];exact m2,fun i hi=>⟨hi,?_⟩⟩
   obtain⟨cs,n1,n2⟩:=m3 i (by rw[<-hlen];exact hi)
   obtain⟨hj,rfl⟩:=I8 n1
   have he:(Dr ys rg)[i]'hi=ys[(rg.getD (0,(Cont.lst ro u' ys).len)).1+i]:=by
    cases rg with
    |none=>simp[Dr]
    |some p=>simp[Dr]
   show Ak E h w (flat u' ((Dr ys rg)[i]'hi)) _
   rw[he];exact n2
  ·cases h1
 ·cases e
end Go.Ab
end
section
namespace Go.Ab
open Go.RowKit
section
variable {P:Program}{F:Fr}{E:Env}{h:Am}{w:World}{t e:TypeId}{ie:TI}
theorem OM.raw {sz M:Nat}{u:Value}{Q:Nat->List Value->Prop}(hs:OM w sz M u Q):∃(A:Option Addr) (m':Nat) (news:List Value),u=.slice A M m'/\M<=m'/\news.length=M*sz/\(∀x∈news,x.oneCell'=true)/\(M≠0->∃a,A=some a/\∀j z,news[j]? =some z->w.cell? (a.add j)=some z)/\
 ∀i,i<M->∃vs:List Value,vs.length=sz/\Q i vs/\∀(j:Nat) (hj:j<vs.length),news[i*sz+j]? =some vs[j]:=by
 obtain⟨A,m',h1,h2,h3⟩:=hs
 by_cases hM:M=0
 ·subst hM
  exact⟨A,m',[],h1,h2,by simp,by simp,fun hne=>absurd rfl hne,fun i hi=>absurd hi (Nat.not_lt_zero _)⟩
 ·obtain⟨b,o,cells,rfl,H,hQ⟩:=h3 hM
  exact⟨_,m',Na w b o (M*sz),h1,h2,Me _ _ _ _,H.news.1,fun _=>⟨_,rfl,H.news.2⟩,fun i hi=>⟨cells i,H.len i hi,hQ i hi,fun j hj=>H.seg hi hj⟩⟩
theorem JJ {r:Nat}{c:Cont}{v:Value}(hv:La E w r none c none v):(c.len=0/\v=.slice none 0 0)\/∃b n a arr ty',v=.slice (some a) c.len n/\c.len<=n/\(n≠0->a=⟨b,0,none⟩)/\w.heap[b]? =some (.cells arr ty' (0,0))/\n*c.sz<=arr.size/\E.ι r none=some (b,c.sz):=by
 obtain⟨_,hv⟩:=hv
 refine hv.imp id ?_
 rintro⟨b,n,a,h1,h2,h3,h4,arr,ty,h5,h6⟩
 exact⟨b,n,a,arr,ty,by simpa using h2,by simpa using h3,by simpa using h4,h5,by simpa using h6,by simpa[key]using h1⟩
theorem Agn (H:Inv F E h w)(hund:P.underlying t=some (.slice e))(hte:C6 P e ie)(ty:TypeId){base:Nat}{u:Ty}{ys:List (den u)}(hb:h.getD base none=none)(hsz:u.size=ie.size)(hlim:ys.length<=ie.lim)
 {uu:Value}(hsrc:OM w u.size ys.length uu (fun i vs=>∃hi:i<ys.length,Ak E h w (flat u ys[i]) vs)):
 ∃val E' w',(Builtin.append_ #[t,t] ty #[.slice none 0 0,uu]).run P w=.ok val w'/\Inv F E' (setH h base (.lst false u ys)) w'/\Keep E h w E' (setH h base (.lst false u ys)) w'/\Ag E' (setH h base (.lst false u ys)) w' (.own base none none) val:=by
 obtain⟨A,m',news,rfl,hm',hnl,hone,hA,hels⟩:=hsrc.raw
 have hg:(setH h base (.lst false u ys)).getD base none=some (.lst false u ys):=by rw[An,if_pos rfl]
 have hst:=Av hg (by simp)
 rcases WK (P:=P) hund hte ty (w:=w) (.inr trivial) (N:=0) (.inl ⟨rfl,rfl⟩) rfl news (by rw[hnl,hsz]) hone hA hm' (by omega)with⟨hM,hrun⟩|⟨hM,w',b',n',arr',ty',hrun,h1,h2,h3,h4,h5,h6,h7,h8,h9,_,h11,h12⟩
 ·obtain⟨g1,g2⟩:=SN H hb (.lst false u ys) trivial hM
  refine⟨_,E,w,hrun,g1,g2,?_⟩
  simp only[Ag];rw[BG hst]
  exact⟨by simp[Cont.len],.inl ⟨hM,rfl⟩⟩
 ·rw[zJj]at hrun h2
  have hfresh:w.heap.size<=b':=by
   rcases h12 with h|⟨n,arr,hx,_⟩
   ·exact h
   ·cases hx
  obtain⟨E',g1,g2,g3⟩:=ah H hb (.lst false u ys) trivial h1 hfresh h5 h4 (fun k hk=>h9 k (by omega) hk) h6 h7 h8 (by
   show ys.length*u.size<=_
   rw[hsz];exact Nat.le_trans (zJx _ h2) h3) (fun i hi=>by
   have hi':i<ys.length:=hi
   obtain⟨vs,k1,⟨_,k2⟩,k3⟩:=hels i hi'
   refine⟨flat u (ys[i]'hi'),vs,by simp only[Cont.at?];rw[zQx hi'];rfl,k1,k2,fun j hj=>?_⟩
   have:=h11 (i*ie.size+j) (by
    have:i*ie.size+ie.size<=ys.length*ie.size:=by rw[<-Nat.succ_mul];exact zJx _ hi'
    rw[k1,hsz]at hj;omega)
   rw[Nat.zero_mul,zJj]at this
   show arr'[i*u.size+j]? =_
   rw[hsz,this,<-hsz];exact k3 j hj)
  refine⟨_,E',w',hrun,g1,g2,?_⟩
  simp only[Ag];rw[BG hst]
  exact⟨by simp[Cont.len],.inr ⟨b',n',⟨b',0,none⟩,g3,rfl,h2,by simp,arr',ty',h1,by show 0*u.size+n'*u.size<=_;rw[Nat.zero_mul,zJj,hsz];exact h3⟩⟩
theorem WL (H:Inv F E h w)(hund:P.underlying t=some (.slice e))(hte:C6 P e ie)(ty:TypeId){q base:Nat}{u:Ty}{xs ys:List (den u)}(hc:h.getD q none=some (.lst false u xs))(hb:h.getD base none=none)(hsz:u.size=ie.size)(hlim:(xs++ys).length<=ie.lim)
 {v uu:Value}(hv:Cz E h w q none none v)(hsrc:OM w u.size ys.length uu (fun i vs=>∃hi:i<ys.length,Ak E h w (flat u ys[i]) vs)):
 ∃val E' w',(Builtin.append_ #[t,t] ty #[v,uu]).run P w=.ok val w'/\Inv F E' (setH (setH h q .dead) base (.lst false u (xs++ys))) w'/\Keep E h w E' (setH (setH h q .dead) base (.lst false u (xs++ys))) w'/\Ag E' (setH (setH h q .dead) base (.lst false u (xs++ys))) w' (.own base none none) val:=by
 obtain⟨A,m',news,rfl,hm',hnl,hone,hA,hels⟩:=hsrc.raw
 have hne:base≠q:=by rintro rfl;rw[hc]at hb;cases hb
 have hst0:=Av hc (by simp)
 rw[BG hst0]at hv
 have hv:=JJ hv
 simp only[Cont.len,Cont.sz]at hv
 have hg:(setH (setH h q .dead) base (.lst false u (xs++ys))).getD base none=some (.lst false u (xs++ys)):=by rw[An,if_pos rfl]
 have hst:=Av hg (by simp)
 have hlen:(xs++ys).length=xs.length+ys.length:=by simp
 have holds:∀b arr ty',E.ι q none=some (b,u.size)->w.heap[b]? =some (.cells arr ty' (0,0))->∀i (hi:i<xs.length),∃vs:List Value,vs.length=u.size/\Ak E h w (flat u xs[i]) vs/\∀(j:Nat) (hj:j<vs.length),arr[i*u.size+j]? =some vs[j]:=by
  intro b arr ty' h1 h2 i hi
  rcases H.heap.obj q none _ hst0 with h0|⟨b0,arr0,ty0,k1,k2,k3,k4⟩
  ·simp only[Cont.len]at h0;omega
  simp only[key,Cont.sz]at k1 k4
  rw[h1]at k1;obtain rfl:b=b0:=by simpa using k1
  rw[h2]at k2;obtain⟨rfl,rfl⟩:arr=arr0/\ty'=ty0:=by simpa using k2
  obtain⟨cs,vs,m1,m2,m3,m4⟩:=k4 i hi
  obtain⟨_,rfl⟩:=I8 m1
  exact⟨vs,m2,m3,m4⟩
 rcases WK (P:=P) hund hte ty (w:=w) (.inr trivial) (N:=xs.length) (v:=v) (hv.imp id (fun⟨b,n,a,arr,ty',k1,k2,k3,k4,k5,_⟩=>⟨b,n,a,arr,ty',k1,k2,k3,k4,by rw[<-hsz];exact k5⟩)) rfl news (by rw[hnl,hsz]) hone hA hm' (by omega)with⟨hM,hrun⟩|⟨hM,w',b',n',arr',ty',hrun,h1,h2,h3,h4,h5,h6,h7,h8,h9,h10,h11,h12⟩
 ·
  have hys:ys=[]:=List.eq_nil_of_length_eq_zero hM
  subst hys
  rcases hv with⟨h0,rfl⟩|⟨b,n,a,arr,ty',rfl,k2,k3,k4,k5,k6⟩
  ·obtain⟨g1,g2⟩:=Qw H hc rfl
   obtain⟨g3,g4⟩:=SN g1 (r:=base) (by rw[An,if_neg hne];exact hb) (.lst false u (xs++[])) trivial (by simpa[Cont.len]using h0)
   refine⟨_,_,w,hrun,g3,g2.trans g4,?_⟩
   simp only[Ag];rw[BG hst]
   exact⟨by simp,.inl ⟨by simpa[Cont.len]using h0,rfl⟩⟩
  ·obtain⟨g1,g2⟩:=Qv H hc trivial hb (d:=.lst false u (xs++[])) trivial (w':=w) (b:=b) (arr:=arr) (ty:=ty') k4 (fun _ _ _=>rfl) (.inl ⟨k6,fun a' t' ha'=>by
    rw[k4]at ha';have h9:arr=a'/\ty'=t':=(by simpa using ha');exact⟨h9.2.symm,by rw[h9.1]⟩⟩) (zQq _) (H.heap.own_lt b ⟨_,_,_,k6⟩) rfl rfl ⟨rfl,zQq _⟩ (by
    show(xs++[]).length*u.size<=_
    rw[List.append_nil];exact Nat.le_trans (zJx _ k2) k5) (fun i hi=>by
    have hi':i<xs.length:=by simpa[Cont.len]using hi
    obtain⟨vs,m1,m2,m3⟩:=holds b arr ty' k6 k4 i hi'
    exact⟨flat u (xs[i]'hi'),vs,by simp only[Cont.at?,List.append_nil];rw[zQx hi'];rfl,m1,m2,m3⟩)
   refine⟨_,_,w,hrun,g1,g2,?_⟩
   simp only[Ag];rw[BG hst]
   exact⟨by simp,.inr ⟨b,n,a,by simp[Env.set,key,Cont.sz],by simp[Cont.len],by simpa[Cont.len]using k2,by simpa using k3,arr,ty',k4,by simpa[Cont.sz]using k5⟩⟩
 ·have hel:∀i,i<(Cont.lst false u (xs++ys)).len->∃cs vs,(Cont.lst false u (xs++ys)).at? base i=some cs/\vs.length=(Cont.lst false u (xs++ys)).sz/\Ak E h w cs vs/\∀(j:Nat) (hj:j<vs.length),arr'[i*(Cont.lst false u (xs++ys)).sz+j]? =some vs[j]:=by
   intro i hi
   have hi':i<xs.length+ys.length:=by simpa[Cont.len]using hi
   by_cases hlt:i<xs.length
   ·rcases hv with⟨h0,_⟩|⟨b,n,a,arr,ty'',k1,k2,k3,k4,k5,k6⟩
    ·omega
    obtain⟨vs,m1,m2,m3⟩:=holds b arr ty'' k6 k4 i hlt
    refine⟨flat u (xs[i]'hlt),vs,by simp only[Cont.at?];rw[List.getElem?_append_left hlt,zQx hlt];rfl,m1,m2,fun j hj=>?_⟩
    have hle:i*u.size+u.size<=xs.length*u.size:=by rw[<-Nat.succ_mul];exact zJx _ hlt
    show arr'[i*u.size+j]? =_
    rw[h10 _ (by rw[<-hsz];omega) b n a arr ty'' k1 k3 k4]
    exact m3 j hj
   ·obtain⟨vs,m1,⟨hi2,m2⟩,m3⟩:=hels (i-xs.length) (by omega)
    refine⟨flat u (ys[i-xs.length]'hi2),vs,by simp only[Cont.at?];rw[List.getElem?_append_right (by omega),zQx hi2];rfl,m1,m2,fun j hj=>?_⟩
    have hle:(i-xs.length)*u.size+u.size<=ys.length*u.size:=by rw[<-Nat.succ_mul];exact zJx _ hi2
    have hmul:i*u.size=xs.length*u.size+(i-xs.length)*u.size:=by rw[<-Nat.add_mul];congr 1;omega
    show arr'[i*u.size+j]? =_
    have:=h11 ((i-xs.length)*u.size+j) (by rw[<-hsz];omega)
    rw[<-hsz]at this
    rw[hmul,Nat.add_assoc,this];exact m3 j hj
  have hfit:(Cont.lst false u (xs++ys)).len*(Cont.lst false u (xs++ys)).sz<=arr'.size:=by
   show(xs++ys).length*u.size<=_
   rw[hsz,hlen];exact Nat.le_trans (zJx _ h2) h3
  obtain⟨g1,g2⟩:=Qv H hc trivial hb (d:=.lst false u (xs++ys)) trivial (w':=w') (b:=b') (arr:=arr') (ty:=ty') h1 h9 (by
   rcases h12 with hf|⟨n,arr,k1,k2,k3,k4⟩
   ·exact .inr hf
   ·left
    rcases hv with⟨_,k0⟩|⟨b,n0,a,arr0,ty0,m1,m2,m3,m4,m5,m6⟩
    ·rw[k0]at k1;cases k1
    ·rw[m1]at k1
     obtain⟨rfl,rfl⟩:a=⟨b',0,none⟩/\n0=n:=by simpa using k1
     have:=m3 k2
     obtain rfl:b'=b:=by simpa using this
     exact⟨m6,fun a' t' ha'=>(by rw[k3]at ha';have h9:arr=a'/\ty'=t':=(by simpa using ha');exact⟨h9.2.symm,by rw[k4,h9.1]⟩)⟩) h4 h5 h6 h7 h8 hfit hel
  refine⟨_,_,w',hrun,g1,g2,?_⟩
  simp only[Ag];rw[BG hst]
  exact⟨by simp,.inr ⟨b',n',⟨b',0,none⟩,by simp[Env.set,key,Cont.sz],by simp[Cont.len],by simpa[Cont.len]using h2,by simp,arr',ty',h1,by show(0:Nat)*u.size+n'*u.size<=_;rw[Nat.zero_mul,zJj,hsz];exact h3⟩⟩
def SO:Bx->Option Nat
 |[(q,.dead),(_,.dead),_]=>some q
 |_=>none
theorem JD {σ σ':Nat×Nat->Option (Nat×Nat)}{i i' k:Nat}{c:AV}{v:Value}(hσ:σ' (i',k)=σ (i,k))(hs:JN E h w σ i k c v):JN E h w σ' i' k c v:=by
 unfold JN at hs ⊢
 split
 ·rename_i u ys
  simp only at hs
  rcases hs with⟨q0,s0,m1,m2,m3⟩|⟨m1,m2,m3⟩
  ·exact .inl ⟨q0,s0,m1,m2.trans hσ.symm,m3⟩
  ·exact .inr ⟨m1,hσ.trans m2,m3⟩
 ·rename_i hno
  split at hs
  ·rename_i u ys;exact absurd rfl (hno u ys)
  ·exact hs
theorem T6 (H:Inv F E h w)(hund:P.underlying t=some (.slice e))(hte:C6 P e ie)(ty:TypeId){r base:Nat}{u:Ty}{xs:List (den u)}{z:den u}{K:Nat->Prop}{δ:Bx}{v2:Nat}
 (hcr:h.getD r none=some (.tree false v2 u [z] none))(hb:h.getD base none=none)(hsz:u.size=ie.size)(hlim:(xs++[z]).length<=ie.lim){v uu:Value}(hu:Cz E h w r none none uu)
 (hx:(xs=[]/\v=.slice none 0 0/\δ=[(r,.dead),(base,.tree false 0 u (xs++[z]) none)])\/∃q v1,q≠r/\h.getD q none=some (.tree false v1 u xs none)/\Cz E h w q none none v/\δ=[(q,.dead),(r,.dead),(base,.tree false 0 u (xs++[z]) none)]):
 ∃val E' w',(Builtin.append_ #[t,t] ty #[v,uu]).run P w=.ok val w'/\Inv F E' (apD h δ) w'/\Keep E h w E' (apD h δ) w'/\Ag E' (apD h δ) w' (.own base none none) val:=by
 have hner:base≠r:=by rintro rfl;rw[hcr]at hb;cases hb
 rw[BG (AB hcr)]at hu
 obtain⟨A,m',news,rfl,hm',hnl,hone,hA,hels⟩:=(Wi H.heap (AB hcr) hu (fun i cs hat d hd=>by obtain⟨_,rfl⟩:=KN hat;exact PO _ _ _ _ _ (fun c hc=>Js u _ c hc) d hd)).raw
 simp only[Option.getD_none,Cont.len,Cont.sz,List.length_singleton]at hnl hm' hA hels
 obtain⟨vz,z1,⟨csz,z2,z3⟩,z4⟩:=hels 0 (by omega)
 obtain⟨hz0,rfl⟩:=KN z2
 have hsz0:=Tw hcr hz0 z3
 have hxx:(v=.slice none 0 0/\xs=[])\/∃q v1 b n a arr ty',q≠r/\base≠q/\h.getD q none=some (.tree false v1 u xs none)/\((xs.length=0/\v=.slice none 0 0)\/(v=.slice (some a) xs.length n/\xs.length<=n/\(n≠0->a=⟨b,0,none⟩)/\w.heap[b]? =some (.cells arr ty' (0,0))/\n*u.size<=arr.size/\E.ι q none=some (b,u.size))):=by
  rcases hx with⟨h1,h2,_⟩|⟨q,v1,h1,h2,h3,_⟩
  ·exact .inl ⟨h2,h1⟩
  ·have hneq:base≠q:=by rintro rfl;rw[h2]at hb;cases hb
   rw[BG (AB h2)]at h3
   rcases JJ h3 with⟨h4,h5⟩|⟨b,n,a,arr,ty',k1,k2,k3,k4,k5,k6⟩
   ·exact .inr ⟨q,v1,0,0,⟨0,0,none⟩,#[],0,h1,hneq,h2,.inl ⟨h4,h5⟩⟩
   ·exact .inr ⟨q,v1,b,n,a,arr,ty',h1,hneq,h2,.inr ⟨k1,k2,k3,k4,k5,k6⟩⟩
 have hraw:(xs.length=0/\v=.slice none 0 0)\/∃b n a arr ty',v=.slice (some a) xs.length n/\xs.length<=n/\(n≠0->a=⟨b,0,none⟩)/\w.heap[b]? =some (.cells arr ty' (0,0))/\n*ie.size<=arr.size:=by
  rcases hxx with⟨h1,h2⟩|⟨q,v1,b,n,a,arr,ty',_,_,_,⟨h1,h2⟩|⟨k1,k2,k3,k4,k5,_⟩⟩
  ·exact .inl ⟨by rw[h2];rfl,h1⟩
  ·exact .inl ⟨h1,h2⟩
  ·exact .inr ⟨b,n,a,arr,ty',k1,k2,k3,k4,by rw[<-hsz];exact k5⟩
 rcases WK (P:=P) hund hte ty (w:=w) (.inr trivial) (N:=xs.length) (v:=v) hraw rfl news (by rw[hnl,hsz]) hone hA hm' (by simpa using hlim)with⟨hM,_⟩|⟨_,w',b',n',arr',ty',hrun,h1,h2,h3,h4,h5,h6,h7,h8,h9,h10,h11,h12⟩
 ·exact absurd hM (by decide)
 let Kq:Nat->Prop:=fun q'=>q'=r\/(∃v1,h.getD q' none=some (.tree false v1 u xs none)/\δ=[(q',.dead),(r,.dead),(base,.tree false 0 u (xs++[z]) none)]/\Cz E h w q' none none v/\q'≠r)
 have hKb:∀q',Kq q'->q'≠base/\∃c,h.getD q' none=some c/\c.ro=false:=by
  rintro q' (rfl|⟨v1,k1,_⟩)
  ·exact⟨Ne.symm hner,_,hcr,rfl⟩
  ·exact⟨(by rintro rfl;rw[k1]at hb;cases hb),_,k1,rfl⟩
 let σ:Nat×Nat->Option (Nat×Nat):=fun p=>if p.1<xs.length then((SO δ).bind fun q=>E.ι q (some p))else if p.1=xs.length then E.ι r (some (0,p.2))else none
 have hδ:∀q',q'≠base->¬Kq q'->(apD h δ).getD q' none=h.getD q' none:=by
  intro q' k1 k2
  rcases hx with⟨_,_,rfl⟩|⟨q,v1,m1,m2,m3,rfl⟩
  ·have:q'≠r:=fun e=>k2 (.inl e)
   simp only[apD];rw[An,if_neg k1,An,if_neg this]
  ·have:q'≠r:=fun e=>k2 (.inl e)
   have h3:q'≠q:=fun e=>k2 (.inr ⟨v1,by rw[e];exact m2,by rw[e],by rw[e];exact m3,by rw[e];exact m1⟩)
   simp only[apD];rw[An,if_neg k1,An,if_neg this,An,if_neg h3]
 have hδb:(apD h δ).getD base none=some (.tree false 0 u (xs++[z]) none):=by
  rcases hx with⟨_,_,rfl⟩|⟨q,v1,m1,m2,m3,rfl⟩<;>(simp only[apD];rw[An,if_pos rfl])
 have hδK:∀q',Kq q'->(apD h δ).getD q' none=some .dead:=by
  intro q' hq
  have hqb:=(hKb q' hq).1
  rcases hq with rfl|⟨v1,k1,k2,_,k4⟩
  ·rcases hx with⟨_,_,rfl⟩|⟨q,v1,m1,m2,m3,rfl⟩
   ·simp only[apD];rw[An,if_neg hqb,An,if_pos rfl]
   ·simp only[apD];rw[An,if_neg hqb,An,if_pos rfl]
  ·rw[k2];simp only[apD];rw[An,if_neg hqb,An,if_neg k4,An,if_pos rfl]
 have hσ1:∀p b0 n0,σ p=some (b0,n0)->(p.1<xs.length/\∃q v1,q≠r/\h.getD q none=some (.tree false v1 u xs none)/\Cz E h w q none none v/\δ=[(q,.dead),(r,.dead),(base,.tree false 0 u (xs++[z]) none)]/\E.ι q (some p)=some (b0,n0))\/(p.1=xs.length/\E.ι r (some (0,p.2))=some (b0,n0)):=by
  intro p b0 n0 ee
  simp only[σ]at ee
  split at ee
  ·rename_i hlt
   rcases hx with⟨hxs,_,_⟩|⟨q,v1,m1,m2,m3,hd0⟩
   ·rw[hxs]at hlt;simp at hlt
   ·subst hd0;exact .inl ⟨hlt,q,v1,m1,m2,m3,rfl,by simpa[SO]using ee⟩
  ·split at ee
   ·rename_i _ hp;exact .inr ⟨hp,ee⟩
   ·cases ee
 have hblock:(∃q n,(q=base\/Kq q)/\E.ι q none=some (b',n)/\∀a ty'',w.heap[b']? =some (.cells a ty'' (0,0))->ty''=ty'/\arr'.size=a.size)\/w.heap.size<=b':=by
  rcases h12 with hf|⟨n,arr,k1,k2,k3,k4⟩
  ·exact .inr hf
  ·left
   rcases hx with⟨_,hv,_⟩|⟨q,v1,m1,m2,m3,hd⟩
   ·rw[hv]at k1;cases k1
   ·have m3':=m3
    rw[BG (AB m2)]at m3
    rcases JJ m3 with⟨_,hv⟩|⟨b,n0,a,arr0,ty0,e1,e2,e3,e4,e5,e6⟩
    ·rw[hv]at k1;cases k1
    ·rw[e1]at k1
     obtain⟨rfl,rfl⟩:a=⟨b',0,none⟩/\n0=n:=by simpa[Cont.len]using k1
     have:=e3 k2
     obtain rfl:b'=b:=by simpa using this
     exact⟨q,_,.inr (.inr ⟨v1,m2,hd,m3',m1⟩),e6,fun a' t' ha'=>(by rw[k3]at ha';have h9:arr=a'/\ty'=t':=(by simpa using ha');exact⟨h9.2.symm,by rw[k4,h9.1]⟩)⟩
 have hbroot:∀q κ n,E.ι q (some κ)≠some (b',n):=by
  intro q κ n ee
  rcases hblock with⟨q0,n0,_,k1,_⟩|k1
  ·have:=(H.heap.inj _ _ _ _ _ _ _ ee k1).2;cases this
  ·have:=H.heap.own_lt b' ⟨_,_,_,ee⟩;omega
 obtain⟨E',g1,g2,g3⟩:=LF H (r:=base) (ver:=0) (t:=u) (xs:=xs++[z]) (K:=Kq) hKb (h':=apD h δ) hδb hδK hδ h1 h9 (.inl hb) hblock h4 h5 h6 h7 h8 (by
  simp only[zJk,List.length_singleton];rw[hsz];exact Nat.le_trans (zJx _ h2) h3) σ
  (fun p b0 n0 ee=>by
    rcases hσ1 p b0 n0 ee with⟨_,q,v1,m1,m2,m3,m4,m5⟩|⟨_,m5⟩
    ·exact⟨q,some p,.inr (.inr ⟨v1,m2,m4,m3,m1⟩),m5,fun hbb=>by subst hbb;exact hbroot _ _ _ m5⟩
    ·exact⟨r,some (0,p.2),.inr (.inl rfl),m5,fun hbb=>by subst hbb;exact hbroot _ _ _ m5⟩)
  (fun p p' b0 n0 n1 ee ee'=>by
    obtain⟨p1,p2⟩:=p;obtain⟨p1',p2'⟩:=p'
    rcases hσ1 _ b0 n0 ee with⟨l1,q,v1,m1,m2,m3,m4,m5⟩|⟨l1,m5⟩<;>rcases hσ1 _ b0 n1 ee' with⟨l2,q',v1',m1',m2',m3',m4',m5'⟩|⟨l2,m5'⟩
    ·have:=(H.heap.inj _ _ _ _ _ _ _ m5 m5').2;simpa using this
    ·have:=(H.heap.inj _ _ _ _ _ _ _ m5 m5').1;exact absurd this m1
    ·have:=(H.heap.inj _ _ _ _ _ _ _ m5 m5').1;exact absurd this.symm m1'
    ·have:=(H.heap.inj _ _ _ _ _ _ _ m5 m5').2
     simp only[Option.some.injEq,Prod.mk.injEq,true_and]at this l1 l2 ⊢
     exact⟨by omega,this⟩)
  (fun i hi=>by
    have hi':i<xs.length+1:=by simpa using hi
    by_cases hlt:i<xs.length
    ·rcases hx with⟨hxs,_,_⟩|⟨q,v1,m1,m2,m3,hd⟩
     ·rw[hxs]at hlt;simp at hlt
     obtain⟨b,arr,ty0,t1,t2,t3,t4⟩:=Lp H.heap m2 (by omega)
     obtain⟨vs,k1,k2,k3⟩:=t4 i hlt
     refine⟨vs,?_,fun j hj=>?_⟩
     ·rw[List.getElem_append_left hlt]
      refine Ju.of (by rw[Dq,k1]) fun j hj1 hj2=>?_
      rw[zJj]
      have hh:SO δ=some q:=(by rw[hd];rfl)
      exact JD (by simp only[σ];rw[if_pos hlt,hh];rfl) (k3 j hj1 hj2 (by simp))
     ·have hle:i*u.size+u.size<=xs.length*u.size:=by rw[<-Nat.succ_mul];exact zJx _ hlt
      rw[BG (AB m2)]at m3
      rcases JJ m3 with⟨h0,_⟩|⟨b0,n0,a0,arr0,ty0,e1,e2,e3,e4,e5,e6⟩
      ·simp only[Cont.len]at h0;omega
      ·simp only[Cont.sz]at e6
       rw[t1]at e6;obtain rfl:b=b0:=by simpa using e6
       rw[t2]at e4;obtain⟨rfl,rfl⟩:arr=arr0/\_:=by simpa using e4
       rw[h10 _ (by rw[<-hsz];omega) b n0 a0 arr _ e1 e3 t2]
       exact k2 j hj
    ·have:i=xs.length:=by omega
     subst this
     refine⟨vz,?_,fun j hj=>?_⟩
     ·have:(xs++[z])[xs.length]'hi=z:=by simp
      rw[this]
      refine Ju.of (by rw[Dq,z1]) fun j hj1 hj2=>?_
      rw[zJj]
      exact JD (σ:=fun p=>E.ι r (some p)) (i:=0) (by simp only[σ];rw[if_neg (Nat.lt_irrefl _)];simp) (hsz0 j hj1 hj2 (by simp))
     ·have:=h11 j (by rw[<-hsz];omega)
      rw[<-hsz]at this
      rw[this]
      simpa using z4 j hj)
 refine⟨_,E',w',hrun,g1,g2,?_⟩
 simp only[Ag];rw[BG (AB hδb)]
 exact⟨by simp,.inr ⟨b',n',⟨b',0,none⟩,g3,by simp[Cont.len],by simpa[Cont.len]using h2,by simp,arr',ty',h1,by show(0:Nat)*u.size+n'*u.size<=_;rw[Nat.zero_mul,zJj,hsz];exact h3⟩⟩
end
end Go.Ab
end
section
namespace Go.Ab
open Go.RowKit
section
variable {P:Program}{C:Cfg}(HC:TabOK P C)
def A8u (P:Program)(t:TypeId)(ty:TypeId)(h:Am)(x y:AV)(v:AV)(δ:Bx):Prop:=
 ∀(F:Fr) (E:Env) (w:World) (p q:Value),Inv F E h w->Ag E h w x p->Ag E h w y q->∃val E' w',(Builtin.append_ #[t,t] ty #[p,q]).run P w=.ok val w'/\Inv F E' (apD h δ) w'/\Keep E h w E' (apD h δ) w'/\Ag E' (apD h δ) w' v val
theorem sI {R:Type}{t e:TypeId}{ie:TI}(hund:P.underlying t=some (.slice e))(hte:C6 P e ie)(ty:TypeId){hp:Am}{base:Nat}{u:Ty}(hsz:u.size=ie.size){x y:AV}{K:AV->Bx->Option R}{r:R}(e:A8r hp base ie.lim u x y K=some r):
 ∃v δ,K v δ=some r/\∀h,BM hp h->(∀j,j<2->h.getD (base+j) none=none)->A8u P t ty h x y v δ:=by
 have nil:∀(y:AV),(WU hp u y fun ys=>if ys.length<=ie.lim then K (.own base none none) [(base,.lst false u ys)]else none)=some r->∃v δ,K v δ=some r/\∀h,BM hp h->(∀j,j<2->h.getD (base+j) none=none)->A8u P t ty h .nils y v δ:=by
  intro y e
  obtain⟨ys,h1,hsrc⟩:=OS e
  split at h1
  case isFalse=>cases h1
  rename_i hlim
  refine⟨_,_,h1,fun h hs hfree F E w p q H hx hy=>?_⟩
  simp only[Ag]at hx;subst hx
  obtain⟨val,E',w',g1,g2,g3,g4⟩:=Agn H hund hte ty (hfree 0 (by omega)) hsz hlim (hsrc h hs E w H.heap q hy)
  exact⟨val,E',w',g1,g2,g3,g4⟩
 unfold A8r at e
 split at e
 ·split at e
  ·refine⟨_,_,e,fun h hs hfree F E w p q H hx hy=>?_⟩
   simp only[Ag]at hx hy;subst hx;subst hy
   exact⟨_,E,w,S4 hund hte (zQq _),H,Keep.refl E h w,by simp only[Ag]⟩
  ·rename_i rr
   split at e
   ·rename_i v2 u' z hcr
    split at e
    case isFalse=>cases e
    rename_i hc
    obtain⟨rfl,hlim⟩:=hc
    refine⟨_,_,e,fun h hs hfree F E w p q H hx hy=>?_⟩
    simp only[Ag]at hx hy;subst hx
    exact T6 H hund hte ty (xs:=[]) (K:=fun _=>True) (hs.lst hcr (by simp) (by simp)) (hfree 0 (by omega)) hsz (by simpa using hlim) hy (.inl ⟨rfl,rfl,rfl⟩)
   ·exact nil _ e
  ·exact nil _ e
 ·rename_i q0
  split at e
  ·rename_i u' xs hcq
   split at e
   case isFalse=>cases e
   rename_i hu;subst hu
   obtain⟨ys,h1,hsrc⟩:=OS e
   split at h1
   case isFalse=>cases h1
   rename_i hlim
   refine⟨_,_,h1,fun h hs hfree F E w p q H hx hy=>?_⟩
   simp only[Ag]at hx
   exact WL H hund hte ty (hs.lst hcq (by simp) (by simp)) (hfree 0 (by omega)) hsz hlim hx (hsrc h hs E w H.heap q hy)
  ·rename_i v1 u' xs hcq
   split at e
   case h_2=>cases e
   rename_i rr
   split at e
   case h_2=>cases e
   rename_i v2 u2 z hcr
   split at e
   case isFalse=>cases e
   rename_i hc
   obtain⟨rfl,hne⟩:=hc
   obtain⟨z',hz',hK⟩:=Bf e
   obtain⟨rfl,rfl⟩:=DA hz'
   split at hK
   case isFalse=>cases hK
   rename_i hlim
   refine⟨_,_,hK,fun h hs hfree F E w p q H hx hy=>?_⟩
   simp only[Ag]at hx hy
   exact T6 H hund hte ty (K:=fun _=>True) (hs.lst hcr (by simp) (by simp)) (hfree 0 (by omega)) hsz hlim hy (.inr ⟨q0,v1,Ne.symm hne,hs.lst hcq (by simp) (by simp),hx,rfl⟩)
  ·cases e
 ·rename_i q0 i k v0
  split at e
  case h_2=>cases e
  rename_i ver u' xs hcq
  split at e
  case isFalse=>cases e
  rename_i hv;subst hv
  obtain⟨x0,hx0,e3⟩:=Bf e
  obtain⟨hi,rfl⟩:=zQj.1 hx0
  split at e3
  case h_2=>cases e3
  rename_i u2 zs hk
  split at e3
  case isFalse=>cases e3
  rename_i hu;subst hu
  obtain⟨ys,h1,hsrc⟩:=OS e3
  split at h1
  case isFalse=>cases h1
  rename_i hlim
  refine⟨_,_,h1,fun h hs hfree F E w p q H hx hy=>?_⟩
  simp only[Ag]at hx
  have hf0:h.getD base none=none:=hfree 0 (by omega)
  obtain⟨E1,g1,g2,g3⟩:=qI H (hs.lst hcq (by simp) (by simp)) hi hk hf0
  have hb1:(setH (setH h q0 (.tree false (v0+1) u' xs (some (i,k)))) base (.lst false u2 zs)).getD (base+1) none=none:=by
   have hne:base+1≠q0:=by rintro rfl;have:=hfree 1 (by omega);rw[hs.lst hcq (by simp) (by simp)]at this;cases this
   rw[An,if_neg (by omega),An,if_neg hne];exact hfree 1 (by omega)
  have hsrc':OM w u2.size ys.length q (fun l vs=>∃hl:l<ys.length,Ak E1 (setH (setH h q0 (.tree false (v0+1) u' xs (some (i,k)))) base (.lst false u2 zs)) w (flat u2 ys[l]) vs):=by
   obtain⟨A,m',k1,k2,k3⟩:=hsrc h hs E w H.heap q hy
   refine⟨A,m',k1,k2,fun hne=>?_⟩
   obtain⟨b,o,cells,m1,m2,m3⟩:=k3 hne
   exact⟨b,o,cells,m1,m2,fun l hl=>by obtain⟨h3,h4⟩:=m3 l hl;exact⟨h3,Dn u2 ((JC u2 h4).mono g2.stab)⟩⟩
  obtain⟨val,E',w',k1,k2,k3,k4⟩:=WL g1 hund hte ty (base:=base+1) (by rw[An,if_pos rfl]) hb1 hsz hlim (g3 p hx) hsrc'
  exact⟨val,E',w',k1,k2,g2.trans k3,k4⟩
 ·cases e
include HC in
theorem dZ {R:Type}{base:Nat}{s:St}{o:Oper}{args:Array Operand}{ats:Array TypeId}{K:AV->Bx->Option R}{r:R}(ho:o.op=.call {callee:=.builtin .append,args:=args,argTypes:=ats})(h:Ls C base s o K=some r):∃v δ,K v δ=some r/\∀hp,BM s.h hp->(∀j,j<JS C o->hp.getD (base+j) none=none)->Ml P s.t hp o v δ:=by
 unfold Ls at h;simp only[ho]at h
 split at h
 case h_2=>cases h
 rename_i x y t u hargs hts
 split at h
 case isFalse=>cases h
 rename_i htu
 subst htu
 split at h
 case h_2=>cases h
 rename_i size e code zero lim hti
 obtain⟨_,d,_,hund,_,hu,_⟩:=HC.ti t _ hti
 simp only[Fl]at hu;subst hu
 split at h
 case h_2=>cases h
 rename_i ie hie
 have hte:=HC.ti e ie hie
 have ha:args=#[x,y]:=by rw[<-Array.toArray_toList (xs:=args),hargs]
 have ht':ats=#[t,t]:=by rw[<-Array.toArray_toList (xs:=ats),hts]
 have hxo:x∈o.op.operands:=by rw[ho];simp[Op.operands,Call.operands,ha]
 have hyo:y∈o.op.operands:=by rw[ho];simp[Op.operands,Call.operands,ha]
 have hexec:∀(a:Act) (w:World) (v:Value) (w':World),(Builtin.append_ #[t,t] o.type #[a.eval x,a.eval y]).run P w=.ok v w'->(execOp a.eval o).run P w=.ok (.value v) w':=by
  intro a w v w' hr
  simp only[execOp,ho,resolve,ha,ht',List.map_toArray,List.map_cons,List.map_nil,Sem.run_bind,Sem.run_pure,Result.andThen_ok,invoke,builtin]
  rw[hr];rfl
 unfold Ant at h
 split at h
 case h_2=>cases h
 rename_i ut hcode
 split at h
 case isFalse=>cases h
 rename_i husz
 obtain⟨δ,h1,h2⟩:=JX _ h
 obtain⟨v,δ',h3,h4⟩:=sI (P:=P) hund hte o.type husz h1
 refine⟨v,δ++δ',h3,fun hp hs hfree=>Ml.ghost (fun F E w H=>(h2 hp hs).2 F E w H) ?_ (KE _ _ _)⟩
 intro F E w a next Q hI hop hk
 obtain⟨val,E',w',g1,g2,g3,g4⟩:=h4 (apD hp δ) (hs.apD δ) (fun j hj=>(h2 hp hs).1 _ (hfree j (by simp only[JS,ho];exact hj))) F E w _ _ hI (hop x hxo) (hop y hyo)
 unfold Oper.wp
 rw[hexec a w val w' g1]
 exact hk val E' w' g2 g3 g4
end
end Go.Ab
end
section
namespace Go.Ab
structure RefMap (m:Nat)(hv hp:Am)(ρ:Ren)(ver:Nat->Nat)(E:Env)(h:Am)(w:World)(E':Env)(h':Am):Prop where
 own:∀q r,q<m->ρ.getD q none=some r->∀rg v,Cz E h w r none rg v->Cz E' h' w q none rg v
 ptr:∀q r,q<m->ρ.getD q none=some r->∀i off v,CY E h r none i off v->CY E' h' q none i off v
 nest:∀q r ve,q<m->ρ.getD q none=some r->LL hv r ve=true->∀i k j off v,CY E h r (some (i,k,ve)) j off v->CY E' h' q (some (i,k,ver q)) j off v
 nestO:∀q r ve,q<m->ρ.getD q none=some r->LL hv r ve=true->∀i k rg v,Cz E h w r (some (i,k,ve)) rg v->Cz E' h' w q (some (i,k,ver q)) rg v
 fresh:∀q,q<m->ρ.getD q none=none->Cz E' h' w q none none (.slice none 0 0)
 pack:PackOK hp E h w E'.I
theorem KQ {ρ:Ren}{q r:Nat}(h:rIs ρ q r=true):ρ.getD q none=some r:=by
 unfold rIs at h;split at h
 ·rename_i r' e;rw[e];simpa using h
 ·cases h
theorem Ze {R:Type}{hp:Am}{t:Ty}{v:AV}{K:den t->Option R}{z:R}(h:cW hp t v K=some z):∃x,K x=some z/\∀E h w E' h',PackOK hp E h w E'.I->∀u,Ag E h w v u->Ag E' h' w (up t x) u:=by
 unfold cW at h
 split at h
 ·rename_i ha
  split at h
  ·rename_i cs
   obtain⟨x,rest,h1,h2⟩:=(HU t).1 _ _ _ _ h
   split at h1
   ·rename_i he
    obtain rfl:rest=[]:=by simpa using he
    refine⟨x,h1,fun E h w E' h' p u hu=>?_⟩
    simp only[Ag]at hu
    obtain⟨vs,rfl,hu⟩:=hu
    obtain⟨us,ws,rfl,h3,h4⟩:=h2 E h w E'.I p vs hu
    simp only[Ak]at h4;subst h4
    exact Oe (by unfold R9 LN;rw[if_pos ha];exact⟨us,by simp,h3⟩)
   ·cases h1
  ·cases h
 ·rename_i ha
  obtain⟨x,rest,h1,h2⟩:=(HU t).1 _ _ _ _ h
  split at h1
  ·rename_i he
   obtain rfl:rest=[]:=by simpa using he
   refine⟨x,h1,fun E h w E' h' p u hu=>?_⟩
   obtain⟨us,ws,e,h3,h4⟩:=h2 E h w E'.I p [u] (Ak.cons hu Ak.nil)
   simp only[Ak]at h4;subst h4
   rw[List.append_nil]at e;subst e
   exact Oe (by unfold R9 LN;rw[if_neg ha];exact h3)
  ·cases h1
section
variable {R:Type}{m:Nat}{hv hp:Am}{ρ:Ren}{ver:Nat->Nat}
theorem KX {a b:Nat}(h:Nat.blt a b=true):a<b:=Nat.le_of_ble_eq_true h
theorem dz {q:Nat}{v:AV}(h:A6x m ρ q v=true){E:Env}{h0:Am}{w:World}{E':Env}{h':Am}(M:RefMap m hv hp ρ ver E h0 w E' h'){u:Value}(hu:Ag E h0 w v u):Ag E' h' w (.own q none none) u:=by
 unfold A6x at h
 rw[zJq]at h
 obtain⟨h1,h2⟩:=h
 have h1:=KX h1
 split at h2
 ·simp only[Ag]at hu ⊢;exact M.own q _ h1 (KQ h2) _ u hu
 ·simp only[Ag]at hu ⊢;subst hu;exact M.fresh q h1 (by simpa using h2)
 ·cases h2
theorem cU {q i off:Nat}{v:AV}(h:A5p m ρ q i off v=true){E:Env}{h0:Am}{w:World}{E':Env}{h':Am}(M:RefMap m hv hp ρ ver E h0 w E' h'){u:Value}(hu:Ag E h0 w v u):Ag E' h' w (.ptr q none i off) u:=by
 unfold A5p at h
 rw[zJq]at h
 obtain⟨h1,h2⟩:=h
 have h1:=KX h1
 split at h2
 ·rw[zJq,zJq]at h2
  obtain⟨⟨h3,h4⟩,h5⟩:=h2
  obtain rfl:=eq_of_beq h4
  obtain rfl:=eq_of_beq h5
  simp only[Ag]at hu ⊢;exact M.ptr q _ h1 (KQ h3) _ _ u hu
 ·cases h2
theorem Zc {q off:Nat}{v:AV}{K:Nat->Option R}{z:R}(h:cV m ρ q off v K=some z):∃i,K i=some z/\∀E h0 w E' h',RefMap m hv hp ρ ver E h0 w E' h'->∀u,Ag E h0 w v u->Ag E' h' w (.ptr q none i off) u:=by
 unfold cV at h
 split at h
 ·rename_i r i off'
  split at h
  ·rename_i hc
   rw[zJq,zJq]at hc
   obtain⟨⟨h1,h3⟩,h5⟩:=hc
   obtain rfl:=eq_of_beq h5
   refine⟨i,h,fun E h0 w E' h' M u hu=>?_⟩
   simp only[Ag]at hu ⊢;exact M.ptr q _ (KX h1) (KQ h3) _ _ u hu
  ·cases h
 ·cases h
theorem ZT {q k off:Nat}{v:AV}{K:Option (Nat×Nat)->Option R}{z:R}(h:dI m hv ρ q k off v K=some z):∃o,K o=some z/\∀E h0 w E' h',RefMap m hv hp ρ ver E h0 w E' h'->∀u,Ag E h0 w v u->Ag E' h' w (.mptr q k (ver q) off o) u:=by
 unfold dI at h
 split at h
 ·exact⟨none,h,fun E h0 w E' h' M u hu=>by simpa only[Ag]using hu⟩
 ·rename_i r k' ve off' o
  split at h
  ·rename_i hc
   rw[zJq,zJq,zJq,zJq]at hc
   obtain⟨⟨⟨⟨h1,h2⟩,h3⟩,h4⟩,h5⟩:=hc
   obtain rfl:=eq_of_beq h3
   obtain rfl:=eq_of_beq h4
   refine⟨o,h,fun E h0 w E' h' M u hu=>?_⟩
   cases o with
   |none=>simpa only[Ag]using hu
   |some p=>simp only[Ag]at hu ⊢;exact M.nest q _ _ (KX h1) (KQ h2) h5 _ _ _ _ _ hu
  ·cases h
 ·rename_i r i k' ve j off'
  split at h
  ·rename_i hc
   rw[zJq,zJq,zJq,zJq]at hc
   obtain⟨⟨⟨⟨h1,h2⟩,h3⟩,h4⟩,h5⟩:=hc
   obtain rfl:=eq_of_beq h3
   obtain rfl:=eq_of_beq h4
   refine⟨some (i,j),h,fun E h0 w E' h' M u hu=>?_⟩
   simp only[Ag]at hu ⊢;exact M.nest q _ _ (KX h1) (KQ h2) h5 _ _ _ _ _ hu
  ·cases h
 ·cases h
theorem ZQ {q k:Nat}{v:AV}{K:Nat->Option R}{z:R}(h:dG m hv ρ q k v K=some z):∃i,K i=some z/\∀E h0 w E' h',RefMap m hv hp ρ ver E h0 w E' h'->∀u,Ag E h0 w v u->Ag E' h' w (.own q (some (i,k,ver q)) none) u:=by
 unfold dG at h
 split at h
 ·rename_i r i k' ve
  split at h
  ·rename_i hc
   rw[zJq,zJq,zJq]at hc
   obtain⟨⟨⟨h1,h2⟩,h3⟩,h5⟩:=hc
   obtain rfl:=eq_of_beq h3
   refine⟨i,h,fun E h0 w E' h' M u hu=>?_⟩
   simp only[Ag]at hu ⊢;exact M.nestO q _ _ (KX h1) (KQ h2) h5 _ _ _ _ hu
  ·cases h
 ·cases h
theorem ZJ {q:Nat}{v:AV}{K:Nat×Nat->Option R}{z:R}(h:dA m ρ q v K=some z):∃p,K p=some z/\∀E h0 w E' h',RefMap m hv hp ρ ver E h0 w E' h'->∀u,Ag E h0 w v u->Ag E' h' w (.own q none (some p)) u:=by
 unfold dA at h
 split at h
 ·rename_i r p
  split at h
  ·rename_i hc
   rw[zJq]at hc
   refine⟨p,h,fun E h0 w E' h' M u hu=>?_⟩
   simp only[Ag]at hu ⊢;exact M.own q _ (KX hc.1) (KQ hc.2) _ u hu
  ·cases h
 ·cases h
theorem S3 {v c:AV}(h:OU v c=true){E:Env}{h0:Am}{w:World}{E':Env}{h':Am}{u:Value}(hu:Ag E h0 w v u):Ag E' h' w c u:=by
 unfold OU at h
 split at h
 ·simpa only[Ag]using hu
 ·simpa only[Ag]using hu
 ·simpa only[Ag]using hu
 ·simpa only[Ag]using hu
 ·obtain rfl:=eq_of_beq h;simpa only[Ag,Ak]using hu
 ·cases h
theorem TB (l:TmL):∀(vs:List AV) (r:Ty) (x:den r) (K:den (l.ty r)->Option R) (z:R),l.readK m hv hp ρ vs r x K=some z->
 ∃y,K y=some z/\(l.write id ver r y).2=x/\∀E h0 w E' h',RefMap m hv hp ρ ver E h0 w E' h'->∀us,Ak E h0 w vs us->Ak E' h' w (l.write id ver r y).1 us:=by
 induction l with
 |nil=>
  intro vs r x K z h
  unfold TmL.readK at h
  split at h
  ·exact⟨x,h,rfl,fun E h0 w E' h' M us hu=>by simp only[Ak]at hu;subst hu;exact Ak.nil⟩
  ·cases h
 |junk l ih=>
  intro vs r x K z h
  unfold TmL.readK at h
  split at h
  ·obtain⟨y,h1,h2,h3⟩:=ih _ r x K z h
   refine⟨y,h1,h2,fun E h0 w E' h' M us hu=>?_⟩
   simp only[Ak]at hu
   obtain⟨u,us,rfl,k1,k2⟩:=hu
   exact Ak.cons (by simp only[Ag]) (h3 E h0 w E' h' M us k2)
  ·cases h
 |slot t l ih=>
  intro vs r x K z h
  unfold TmL.readK at h
  split at h
  ·obtain⟨y,h1,h2,h3⟩:=ih _ r x _ z h
   obtain⟨a,h4,h5⟩:=Ze h1
   refine⟨(a,y),h4,h2,fun E h0 w E' h' M us hu=>?_⟩
   simp only[Ak]at hu
   obtain⟨u,us,rfl,k1,k2⟩:=hu
   exact Ak.cons (h5 E h0 w E' h' M.pack u k1) (h3 E h0 w E' h' M us k2)
  ·cases h
 |agg cs l ih1 ih2=>
  intro vs r x K z h
  unfold TmL.readK at h
  split at h
  ·obtain⟨y,h1,h2,h3⟩:=ih2 _ r x _ z h
   obtain⟨y2,h4,h5,h6⟩:=ih1 _ (l.ty r) y K z h1
   refine⟨y2,h4,?_,fun E h0 w E' h' M us hu=>?_⟩
   ·show(l.write id ver r (cs.write id ver (l.ty r) y2).2).2=x
    rw[h5];exact h2
   ·simp only[Ak]at hu
    obtain⟨u,us,rfl,k1,k2⟩:=hu
    simp only[Ag]at k1
    obtain⟨ws,rfl,k1⟩:=k1
    show Ak E' h' w (.agg (cs.write id ver (l.ty r) y2).1::(l.write id ver r (cs.write id ver (l.ty r) y2).2).1) _
    refine Ak.cons (by simp only[Ag];exact⟨ws,rfl,h6 E h0 w E' h' M ws k1⟩) ?_
    rw[h5];exact h3 E h0 w E' h' M us k2
  ·cases h
 |fn f cs l ih1 ih2=>
  intro vs r x K z h
  unfold TmL.readK at h
  split at h
  ·split at h
   ·rename_i hg;subst hg
    obtain⟨y,h1,h2,h3⟩:=ih2 _ r x _ z h
    obtain⟨y2,h4,h5,h6⟩:=ih1 _ (l.ty r) y K z h1
    refine⟨y2,h4,?_,fun E h0 w E' h' M us hu=>?_⟩
    ·show(l.write id ver r (cs.write id ver (l.ty r) y2).2).2=x
     rw[h5];exact h2
    ·simp only[Ak]at hu
     obtain⟨u,us,rfl,k1,k2⟩:=hu
     simp only[Ag]at k1
     obtain⟨ws,rfl,k1⟩:=k1
     show Ak E' h' w (.fn _ (cs.write id ver (l.ty r) y2).1::(l.write id ver r (cs.write id ver (l.ty r) y2).2).1) _
     refine Ak.cons (by simp only[Ag];exact⟨ws,rfl,h6 E h0 w E' h' M ws k1⟩) ?_
     rw[h5];exact h3 E h0 w E' h' M us k2
   ·cases h
  ·cases h
 |own q l ih=>
  intro vs r x K z h
  unfold TmL.readK at h
  split at h
  ·split at h
   ·rename_i hq
    obtain⟨y,h1,h2,h3⟩:=ih _ r x K z h
    refine⟨y,h1,h2,fun E h0 w E' h' M us hu=>?_⟩
    simp only[Ak]at hu
    obtain⟨u,us,rfl,k1,k2⟩:=hu
    exact Ak.cons (dz hq M k1) (h3 E h0 w E' h' M us k2)
   ·cases h
  ·cases h
 |ptr q i off l ih=>
  intro vs r x K z h
  unfold TmL.readK at h
  split at h
  ·split at h
   ·rename_i hq
    obtain⟨y,h1,h2,h3⟩:=ih _ r x K z h
    refine⟨y,h1,h2,fun E h0 w E' h' M us hu=>?_⟩
    simp only[Ak]at hu
    obtain⟨u,us,rfl,k1,k2⟩:=hu
    exact Ak.cons (cU hq M k1) (h3 E h0 w E' h' M us k2)
   ·cases h
  ·cases h
 |ptrI q off l ih=>
  intro vs r x K z h
  unfold TmL.readK at h
  split at h
  ·obtain⟨y,h1,h2,h3⟩:=ih _ r x _ z h
   obtain⟨i,h4,h5⟩:=Zc (hv:=hv) (hp:=hp) (ver:=ver) h1
   refine⟨(i,y),h4,h2,fun E h0 w E' h' M us hu=>?_⟩
   simp only[Ak]at hu
   obtain⟨u,us,rfl,k1,k2⟩:=hu
   exact Ak.cons (h5 E h0 w E' h' M u k1) (h3 E h0 w E' h' M us k2)
  ·cases h
 |mptr q k off l ih=>
  intro vs r x K z h
  unfold TmL.readK at h
  split at h
  ·obtain⟨y,h1,h2,h3⟩:=ih _ r x _ z h
   obtain⟨o,h4,h5⟩:=ZT (hp:=hp) (ver:=ver) h1
   refine⟨(o,y),h4,h2,fun E h0 w E' h' M us hu=>?_⟩
   simp only[Ak]at hu
   obtain⟨u,us,rfl,k1,k2⟩:=hu
   exact Ak.cons (h5 E h0 w E' h' M u k1) (h3 E h0 w E' h' M us k2)
  ·cases h
 |nown q k l ih=>
  intro vs r x K z h
  unfold TmL.readK at h
  split at h
  ·obtain⟨y,h1,h2,h3⟩:=ih _ r x _ z h
   obtain⟨i,h4,h5⟩:=ZQ (hp:=hp) (ver:=ver) h1
   refine⟨(i,y),h4,h2,fun E h0 w E' h' M us hu=>?_⟩
   simp only[Ak]at hu
   obtain⟨u,us,rfl,k1,k2⟩:=hu
   exact Ak.cons (h5 E h0 w E' h' M u k1) (h3 E h0 w E' h' M us k2)
  ·cases h
 |ownR q l ih=>
  intro vs r x K z h
  unfold TmL.readK at h
  split at h
  ·obtain⟨y,h1,h2,h3⟩:=ih _ r x _ z h
   obtain⟨p,h4,h5⟩:=ZJ (hv:=hv) (hp:=hp) (ver:=ver) h1
   refine⟨(p,y),h4,h2,fun E h0 w E' h' M us hu=>?_⟩
   simp only[Ak]at hu
   obtain⟨u,us,rfl,k1,k2⟩:=hu
   exact Ak.cons (h5 E h0 w E' h' M u k1) (h3 E h0 w E' h' M us k2)
  ·cases h
 |const c l ih=>
  intro vs r x K z h
  unfold TmL.readK at h
  split at h
  ·split at h
   ·rename_i hq
    obtain⟨y,h1,h2,h3⟩:=ih _ r x K z h
    refine⟨y,h1,h2,fun E h0 w E' h' M us hu=>?_⟩
    simp only[Ak]at hu
    obtain⟨u,us,rfl,k1,k2⟩:=hu
    exact Ak.cons (S3 hq k1) (h3 E h0 w E' h' M us k2)
   ·cases h
  ·cases h
def Mk (br:Bool)(n m:Nat)(hv hp:Am)(ρ:Ren)(ver:Nat->Nat)(q:Nat)(o:Option Cont):Prop:=
 o=some .dead\/(o=none/\q<n/\∃c,hv.getD q none=some c/\c≠.dead)\/
 (ρ.getD q none=none/\((∃ro t,o=some (.lst ro t []))\/∃ro t,o=some (.tree ro (ver q) t [] none)))\/
 ∃r,ρ.getD q none=some r/\
  ((∃ro ro' t xs,hv.getD r none=some (.lst ro' t xs)/\o=some (.lst ro t xs)/\X0 br ro ro'=true)\/
   (∃ro ro' v' t xs,hv.getD r none=some (.tree ro' v' t xs none)/\o=some (.tree ro (ver q) t xs none)/\X0 br ro ro'=true/\Rd n q ro' (ver q) v'=true)\/
   (∃k cs cs',hv.getD r none=some (.cells k [cs])/\o=some (.cells k [cs'])/\∀E h0 w E' h',RefMap m hv hp ρ ver E h0 w E' h'->∀us,Ak E h0 w cs us->Ak E' h' w cs' us))
theorem ba {br:Bool}{n:Nat}(l:TmH):∀(q0:Nat),(∀k,ver (q0+k)=l.ver k)->∀(K:den l.ty->Option R) (z:R),l.readK br n m hv hp ρ q0 K=some z->
 ∃y,K y=some z/\(l.write id ver q0 y).length=l.len/\∀k,k<l.len->Mk br n m hv hp ρ ver (q0+k) ((l.write id ver q0 y).getD k none):=by
 have tail:∀{l:TmH} {f:TmH->TmH} {q0:Nat},(∀k,ver (q0+k)=(f l).ver k)->(∀k,(f l).ver (k+1)=l.ver k)->∀k,ver (q0+1+k)=l.ver k:=by
  intro l f q0 h1 h2 k
  rw[<-h2,<-h1];congr 1;omega
 have ext:∀{l:TmH} {q0:Nat} {os:List (Option Cont)} {o:Option Cont},Mk br n m hv hp ρ ver q0 o->(∀k,k<l.len->Mk br n m hv hp ρ ver (q0+1+k) (os.getD k none))->∀k,k<l.len+1->Mk br n m hv hp ρ ver (q0+k) ((o::os).getD k none):=by
  intro l q0 os o h1 h2 k hk
  cases k with
  |zero=>exact h1
  |succ k=>
   have:=h2 k (by omega)
   rw[show q0+1+k=q0+(k+1) by omega]at this
   exact this
 induction l with
 |nil=>intro q0 hv0 K z h;exact⟨(),h,rfl,fun k hk=>absurd hk (Nat.not_lt_zero _)⟩
 |gone l ih=>
  intro q0 hv0 K z h
  obtain⟨y,h1,h2,h3⟩:=ih (q0+1) (tail (f:=.gone) hv0 (fun k=>rfl)) K z h
  exact⟨y,h1,congrArg (·+1) h2,ext (.inl rfl) h3⟩
 |kept l ih=>
  intro q0 hv0 K z h
  unfold TmH.readK at h
  split at h
  ·rename_i hq
   split at h
   ·cases h
   ·cases h
   ·rename_i c hne hc
    obtain⟨y,h1,h2,h3⟩:=ih (q0+1) (tail (f:=.kept) hv0 (fun k=>rfl)) K z h
    exact⟨y,h1,congrArg (·+1) h2,ext (.inr (.inl ⟨rfl,KX hq,c,hc,fun hd=>hne (by rw[hd])⟩)) h3⟩
  ·cases h
 |lst ro t l ih=>
  intro q0 hv0 K z h
  obtain⟨y,h1,h2,h3⟩:=ih (q0+1) (tail (f:=.lst ro t) hv0 (fun k=>rfl)) _ z h
  split at h1
  ·rename_i e
   exact⟨([],y),h1,congrArg (·+1) h2,ext (.inr (.inr (.inl ⟨e,.inl ⟨ro,t,rfl⟩⟩))) h3⟩
  ·rename_i r e
   split at h1
   ·rename_i ro' u xs hc
    split at h1
    ·rename_i hro
     obtain⟨xs',h4,h5⟩:=Bf h1
     obtain⟨e2,h6⟩:=DA h4
     obtain rfl:u=t:=by simpa using e2
     obtain rfl:xs'=xs:=by simpa using h6
     exact⟨(xs',y),h5,congrArg (·+1) h2,ext (.inr (.inr (.inr ⟨r,e,.inl ⟨ro,ro',u,xs',hc,rfl,hro⟩⟩))) h3⟩
    ·cases h1
   ·cases h1
 |tree ro v t l ih=>
  intro q0 hv0 K z h
  obtain⟨y,h1,h2,h3⟩:=ih (q0+1) (tail (f:=.tree ro v t) hv0 (fun k=>rfl)) _ z h
  have hv1:ver q0=v:=hv0 0
  split at h1
  ·rename_i e
   exact⟨([],y),h1,congrArg (·+1) h2,ext (.inr (.inr (.inl ⟨e,.inr ⟨ro,t,rfl⟩⟩))) h3⟩
  ·rename_i r e
   split at h1
   ·rename_i ro' v' u xs hc
    split at h1
    ·rename_i hro
     rw[zJq]at hro
     obtain⟨xs',h4,h5⟩:=Bf h1
     obtain⟨e2,h6⟩:=DA h4
     obtain rfl:u=t:=by simpa using e2
     obtain rfl:xs'=xs:=by simpa using h6
     exact⟨(xs',y),h5,congrArg (·+1) h2,ext (.inr (.inr (.inr ⟨r,e,.inr (.inl ⟨ro,ro',v',u,xs',hc,rfl,hro.1,by rw[hv1];exact hro.2⟩)⟩))) h3⟩
    ·cases h1
   ·cases h1
 |one t l ih=>
  intro q0 hv0 K z h
  obtain⟨y,h1,h2,h3⟩:=ih (q0+1) (tail (f:=.one t) hv0 (fun k=>rfl)) _ z h
  split at h1
  ·cases h1
  ·rename_i r e
   split at h1
   ·rename_i k cs hc
    split at h1
    ·rename_i hk;subst hk
     obtain⟨x,rest,h4,h5⟩:=(HU t).1 _ _ _ _ h1
     split at h4
     ·rename_i he
      obtain rfl:rest=[]:=by simpa using he
      refine⟨(x,y),h4,congrArg (·+1) h2,ext (.inr (.inr (.inr ⟨r,e,.inr (.inr ⟨t.size,cs,flat t x,hc,rfl,fun E h0 w E' h' M us hu=>?_⟩)⟩))) h3⟩
      obtain⟨vs,ws,rfl,k1,k2⟩:=h5 E h0 w E'.I M.pack us hu
      simp only[Ak]at k2;subst k2
      rw[List.append_nil];exact Dn t k1
     ·cases h4
    ·cases h1
   ·cases h1
 |cells k ms l ih=>
  intro q0 hv0 K z h
  obtain⟨y,h1,h2,h3⟩:=ih (q0+1) (tail (f:=.cells k ms) hv0 (fun k=>rfl)) _ z h
  split at h1
  ·cases h1
  ·rename_i r e
   split at h1
   ·rename_i k' cs hc
    split at h1
    ·rename_i hk;subst hk
     obtain⟨y2,h4,h5,h6⟩:=TB (ver:=ver) ms cs l.ty y K z h1
     have hw:(TmH.cells k' ms l).write id ver q0 y2=some (.cells k' [(ms.write id ver l.ty y2).1])::l.write id ver (q0+1) y:=by
      show some (Cont.cells k' [(ms.write id ver l.ty y2).1])::l.write id ver (q0+1) (ms.write id ver l.ty y2).2=_
      rw[h5]
     refine⟨y2,h4,by rw[hw];exact congrArg (·+1) h2,?_⟩
     rw[hw]
     exact ext (.inr (.inr (.inr ⟨r,e,.inr (.inr ⟨k',cs,_,hc,rfl,fun E h0 w E' h' M us hu=>h6 E h0 w E' h' M us hu⟩)⟩))) h3
    ·cases h1
   ·cases h1
end
end Go.Ab
end
section
namespace Go.Ab
theorem Rj:{l:List Nat}->Ka l=true->l.Nodup
 |[],_=>List.nodup_nil
 |a::l,h=>by
  unfold Ka at h
  rw[zJq]at h
  rw[List.nodup_cons]
  exact⟨by simpa using h.1,Rj h.2⟩
theorem Ua {ρ:Ren}{q r:Nat}(h:ρ.getD q none=some r):r∈JM ρ:=by
 induction ρ generalizing q with
 |nil=>simp at h
 |cons o ρ ih=>
  cases q with
  |zero=>simp at h;subst h;simp[JM]
  |succ q=>
   have:=ih (q:=q) (by simpa using h)
   cases o<;>simp[JM,this]
theorem R8 {ρ:Ren}(hn:(JM ρ).Nodup){q q' r:Nat}(h:ρ.getD q none=some r)(h':ρ.getD q' none=some r):q=q':=by
 induction ρ generalizing q q' with
 |nil=>simp at h
 |cons o ρ ih=>
  cases o with
  |none=>
   cases q with
   |zero=>simp at h
   |succ q=>cases q' with
    |zero=>simp at h'
    |succ q'=>exact congrArg (·+1) (ih hn (by simpa using h) (by simpa using h'))
  |some a=>
   simp only[JM,List.nodup_cons]at hn
   cases q with
   |zero=>
    simp at h;subst h
    cases q' with
    |zero=>rfl
    |succ q'=>exact absurd (Ua (by simpa using h')) hn.1
   |succ q=>cases q' with
    |zero=>simp at h';subst h';exact absurd (Ua (by simpa using h)) hn.1
    |succ q'=>exact congrArg (·+1) (ih hn.2 (by simpa using h) (by simpa using h'))
theorem U2 {ρ:Ren}:{n:Nat}->Afa ρ n=true->∀q,q<n->ρ.getD q none=some q
 |0,_,q,h=>absurd h (Nat.not_lt_zero _)
 |n+1,e,q,h=>by
  unfold Afa at e
  rw[zJq]at e
  by_cases hq:q=n
  ·subst hq;exact KQ e.1
  ·exact U2 e.2 q (by omega)
theorem IX {E E':Env}{h h':Am}{w:World}{r q:Nat}{s s':Sub}{c c':Cont}(h1:AC h r s=.on c)(h2:AC h' q s'=.on c')(hl:c'.len=c.len)(hs:c'.sz=c.sz)(hι:E'.ι q (key s')=E.ι r (key s)):
 (∀rg v,Cz E h w r s rg v->Cz E' h' w q s' rg v)/\∀i off v,CY E h r s i off v->CY E' h' q s' i off v:=by
 refine⟨fun rg v hv=>?_,fun i off v hv=>?_⟩
 ·rw[BG h1]at hv;rw[BG h2]
  unfold La at hv ⊢
  rw[hl,hs,hι];exact hv
 ·rw[JO h1]at hv;rw[JO h2]
  rw[hs,hι];exact hv
theorem OW {E E':Env}{h h':Am}{w:World}{r q:Nat}{s s':Sub}(h2:AC h' q s'=.off):
 (∀rg v,Cz E h w r s rg v->Cz E' h' w q s' rg v)/\∀i off v,CY E h r s i off v->CY E' h' q s' i off v:=by
 refine⟨fun rg v hv=>?_,fun i off v hv=>?_⟩
 ·unfold Cz at hv ⊢
  rw[h2]
  split at hv
  ·exact hv.elim
  ·exact hv
  ·exact hv.one
 ·unfold CY at hv ⊢
  rw[h2]
  split at hv
  ·exact hv.elim
  ·exact hv
  ·obtain⟨b,_,rfl⟩:=hv;exact⟨_,rfl⟩
def sM (br:Bool)(n m:Nat)(h hv hp:Am)(ρ:Ren)(ver:Nat->Nat)(q:Nat)(o:Cont):Prop:=
 o=.dead\/
 (ρ.getD q none=none/\((∃ro t,o=.lst ro t [])\/∃ro t,o=.tree ro (ver q) t [] none))\/
 ∃r,ρ.getD q none=some r/\
  ((∃ro ro' t xs,h.getD r none=some (.lst ro' t xs)/\o=.lst ro t xs/\X0 br ro ro'=true)\/
   (∃ro ro' v' t xs,h.getD r none=some (.tree ro' v' t xs none)/\o=.tree ro (ver q) t xs none/\X0 br ro ro'=true/\(∀v,LL hv r v=true->v=v')/\Rd n q ro' (ver q) v'=true)\/
   (∃k cs cs',h.getD r none=some (.cells k [cs])/\o=.cells k [cs']/\∀E h0 w E' h',RefMap m hv hp ρ ver E h0 w E' h'->∀us,Ak E h0 w cs us->Ak E' h' w cs' us))
theorem aA {hv h:Am}(hs:BM hv h){r v:Nat}(e:LL hv r v=true):∃ro t xs ho,h.getD r none=some (.tree ro v t xs ho):=by
 unfold LL at e
 split at e
 ·rename_i ro v' t xs ho hc
  obtain rfl:=eq_of_beq e
  exact⟨ro,t,xs,ho,hs.lst hc (by simp) (by simp)⟩
 ·cases e
theorem Mk.src {br:Bool}{n m:Nat}{h hv hp:Am}{ρ:Ren}{ver:Nat->Nat}{q:Nat}{o:Cont}(hs:BM hv h)(S:Mk br n m hv hp ρ ver q (some o)):sM br n m h hv hp ρ ver q o:=by
 rcases S with h1|⟨h1,_⟩|⟨h1,h2⟩|⟨r,h1,h2⟩
 ·exact .inl (by simpa using h1)
 ·cases h1
 ·exact .inr (.inl ⟨h1,h2.imp (fun⟨ro,t,e⟩=>⟨ro,t,by simpa using e⟩) (fun⟨ro,t,e⟩=>⟨ro,t,by simpa using e⟩)⟩)
 ·refine .inr (.inr ⟨r,h1,?_⟩)
  rcases h2 with⟨ro,ro',t,xs,h3,h4,h5⟩|⟨ro,ro',v',t,xs,h3,h4,h5,h6⟩|⟨k,cs,cs',h3,h4,h5⟩
  ·exact .inl ⟨ro,ro',t,xs,hs.lst h3 (by simp) (by simp),by simpa using h4,h5⟩
  ·refine .inr (.inl ⟨ro,ro',v',t,xs,hs.lst h3 (by simp) (by simp),by simpa using h4,h5,fun v hv1=>?_,h6⟩)
   unfold LL at hv1;rw[h3]at hv1;exact(eq_of_beq hv1).symm
  ·exact .inr (.inr ⟨k,cs,cs',hs.lst h3 (by simp) (by simp),by simpa using h4,h5⟩)
section
variable {br:Bool}{n m:Nat}{h hv hp h':Am}{ρ:Ren}{ver:Nat->Nat}{E:Env}{w:World}{J:Nat->Prop}
def rj (h:Am)(q:Nat):Bool:=match h.getD q none with
 |none=>false
 |some .dead=>false
 |_=>true
def Env.ren (E:Env)(h':Am)(ρ:Ren)(J:Nat->Prop):Env:=⟨fun q κ=>if rj h' q=true then(match ρ.getD q none with|some r=>E.ι r κ|none=>none)else none,J⟩
theorem ren_ι {q:Nat}{κ:Option (Nat×Nat)}{x:Nat×Nat}(e:(E.ren h' ρ J).ι q κ=some x):∃r,ρ.getD q none=some r/\E.ι r κ=some x/\∃c,h'.getD q none=some c/\c≠.dead:=by
 simp only[Env.ren]at e
 split at e
 ·rename_i ha
  split at e
  ·rename_i r hr
   refine⟨r,hr,e,?_⟩
   unfold rj at ha
   split at ha
   ·cases ha
   ·cases ha
   ·rename_i h1 h2
    cases hc:h'.getD q none with
    |none=>exact absurd hc h1
    |some c=>exact⟨c,rfl,fun hd=>h2 (by rw[hc,hd])⟩
  ·cases e
 ·cases e
theorem ren_ι' {q r:Nat}{κ:Option (Nat×Nat)}(hr:ρ.getD q none=some r){c:Cont}(hc:h'.getD q none=some c)(hd:c≠.dead):(E.ren h' ρ J).ι q κ=E.ι r κ:=by
 have:rj h' q=true:=by
  unfold rj;rw[hc]
  cases c<;>first|rfl|exact absurd rfl hd
 simp only[Env.ren,this,if_true,hr]
theorem Ug (hs:BM hv h)(H:∀q,q<m->∃c,h'.getD q none=some c/\sM br n m h hv hp ρ ver q c)(hpk:PackOK hp E h w J):RefMap m hv hp ρ ver E h w (E.ren h' ρ J) h':=by
 have root:∀q r,q<m->ρ.getD q none=some r->(∀rg v,Cz E h w r none rg v->Cz (E.ren h' ρ J) h' w q none rg v)/\∀i off v,CY E h r none i off v->CY (E.ren h' ρ J) h' q none i off v:=by
  intro q r hq hr
  obtain⟨c,hc,h1⟩:=H q hq
  rcases h1 with rfl|⟨h2,_⟩|⟨r',h2,h3⟩
  ·exact OW (by simp only[AC,hc])
  ·rw[hr]at h2;cases h2
  ·rw[hr]at h2;obtain rfl:r=r':=by simpa using h2
   rcases h3 with⟨ro,ro',t,xs,h4,rfl,_⟩|⟨ro,ro',v',t,xs,h4,rfl,_⟩|⟨k,cs,cs',h4,rfl,_⟩
   ·exact IX (Av h4 (by simp)) (Av hc (by simp)) rfl rfl (ren_ι' hr hc (by simp))
   ·exact IX (Av h4 (by simp)) (Av hc (by simp)) rfl rfl (ren_ι' hr hc (by simp))
   ·exact IX (Av h4 (by simp)) (Av hc (by simp)) rfl rfl (ren_ι' hr hc (by simp))
 have nest:∀q r ve,q<m->ρ.getD q none=some r->LL hv r ve=true->∀i k,(∀rg v,Cz E h w r (some (i,k,ve)) rg v->Cz (E.ren h' ρ J) h' w q (some (i,k,ver q)) rg v)/\∀j off v,CY E h r (some (i,k,ve)) j off v->CY (E.ren h' ρ J) h' q (some (i,k,ver q)) j off v:=by
  intro q r ve hq hr hcv i k
  obtain⟨c,hc,h1⟩:=H q hq
  obtain⟨ro0,t0,xs0,ho0,hv0⟩:=aA hs hcv
  rcases h1 with rfl|⟨h2,_⟩|⟨r',h2,h3⟩
  ·exact OW (r:=r) (s:=some (i,k,ve)) (E:=E) (h:=h) (w:=w) (by simp only[AC,hc])
  ·rw[hr]at h2;cases h2
  ·rw[hr]at h2;obtain rfl:r=r':=by simpa using h2
   rcases h3 with⟨ro,ro',t,xs,h4,rfl,_⟩|⟨ro,ro',v',t,xs,h4,rfl,_,h6,_⟩|⟨k,cs,cs',h4,rfl,_⟩
   ·rw[hv0]at h4;cases h4
   ·obtain rfl:=h6 ve hcv
    have e1:AC h r (some (i,k,ve))=match C0 ro' t xs i k with|some c=>.on c|none=>.no:=by
     rw[AD h4,if_neg (Nat.lt_irrefl _),if_neg (by simp)]<;>rfl
    have e2:AC h' q (some (i,k,ver q))=match C0 ro t xs i k with|some c=>.on c|none=>.no:=by
     rw[AD hc,if_neg (Nat.lt_irrefl _),if_neg (by simp)]<;>rfl
    cases hn:C0 ro' t xs i k with
    |none=>
     rw[hn]at e1
     exact⟨fun rg v hv1=>by unfold Cz at hv1;rw[e1]at hv1;exact hv1.elim,fun j off v hv1=>by unfold CY at hv1;rw[e1]at hv1;exact hv1.elim⟩
    |some c=>
     obtain⟨u,ys,rfl,hn2⟩:=JW (ro':=ro) hn
     rw[hn]at e1;rw[hn2]at e2
     exact IX (w:=w) e1 e2 rfl rfl (ren_ι' hr hc (by simp))
   ·rw[hv0]at h4;cases h4
 refine⟨fun q r hq hr=>(root q r hq hr).1,fun q r hq hr=>(root q r hq hr).2,fun q r ve hq hr hcv i k=>(nest q r ve hq hr hcv i k).2,fun q r ve hq hr hcv i k=>(nest q r ve hq hr hcv i k).1,fun q hq hr=>?_,hpk⟩
 ·obtain⟨c,hc,h1⟩:=H q hq
  rcases h1 with rfl|⟨h2,h3⟩|⟨r',h2,h3⟩
  ·unfold Cz;simp only[AC,hc];rfl
  ·rcases h3 with⟨ro,t,rfl⟩|⟨ro,t,rfl⟩
   ·rw[BG (Av hc (by simp))];exact⟨by simp[Cont.len],.inl ⟨rfl,rfl⟩⟩
   ·rw[BG (Av hc (by simp))];exact⟨by simp[Cont.len],.inl ⟨rfl,rfl⟩⟩
  ·rw[hr]at h2;cases h2
theorem Tz {E':Env}{r q v' v'' i:Nat}{t:Ty}(hI:∀b,E.I b->E'.I b)(ho:∀k rg v,Cz E h w r (some (i,k,v')) rg v->Cz E' h' w q (some (i,k,v'')) rg v):(cs:List AV)->(∀c∈cs,∃u y,c=.pv u y)->(k:Nat)->(vs:List Value)->Ak E h w (CB r v' none i k cs) vs->Ak E' h' w (CB q v'' none i k cs) vs
 |[],_,k,vs,h1=>by simpa only[CB,Ak]using h1
 |c::cs,hc,k,vs,h1=>by
  obtain⟨u,y,rfl⟩:=hc c (by simp)
  have ih:=Tz (t:=t) hI ho cs (fun c hm=>hc c (by simp[hm])) (k+1)
  have hst:Tj E.I w E'.I w:=fun b hb=>⟨hI b hb,rfl⟩
  cases u<;>simp only[CB,Ak,reduceCtorEq,if_false]at h1 ⊢
  case slice u=>
   obtain⟨v,us,rfl,h2,h3⟩:=h1
   exact⟨v,us,rfl,by simp only[Ag]at h2 ⊢;exact ho k _ v h2,ih us h3⟩
  all_goals
   obtain⟨v,us,rfl,h2,h3⟩:=h1
   exact⟨v,us,rfl,by simp only[Ag]at h2 ⊢;exact h2.mono hst,ih us h3⟩
theorem TV {E':Env}{r q v' v'':Nat}{ro ro':Bool}{t:Ty}{xs:List (den t)}(h1:h.getD r none=some (.tree ro' v' t xs none))(h2:h'.getD q none=some (.tree ro v'' t xs none))(hι:∀κ,E'.ι q κ=E.ι r κ)(i k:Nat):
 ∀rg v,Cz E h w r (some (i,k,v')) rg v->Cz E' h' w q (some (i,k,v'')) rg v:=by
 intro rg v hv
 have e1:AC h r (some (i,k,v'))=match C0 ro' t xs i k with|some c=>.on c|none=>.no:=by
  rw[AD h1,if_neg (Nat.lt_irrefl _),if_neg (by simp)]<;>rfl
 have e2:AC h' q (some (i,k,v''))=match C0 ro t xs i k with|some c=>.on c|none=>.no:=by
  rw[AD h2,if_neg (Nat.lt_irrefl _),if_neg (by simp)]<;>rfl
 cases hn:C0 ro' t xs i k with
 |none=>rw[hn]at e1;unfold Cz at hv;rw[e1]at hv;exact hv.elim
 |some c=>
  obtain⟨u,ys,rfl,hn2⟩:=JW (ro':=ro) hn
  rw[hn]at e1;rw[hn2]at e2
  exact(IX (w:=w) e1 e2 rfl rfl (hι _)).1 rg v hv
theorem X6 (hs:BM hv h)(H:∀q,q<m->∃c,h'.getD q none=some c/\sM br n m h hv hp ρ ver q c)(H2:∀q,m<=q->h'.getD q none=none)(hpk:PackOK hp E h w J){q:Nat}{s:Sub}{c:Cont}(e:AC h' q s=.on c):
 (c.len=0/\ρ.getD q none=none)\/∃r s0 c0,ρ.getD q none=some r/\AC h r s0=.on c0/\key s0=key s/\c.len=c0.len/\c.sz=c0.sz/\∀i cs,c0.at? r i=some cs->∃cs',c.at? q i=some cs'/\∀vs,Ak E h w cs vs->Ak (E.ren h' ρ J) h' w cs' vs:=by
 have M:=Ug hs H hpk
 have hst:Tj E.I w J w:=fun b hb=>⟨hpk.I b hb,rfl⟩
 have hq:q<m:=by
  rcases Nat.lt_or_ge q m with h1|h1
  ·exact h1
  ·exfalso;have:=H2 q h1
   cases s<;>simp only[AC,this]at e<;>cases e
 obtain⟨c1,hc,h1⟩:=H q hq
 have pure:∀(t:Ty) (x:den t) vs,Ak E h w (flat t x) vs->Ak (E.ren h' ρ J) h' w (flat t x) vs:=fun t x vs hv=>Dn (E:=E.ren h' ρ J) t ((JC t hv).mono hst)
 rcases h1 with rfl|⟨h2,h3⟩|⟨r,h2,h3⟩
 ·exfalso;cases s<;>simp only[AC,hc]at e<;>cases e
 ·left
  refine⟨?_,h2⟩
  rcases h3 with⟨ro,t,rfl⟩|⟨ro,t,rfl⟩
  ·cases s with
   |none=>simp only[AC,hc,RefSt.on.injEq]at e;subst e;rfl
   |some p=>simp only[AC,hc]at e;cases e
  ·cases s with
   |none=>rw[AB hc,RefSt.on.injEq]at e;subst e;rfl
   |some p=>
    obtain⟨i,k,v⟩:=p
    obtain⟨_,_,hn⟩:=DB hc e
    obtain⟨_,_,_,hi,_⟩:=HV hn
    simp at hi
 ·right
  rcases h3 with⟨ro,ro',t,xs,h4,rfl,_⟩|⟨ro,ro',v',t,xs,h4,rfl,_⟩|⟨k,cs,cs',h4,rfl,h5⟩
  ·cases s with
   |none=>
    simp only[AC,hc,RefSt.on.injEq]at e;subst e
    refine⟨r,none,_,h2,Av h4 (by simp),rfl,rfl,rfl,fun i cs hcs=>?_⟩
    obtain⟨hi,rfl⟩:=I8 hcs
    exact⟨flat t xs[i],by simp[Cont.at?,hi],pure t _⟩
   |some p=>simp only[AC,hc]at e;cases e
  ·have hι:=fun κ=>ren_ι' (E:=E) (J:=J) (κ:=κ) h2 hc (by simp)
   cases s with
   |none=>
    rw[AB hc,RefSt.on.injEq]at e;subst e
    refine⟨r,none,_,h2,AB h4,rfl,rfl,rfl,fun i cs hcs=>?_⟩
    obtain⟨hi,rfl⟩:=KN hcs
    refine⟨_,by simp[Cont.at?,hi];rfl,fun vs hv=>?_⟩
    exact Tz (t:=t) hpk.I (fun k=>TV h4 hc hι i k) _ (KK t xs[i]) 0 vs hv
   |some p=>
    obtain⟨i,k,v⟩:=p
    obtain⟨rfl,_,hn⟩:=DB hc e
    obtain⟨u,ys,rfl,hn2⟩:=JW (ro':=ro') hn
    refine⟨r,some (i,k,v'),.lst ro' u ys,h2,by rw[AD h4,if_neg (Nat.lt_irrefl _),if_neg (by simp),hn2],rfl,rfl,rfl,fun i cs hcs=>?_⟩
    obtain⟨hi,rfl⟩:=I8 hcs
    exact⟨flat u ys[i],by simp[Cont.at?,hi],pure u _⟩
  ·cases s with
   |none=>
    simp only[AC,hc,RefSt.on.injEq]at e;subst e
    refine⟨r,none,_,h2,Av h4 (by simp),rfl,rfl,rfl,fun i cs1 hcs=>?_⟩
    simp only[Cont.at?]at hcs
    obtain⟨hi,rfl⟩:=zQj.1 hcs
    obtain rfl:i=0:=by simpa using hi
    exact⟨cs',rfl,fun vs hv=>h5 E h w _ _ M vs hv⟩
   |some p=>simp only[AC,hc]at e;cases e
theorem X7 (HK:HeapOK E h w)(hs:BM hv h)(H:∀q,q<m->∃c,h'.getD q none=some c/\sM br n m h hv hp ρ ver q c)(H2:∀q,m<=q->h'.getD q none=none)(hpk:PackOK hp E h w J)(hnd:(JM ρ).Nodup)
 (hJlt:∀b,J b->b<w.heap.size)(hJap:∀q r κ b n,ρ.getD q none=some r->DV h' q=false->(∃c,h'.getD q none=some c/\c≠.dead)->E.ι r κ=some (b,n)->¬J b)(hJro:∀q r κ b n,ρ.getD q none=some r->DV h' q=true->E.ι r κ=some (b,n)->J b):HeapOK (E.ren h' ρ J) h' w where
 obj:=fun q s c e=>by
  rcases X6 hs H H2 hpk e with⟨h1,_⟩|⟨r,s0,c0,h1,h2,h3,h4,h5,h6⟩
  ·exact .inl h1
  ·rcases HK.obj r s0 c0 h2 with h7|⟨b,arr,ty,k1,k2,k3,k4⟩
   ·exact .inl (h4.trans h7)
   ·right
    have hal:∃c,h'.getD q none=some c/\c≠.dead:=by
     cases hc:h'.getD q none with
     |none=>cases s<;>simp only[AC,hc]at e<;>cases e
     |some c'=>exact⟨c',rfl,fun hd=>by subst hd;cases s<;>simp only[AC,hc]at e<;>cases e⟩
    obtain⟨c',hc,hd⟩:=hal
    refine⟨b,arr,ty,by rw[ren_ι' h1 hc hd,<-h3,h5];exact k1,k2,by rw[h4,h5];exact k3,fun i hi=>?_⟩
    obtain⟨cs,vs,m1,m2,m3,m4⟩:=k4 i (by omega)
    obtain⟨cs',m5,m6⟩:=h6 i cs m1
    exact⟨cs',vs,m5,by rw[h5];exact m2,m6 vs m3,by rw[h5];exact m4⟩
 siz:=fun q s c b n e h0=>by
  obtain⟨r,h1,h2,_⟩:=ren_ι h0
  rcases X6 hs H H2 hpk e with⟨_,h3⟩|⟨r',s0,c0,h3,h4,h5,h6,h7,h8⟩
  ·rw[h1]at h3;cases h3
  ·rw[h1]at h3;obtain rfl:r=r':=by simpa using h3
   rw[h7];exact HK.siz r s0 c0 b n h4 (by rw[h5];exact h2)
 inj:=fun q κ q' κ' b n n' h1 h2=>by
  obtain⟨r,k1,k2,_⟩:=ren_ι h1
  obtain⟨r',k3,k4,_⟩:=ren_ι h2
  obtain⟨rfl,rfl⟩:=HK.inj _ _ _ _ _ _ _ k2 k4
  exact⟨R8 hnd k1 k3,rfl⟩
 live:=fun q κ x h1=>let⟨_,_,_,h2⟩:=ren_ι h1;h2
 I_lt:=hJlt
 own_lt:=fun b ⟨q,κ,n,h1⟩=>let⟨r,_,h2,_⟩:=ren_ι h1;HK.own_lt b ⟨r,κ,n,h2⟩
 apart:=fun q κ b n h1 h2=>let⟨r,h3,h4,h5⟩:=ren_ι h1;hJap q r κ b n h3 h2 h5 h4
 roI:=fun q κ b n h1 h2=>let⟨r,h3,h4,_⟩:=ren_ι h1;hJro q r κ b n h3 h2 h4
end
end Go.Ab
end
