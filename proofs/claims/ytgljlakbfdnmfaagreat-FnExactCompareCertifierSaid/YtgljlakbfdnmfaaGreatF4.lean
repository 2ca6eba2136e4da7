import Derived.Test.YtgljlakbfdnmfaaGreatF3
import Derived.Laws.BitsLemmas
import Derived.Shelf.Spec.SlicesInsertGrow
import Derived.Shelf.SlGeneric
import Derived.Shelf.SlSortCmp.NoneTotal
import Derived.Maps.OwnSet
import Derived.Maps.Views
import Derived.WalkKit
set_option linter.all false
open Go.IntKind renaming i64->zXq
open Nat renaming zero_add->zJj,mul_le_mul_right->zJx
open List renaming getElem_of_mem->zJz,getElem?_eq_some_iff->zQj
section
namespace Go.Ab
theorem Q0 {σ ρ:Type}{B:σ->Option (σ ⊕ ρ)}{r:ρ}:∀{n m:Nat} {s:σ},n<=m->Kr B n s=some r->Kr B m s=some r
 |0,_,s,_,h=>by simp[Kr]at h
 |n+1,m,s,hm,h=>by
  obtain⟨m,rfl⟩:∃k,m=k+1:=⟨m-1,by omega⟩
  unfold Kr at h ⊢
  obtain⟨q,h1,h2⟩:=Bf h
  rw[h1]
  cases q with
  |inl s'=>exact Q0 (n:=n) (by omega) h2
  |inr r'=>exact h2
theorem qH {σ ρ:Type}{B:σ->Option (σ ⊕ ρ)}{s:σ}{r:ρ}{n:Nat}(h:Kr B n s=some r):Au B s=some r:=by
 have hex:∃n,(Kr B n s).isSome:=⟨n,by rw[h];rfl⟩
 unfold Au
 rw[dif_pos hex]
 have h1:=Classical.choose_spec hex
 obtain⟨r',h2⟩:=Option.isSome_iff_exists.1 h1
 rw[h2]
 rw[<-Q0 (m:=max n (Classical.choose hex)) (by omega) h,<-Q0 (m:=max n (Classical.choose hex)) (by omega) h2]
theorem ag {σ ρ:Type}{B:σ->Option (σ ⊕ ρ)}{s:σ}{r:ρ}:Au B s=some r↔∃n,Kr B n s=some r:=⟨U0,fun⟨_,h⟩=>qH h⟩
theorem AF {σ ρ:Type}(B:σ->Option (σ ⊕ ρ))(s:σ):Au B s=(B s).bind fun r=>match r with| .inl s'=>Au B s'| .inr r=>some r:=by
 apply Option.ext
 intro r
 rw[ag]
 constructor
 ·rintro⟨n,h⟩
  cases n with
  |zero=>simp[Kr]at h
  |succ n=>
   unfold Kr at h
   obtain⟨q,h1,h2⟩:=Bf h
   rw[h1]
   cases q with
   |inl s'=>exact qH h2
   |inr r'=>exact h2
 ·intro h
  obtain⟨q,h1,h2⟩:=Bf h
  cases q with
  |inl s'=>
   obtain⟨n,h3⟩:=ag.1 h2
   exact⟨n+1,by unfold Kr;rw[h1];exact h3⟩
  |inr r'=>exact⟨1,by unfold Kr;rw[h1];exact h2⟩
def Ap {α β:Type}{R:Sort _}(p:α ⊕ β)(f:α->R)(g:β->R):R:=match p with| .inl a=>f a| .inr b=>g b
section
variable {R R':Type}{K:R'->Option R}
theorem ZS:(none:Option R)=(none:Option R').bind K:=rfl
theorem Aa {x:R'}:K x=(some x).bind K:=rfl
theorem Ad {c:Bool}{a b:Option R}{a' b':Option R'}(h1:a=a'.bind K)(h2:b=b'.bind K):(bif c then a else b)=(bif c then a' else b').bind K:=by cases c<;>assumption
theorem Ar {c:Prop}[Decidable c]{a:Option R}{a':Option R'}(h1:a=a'.bind K):(if c then a else none)=(if c then a' else none).bind K:=by by_cases h:c<;>simp[h,h1]
theorem Ac {α:Type}{x:Option α}{F:α->Option R}{G:α->Option R'}(h:∀v,F v=(G v).bind K):x.bind F=(x.bind G).bind K:=by cases x with|none=>rfl|some v=>exact h v
theorem KH {α β:Type}{p:α ⊕ β}{f:α->Option R}{g:β->Option R}{f':α->Option R'}{g':β->Option R'}(h1:∀a,f a=(f' a).bind K)(h2:∀b,g b=(g' b).bind K):Ap p f g=(Ap p f' g').bind K:=by
 cases p with|inl a=>exact h1 a|inr b=>exact h2 b
end
theorem all_nil {α:Type _}{p:α->Prop}:∀x∈([]:List α),p x:=fun x h=>by cases h
theorem all_cons {α:Type _}{p:α->Prop}{a:α}{l:List α}(h1:p a)(h2:∀x∈l,p x):∀x∈a::l,p x:=fun x h=>by
 rcases List.mem_cons.1 h with rfl|h
 ·exact h1
 ·exact h2 x h
theorem Af7 {P:Program}{C:Cfg}(h:∀p∈C.ti,C6 P p.1 p.2):∀t i,C.info t=some i->C6 P t i:=by
 intro t i hi
 unfold Cfg.info at hi
 simp only[Option.map_eq_some_iff]at hi
 obtain⟨p,h1,rfl⟩:=hi
 have h2:=List.mem_of_find?_eq_some h1
 have h3:=List.find?_some h1
 obtain rfl:p.1=t:=by simpa using h3
 exact h p h2
theorem sf {α:Type _}{o:Option α}{a:α}{p:α->Prop}(h:o=some a)(ha:p a):∀F,o=some F->p F:=fun F hF=>by
 rw[h]at hF
 obtain rfl:a=F:=by simpa using hF
 exact ha
def OK (f:Func):Code:=f.body.getD .skip
theorem TY {l:List Code}{p:Code->Prop}(n:Nat)(hn:l.length=n)(h:∀k,k<n->p (l.getD k .skip)):∀b∈l,p b:=by
 intro b hb
 obtain⟨k,hk,rfl⟩:=zJz hb
 have:=h k (by omega)
 rwa [List.getD_eq_getElem?_getD,List.getElem?_eq_getElem hk]at this
def lpc (f:Func)(k:Nat):Code:=(EV (OK f)).getD k .skip
def AN (P:Program)(C:Cfg)(b:Code):Prop:=∀F,(C.ann.find? fun x=>x.1==KL b).map (·.2)=some F->ej P C.lent b F
def AW {ι ν π:Type}(D:ι->ν->(R:Type)->((ν ⊕ π)->Option R)->Option R):Prop:=∀i v (R:Type) (K:(ν ⊕ π)->Option R),D i v R K=(D i v _ some).bind K
noncomputable def Ao {ι ν π:Type}(T:Tmpl)(n:Nat)(sp:den T.ty->ι×ν)(D:ι->ν->(R:Type)->((ν ⊕ π)->Option R)->Option R)(E:ι->π->(R:Type)->(Ex->St->Option R)->Option R):ek:=
 fun s R K=>T.readS n s fun x=>(Au (fun v=>D (sp x).1 v _ some) (sp x).2).bind fun p=>E (sp x).1 p R K
theorem A7c {P:Program}{C:Cfg}{a b:Code}(h:a=b)(ha:AN P C a):AN P C b:=h▸ha
theorem A7b {P:Program}{C:Cfg}(HC:CfgOK P C){f:Func}{k m:Nat}{T:Tmpl}{ι ν π:Type}{sp:den T.ty->ι×ν}{D:ι->ν->(R:Type)->((ν ⊕ π)->Option R)->Option R}{E:ι->π->(R:Type)->(Ex->St->Option R)->Option R}
 (hF:(C.ann.find? fun x=>x.1==KL (lpc f k)).map (·.2)=some (Ao T C.lent sp D E))(hm:(EV (lpc f k)).length=m)(hsub:∀q,q<m->AN P C ((EV (lpc f k)).getD q .skip))(live:List Nat)
 (mk:ι->ν->den T.ty)(hsp:∀x,mk (sp x).1 (sp x).2=x)(hD:AW D)(kk:ι->π->Ex×St)(hFK:∀i p R K,E i p R K=K (kk i p).1 (kk i p).2)
 (hbody:∀i v,Kk C (lpc f k) (T.write (mk i v)) (Qr T C.lent live)=D i v _ fun r=>some (Sum.map (mk i) (kk i) r)):AN P C (lpc f k):=
 sf hF (Af2 HC (TY m hm hsub) T live mk sp hsp D hD E kk hFK hbody)
theorem Aiz {P:Program}{C:Cfg}(h:∀p∈C.ti,C6 P p.1 p.2)(hw:P.follows .mixedOrders=true)(he:∀e∈C.ents,Aj P e):CfgOK P C:=⟨⟨Af7 h⟩,he,hw⟩
def jn (n:Nat)(l:List AV):List AV:=match n with|0=>l|n+1=>.junk::jn n l
def jk (n:Nat)(l:TmL):TmL:=match n with|0=>l|n+1=>.junk (jk n l)
theorem dX {P:Program}{C:Cfg}{fn:Func}(hb:fn.body.isNone=false)(h:Ph P C (OK fn)):∀c,fn.body=some c->Ph P C c:=by
 intro c hc
 have:OK fn=c:=by unfold OK;rw[hc];rfl
 rwa [this]at h
theorem ME {P:Program}{C:Cfg}(HC:CfgOK P C){f:FuncId}{fn:Func}{ti to:Tmpl}{S:den ti.ty->Option (den to.ty)}(hf:P.funcs[f]? =some fn)(m:Nat)(hm:(EV (OK fn)).length=m)(hl:∀k,k<m->AN P C (lpc fn k))
 (hb:fn.body.isNone=false)(hn:(fn.name== "runtime.NumGoroutine")=false)(h:∀x,RX C fn ti to x=S x):Aj P ⟨f,ti,to,S⟩:=
 Aj.of_vcall HC hf (dX hb (TY m hm hl)) hn hb h
end Go.Ab
end
section
namespace Go.Ab
theorem Bn {n:Int}(h0:-9223372036854775808<=n)(h1:n<9223372036854775808):zXq.wrap n=n:=by
 rw[IntKind.wrap_i64];omega
theorem Ai {α:Type}{xs:List α}{i:Nat}(h:i<xs.length):lAt xs (i:Int)=some xs[i]:=by
 unfold lAt;rw[if_pos (by omega)];simp[h]
theorem Ah {i n:Nat}(hi:i<n)(hn:n<9223372036854775808):zXq.wrap ((i:Int)+1)=((i+1:Nat):Int):=by
 rw[Bn (by omega) (by omega)];omega
theorem Af4 {σ ρ:Type}{B:σ->Option (σ ⊕ ρ)}(st:Nat->σ){n:Nat}{r:ρ}(hstep:∀i,i<n->B (st i)=some (.inl (st (i+1))))(hend:B (st n)=some (.inr r)):Au B (st 0)=some r:=by
 have key:∀k i,i+k=n->Au B (st i)=some r:=by
  intro k
  induction k with
  |zero=>intro i hi;obtain rfl:i=n:=by omega
         rw[AF,hend];rfl
  |succ k ih=>intro i hi;rw[AF,hstep i (by omega)];exact ih (i+1) (by omega)
 exact key n 0 (by omega)
theorem A74 (x y:Int):(x != y)=!decide (x=y):=by
 by_cases h:x=y<;>simp[h]
theorem R5 (x y:Int):(x==y)=decide (x=y):=by
 by_cases h:x=y<;>simp[h]
def WN (Small:Prop)(o:Option (Int×Unit)):Prop:=∃n:Int,o=some (n,())/\(n<0\/(0<=n/\n<=1048576/\Small))
theorem A91 {α:Type}{a:List α}{l:Int}(ha:a.length<=maxLen)(h0:0<=l)(h1:l<=1048576):
 WN (a.length<=1048576) (bif decide (zXq.wrap (l-((a.length:Nat):Int))<0)then some (-1,())else some (zXq.wrap (l-((a.length:Nat):Int)),())):=by
 unfold maxLen at ha
 rw[Bn (by omega) (by omega)]
 by_cases h:l-(a.length:Int)<0
 ·rw[decide_eq_true h];exact⟨_,rfl,.inl (by omega)⟩
 ·rw[decide_eq_false h];exact⟨_,rfl,.inr ⟨by omega,by omega,by omega⟩⟩
theorem Alt {A:Prop}{o:Option (Int×Unit)}{G:Int×Unit->Option (Bool×Unit)}(h:WN A o)(hG:∀n:Int,0<=n->n<=1048576->A->G (n,())=some (true,())):(o.bind fun r=>bif decide (r.1<0)then some (true,())else G r)=some (true,()):=by
 obtain⟨n,rfl,h1⟩:=h
 simp only[Option.bind_some]
 rcases h1 with h1|⟨h1,h2,h3⟩
 ·rw[decide_eq_true h1];rfl
 ·rw[decide_eq_false (show ¬n<0 by omega)];exact hG n h1 h2 h3
noncomputable def dec (p:Prop):Bool:=@decide p (Classical.propDecidable p)
theorem Ax {p:Prop}(h:p):dec p=true:=@decide_eq_true p (Classical.propDecidable p) h
theorem AI {p:Prop}(h:¬p):dec p=false:=@decide_eq_false p (Classical.propDecidable p) h
theorem KC {p q:Prop}(h:p↔q):dec p=dec q:=by rw[propext h]
theorem A8d (p:Prop)[Decidable p]:decide p=dec p:=by
 by_cases h:p
 ·rw[Ax h,decide_eq_true h]
 ·rw[AI h,decide_eq_false h]
def inB (x lo hi:Int):Bool:=decide (lo<=x)&&decide (x<=hi)
def small:(t:Ty)->den t->Prop
 | .slice t,xs=>(xs:List (den t)).length<=1048576/\∀x∈(xs:List (den t)),small t x
 | .prod a b,x=>small a x.1/\small b x.2
 | .int _,_=>True
 | .bool,_=>True
 | .str,_=>True
 | .unit,_=>True
 | .err,_=>True
 | .iref _,_=>True
 | .fn _ _,_=>True
 | .idx,_=>True
theorem WN.mono {A B:Prop}{o:Option (Int×Unit)}(h:WN A o)(hab:A->B):WN B o:=by
 obtain⟨n,e,h1⟩:=h
 exact⟨n,e,h1.imp id fun⟨a,b,c⟩=>⟨a,b,hab c⟩⟩
end Go.Ab
end
section
namespace Go.Ab
theorem P9 {E:Env}{h:Am}{w:World}(hH:HeapOK E h w):Inv (O3 E h w) E h w:=
 ⟨hH,Bel.refl _ w,fun b ⟨r,κ,n,h1,_⟩=>hH.own_lt b ⟨r,κ,n,h1⟩,fun r κ b n h1 h2=>.inl ⟨r,κ,n,h1,h2⟩,fun b hb=>.inl hb,(Keep.refl E _ w).kept,fun r _=>.inl rfl⟩
end Go.Ab
end
section
namespace Go.Ab
open Go.RowKit Go.Proofs Go.Shelf
structure InsL (P:Program)(ρ:Go.Shelf.Ren)(agg:Bool)(sz:Nat):Prop where
 mixed:P.follows .mixedOrders=true
 f22:Bears P (ρ.f 22) (Body2.n22 ρ)
 f29:∃fn,P.funcs[ρ.f 29]? =some fn/\(fn.name== "runtime.NumGoroutine")=false/\fn.body.isNone=true/\Extern.findNext fn=none/\Extern.find fn=some (Extern.SlicesOverlaps.overlaps #[(ρ.t 24),(ρ.t 24)] #[(ρ.t 4)])
 t0:P.underlying (ρ.t 0)=some (TypeDesc.tuple #[])
 a0:∀w,(isAgg (ρ.t 0)).run P w=.ok false w
 z0:∀w,(Go.sizeOf (ρ.t 0)).run P w=.ok 1 w
 v0:∀w,(zeroValue (ρ.t 0)).run P w=.ok (Value.tuple #[]) w
 t3:P.underlying (ρ.t 3)=some (TypeDesc.int zXq)
 a3:∀w,(isAgg (ρ.t 3)).run P w=.ok false w
 z3:∀w,(Go.sizeOf (ρ.t 3)).run P w=.ok 1 w
 v3:∀w,(zeroValue (ρ.t 3)).run P w=.ok (Value.int zXq 0) w
 t4:P.underlying (ρ.t 4)=some (TypeDesc.bool)
 a4:∀w,(isAgg (ρ.t 4)).run P w=.ok false w
 z4:∀w,(Go.sizeOf (ρ.t 4)).run P w=.ok 1 w
 v4:∀w,(zeroValue (ρ.t 4)).run P w=.ok (Value.bool false) w
 a9:∀w,(isAgg (ρ.t 9)).run P w=.ok agg w
 z9:∀w,(Go.sizeOf (ρ.t 9)).run P w=.ok sz w
 t24:P.underlying (ρ.t 24)=some (TypeDesc.slice (ρ.t 9))
 a24:∀w,(isAgg (ρ.t 24)).run P w=.ok false w
 z24:∀w,(Go.sizeOf (ρ.t 24)).run P w=.ok 1 w
 v24:∀w,(zeroValue (ρ.t 24)).run P w=.ok (Value.slice none 0 0) w
section
variable {P:Program}
theorem OV {dT sT e:TypeId}{ie:TI}(hund:P.underlying dT=some (.slice e))(hte:C6 P e ie)(w:World){b o:Nat}{arr:Array Value}{ty':TypeId}(hb:w.heap[b]? =some (.cells arr ty' (0,0)))
 (a:Addr)(sLen dLen:Nat)(cs:List Value)(hcl:cs.length=Nat.min sLen dLen*ie.size)(hcs:∀j z,cs[j]? =some z->w.cell? (a.add j)=some z)(hone:∀x∈cs,x.oneCell'=true)(hfit:o+cs.length<=arr.size):
 ∃arr':Array Value,(∀W:World,W.heap=w.heap->∀ty dCap sCap,(Builtin.copy_ #[dT,sT] ty #[.slice (some ⟨b,o,none⟩) dLen dCap,.slice (some a) sLen sCap]).run P W=.ok (goInt (Nat.min sLen dLen)) (W.setRow b arr'))/\arr'.size=arr.size/\
  (∀k,arr'[k]? =if k<o then arr[k]? else if k<o+cs.length then cs[k-o]? else arr[k]?):=by
 let arr':=(arr.toList.take o++cs++arr.toList.drop (o+cs.length)).toArray
 obtain⟨arr1,h1,h2,h3⟩:=Mm P hb hfit hone
 refine⟨arr1,fun W hW ty dCap sCap=>?_,h2,h3⟩
 have hbW:W.heap[b]? =some (.cells arr ty' (0,0)):=by rw[hW];exact hb
 obtain⟨arr2,k1,k2,k3⟩:=Mm P hbW hfit hone
 have hcW:∀x,W.cell? x=w.cell? x:=fun x=>by simp only[World.cell?,hW]
 have:arr2=arr1:=by
  apply Array.ext_getElem?
  intro k;rw[k3,h3]
 subst this
 have hf:=run_firstCells_some (P:=P) W ie.size (Nat.min sLen dLen) a sLen sCap cs hcl (fun j z hz=>by rw[hcW];exact hcs j z hz)
 simp only[Builtin.copy_,Sem.run_bind,Sem.run_pure,run_underlying hund,Result.andThen_ok,List.getElem?_toArray,List.getElem?_cons_zero,List.getElem?_cons_succ,Builtin.lenOf,EF hte,hf,k1]
theorem qL {ρ:Go.Shelf.Ren}{ie:TI}(L:InsL P ρ ie.agg ie.size)(n:Nat)(v:Value)(A:Option Addr)(c:Nat)(hv:v=.slice A n c)(hnc:n<=c)(h0:A=none->n=0/\c=0)(B:Option Addr)(m':Nat)(w w':World)(val:Value)
 (hrun:(Builtin.append_ #[(ρ.t 24),(ρ.t 24)] (ρ.t 24) #[.slice A n c,.slice B 1 m']).run P w=.ok val w'):
 Calls P (ρ.f 22) #[.slice A n c,.int .i64 n,.slice B 1 m'] w fun e w2=>e=.returned val/\w2=w':=by
 have t0:=L.t0;have a0:=L.a0;have z0:=L.z0;have v0:=L.v0;have t3:=L.t3;have a3:=L.a3;have z3:=L.z3;have v3:=L.v3;have t4:=L.t4;have a4:=L.a4;have z4:=L.z4;have v4:=L.v4;have a9:=L.a9;have z9:=L.z9;have t24:=L.t24;have a24:=L.a24;have z24:=L.z24;have v24:=L.v24
 have u0:=run_underlying L.t0;have u3:=run_underlying L.t3;have u4:=run_underlying L.t4;have u24:=run_underlying L.t24
 have mixed:=L.mixed
 have hz1:¬((1:Int)=0):=by omega
 obtain⟨nm,hnm,hf⟩:=L.f22
 go_enter hf,Body2.n22_ntmps ρ
 cases A with
 |none=>
  obtain⟨rfl,rfl⟩:=h0 rfl
  go_wp2_with (at_builtin;refine Lib.wpList_append_run _ rfl _ _ _ _ rfl _ _ rfl rfl _ _ hrun ?_)
  go_ret
  exact⟨rfl,rfl⟩
 |some a=>
  obtain⟨ab,ao,asp⟩:=a
  go_wp2_with (at_builtin;refine Lib.wpList_append_run _ rfl _ _ _ _ rfl _ _ rfl rfl _ _ hrun ?_)
  all_goals(go_ret;exact⟨rfl,rfl⟩)
set_option maxHeartbeats 4000000 in
set_option maxRecDepth 100000 in
theorem sn {ρ:Go.Shelf.Ren}{ie:TI}(L:InsL P ρ ie.agg ie.size)(hte:C6 P (ρ.t 9) ie)(hpos:0<ie.size){b n c i vb m':Nat}{news:List Value}{w:World}{arr:Array Value}{ty':TypeId}(hb:w.heap[b]? =some (.cells arr ty' (0,0)))(hfit:c*ie.size<=arr.size)
 (hi:i<n)(hroom:n+1<=c)(hn63:n+1<=9223372036854775807)(hvb:vb≠b)(hnl:news.length=ie.size)(hone:∀x∈news,x.oneCell'=true)(hone2:∀k,k<n*ie.size->∀x,arr[k]? =some x->x.oneCell'=true)
 {arrA:Array Value}{tA:TypeId}(hvbh:w.heap[vb]? =some (.cells arrA tA (0,0)))(hcs:∀j z,news[j]? =some z->w.cell? (Addr.add ⟨vb,0,none⟩ j)=some z):
 ∃arr':Array Value,Calls P (ρ.f 22) #[.slice (some ⟨b,0,none⟩) n c,.int .i64 i,.slice (some ⟨vb,0,none⟩) 1 m'] w (fun e w'=>e=.returned (.slice (some ⟨b,0,none⟩) (n+1) c)/\w'=w.drew.setRow b arr')/\arr'.size=arr.size/\
  (∀k,k<i*ie.size->arr'[k]? =arr[k]?)/\(∀k,k<ie.size->arr'[i*ie.size+k]? =news[k]?)/\(∀k,i*ie.size<=k->k<n*ie.size->arr'[ie.size+k]? =arr[k]?):=by
 have t0:=L.t0;have a0:=L.a0;have z0:=L.z0;have v0:=L.v0;have t3:=L.t3;have a3:=L.a3;have z3:=L.z3;have v3:=L.v3;have t4:=L.t4;have a4:=L.a4;have z4:=L.z4;have v4:=L.v4;have a9:=L.a9;have z9:=L.z9;have t24:=L.t24;have a24:=L.a24;have z24:=L.z24;have v24:=L.v24
 have u0:=run_underlying L.t0;have u3:=run_underlying L.t3;have u4:=run_underlying L.t4;have u24:=run_underlying L.t24
 have mixed:=L.mixed
 have hz1:¬((1:Int)=0):=by omega
 have hz2:¬((i:Int)=(n:Int)):=by omega
 have hnc:(n+1)*ie.size<=c*ie.size:=zJx _ hroom
 have hin2:(i+1)*ie.size<=n*ie.size:=zJx _ hi
 rw[Nat.add_mul,Nat.one_mul]at hnc hin2
 let olds:List Value:=(arr.toList.drop (i*ie.size)).take ((n-i)*ie.size)
 have hni:(n-i)*ie.size+i*ie.size=n*ie.size:=by rw[<-Nat.add_mul];congr 1;omega
 have hol:olds.length=(n-i)*ie.size:=by simp only[olds,List.length_take,List.length_drop,Array.length_toList];omega
 have hog:∀j,j<(n-i)*ie.size->olds[j]? =arr[i*ie.size+j]?:=fun j hj=>by
  simp only[olds];rw[List.getElem?_take,if_pos hj,List.getElem?_drop,Array.getElem?_toList]
 have hcell:∀(W:World),W.heap=w.heap->∀k,W.cell? ⟨b,k,none⟩=arr[k]?:=fun W hW k=>by
  simp only[World.cell?,hW,hb,Option.isSome_none,Bool.false_eq_true,if_false]
 have hmin1:Nat.min (n+1-i) (n+1-(i+1))=n-i:=by simp only[Nat.min_def];split<;>omega
 have hmin2:Nat.min 1 (n+1-i)=1:=by simp only[Nat.min_def];split<;>omega
 obtain⟨arr1,hc1,hs1,hg1⟩:=OV (P:=P) (dT:=ρ.t 24) (sT:=ρ.t 24) L.t24 hte w hb (o:=(i+1)*ie.size) ⟨b,i*ie.size,none⟩ (n+1-i) (n+1-(i+1)) olds (by rw[hmin1,hol]) (fun j z hz=>by
  have hj:j<(n-i)*ie.size:=by rw[<-hol];exact(zQj.1 hz).1
  rw[Addr.add_lit,hcell w rfl,<-hog j hj];exact hz) (fun x hx=>by
  obtain⟨j,hj,rfl⟩:=zJz hx
  refine hone2 (i*ie.size+j) (by omega) _ ?_
  rw[<-hog j (by omega)];exact List.getElem?_eq_getElem hj) (by rw[hol,Nat.add_mul,Nat.one_mul];omega)
 have hb1:(w.setRow b arr1).heap[b]? =some (.cells arr1 ty' (0,0)):=by rw[CI hb,if_pos rfl]
 obtain⟨arr2,hc2,hs2,hg2⟩:=OV (P:=P) (dT:=ρ.t 24) (sT:=ρ.t 24) L.t24 hte (w.setRow b arr1) hb1 (o:=i*ie.size) ⟨vb,0,none⟩ 1 (n+1-i) news (by rw[hmin2,hnl,Nat.one_mul]) (fun j z hz=>by
  rw[<-hcs j z hz]
  simp only[World.cell?,Addr.add_lit]
  rw[CI hb,if_neg hvb]) hone (by rw[hnl,hs1];omega)
 rw[hmin1]at hc1;rw[hmin2]at hc2
 refine⟨arr2,?_,hs2.trans hs1,fun k hk=>?_,fun k hk=>?_,fun k hk1 hk2=>?_⟩
 ·have hov:∀lb cb,(callFunc (ρ.f 29) #[.slice (some ⟨vb,0,none⟩) 1 m',.slice (some ⟨b,(i+1)*ie.size,none⟩) lb cb]).run P w=.ok (.value (.bool false)) w:=fun lb cb=>by
   obtain⟨fn,g1,g2,g3,g4,g5⟩:=L.f29
   rw[run_callFunc_extern g1 g2 g3 g4 g5,Lib.run_overlaps_apart w (ρ.t 24) (ρ.t 4) (ρ.t 9) L.t24 ie.size L.z9 ⟨vb,0,none⟩ ⟨b,(i+1)*ie.size,none⟩ 1 m' lb cb hvb tA ty' arrA.size arr.size (by simp[World.shape?,hvbh]) (by simp[World.shape?,hb]) (by omega) (by simp[World.frozen?,hvbh]) (by simp[World.frozen?,hvbh])]
   rfl
  have hw1:zXq.wrap ((i:Int)+1)=(i:Int)+1:=by rw[IntKind.wrap_i64];omega
  have hw2:zXq.wrap ((n:Int)+1)=(n:Int)+1:=by rw[IntKind.wrap_i64];omega
  have hb1:(0:Int)<=(i:Int)+1:=by omega
  have hin:i<=n:=by omega
  have htn:((i:Int)+1).toNat=i+1:=by omega
  have hb2:¬(c=i+1):=by omega
  have hb3:(i:Int)<=(n:Int)+1:=by omega
  have hb4:¬(c=i):=by omega
  have hww:∀W:World,(W.setRow b arr1).setRow b arr2=W.setRow b arr2:=fun W=>setRow_setRow _ _ _ _
  obtain⟨W1,hW1⟩:∃W1,W1=w.drew.setRow b arr1:=⟨_,rfl⟩
  have hcp1:=fun ty dc sc=>hc1 w.drew rfl ty dc sc
  rw[Nat.add_sub_add_right]at hcp1
  rw[<-hW1]at hcp1
  have hcp2:∀(W:World),W.heap=W1.heap->∀ty dc,(Builtin.copy_ #[(ρ.t 24),(ρ.t 24)] ty #[.slice (some ⟨b,i*ie.size,none⟩) (n+1-i) dc,.slice (some ⟨vb,0,none⟩) 1 m']).run P W=.ok (goInt 1) (W.setRow b arr2):=fun W hW ty dc=>hc2 W (by rw[hW,hW1];rfl) ty dc m'
  obtain⟨nm,hnm,hf⟩:=L.f22
  go_enter hf,Body2.n22_ntmps ρ
  go_wp2_with (simp only[hov])
  go_region_law_o (refine step_copy_runI rfl _ _ (ρ.t 24) (ρ.t 24) rfl _ _ (by simp[Act.eval,Act.put]) (by simp[Act.eval,Act.put]) (hcp1 _ _ _) ?_)
  go_wp2_with (at_builtin;refine wpList_copy_runI _ rfl _ _ (ρ.t 24) (ρ.t 24) rfl _ _ rfl rfl (hcp2 _ (by rfl) _ _) ?_)
  go_ret
  exact⟨rfl,rfl⟩
 ·rw[hg2,if_pos hk,hg1,if_pos (by rw[Nat.add_mul,Nat.one_mul];omega)]
 ·rw[hg2,if_neg (by omega),if_pos (by rw[hnl];omega)];congr 1;omega
 ·have e:(i+1)*ie.size=i*ie.size+ie.size:=by rw[Nat.add_mul,Nat.one_mul]
  rw[hg2,if_neg (by omega),if_neg (by rw[hnl];omega),hg1,if_neg (by omega),if_pos (by rw[hol];omega),hog _ (by omega)];congr 1;omega
set_option maxHeartbeats 4000000 in
set_option maxRecDepth 100000 in
theorem A7l {ρ:Go.Shelf.Ren}{ie:TI}(L:InsL P ρ ie.agg ie.size)(hte:C6 P (ρ.t 9) ie)(hpos:0<ie.size){b n c i vb m':Nat}{news:List Value}{w:World}{arr:Array Value}{ty':TypeId}(hb:w.heap[b]? =some (.cells arr ty' (0,0)))(hfit:c*ie.size<=arr.size)
 (hi:i<n)(hnc:n<=c)(hroom:c<n+1)(hlim:n+1<=ie.lim)(hvb:vb≠b)(hnl:news.length=ie.size)(hone:∀x∈news,x.oneCell'=true)(hone2:∀k,k<n*ie.size->∀x,arr[k]? =some x->x.oneCell'=true)
 {arrA:Array Value}{tA:TypeId}(hvbh:w.heap[vb]? =some (.cells arrA tA (0,0)))(hcs:∀j z,news[j]? =some z->w.cell? (Addr.add ⟨vb,0,none⟩ j)=some z):
 ∃(G:Nat) (row arr':Array Value),Calls P (ρ.f 22) #[.slice (some ⟨b,0,none⟩) n c,.int .i64 i,.slice (some ⟨vb,0,none⟩) 1 m'] w (fun e w'=>e=.returned (.slice (some ⟨w.heap.size,0,none⟩) (n+1) G)/\w'=(((w.alloc (.cells row (ρ.t 9))).drew).drew).setRow w.heap.size arr')/\n+1<=G/\G*ie.size<=row.size/\arr'.size=row.size/\
  (∀k,k<i*ie.size->arr'[k]? =arr[k]?)/\(∀k,k<ie.size->arr'[i*ie.size+k]? =news[k]?)/\(∀k,i*ie.size<=k->k<n*ie.size->arr'[ie.size+k]? =arr[k]?):=by
 have t0:=L.t0;have a0:=L.a0;have z0:=L.z0;have v0:=L.v0;have t3:=L.t3;have a3:=L.a3;have z3:=L.z3;have v3:=L.v3;have t4:=L.t4;have a4:=L.a4;have z4:=L.z4;have v4:=L.v4;have a9:=L.a9;have z9:=L.z9;have t24:=L.t24;have a24:=L.a24;have z24:=L.z24;have v24:=L.v24
 have u0:=run_underlying L.t0;have u3:=run_underlying L.t3;have u4:=run_underlying L.t4;have u24:=run_underlying L.t24
 have mixed:=L.mixed
 have hz1:¬((1:Int)=0):=by omega
 have hz2:¬((i:Int)=(n:Int)):=by omega
 have hz3:(c:Int)<(n:Int)+1:=by omega
 obtain⟨inf,dd,hinf,_,hsz,_,⟨zv,hzv1,hzv2,hzv3⟩,hlim1,hlim2⟩:=id hte
 have hbytes:(n+1)*inf.bytes<=35184372088832:=Nat.le_trans (zJx _ hlim) hlim1
 have hbl:=(Array.getElem?_eq_some_iff.1 hb).1
 have hvw:=(Array.getElem?_eq_some_iff.1 hvbh).1
 have hin2:(i+1)*ie.size<=n*ie.size:=zJx _ hi
 have hncs:n*ie.size<=c*ie.size:=zJx _ hnc
 rw[Nat.add_mul,Nat.one_mul]at hin2
 let olds:List Value:=(arr.toList.drop (i*ie.size)).take ((n-i)*ie.size)
 let heads:List Value:=arr.toList.take (i*ie.size)
 have hni:(n-i)*ie.size+i*ie.size=n*ie.size:=by rw[<-Nat.add_mul];congr 1;omega
 have hol:olds.length=(n-i)*ie.size:=by simp only[olds,List.length_take,List.length_drop,Array.length_toList];omega
 have hhl:heads.length=i*ie.size:=by simp only[heads,List.length_take,Array.length_toList];omega
 have hog:∀j,j<(n-i)*ie.size->olds[j]? =arr[i*ie.size+j]?:=fun j hj=>by
  simp only[olds];rw[List.getElem?_take,if_pos hj,List.getElem?_drop,Array.getElem?_toList]
 have hcell:∀(W:World),W.heap[b]? =some (.cells arr ty' (0,0))->∀k,W.cell? ⟨b,k,none⟩=arr[k]?:=fun W hW k=>by
  simp only[World.cell?,hW,Option.isSome_none,Bool.false_eq_true,if_false]
 have hkk:(n:Int)+1-(i:Int)=((n+1-i:Nat):Int):=by omega
 have hik:i+(n+1-i)=n+1:=by omega
 have hold:(Builtin.firstCells inf.size i (.slice (some ⟨b,0,none⟩) i c)).run P w.drew=.ok heads.toArray w.drew:=by
  rw[hsz]
  exact run_firstCells_some w.drew ie.size i ⟨b,0,none⟩ i c heads hhl (fun j v hj=>by
   have hj':j<i*ie.size:=by rw[<-hhl];exact(zQj.1 hj).1
   rw[Addr.add_lit,zJj,hcell w.drew hb,<-hj]
   simp only[heads];rw[List.getElem?_take,if_pos hj',Array.getElem?_toList])
 obtain⟨G,hG⟩:∃G,G=grownCap w (n+1) c (ρ.t 9):=⟨_,rfl⟩
 obtain⟨ROW,hROW⟩:∃ROW:Array Value,ROW=heads.toArray++Builtin.zeroCells zv.cells (n+1-i)++Builtin.zeroCells zv.cells (G-(n+1)):=⟨_,rfl⟩
 have hGn:n+1<=G:=by rw[hG];exact grownCap_ge w _ _ _
 have hRl:ROW.size=G*ie.size:=by
  rw[hROW]
  simp only[Array.size_append,List.size_toArray,QO,hzv3,hhl]
  rw[<-Nat.add_mul,<-Nat.add_mul];congr 1;omega
 have hrz:∀ty,(Builtin.append_ #[(ρ.t 24),(ρ.t 3)] ty #[.slice (some ⟨b,0,none⟩) i c,.int .i64 ((n:Int)+1-(i:Int))]).run P w=
  .ok (.slice (some ⟨w.heap.size,0,none⟩) (n+1) G) (w.drew.alloc (.cells ROW (ρ.t 9))):=fun ty=>by
  have h:=Lib.run_append_grow_zeros w (ρ.t 24) (ρ.t 3) ty (ρ.t 9) inf _ .i64 .i64 L.t24 L.t3 hinf hzv1 (some ⟨b,0,none⟩) i c heads hold (n+1-i) (by omega) (by omega) (by omega) (by omega) (by
   have:(n+1-i)*inf.bytes<=(n+1)*inf.bytes:=zJx _ (by omega)
   omega) (by rw[hik];exact growslice_fits hroom (by omega))
  rw[hik,<-hG,<-hROW]at h
  rw[hkk]
  exact h
 obtain⟨W1,hW1⟩:∃W1,W1=w.drew.alloc (.cells ROW (ρ.t 9)):=⟨_,rfl⟩
 have hgs:G*ie.size<=ROW.size:=by omega
 have hnG:(n+1)*ie.size<=G*ie.size:=zJx _ hGn
 rw[Nat.add_mul,Nat.one_mul]at hnG
 have hWb:W1.heap[w.heap.size]? =some (.cells ROW (ρ.t 9) (0,0)):=by rw[hW1];show(w.heap.push _)[w.heap.size]? =_;simp
 have hWo:∀k,k<w.heap.size->W1.heap[k]? =w.heap[k]?:=fun k hk=>by rw[hW1];exact Below.heap_alloc w.drew _ k hk
 have hmin1:Nat.min 1 (n+1-i)=1:=by simp only[Nat.min_def];split<;>omega
 have hmin2:Nat.min (n-i) (n-i)=n-i:=by simp only[Nat.min_def];split<;>omega
 obtain⟨arr1,hc1,hs1,hg1⟩:=OV (P:=P) (dT:=ρ.t 24) (sT:=ρ.t 24) L.t24 hte W1 hWb (o:=i*ie.size) ⟨vb,0,none⟩ 1 (n+1-i) news (by rw[hmin1,hnl,Nat.one_mul]) (fun j z hz=>by
  rw[<-hcs j z hz]
  simp only[World.cell?,Addr.add_lit]
  rw[hWo vb hvw]) hone (by omega)
 have hb1:(W1.setRow w.heap.size arr1).heap[w.heap.size]? =some (.cells arr1 (ρ.t 9) (0,0)):=by rw[CI hWb,if_pos rfl]
 obtain⟨arr2,hc2,hs2,hg2⟩:=OV (P:=P) (dT:=ρ.t 24) (sT:=ρ.t 24) L.t24 hte (W1.setRow w.heap.size arr1) hb1 (o:=(i+1)*ie.size) ⟨b,i*ie.size,none⟩ (n-i) (n-i) olds (by rw[hmin2,hol]) (fun j z hz=>by
  have hj:j<(n-i)*ie.size:=by rw[<-hol];exact(zQj.1 hz).1
  rw[Addr.add_lit,hcell _ (by rw[CI hWb,if_neg (by omega),hWo b hbl];exact hb),<-hog j hj];exact hz) (fun x hx=>by
  obtain⟨j,hj,rfl⟩:=zJz hx
  refine hone2 (i*ie.size+j) (by omega) _ ?_
  rw[<-hog j (by omega)];exact List.getElem?_eq_getElem hj) (by rw[hol,Nat.add_mul,Nat.one_mul];omega)
 rw[hmin1]at hc1;rw[hmin2]at hc2
 refine⟨G,ROW,arr2,?_,hGn,hgs,hs2.trans hs1,fun k hk=>?_,fun k hk=>?_,fun k hk1 hk2=>?_⟩
 ·have hG63:G<=9223372036854775807:=by
   have:=grownCap_le_maxLen w (n+1) c (ρ.t 9) (by unfold maxLen;omega)
   rw[<-hG]at this
   unfold maxLen at this
   omega
  have hGi:¬(G=i):=by omega
  have hGim:¬(G=i+1):=by omega
  have hci:¬(c=i):=by omega
  have hw1:zXq.wrap ((i:Int)+1)=(i:Int)+1:=by rw[IntKind.wrap_i64];omega
  have hw2:zXq.wrap ((n:Int)+1)=(n:Int)+1:=by rw[IntKind.wrap_i64];omega
  have hw3:zXq.wrap ((n:Int)+1-(i:Int))=(n:Int)+1-(i:Int):=by rw[IntKind.wrap_i64];omega
  have hb1':(0:Int)<=(i:Int)+1:=by omega
  have hin:i<=n:=by omega
  have htn:((i:Int)+1).toNat=i+1:=by omega
  have hb3:(i:Int)<=(n:Int):=by omega
  have hb5:(i:Int)<=(n:Int)+1:=by omega
  have hww:∀W:World,(W.setRow w.heap.size arr1).setRow w.heap.size arr2=W.setRow w.heap.size arr2:=fun W=>setRow_setRow _ _ _ _
  have hcpA:∀(W:World),W.heap=W1.heap->∀ty dc,(Builtin.copy_ #[(ρ.t 24),(ρ.t 24)] ty #[.slice (some ⟨w.heap.size,i*ie.size,none⟩) (n+1-i) dc,.slice (some ⟨vb,0,none⟩) 1 m']).run P W=.ok (goInt 1) (W.setRow w.heap.size arr1):=fun W hW ty dc=>hc1 W hW ty dc m'
  have hcpB:∀(W:World),W.heap=(W1.setRow w.heap.size arr1).heap->∀ty dc sc,(Builtin.copy_ #[(ρ.t 24),(ρ.t 24)] ty #[.slice (some ⟨w.heap.size,(i+1)*ie.size,none⟩) (n-i) dc,.slice (some ⟨b,i*ie.size,none⟩) (n-i) sc]).run P W=.ok (goInt (n-i:Nat)) (W.setRow w.heap.size arr2):=fun W hW ty dc sc=>hc2 W hW ty dc sc
  subst hW1
  have hE1:((w.alloc (.cells ROW (ρ.t 9))).drew).heap=(w.drew.alloc (.cells ROW (ρ.t 9))).heap:=rfl
  have hF1:(((w.alloc (.cells ROW (ρ.t 9))).drew.setRow w.heap.size arr1).drew).heap=((w.drew.alloc (.cells ROW (ρ.t 9))).setRow w.heap.size arr1).heap:=rfl
  obtain⟨nm,hnm,hf⟩:=L.f22
  clear hkk hik hold hROW hG hRl
  go_enter hf,Body2.n22_ntmps ρ
  go_wp2_with (first
   |(at_builtin;refine Lib.wpList_append_run _ rfl _ _ _ _ rfl _ _ rfl rfl _ _ (hrz _) ?_)
   |(at_builtin;refine wpList_copy_runI _ rfl _ _ (ρ.t 24) (ρ.t 24) rfl _ _ rfl rfl (hcpA _ hE1 _ _) ?_)
   |(at_builtin;refine wpList_copy_runI _ rfl _ _ (ρ.t 24) (ρ.t 24) rfl _ _ rfl rfl (hcpB _ (by rfl) _ _ _) ?_))
  go_region_law_o (refine step_copy_runI rfl _ _ (ρ.t 24) (ρ.t 24) rfl (.slice (some ⟨w.heap.size,(i+1)*ie.size,none⟩) (n-i) (G-(i+1))) (.slice (some ⟨b,i*ie.size,none⟩) (n-i) (c-i)) (by simp[Act.eval,Act.put]) (by simp[Act.eval,Act.put]) (hcpB _ hF1 (ρ.t 3) (G-(i+1)) (c-i)) ?_)
  go_wp2
  go_ret
  exact⟨rfl,hww ((w.alloc (.cells ROW (ρ.t 9))).drew.drew)⟩
 ·rw[hg2,if_pos (by rw[Nat.add_mul,Nat.one_mul];omega),hg1,if_pos hk,hROW,Array.getElem?_append_left (by simp[hhl];omega),Array.getElem?_append_left (by simp[hhl];omega)]
  simp only[List.getElem?_toArray,heads]
  rw[List.getElem?_take,if_pos hk,Array.getElem?_toList]
 ·rw[hg2,if_pos (by rw[Nat.add_mul,Nat.one_mul];omega),hg1,if_neg (by omega),if_pos (by rw[hnl];omega)];congr 1;omega
 ·have e:(i+1)*ie.size=i*ie.size+ie.size:=by rw[Nat.add_mul,Nat.one_mul]
  rw[hg2,if_neg (by omega),if_pos (by rw[hol];omega),hog _ (by omega)];congr 1;omega
end
end Go.Ab
end
section
namespace Go.Ab
def R1 {α:Type}(lim:Nat)(x:Int×List α×List α×Unit):Option (List α×Unit):=
 if 0<=x.1/\x.1.toNat<=x.2.1.length/\x.2.1.length+1<=lim then match x.2.2.1 with
  |[z]=>some (x.2.1.take x.1.toNat++z::x.2.1.drop x.1.toNat,())
  |_=>none
 else none
end Go.Ab
end
section
namespace Go.Ab
open Go.RowKit Go.Proofs Go.Shelf
theorem qJ {P:Program}{ρ:Go.Shelf.Ren}{ie:TI}(L:InsL P ρ ie.agg ie.size)(hte:C6 P (ρ.t 9) ie)(hpos:0<ie.size){b n c i vb m':Nat}{news:List Value}{w:World}{arr:Array Value}{ty':TypeId}(hb:w.heap[b]? =some (.cells arr ty' (0,0)))(hfit:c*ie.size<=arr.size)
 (hi:i<n)(hnc:n<=c)(hlim:n+1<=ie.lim)(hvb:vb≠b)(hnl:news.length=ie.size)(hone:∀x∈news,x.oneCell'=true)(hone2:∀k,k<n*ie.size->∀x,arr[k]? =some x->x.oneCell'=true)
 {arrA:Array Value}{tA:TypeId}(hvbh:w.heap[vb]? =some (.cells arrA tA (0,0)))(hcs:∀j z,news[j]? =some z->w.cell? (Addr.add ⟨vb,0,none⟩ j)=some z):
 ∃(w':World) (b' n':Nat) (arr':Array Value) (ty2:TypeId),Calls P (ρ.f 22) #[.slice (some ⟨b,0,none⟩) n c,.int .i64 i,.slice (some ⟨vb,0,none⟩) 1 m'] w (fun e w2=>e=.returned (.slice (some ⟨b',0,none⟩) (n+1) n')/\w2=w')/\
  w'.heap[b']? =some (.cells arr' ty2 (0,0))/\n+1<=n'/\n'*ie.size<=arr'.size/\w.heap.size<=w'.heap.size/\b'<w'.heap.size/\w'.os=w.os/\w'.tape=w.tape/\(w'.output=w.output/\w.drawn<=w'.drawn)/\(∀k,k≠b'->k<w.heap.size->w'.heap[k]? =w.heap[k]?)/\
  (∀k,k<i*ie.size->arr'[k]? =arr[k]?)/\(∀k,k<ie.size->arr'[i*ie.size+k]? =news[k]?)/\(∀k,i*ie.size<=k->k<n*ie.size->arr'[ie.size+k]? =arr[k]?)/\
  (w.heap.size<=b'\/(b'=b/\ty2=ty'/\arr'.size=arr.size)):=by
 obtain⟨inf,dd,hinf,_,hsz,_,⟨zv,hz1,hz2,hz3⟩,hlim1,hlim2⟩:=id hte
 have hbl:=(Array.getElem?_eq_some_iff.1 hb).1
 by_cases hroom:n+1<=c
 ·obtain⟨arr',h1,h2,h3,h4,h5⟩:=sn L hte hpos hb hfit hi hroom (by omega) hvb (m':=m') hnl hone hone2 hvbh hcs
  refine⟨_,b,c,arr',ty',h1,by rw[show(w.drew.setRow b arr').heap[b]? =_ from CI (w:=w.drew) hb b,if_pos rfl],hroom,by rw[h2];exact hfit,by simp only[World.setRow,Array.size_modify];exact Nat.le_refl _,by simp only[World.setRow,Array.size_modify];exact hbl,rfl,rfl,⟨rfl,Nat.le_succ _⟩,fun k hk _=>?_,h3,h4,h5,.inr ⟨rfl,rfl,h2⟩⟩
  exact(CI (w:=w.drew) hb k).trans (by rw[if_neg hk];rfl)
 ·obtain⟨G,row,arr',h1,hG,hfG,h2,h3,h4,h5⟩:=A7l L hte hpos hb hfit hi hnc (by omega) hlim hvb (m':=m') hnl hone hone2 hvbh hcs
  have hnew:((w.alloc (.cells row (ρ.t 9) (0,0))).drew.drew).heap[w.heap.size]? =some (.cells row (ρ.t 9) (0,0)):=by show(w.heap.push _)[w.heap.size]? =_;simp
  have hs:(((w.alloc (.cells row (ρ.t 9) (0,0))).drew.drew).setRow w.heap.size arr').heap.size=w.heap.size+1:=by simp only[World.setRow,Array.size_modify];show(w.heap.push _).size=_;simp
  refine⟨_,w.heap.size,G,arr',ρ.t 9,h1,by rw[CI hnew,if_pos rfl],hG,by rw[h2];exact hfG,by rw[hs];omega,by rw[hs];omega,rfl,rfl,⟨rfl,by show w.drawn<=w.drawn+1+1;omega⟩,fun k hk hk2=>?_,h3,h4,h5,.inl (Nat.le_refl _)⟩
  rw[CI hnew,if_neg hk]
  exact Below.heap_alloc w _ k hk2
theorem Wj {E:Env}{h:Am}{w:World}(H:HeapOK E h w){r:Nat}{c:Cont}(hc:AC h r none=.on c)(hone:∀i cs,c.at? r i=some cs->∀d∈cs,d.cell=true){b:Nat}{arr:Array Value}{ty:TypeId}(hι:E.ι r none=some (b,c.sz))(hb:w.heap[b]? =some (.cells arr ty (0,0))):
 ∀k,k<c.len*c.sz->∀x,arr[k]? =some x->x.oneCell'=true:=by
 intro k hk x hx
 have hs:0<c.sz:=by rcases Nat.eq_zero_or_pos c.sz with h|h;· rw[h]at hk;simp at hk
                    ·exact h
 have hi:k / c.sz<c.len:=Nat.div_lt_of_lt_mul (by rwa [Nat.mul_comm])
 rcases H.obj r none _ hc with h0|⟨b',arr',ty',h1,h2,h3,h4⟩
 ·exact absurd hi (by rw[h0];exact Nat.not_lt_zero _)
 simp only[key]at h1
 rw[hι]at h1;obtain rfl:b=b':=by simpa using h1
 rw[hb]at h2;obtain⟨rfl,rfl⟩:arr=arr'/\ty=ty':=by simpa using h2
 obtain⟨cs,vs,k1,k2,k3,k4⟩:=h4 _ hi
 have hm:k % c.sz<vs.length:=by rw[k2];exact Nat.mod_lt _ hs
 have:=k4 _ hm
 rw[Nat.div_add_mod']at this
 rw[hx]at this
 obtain rfl:=Option.some.inj this
 have hl:=k3.length
 exact KW (hone _ _ k1 _ (List.getElem_mem (show k % c.sz<cs.length by omega))) (k3.getAt _ (by omega) hm)
theorem qK {α:Type}{xs:List α}{z:α}{i j:Nat}(hi:i<=xs.length)(hj:j<(xs.take i++z::xs.drop i).length):
 (∃h:j<xs.length,j<i/\(xs.take i++z::xs.drop i)[j]=xs[j])\/(j=i/\(xs.take i++z::xs.drop i)[j]=z)\/∃h:j-1<xs.length,i<j/\(xs.take i++z::xs.drop i)[j]=xs[j-1]:=by
 have ht:(xs.take i).length=i:=by simp;omega
 simp at hj
 rcases Nat.lt_trichotomy j i with h|h|h
 ·refine .inl ⟨by omega,h,?_⟩
  rw[List.getElem_append_left (by omega),List.getElem_take]
 ·subst h
  refine .inr (.inl ⟨rfl,?_⟩)
  rw[List.getElem_append_right (by omega)];simp[ht]
 ·refine .inr (.inr ⟨by omega,h,?_⟩)
  rw[List.getElem_append_right (by omega)]
  obtain⟨d,hd⟩:∃d,j=i+(d+1):=⟨j-i-1,by omega⟩
  subst hd
  have e1:i+(d+1)-(xs.take i).length=d+1:=by omega
  simp only[e1,List.getElem_cons_succ,List.getElem_drop]
  congr 1
section
variable {P:Program}{ρ:Go.Shelf.Ren}{ie:TI}{t:Ty}
theorem RR (hte:C6 P (ρ.t 9) ie)(L:InsL P ρ ie.agg ie.size)(hsz:t.size=ie.size)(hpos:0<ie.size){f:FuncId}(hf:ρ.f 22=f):
 Aj P ⟨f,⟨.own 0 (.slot .i (.own 1 .nil)),.lst false t (.lst false t .nil)⟩,⟨.own 2 .nil,.gone (.gone (.lst false t .nil))⟩,R1 (α:=den t) ie.lim⟩:=by
 subst hf
 obtain⟨nm,hnm,hfn⟩:=L.f22
 refine⟨⟨_,hfn,hnm,rfl⟩,fun x y hy E w vs hH hA=>?_⟩
 obtain⟨i,xs,zs,u⟩:=x
 change Int at i
 change List (den t)at xs
 change List (den t)at zs
 change R1 ie.lim (i,xs,zs,u)=some y at hy
 unfold R1 at hy
 split at hy
 case isFalse=>cases hy
 rename_i hcond
 obtain⟨hi0,hil,hlim⟩:=hcond
 simp only at hi0 hil hlim
 split at hy
 case h_2=>cases hy
 rename_i z hzs
 simp only at hzs
 subst hzs
 obtain rfl:_=y:=Option.some.inj hy
 obtain⟨k,rfl⟩:∃k:Nat,i=k:=⟨i.toNat,by omega⟩
 simp only[Int.toNat_natCast]at hil ⊢
 change HeapOK E [some (.lst false t xs),some (.lst false t [z])] w at hH
 change Ak E [some (.lst false t xs),some (.lst false t [z])] w [.own 0 none none,.pv .i (k:Int),.own 1 none none] vs at hA
 show Calls P (ρ.f 22) vs.toArray w fun e w'=>∃us E',e=.returned (S7 us)/\Inv (O3 E [some (.lst false t xs),some (.lst false t [z])] w) E' [some .dead,some .dead,some (.lst false t (xs.take k++z::xs.drop k))] w'/\Ak E' [some .dead,some .dead,some (.lst false t (xs.take k++z::xs.drop k))] w' [.own 2 none none] us
 simp only[Ak]at hA
 obtain⟨p,us,rfl,h1,q,us2,rfl,hq,r,us3,rfl,h2,rfl⟩:=hA
 have:=BU hq
 subst this
 have I0:=P9 hH
 have hc0:([some (.lst false t xs),some (.lst false t [z])]:Am).getD 0 none=some (.lst false t xs):=rfl
 have hc1:([some (.lst false t xs),some (.lst false t [z])]:Am).getD 1 none=some (.lst false t [z]):=rfl
 have hst0:=Av hc0 (by simp)
 have hst1:=Av hc1 (by simp)
 have fin:∀(E1:Env) (w1:World) (val:Value),Inv (O3 E [some (.lst false t xs),some (.lst false t [z])] w) E1 [some .dead,some (.lst false t [z]),some (.lst false t (xs.take k++z::xs.drop k))] w1->Ag E1 [some .dead,some (.lst false t [z]),some (.lst false t (xs.take k++z::xs.drop k))] w1 (.own 2 none none) val->
  ∃us E',Ending.returned val=.returned (S7 us)/\Inv (O3 E [some (.lst false t xs),some (.lst false t [z])] w) E' [some .dead,some .dead,some (.lst false t (xs.take k++z::xs.drop k))] w1/\Ak E' [some .dead,some .dead,some (.lst false t (xs.take k++z::xs.drop k))] w1 [.own 2 none none] us:=by
  intro E1 w1 val hI hv
  obtain⟨g1,g2⟩:=Qw hI (r:=1) (c:=.lst false t [z]) rfl rfl
  exact⟨[val],_,rfl,g1,Ak.cons (IZ g2 _ hv) Ak.nil⟩
 have h1':=h1
 have h2':=h2
 simp only[Ag]at h1 h2
 have hown:=h1
 rw[BG hst0]at h1
 rw[BG hst1]at h2
 rcases JJ h2 with⟨hz,_⟩|⟨vb,m',av,arrA,tA,rfl,hm',hav,hvbh,hvcap,hιv⟩
 ·simp[Cont.len]at hz
 simp only[Cont.len,Cont.sz,List.length_singleton]at hm' hvcap hιv
 obtain rfl:=hav (by omega)
 rcases hH.obj 1 none _ hst1 with h0|⟨vb',arrA',tA',g1,g2,g3,g4⟩
 ·simp[Cont.len]at h0
 simp only[key,Cont.sz]at g1
 rw[hιv]at g1;obtain rfl:vb=vb':=by simpa using g1
 rw[hvbh]at g2;obtain⟨rfl,rfl⟩:arrA=arrA'/\tA=tA':=by simpa using g2
 obtain⟨cz,news,m1,m2,m3,m4⟩:=g4 0 (by simp[Cont.len])
 obtain⟨_,rfl⟩:=I8 m1
 simp only[Cont.sz,Nat.zero_mul,zJj,List.getElem_singleton]at m2 m3 m4
 have hl1:=m3.length
 have hone:∀x∈news,x.oneCell'=true:=fun x hx=>by
  obtain⟨j,hj,rfl⟩:=zJz hx
  exact KW (Js t z _ (List.getElem_mem (show j<(flat t z).length by omega))) (m3.getAt j (by omega) hj)
 have hcs:∀j v,news[j]? =some v->w.cell? (Addr.add ⟨vb,0,none⟩ j)=some v:=fun j v hv=>by
  obtain⟨hj,rfl⟩:=zQj.1 hv
  simp only[World.cell?,Addr.add_lit,hvbh,Option.isSome_none,Bool.false_eq_true,if_false,zJj]
  exact m4 j hj
 by_cases hend:k=xs.length
 ·
  subst hend
  have hsrc:OM w t.size [z].length (.slice (some ⟨vb,0,none⟩) 1 m') (fun i vs=>∃hi:i<[z].length,Ak E [some (.lst false t xs),some (.lst false t [z])] w (flat t [z][i]) vs):=by
   have:=Wi hH hst1 (rg:=none) h2 (fun i cs hat d hd=>by obtain⟨_,rfl⟩:=I8 hat;exact Js t _ _ hd)
   simp only[Option.getD_none,Cont.len,Cont.sz]at this
   obtain⟨A',m'',h1,h2,h3⟩:=this
   refine⟨A',m'',h1,h2,fun hne=>?_⟩
   obtain⟨b,o,cells,e1,e2,e3⟩:=h3 hne
   refine⟨b,o,cells,e1,e2,fun i hi=>?_⟩
   obtain⟨cs,f1,f2⟩:=e3 i hi
   rw[zJj]at f1
   obtain⟨hh,rfl⟩:=I8 f1
   exact⟨hh,f2⟩
  obtain⟨val,E',w',k1,k2,k3,k4⟩:=WL I0 L.t24 hte (ρ.t 24) (q:=0) (base:=2) hc0 rfl hsz (by simpa using hlim) hown hsrc
  have hA:∃A c,p=.slice A xs.length c/\xs.length<=c/\(A=none->xs.length=0/\c=0):=by
   rcases JJ h1 with⟨h0,rfl⟩|⟨b,n,a,arr,ty,rfl,hn,_⟩
   ·simp only[Cont.len]at h0
    exact⟨none,0,by rw[h0],by omega,fun _=>⟨h0,rfl⟩⟩
   ·exact⟨some a,n,rfl,hn,fun h=>by cases h⟩
  obtain⟨A,c,rfl,hnc,hA0⟩:=hA
  refine(qL L xs.length _ A c rfl hnc hA0 _ m' w w' val k1).mono ?_
  rintro e w2 ⟨rfl,rfl⟩
  have e1:xs.take xs.length++z::xs.drop xs.length=xs++[z]:=by simp
  rw[e1]at fin ⊢
  exact fin E' w2 val k2 k4
 ·rcases JJ h1 with⟨h0,_⟩|⟨b,n,a,arr,ty,rfl,hn,ha,hb,hcap,hι⟩
  ·simp only[Cont.len]at h0;omega
  simp only[Cont.len,Cont.sz]at hn hcap hι
  obtain rfl:=ha (by omega)
  have hvb:vb≠b:=by
   rintro rfl
   have:=(hH.inj _ _ _ _ _ _ _ hιv hι).1
   omega
  obtain⟨w',b',n',arr',ty2,hrun,f1,f2,f3,f4,f5,f6,f7,f8,f9,f10,f11,f12,f13⟩:=qJ L hte hpos hb (by rw[<-hsz];exact hcap) (i:=k) (n:=xs.length) (by omega) hn hlim hvb (m':=m') (news:=news) (by rw[m2,hsz]) hone (fun k' hk x hx=>Wj hH hst0 (fun i cs hat d hd=>by obtain⟨_,rfl⟩:=I8 hat;exact Js t _ _ hd) hι hb k' (by simp only[Cont.len,Cont.sz];rw[hsz];exact hk) x hx) hvbh hcs
  rw[<-hsz]at f3 f10 f11 f12
  have hlen:(xs.take k++z::xs.drop k).length=xs.length+1:=by simp;omega
  refine hrun.mono ?_
  rintro e w2 ⟨rfl,rfl⟩
  obtain⟨g1,g2⟩:=Qv I0 (r:=0) (r2:=2) hc0 trivial rfl (d:=.lst false t (xs.take k++z::xs.drop k)) trivial f1 f9 (by
   rcases f13 with h|⟨rfl,rfl,h⟩
   ·exact .inr h
   ·exact .inl ⟨hι,fun a' t' ha'=>by rw[hb]at ha';have h9:arr=a'/\ty2=t':=(by simpa using ha');exact⟨h9.2.symm,by rw[h,h9.1]⟩⟩) f4 f5 f6 f7 f8 (by
   show(xs.take k++z::xs.drop k).length*t.size<=_
   rw[hlen];exact Nat.le_trans (zJx _ f2) f3) (fun j hj=>by
   have hj:j<(xs.take k++z::xs.drop k).length:=hj
   have hel:∀i (hi:i<xs.length),∃vs:List Value,vs.length=t.size/\Ak E [some (.lst false t xs),some (.lst false t [z])] w (flat t xs[i]) vs/\∀(j:Nat) (hj:j<vs.length),arr[i*t.size+j]? =some vs[j]:=by
    intro i hi
    rcases hH.obj 0 none _ hst0 with h0|⟨b0,arr0,ty0,k1,k2,k3,k4⟩
    ·simp only[Cont.len]at h0;omega
    simp only[key,Cont.sz]at k1 k4
    rw[hι]at k1;obtain rfl:b=b0:=by simpa using k1
    rw[hb]at k2;obtain⟨rfl,rfl⟩:arr=arr0/\ty=ty0:=by simpa using k2
    obtain⟨cs,vs,m1,m2,m3,m4⟩:=k4 i hi
    obtain⟨_,rfl⟩:=I8 m1
    exact⟨vs,m2,m3,m4⟩
   have hat:∀e,(xs.take k++z::xs.drop k)[j]=e->(Cont.lst false t (xs.take k++z::xs.drop k)).at? 2 j=some (flat t e):=fun e he=>by
    simp only[Cont.at?];rw[List.getElem?_eq_getElem hj,he];rfl
   rcases qK hil hj with⟨hx,hlt,he⟩|⟨rfl,he⟩|⟨hx,hlt,he⟩
   ·obtain⟨vs,q1,q2,q3⟩:=hel j hx
    refine⟨_,vs,hat _ he,q1,q2,fun jj hjj=>?_⟩
    have:j*t.size+t.size<=k*t.size:=by rw[<-Nat.succ_mul];exact zJx _ hlt
    show arr'[j*t.size+jj]? =_
    rw[f10 _ (by omega)];exact q3 jj hjj
   ·refine⟨_,news,hat _ he,m2,m3,fun jj hjj=>?_⟩
    show arr'[j*t.size+jj]? =_
    rw[f11 _ (by omega)];simp[hjj]
   ·obtain⟨vs,q1,q2,q3⟩:=hel (j-1) hx
    refine⟨_,vs,hat _ he,q1,q2,fun jj hjj=>?_⟩
    have a1:j*t.size=t.size+(j-1)*t.size:=by rw[Nat.add_comm,<-Nat.succ_mul];congr 1;omega
    have a2:k*t.size<=(j-1)*t.size:=zJx _ (by omega)
    have a3:(j-1)*t.size+t.size<=xs.length*t.size:=by rw[<-Nat.succ_mul];exact zJx _ (by omega)
    show arr'[j*t.size+jj]? =_
    rw[a1,Nat.add_assoc,f12 _ (by omega) (by omega)];exact q3 jj hjj)
  refine fin _ w2 _ g1 ?_
  simp only[Ag]
  rw[BG (Av (c:=.lst false t (xs.take k++z::xs.drop k)) rfl (by simp))]
  exact⟨by simp,.inr ⟨b',n',⟨b',0,none⟩,by simp[Env.set,key,Cont.sz],by simp only[Option.getD_none,Cont.len,hlen],by simp only[Option.getD_none,Cont.len,hlen];exact f2,by simp,arr',ty2,f1,by simpa[Cont.sz]using f3⟩⟩
theorem Af6 (hte:C6 P (ρ.t 9) ie)(L:InsL P ρ ie.agg ie.size)(hsz:t.size=ie.size)(hpos:0<ie.size){f:FuncId}(hf:ρ.f 22=f):
 Aj P ⟨f,⟨.own 0 (.slot .i (.own 1 .nil)),.tree false 0 t (.tree false 0 t .nil)⟩,⟨.own 2 .nil,.gone (.gone (.tree false 0 t .nil))⟩,R1 (α:=den t) ie.lim⟩:=by
 subst hf
 obtain⟨nm,hnm,hfn⟩:=L.f22
 refine⟨⟨_,hfn,hnm,rfl⟩,fun x y hy E w vs hH hA=>?_⟩
 obtain⟨i,xs,zs,u⟩:=x
 change Int at i
 change List (den t)at xs
 change List (den t)at zs
 change R1 ie.lim (i,xs,zs,u)=some y at hy
 unfold R1 at hy
 split at hy
 case isFalse=>cases hy
 rename_i hcond
 obtain⟨hi0,hil,hlim⟩:=hcond
 simp only at hi0 hil hlim
 split at hy
 case h_2=>cases hy
 rename_i z hzs
 simp only at hzs
 subst hzs
 obtain rfl:_=y:=Option.some.inj hy
 obtain⟨k,rfl⟩:∃k:Nat,i=k:=⟨i.toNat,by omega⟩
 simp only[Int.toNat_natCast]at hil ⊢
 obtain⟨h,hh⟩:∃h:Am,h=[some (.tree false 0 t xs none),some (.tree false 0 t [z] none)]:=⟨_,rfl⟩
 obtain⟨ys,hys⟩:∃ys:List (den t),ys=xs.take k++z::xs.drop k:=⟨_,rfl⟩
 obtain⟨h',hh'⟩:∃h':Am,h'=[some .dead,some .dead,some (.tree false 0 t ys none)]:=⟨_,rfl⟩
 change HeapOK E [some (.tree false 0 t xs none),some (.tree false 0 t [z] none)] w at hH
 change Ak E [some (.tree false 0 t xs none),some (.tree false 0 t [z] none)] w [.own 0 none none,.pv .i (k:Int),.own 1 none none] vs at hA
 show Calls P (ρ.f 22) vs.toArray w fun e w'=>∃us E',e=.returned (S7 us)/\Inv (O3 E [some (.tree false 0 t xs none),some (.tree false 0 t [z] none)] w) E' [some .dead,some .dead,some (.tree false 0 t (xs.take k++z::xs.drop k) none)] w'/\Ak E' [some .dead,some .dead,some (.tree false 0 t (xs.take k++z::xs.drop k) none)] w' [.own 2 none none] us
 rw[<-hh]at hH hA ⊢
 rw[<-hys,<-hh']
 simp only[Ak]at hA
 obtain⟨p,us,rfl,h1,q,us2,rfl,hq,r,us3,rfl,h2,rfl⟩:=hA
 have:=BU hq
 subst this
 have I0:=P9 hH
 have hc0:h.getD 0 none=some (.tree false 0 t xs none):=by rw[hh];rfl
 have hc1:h.getD 1 none=some (.tree false 0 t [z] none):=by rw[hh];rfl
 have hc2:h.getD 2 none=none:=by rw[hh];rfl
 have hd2:h'.getD 2 none=some (.tree false 0 t ys none):=by rw[hh'];rfl
 have hst0:=AB hc0
 have hst1:=AB hc1
 have hlen:ys.length=xs.length+1:=by rw[hys];simp;omega
 simp only[Ag]at h1 h2
 have hown:=h1
 have hown2:=h2
 rw[BG hst0]at h1
 rw[BG hst1]at h2
 rcases JJ h2 with⟨hz,_⟩|⟨vb,m',av,arrA,tA,rfl,hm',hav,hvbh,hvcap,hιv⟩
 ·simp[Cont.len]at hz
 simp only[Cont.len,Cont.sz,List.length_singleton]at hm' hvcap hιv
 obtain rfl:=hav (by omega)
 obtain⟨vb',arrA',tA',g1,g2,g3,g4⟩:=Lp hH hc1 (by simp)
 rw[hιv]at g1;obtain rfl:vb=vb':=by simpa using g1
 rw[hvbh]at g2;obtain⟨rfl,rfl⟩:arrA=arrA'/\tA=tA':=by simpa using g2
 obtain⟨news,m2,m4,m3⟩:=g4 0 (by simp)
 simp only[Nat.zero_mul,zJj,List.getElem_singleton]at m3 m4
 have htc:∀(r ver:Nat) (ls:List (den t)) i cs,(Cont.tree false ver t ls none).at? r i=some cs->∀d∈cs,d.cell=true:=fun r ver ls i cs hat d hd=>by
  obtain⟨_,rfl⟩:=KN hat
  exact PO _ _ _ _ _ (fun c hc=>Js t _ c hc) d hd
 have hone:∀x∈news,x.oneCell'=true:=fun x hx=>by
  obtain⟨j,hj,rfl⟩:=zJz hx
  have:=m4 j hj
  exact Wj hH hst1 (htc 1 0 [z]) hιv hvbh j (by simp only[Cont.len,Cont.sz,List.length_singleton,Nat.one_mul];omega) _ this
 have hcs:∀j v,news[j]? =some v->w.cell? (Addr.add ⟨vb,0,none⟩ j)=some v:=fun j v hv=>by
  obtain⟨hj,rfl⟩:=zQj.1 hv
  simp only[World.cell?,Addr.add_lit,hvbh,Option.isSome_none,Bool.false_eq_true,if_false,zJj]
  exact m4 j hj
 by_cases hend:k=xs.length
 ·
  subst hend
  have e1:ys=xs++[z]:=by rw[hys];simp
  obtain⟨val,E',w',k1,k2,k3,k4⟩:=T6 (K:=fun _=>False) I0 L.t24 hte (ρ.t 24) (r:=1) (base:=2) hc1 hc2 hsz (by simpa using hlim) hown2 (.inr ⟨0,0,by decide,hc0,hown,rfl⟩)
  have hA:∃A c,p=.slice A xs.length c/\xs.length<=c/\(A=none->xs.length=0/\c=0):=by
   rcases JJ h1 with⟨h0,rfl⟩|⟨b,n,a,arr,ty,rfl,hn,_⟩
   ·simp only[Cont.len]at h0
    exact⟨none,0,by rw[h0],by omega,fun _=>⟨h0,rfl⟩⟩
   ·exact⟨some a,n,rfl,hn,fun h=>by cases h⟩
  obtain⟨A,c,rfl,hnc,hA0⟩:=hA
  refine(qL L xs.length _ A c rfl hnc hA0 _ m' w w' val k1).mono ?_
  rintro e w2 ⟨rfl,rfl⟩
  have e2:apD h [(0,Cont.dead),(1,Cont.dead),(2,.tree false 0 t (xs++[z]) none)]=h':=by rw[hh,hh',e1];rfl
  rw[e2]at k2 k4
  exact⟨[val],E',rfl,k2,Ak.cons k4 Ak.nil⟩
 ·rcases JJ h1 with⟨h0,_⟩|⟨b,n,a,arr,ty,rfl,hn,ha,hb,hcap,hι⟩
  ·simp only[Cont.len]at h0;omega
  simp only[Cont.len,Cont.sz]at hn hcap hι
  obtain rfl:=ha (by omega)
  have hvb:vb≠b:=by
   rintro rfl
   have:=(hH.inj _ _ _ _ _ _ _ hιv hι).1
   omega
  obtain⟨w',b',n',arr',ty2,hrun,f1,f2,f3,f4,f5,f6,f7,f8,f9,f10,f11,f12,f13⟩:=qJ L hte hpos hb (by rw[<-hsz];exact hcap) (i:=k) (n:=xs.length) (by omega) hn hlim hvb (m':=m') (news:=news) (by rw[m2,hsz]) hone (fun k' hk x hx=>Wj hH hst0 (htc 0 0 xs) hι hb k' (by simp only[Cont.len,Cont.sz];rw[hsz];exact hk) x hx) hvbh hcs
  rw[<-hsz]at f3 f10 f11 f12
  refine hrun.mono ?_
  rintro e w2 ⟨rfl,rfl⟩
  obtain⟨b0,arr0,ty0,k1,k2,k3,hel⟩:=Lp hH hc0 (by omega)
  rw[hι]at k1;obtain rfl:b=b0:=by simpa using k1
  rw[hb]at k2;obtain⟨rfl,rfl⟩:arr=arr0/\ty=ty0:=by simpa using k2
  let σ:Nat×Nat->Option (Nat×Nat):=fun p=>if p.1<k then E.ι 0 (some p)else if p.1=k then E.ι 1 (some (0,p.2))else E.ι 0 (some (p.1-1,p.2))
  have hσ1:∀p b1 n1,σ p=some (b1,n1)->(p.1<k/\E.ι 0 (some p)=some (b1,n1))\/(p.1=k/\E.ι 1 (some (0,p.2))=some (b1,n1))\/(k<p.1/\E.ι 0 (some (p.1-1,p.2))=some (b1,n1)):=by
   intro p b1 n1 ee
   simp only[σ]at ee
   split at ee
   ·rename_i h3;exact .inl ⟨h3,ee⟩
   ·split at ee
    ·rename_i h3;exact .inr (.inl ⟨h3,ee⟩)
    ·exact .inr (.inr ⟨by omega,ee⟩)
  have hbroot:∀q κ n,E.ι q (some κ)≠some (b',n):=by
   intro q κ n ee
   rcases f13 with h|⟨rfl,_,_⟩
   ·have:=hH.own_lt b' ⟨_,_,_,ee⟩;omega
   ·have:=(hH.inj _ _ _ _ _ _ _ ee hι).2;cases this
  obtain⟨E',g1,g2,g3⟩:=LF I0 (r:=2) (ver:=0) (t:=t) (xs:=ys) (K:=fun q=>q=0\/q=1)
   (fun q hq=>hq.elim (fun e=>by subst e;exact⟨by decide,_,hc0,rfl⟩) (fun e=>by subst e;exact⟨by decide,_,hc1,rfl⟩)) (h':=h') hd2
   (by rintro q (rfl|rfl)<;>(rw[hh'];rfl))
   (fun q q1 q2=>by
     obtain⟨q',rfl⟩:∃q',q=q'+3:=⟨q-3,by have:q≠0:=fun e=>q2 (.inl e);have:q≠1:=fun e=>q2 (.inr e);omega⟩
     rw[hh,hh'];rfl) f1 f9 (.inl hc2)
   (by
     rcases f13 with h|⟨rfl,rfl,h⟩
     ·exact .inr h
     ·exact .inl ⟨0,_,.inr (.inl rfl),hι,fun a' t' ha'=>by rw[hb]at ha';have h9:arr=a'/\ty2=t':=(by simpa using ha');exact⟨h9.2.symm,by rw[h,h9.1]⟩⟩) f4 f5 f6 f7 f8
   (by rw[hlen];exact Nat.le_trans (zJx _ f2) f3) σ
   (fun p b1 n1 ee=>by
     rcases hσ1 p b1 n1 ee with⟨_,m5⟩|⟨_,m5⟩|⟨_,m5⟩
     ·exact⟨0,_,.inr (.inl rfl),m5,fun hbb=>by subst hbb;exact hbroot _ _ _ m5⟩
     ·exact⟨1,_,.inr (.inr rfl),m5,fun hbb=>by subst hbb;exact hbroot _ _ _ m5⟩
     ·exact⟨0,_,.inr (.inl rfl),m5,fun hbb=>by subst hbb;exact hbroot _ _ _ m5⟩)
   (fun p p' b1 n1 n2 ee ee'=>by
     obtain⟨p1,p2⟩:=p;obtain⟨p1',p2'⟩:=p'
     rcases hσ1 _ b1 n1 ee with⟨l1,m5⟩|⟨l1,m5⟩|⟨l1,m5⟩<;>rcases hσ1 _ b1 n2 ee' with⟨l2,m6⟩|⟨l2,m6⟩|⟨l2,m6⟩<;>
      (have h7:=hH.inj _ _ _ _ _ _ _ m5 m6
       simp only[Option.some.injEq,Prod.mk.injEq,true_and]at h7 l1 l2 ⊢
       omega))
   (fun j hj=>by
     have hj':j<(xs.take k++z::xs.drop k).length:=by rw[<-hys];exact hj
     have hyj:ys[j]=(xs.take k++z::xs.drop k)[j]:=by simp only[hys]
     rcases qK hil hj' with⟨hx,hlt,he⟩|⟨rfl,he⟩|⟨hx,hlt,he⟩
     ·obtain⟨vs,q1,q3,q2⟩:=hel j hx
      refine⟨vs,?_,fun jj hjj=>?_⟩
      ·rw[hyj,he]
       refine Ju.of (by rw[Dq,q1]) fun jj hj1 hj2=>?_
       rw[zJj]
       exact JD (by simp only[σ];rw[if_pos hlt]) (q2 jj hj1 hj2 (by simp))
      ·have:j*t.size+t.size<=k*t.size:=by rw[<-Nat.succ_mul];exact zJx _ hlt
       rw[f10 _ (by omega)];exact q3 jj hjj
     ·refine⟨news,?_,fun jj hjj=>?_⟩
      ·rw[hyj,he]
       refine Ju.of (by rw[Dq,m2]) fun jj hj1 hj2=>?_
       rw[zJj]
       exact JD (σ:=fun p=>E.ι 1 (some p)) (i:=0) (by simp only[σ];rw[if_neg (Nat.lt_irrefl _)];simp) (m3 jj hj1 hj2 (by simp))
      ·rw[f11 _ (by omega)];simp[hjj]
     ·obtain⟨vs,q1,q3,q2⟩:=hel (j-1) hx
      refine⟨vs,?_,fun jj hjj=>?_⟩
      ·rw[hyj,he]
       refine Ju.of (by rw[Dq,q1]) fun jj hj1 hj2=>?_
       rw[zJj]
       exact JD (i:=j-1) (σ:=fun p=>E.ι 0 (some p)) (by simp only[σ];rw[if_neg (by omega),if_neg (by omega)]) (q2 jj hj1 hj2 (by simp))
      ·have a1:j*t.size=t.size+(j-1)*t.size:=by rw[Nat.add_comm,<-Nat.succ_mul];congr 1;omega
       have a2:k*t.size<=(j-1)*t.size:=zJx _ (by omega)
       have a3:(j-1)*t.size+t.size<=xs.length*t.size:=by rw[<-Nat.succ_mul];exact zJx _ (by omega)
       rw[a1,Nat.add_assoc,f12 _ (by omega) (by omega)];exact q3 jj hjj)
  refine⟨[_],E',rfl,g1,Ak.cons ?_ Ak.nil⟩
  simp only[Ag]
  rw[BG (AB hd2)]
  exact⟨by simp,.inr ⟨b',n',⟨b',0,none⟩,by simpa[key,Cont.sz]using g3,by simp only[Option.getD_none,Cont.len,hlen],by simp only[Option.getD_none,Cont.len,hlen];exact f2,by simp,arr',ty2,f1,by simpa[Cont.sz]using f3⟩⟩
end
end Go.Ab
end
section
namespace Go.Ab
section
variable {t:Ty}
def dV (S:den (.prod t (.prod t .unit))->Option (Int×Unit))(a b:den t):Int:=match S (a,b,())with|some r=>r.1|none=>0
def ltS (S:den (.prod t (.prod t .unit))->Option (Int×Unit))(a b:den t):Bool:=decide (dV S a b<0)
structure SortOK (S:den (.prod t (.prod t .unit))->Option (Int×Unit)):Prop where
 tot:∀a b,∃n,S (a,b,())=some (n,())
 irrefl:∀x,ltS S x x=false
 trans:∀x y z,ltS S x y=true->ltS S y z=true->ltS S x z=true
 ntrans:∀x y z,ltS S x y=false->ltS S y z=false->ltS S x z=false
 anti:∀x y,ltS S x y=false->ltS S y x=false->x=y
noncomputable def WV (S:den (.prod t (.prod t .unit))->Option (Int×Unit))(x:List (den t)×Unit):Option (List (den t)×Unit):=
 open Classical in if SortOK S/\x.1.length<4611686018427387904 then some (x.1.mergeSort fun a b=>!ltS S b a,())else none
end
end Go.Ab
end
section
namespace Go.Ab
def Ty.val:Ty->Bool
 | .int _| .bool| .str| .unit=>true
 | .prod a b=>a.val&&b.val
 |_=>false
def K2:(t:Ty)->den t->List Value
 | .prod a b,x=>K2 a x.1++K2 b x.2
 | .int k,n=>[.int k n]
 | .bool,b=>[.bool b]
 | .str,s=>[.string s]
 |_,_=>[]
theorem RC {I:Nat->Prop}{w:World}:(t:Ty)->t.val=true->{x:den t}->{vs:List Value}->B5 I w t x vs->vs=K2 t x
 | .int _,_,_,_,h| .bool,_,_,_,h| .str,_,_,_,h| .unit,_,_,_,h=>by simpa only[B5,K2]using h
 | .prod a b,hv,x,vs,h=>by
   simp only[Ty.val,Bool.and_eq_true]at hv
   simp only[B5]at h
   obtain⟨us,ws,rfl,h1,h2⟩:=h
   rw[RC a hv.1 h1,RC b hv.2 h2];rfl
 | .err,hv,_,_,_| .idx,hv,_,_,_| .slice _,hv,_,_,_| .iref _,hv,_,_,_| .fn _ _,hv,_,_,_=>by simp[Ty.val]at hv
theorem Nn (I:Nat->Prop)(w:World):(t:Ty)->t.val=true->(x:den t)->B5 I w t x (K2 t x)
 | .int _,_,_| .bool,_,_| .str,_,_| .unit,_,_=>by simp only[B5,K2]
 | .prod a b,hv,x=>by
   simp only[Ty.val,Bool.and_eq_true]at hv
   simp only[B5]
   exact⟨_,_,rfl,Nn I w a hv.1 x.1,Nn I w b hv.2 x.2⟩
 | .err,hv,_| .idx,hv,_| .slice _,hv,_| .iref _,hv,_| .fn _ _,hv,_=>by simp[Ty.val]at hv
end Go.Ab
end
section
namespace Go.Ab
open Go.RowKit Go.Sort Go.Proofs Go.Shelf
theorem Np {t:Ty}(hv:t.val=true)(x:den t):(K2 t x).length=t.size:=B5.length t (Nn (fun _=>False) default t hv x)
theorem Agd {t:Ty}(hv:t.val=true)(x:den t):∀v∈K2 t x,v.oneCell'=true:=by
 intro v hm
 have h1:=Dn (E:=⟨fun _ _=>none,fun _=>False⟩) (h:=[]) t (Nn (fun _=>False) default t hv x)
 obtain⟨j,hj,rfl⟩:=zJz hm
 have hl:=h1.length
 exact KW (Js t x _ (List.getElem_mem (show j<(flat t x).length by omega))) (h1.getAt j (by omega) hj)
theorem dQ (w:World):HeapOK ⟨fun _ _=>none,fun _=>False⟩ [] w where
 obj:=fun r s c h=>by rw[EH (by simp)]at h;cases h
 siz:=fun r s c b n _ h=>by cases h
 inj:=fun r κ r' κ' b n n' h=>by cases h
 live:=fun r κ x h=>by cases h
 I_lt:=fun b h=>False.elim h
 own_lt:=fun b h=>by obtain⟨r,κ,n,h⟩:=h;cases h
 apart:=fun r κ b n h=>by cases h
 roI:=fun r κ b n h=>by cases h
set_option maxHeartbeats 1000000 in
theorem A99 {P:Program}{ρ:Go.Shelf.Ren}(L:SlLaysF0.n6 P ρ){t:Ty}(hv:t.val=true)(hagg:t.agg=true)(aE:∀w,(isAgg (ρ.t 24)).run P w=.ok true w)(zE:∀w,(Go.sizeOf (ρ.t 24)).run P w=.ok t.size w)
 {f g:FuncId}(hf:ρ.f 6=f){S:den (.prod t (.prod t .unit))->Option (Int×Unit)}(hg:Aj P ⟨g,⟨.slot t (.slot t .nil),.nil⟩,⟨.slot .i .nil,.nil⟩,S⟩):
 Aj P ⟨f,⟨.own 0 (.fn g .nil .nil),.lst false t .nil⟩,⟨.nil,.lst false t .nil⟩,WV S⟩:=by
 subst hf
 obtain⟨nm,hnm,hfn⟩:=L.f6
 refine⟨⟨_,hfn,hnm,rfl⟩,fun x y hy E w vs hH hA=>?_⟩
 obtain⟨xs,u⟩:=x
 change List (den t)at xs
 change WV S (xs,u)=some y at hy
 unfold WV at hy
 split at hy
 case isFalse=>cases hy
 rename_i hSS
 obtain⟨hS,hsz⟩:=hSS
 obtain rfl:_=y:=Option.some.inj hy
 obtain⟨⟨gfn,hgf,hgn,hgb⟩,hgspec⟩:=hg
 have eg:∀args w,(callFunc g args).run P w=.ok (.enter g args) w:=by
  cases hb:gfn.body with
  |none=>rw[hb]at hgb;cases hgb
  |some c=>exact enters_of hgf hgn hb
 change HeapOK E [some (.lst false t xs)] w at hH
 change Ak E [some (.lst false t xs)] w [.own 0 none none,.fn g []] vs at hA
 show Calls P (ρ.f 6) vs.toArray w fun e w'=>∃us E',e=.returned (S7 us)/\Inv (O3 E [some (.lst false t xs)] w) E' [some (.lst false t (xs.mergeSort fun a b=>!ltS S b a))] w'/\Ak E' [some (.lst false t (xs.mergeSort fun a b=>!ltS S b a))] w' [] us
 simp only[Ak,Ag]at hA
 obtain⟨p,us,rfl,h1,q,us2,rfl,⟨us3,rfl,h2⟩,rfl⟩:=hA
 obtain rfl:us3=[]:=h2
 have hst:AC [some (.lst false t xs)] 0 none=.on (.lst false t xs):=rfl
 rw[BG hst]at h1
 have hI:=P9 hH
 have nilc:xs.length=0->∀A c,p=.slice A 0 c->Calls P (ρ.f 6) [p,.func (.func g) #[] #[]].toArray w fun e w'=>∃us E',e=.returned (S7 us)/\Inv (O3 E [some (.lst false t xs)] w) E' [some (.lst false t (xs.mergeSort fun a b=>!ltS S b a))] w'/\Ak E' [some (.lst false t (xs.mergeSort fun a b=>!ltS S b a))] w' [] us:=by
  rintro h0 A c rfl
  have hx:xs=[]:=List.eq_nil_of_length_eq_zero h0
  subst hx
  refine(AnyF.slices_SortFunc_none {L with} A c (.func (.func g) #[] #[]) w).mono ?_
  rintro e w' ⟨rfl,rfl⟩
  exact⟨[],E,rfl,by simpa using hI,Ak.nil⟩
 rcases JJ h1 with⟨h0,rfl⟩|⟨b,n,a,arr,ty,rfl,hn,ha,hb,hcap,hι⟩
 ·exact nilc h0 none 0 rfl
 simp only[Cont.len,Cont.sz]at hn hcap hι
 by_cases h0:xs.length=0
 ·exact nilc h0 (some a) n (by simp[Cont.len,h0])
 obtain rfl:=ha (by omega)
 have hpos:0<xs.length:=by omega
 haveI:Inhabited (den t):=⟨xs[0]⟩
 have hbl:=(Array.getElem?_eq_some_iff.1 hb).1
 have hfit:xs.length*t.size<=arr.size:=Nat.le_trans (zJx _ hn) hcap
 have hcells:∀i (hi:i<xs.length) j (hj:j<t.size),arr[i*t.size+j]? =some ((K2 t xs[i])[j]'(by rw[Np hv];exact hj)):=by
  intro i hi j hj
  rcases hH.obj 0 none _ hst with h3|⟨b',arr',ty',hι',hb',_,hels⟩
  ·exact absurd h3 h0
  simp only[key,Cont.sz]at hι'
  rw[hι]at hι';obtain rfl:b=b':=by simpa using hι'
  rw[hb]at hb'
  simp only[Option.some.injEq,Obj.cells.injEq]at hb'
  obtain⟨rfl,_⟩:=hb'
  obtain⟨cs,ws,g1,g2,g3,g4⟩:=hels i hi
  obtain⟨_,rfl⟩:=I8 g1
  have:=RC t hv (JC t g3)
  subst this
  exact g4 j (by rw[Np hv];exact hj)
 have hflat:∀(d:Array (den t)) m,m<d.size*t.size->∃hi:m / t.size<d.size,∃hj:m % t.size<(K2 t d[m / t.size]).length,(flatK (K2 t) t.size d)[m]! =(K2 t d[m / t.size])[m % t.size]:=by
  intro d m hm
  have hs:0<t.size:=by rcases Nat.eq_zero_or_pos t.size with h|h;· rw[h]at hm;simp at hm
                       ·exact h
  have hi:m / t.size<d.size:=Nat.div_lt_of_lt_mul (by rwa [Nat.mul_comm])
  have hj:m % t.size<(K2 t d[m / t.size]).length:=by rw[Np hv];exact Nat.mod_lt _ hs
  refine⟨hi,hj,?_⟩
  rw[get_flatK _ _ _ m hm,getElem!_pos d _ hi,getElem!_pos (K2 t d[m / t.size]) _ hj]
 have hH':HoldsK (K2 t) t.size w b 0 xs.toArray:=by
  intro m hm
  have hm':m<xs.toArray.size*t.size:=by simpa using hm
  obtain⟨hi,hj,e1⟩:=hflat xs.toArray m hm'
  rw[e1]
  have hi':m / t.size<xs.length:=by simpa using hi
  have hj':m % t.size<t.size:=by rw[Np hv]at hj;exact hj
  have:=hcells (m / t.size) hi' (m % t.size) hj'
  rw[Nat.div_add_mod']at this
  refine⟨?_,by simp[World.frozen?,hb]⟩
  simp only[World.cell?,hb,zJj,Option.isSome_none,Bool.false_eq_true,if_false,id]
  simpa using this
 have hcmp:CmpLays P g #[] (K2 t) t.size (dV S) b 0 xs.toArray.size w:=by
  intro m os dk _ x y
  obtain⟨c,hc⟩:=hS.tot x y
  have hcf:dV S x y=c:=by unfold dV;rw[hc]
  have h3:=hgspec (x,y,()) (c,()) hc ⟨fun _ _=>none,fun _=>False⟩ (sortWorldK (K2 t) t.size w b 0 m dk os) [.agg (K2 t x).toArray,.agg (K2 t y).toArray]
   (dQ _)
   (Ak.cons (Oe (by unfold R9 LN;rw[if_pos hagg];exact⟨_,rfl,Nn _ _ t hv x⟩)) (Ak.cons (Oe (by unfold R9 LN;rw[if_pos hagg];exact⟨_,rfl,Nn _ _ t hv y⟩)) Ak.nil))
  refine(show Calls P g (#[.agg (K2 t x).toArray,.agg (K2 t y).toArray]++#[]) _ _ from h3.mono ?_)
  rintro e w' ⟨us,E',rfl,hI',hr⟩
  simp only[Tmpl.vals0,Tmpl.vals,TmL.write,Ak]at hr
  obtain⟨v,us',rfl,hr1,rfl⟩:=hr
  have:=BU hr1
  subst this
  refine⟨by rw[hcf];rfl,w'.drawn-(sortWorldK (K2 t) t.size w b 0 m dk os).drawn,w'.heap.extract (sortWorldK (K2 t) t.size w b 0 m dk os).heap.size w'.heap.size,?_⟩
  obtain⟨bo,bt,⟨bu,bd⟩,bs,bb,_⟩:=hI'.bel
  generalize hW:sortWorldK (K2 t) t.size w b 0 m dk os=W at*
  obtain⟨wh,wt,wd,wo,wu⟩:=w'
  obtain⟨Wh,Wt,Wd,Wo,Wu⟩:=W
  simp only[O3]at bo bt bu bd bs bb
  subst bo;subst bt;subst bu
  simp only[grow,World.drewN]
  congr 1
  ·apply Array.ext_getElem?
   intro j
   by_cases hj:j<Wh.size
   ·rw[Array.getElem?_append_left hj]
    exact bb j hj (by rintro⟨r,κ,n,h,_⟩;cases h)
   ·rw[Array.getElem?_append_right (by omega),Array.getElem?_extract]
    have:min wh.size wh.size-Wh.size=wh.size-Wh.size:=by simp
    by_cases hj2:j<wh.size
    ·rw[if_pos (by omega)];congr 1;omega
    ·rw[if_neg (by omega),Array.getElem?_eq_none (by omega)]
  ·omega
 refine(AnyQ.slices_SortFunc_total L t.size aE zE (K2 t) (Np hv) (Agd hv) (dV S) ⟨hS.irrefl,hS.trans,hS.ntrans⟩ g #[] b 0 n xs.toArray w eg hcmp hH' hbl (by simpa using hsz) hS.anti).mono ?_
 rintro e w' ⟨rfl,m,os,rfl⟩
 let ys:=xs.mergeSort fun a b=>!ltS S b a
 have hyl:ys.length=xs.length:=List.length_mergeSort _
 let F:=flatK (K2 t) t.size ys.toArray
 have hFs:F.size=xs.length*t.size:=by simp only[F,size_flatK,List.size_toArray,hyl]
 let arr':=putCells id 0 F arr
 have hget:∀k,arr'[k]? =if k<xs.length*t.size then some F[k]! else arr[k]?:=by
  intro k
  simp only[arr',putCells,Array.getElem?_mapIdx,Nat.zero_le,true_and,zJj,Nat.sub_zero,id,hFs]
  by_cases hk:k<arr.size
  ·rw[Array.getElem?_eq_getElem hk]
   simp only[Option.map_some]
   by_cases h:k<xs.length*t.size
   ·simp[h]
   ·simp[h]
  ·rw[Array.getElem?_eq_none (by omega),if_neg (by omega)];rfl
 have hbk:(sortWorldK (K2 t) t.size w b 0 m ys.toArray os).heap.size=w.heap.size+os.size:=by simp[sortWorldK,grow,putRowK,putRow,mapBlock,ahead]
 have hbw:∀k,k<w.heap.size->(sortWorldK (K2 t) t.size w b 0 m ys.toArray os).heap[k]? =if k=b then some (.cells arr' ty (0,0))else w.heap[k]?:=by
  intro k hk
  simp only[sortWorldK,grow,putRowK,putRow,mapBlock,ahead]
  rw[Array.getElem?_append_left (by simpa using hk),Array.getElem?_modify]
  by_cases e:b=k
  ·subst e;rw[if_pos rfl,if_pos rfl,show(Sort.ahead w m).heap[b]? =w.heap[b]? from rfl,hb];rfl
  ·rw[if_neg e,if_neg (Ne.symm e)];rfl
 obtain⟨k1,k2⟩:=RQ hI (r:=0) (c:=.lst false t xs) rfl trivial (c':=.lst false t ys) trivial rfl (arr':=arr') hι hb hyl rfl (by simp[arr',putCells]) hfit (fun i hi=>by
  have hi:i<xs.length:=hi
  have hi2:i<ys.length:=by omega
  refine⟨flat t ys[i],K2 t ys[i],by simp[Cont.at?,hi2],Np hv _,Dn t (Nn _ _ t hv _),fun j hj=>?_⟩
  rw[Np hv]at hj
  have hm:i*t.size+j<xs.length*t.size:=by
   have:i*t.size+t.size<=xs.length*t.size:=by rw[<-Nat.succ_mul];exact zJx _ hi
   omega
  have hs:0<t.size:=by omega
  show arr'[i*t.size+j]? =_
  rw[hget,if_pos hm]
  obtain⟨hi3,hj3,e1⟩:=hflat ys.toArray (i*t.size+j) (by simpa[hyl]using hm)
  have hd:(i*t.size+j) / t.size=i:=by rw[Nat.mul_comm,Nat.mul_add_div hs,Nat.div_eq_of_lt hj];rfl
  have hmm:(i*t.size+j) % t.size=j:=by rw[Nat.mul_comm,Nat.mul_add_mod,Nat.mod_eq_of_lt hj]
  show some (flatK (K2 t) t.size ys.toArray)[i*t.size+j]! =_
  rw[e1]
  simp only[hd,hmm,List.getElem_toArray]) hbw (by rw[hbk];omega) rfl rfl ⟨rfl,by simp[sortWorldK,grow,putRowK,putRow,mapBlock,ahead]⟩
 exact⟨[],E,rfl,k1,Ak.nil⟩
end Go.Ab
end
section
namespace Go.Ab
def aM {α:Type}(S:List (Int×Int×α)×Unit->Option (Bool×Unit)):List Int->List (List (Int×Int×α))->Option Bool
 |_,[]=>some true
 |known,l::r=>(S (l,())).bind fun b=>bif !b.1 then some false else match l with
  |[]=>none
  |o::_=>if-9223372036854775808<=o.2.1/\o.2.1<9223372036854775808 then(bif known.contains o.2.1 then some false else aM S (o.2.1::known) r)else none
def A8q {α:Type}(S:List (Int×Int×α)×Unit->Option (Bool×Unit))(x:List (List (Int×Int×α))×Unit):Option (Bool×Unit):=
 if x.1.length<4611686018427387904 then(aM S [] x.1).map fun b=>(b&&decide ((x.1.length:Int)<=6),())else none
end Go.Ab
end
section
namespace Go.Ab
open Go.RowKit Go.Proofs Go.Maps Go.WideShapes
structure Grow (w w':World):Prop where
 os:w'.os=w.os
 tape:w'.tape=w.tape
 output:w'.output=w.output/\w.drawn<=w'.drawn
 size:w.heap.size<=w'.heap.size
 blk:∀b,b<w.heap.size->w'.heap[b]? =w.heap[b]?
theorem Grow.refl (w:World):Grow w w:=⟨rfl,rfl,⟨rfl,Nat.le_refl _⟩,Nat.le_refl _,fun _ _=>rfl⟩
theorem Grow.trans {a b c:World}(h:Grow a b)(k:Grow b c):Grow a c:=⟨k.os.trans h.os,k.tape.trans h.tape,⟨k.output.1.trans h.output.1,Nat.le_trans h.output.2 k.output.2⟩,Nat.le_trans h.size k.size,fun i hi=>(k.blk i (Nat.lt_of_lt_of_le hi h.size)).trans (h.blk i hi)⟩
theorem A7k {F:Fr}{E:Env}{w w':World}(H:Inv F E [] w)(G:Grow w w'):Inv F E [] w':=by
 have T:Touch (fun _=>False) E [] w E [] w':=by
  refine{hh:=fun q hq=>rfl,hι:=fun q κ hq=>rfl,II:=fun b hb=>hb,size:=G.size,os:=G.os,tape:=G.tape,output:=G.output,
         blk:=fun b hb _=>G.blk b hb,asz:=fun b a t ha=>?_,off:=?_,on:=?_,som:=?_,fix:=(fun q hq h1=>False.elim hq),obj:=?_,siz:=?_,from_:=?_,inj:=?_,live:=?_,Inew:=fun b hb=>.inl hb,apart:=?_,roI:=?_}
  ·exact⟨a,by rw[G.blk b (Array.getElem?_eq_some_iff.1 ha).1];exact ha,rfl⟩
  all_goals(intros;first|exact False.elim (by assumption)|contradiction)
 exact(T.inv H).1
theorem rG {P:Program}{g:FuncId}{t:Ty}{S:List (den t)×Unit->Option (Bool×Unit)}(hg:Aj P ⟨g,⟨.slot (.slice t) .nil,.nil⟩,⟨.slot .bool .nil,.nil⟩,S⟩){I:Nat->Prop}{w:World}(hI:∀b,I b->b<w.heap.size){l:List (den t)}{v:Value}(hr:B5 I w (.slice t) l [v]){b:Bool}(hS:S (l,())=some (b,())):
 Calls P g #[v] w fun e w'=>e=.returned (.bool b)/\Grow w w':=by
 have h3:=hg.2 (l,()) (b,()) hS ⟨fun _ _=>none,I⟩ w [v]
  {obj:=fun r s c h=>by rw[show(Tmpl.objs0 ⟨.slot (.slice t) .nil,.nil⟩ (l,()))=[]from rfl]at h;rw[EH (by simp)]at h;cases h
   siz:=fun r s c b n _ h=>by cases h
   inj:=fun r κ r' κ' b n n' h=>by cases h
   live:=fun r κ x h=>by cases h
   I_lt:=hI
   own_lt:=fun b h=>by obtain⟨r,κ,n,h⟩:=h;cases h
   apart:=fun r κ b n h=>by cases h
   roI:=fun r κ b n h=>by cases h}
  (Ak.cons (Oe (t:=.slice t) (by unfold R9 LN;rw[if_neg (by simp[Ty.agg])];exact hr)) Ak.nil)
 refine h3.mono ?_
 rintro e w' ⟨us,E',rfl,hI',hres⟩
 simp only[Tmpl.vals0,Tmpl.vals,TmL.write,Ak]at hres
 obtain⟨u,us',rfl,hr1,rfl⟩:=hres
 have:u=.bool b:=by
  have h4:Ag E' (mrg (Tmpl.objs0 ⟨.slot (.slice t) .nil,.nil⟩ (l,())) (Tmpl.objs0 ⟨.slot .bool .nil,.nil⟩ (b,()))) w' (.b b) u:=hr1
  simpa only[Ag,B5,List.cons.injEq,and_true]using h4
 subst this
 obtain⟨bo,bt,⟨bu,bd⟩,bs,bb,_⟩:=hI'.bel
 exact⟨rfl,bo,bt,⟨bu,bd⟩,bs,fun k hk=>bb k hk (by rintro⟨r,κ,n,h,_⟩;cases h)⟩
def WO {H:Type}(known:List Int)(D:DataW H):Prop:=IsMap D/\∀k:Int,D.atKey (.int .i64 k) (.lit (.bool false))=.lit (.bool (known.contains k))
theorem sk {H:Type}:WO (H:=H) [] (.map []):=⟨⟨[],rfl⟩,fun k=>by simp[DataW.atKey]⟩
theorem sj {H:Type}{known:List Int}{D:DataW H}(h:WO known D)(x:Int):WO (x::known) (D.put (.int .i64 x) (.lit (.bool true))):=by
 obtain⟨h1,h2⟩:=h
 refine⟨?_,fun k=>?_⟩
 ·obtain⟨es,rfl⟩:=h1;exact⟨_,rfl⟩
 ·by_cases e:k=x
  ·subst e;rw[atKey_put_same h1 (by simp[WideAt.IsKeyLit])];simp
  ·rw[atKey_put_other (by simp;exact e),h2];simp[e]
theorem TP {H:Type}{P:Program}{k:TypeId}{R:Value->Option (DataW H×List MemPlace)}{b n:Nat}{D:DataW H}{w w':World}(h:w.ownsMap P k R b n D)(G:Grow w w'):w'.ownsMap P k R b n D:=by
 have hlt:=h.lt
 obtain⟨es,clock,hb,F,hs,hD⟩:=h
 exact⟨es,clock,(G.blk b hlt).trans hb,F,hs,hD⟩
theorem PS {H:Type}{P:Program}{e:TypeId}(he:P.underlying e=some .bool){v:Value}{z:DataW H×List MemPlace}(h:plainElem P e v=some z):∃x,v=.bool x/\z=(.lit (.bool x),[]):=by
 unfold plainElem at h
 rw[he]at h
 cases v<;>simp at h
 exact⟨_,rfl,h.symm⟩
theorem sr {w w':World}(G:Grow w w'){b:Nat}(hb:b<w.heap.size){o:Nat}{cs:List Value}(hc:IM w b o cs):IM w' b o cs:=fun j hj=>by
 have:=hc j hj
 simp only[World.cell?]at this ⊢
 rw[G.blk b hb];exact this
end Go.Ab
end
