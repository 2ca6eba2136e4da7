import Derived.Tactics
import Derived.Below
import Derived.KernelRfl
import Derived.Laws.StructEq
import Derived.Laws.Slices
import Derived.Laws.Append
import Derived.Orders
import Derived.Laws.Concat
import Derived.Laws.Cover1
set_option linter.all false
open Nat renaming le_refl->zQq
open List renaming getElem?_eq_some_iff->zQj
section
namespace Go.Ab
inductive Ty where
 |int (k:IntKind)|bool|str|err|unit|idx
 |prod (a b:Ty)|slice (t:Ty)|iref (t:Ty)|fn (f:FuncId)(t:Ty)
 deriving DecidableEq
abbrev Ty.i:Ty:=.int .i64
@[reducible] def den:Ty->Type
 | .int _=>Int| .bool=>Bool| .str=>ByteArray| .err=>Bool| .unit=>Unit| .idx=>Nat
 | .prod a b=>den a×den b| .slice t=>List (den t)| .iref t=>Option (den t)| .fn _ t=>den t
def Ty.agg:Ty->Bool| .prod _ _=>true| .unit=>true|_=>false
def Ty.size:Ty->Nat| .prod a b=>a.size+b.size| .unit=>0|_=>1
abbrev Sub:=Option (Nat×Nat×Nat)
inductive AV where
 |pv (t:Ty)(x:den t)
 |agg (cs:List AV)
 |tup (cs:List AV)
 |own (r:Nat)(s:Sub)(rg:Option (Nat×Nat))
 |ptr (r:Nat)(s:Sub)(i off:Nat)
 |mptr (r k ver off:Nat)(o:Option (Nat×Nat))
 |iptr (t:Ty)(x:den t)(off:Nat)
 |nils|nilp|nilf|nili
 |fn (f:FuncId)(cap:List AV)
 |unk
 |junk
abbrev AV.undef:AV:=.tup []
abbrev AV.n (n:Int):AV:=.pv (.int .i64) n
abbrev AV.b (b:Bool):AV:=.pv .bool b
def flat:(t:Ty)->den t->List AV
 | .prod a b,x=>flat a x.1++flat b x.2
 | .unit,_=>[]
 | .int k,x=>[.pv (.int k) x]
 | .bool,x=>[.pv .bool x]
 | .str,x=>[.pv .str x]
 | .err,x=>[.pv .err x]
 | .idx,x=>[.pv .idx x]
 | .slice t,x=>[.pv (.slice t) x]
 | .iref t,x=>[.pv (.iref t) x]
 | .fn f t,x=>[.pv (.fn f t) x]
def up (t:Ty)(x:den t):AV:=if t.agg then .agg (flat t x)else(flat t x).headD .junk
def ups:(t:Ty)->den t->List AV
 | .prod a b,x=>up a x.1::ups b x.2
 |_,_=>[]
inductive Cont where
 |lst (ro:Bool)(t:Ty)(xs:List (den t))
 |tree (ro:Bool)(ver:Nat)(t:Ty)(xs:List (den t))(ho:Option (Nat×Nat))
 |cells (sz:Nat)(es:List (List AV))
 |shp (sz len:Nat)
 |dead
abbrev Am:=List (Option Cont)
structure St where
 t:List AV
 h:Am
def St.get (s:St)(i:Nat):AV:=s.t.getD i .junk
def put (t:List AV)(d:Option Nat)(v:AV):List AV:=match d with|some i=>t.set i v|none=>t
def setH:Am->Nat->Cont->Am
 |[],0,c=>[some c]
 |[],n+1,c=>none::setH [] n c
 |_::h,0,c=>some c::h
 |o::h,n+1,c=>o::setH h n c
abbrev Bx:=List (Nat×Cont)
def apD:Am->Bx->Am
 |h,[]=>h
 |h,p::d=>apD (setH h p.1 p.2) d
def AV.const:Value->AV
 | .bool b=>.pv .bool b
 | .int k n=>.pv (.int k) n
 | .string s=>.pv .str s
 | .slice none 0 0=>.nils
 | .pointer none=>.nilp
 | .nilIface=>.nili
 | .nilFunc=>.nilf
 |_=>.junk
def ev (t:List AV):Operand->AV
 | .tmp i=>t.getD i .junk
 | .const v=>.const v
 | .global _=>.junk
 | .func f=>.fn f []
def JY (t u:Ty)(x:den t):Option (den u):=if h:t=u then some (h▸x)else none
def Dr {α:Type}(xs:List α):Option (Nat×Nat)->List α
 |none=>xs
 |some (off,n)=>(xs.drop off).take n
def Cont.len:Cont->Nat| .lst _ _ xs=>xs.length| .tree _ _ _ xs _=>xs.length| .cells _ es=>es.length| .shp _ n=>n| .dead=>0
def Cont.sz:Cont->Nat| .lst _ t _=>t.size| .tree _ _ t _ _=>t.size| .cells n _=>n| .shp n _=>n| .dead=>0
def Cont.ro:Cont->Bool| .lst ro _ _=>ro| .tree ro _ _ _ _=>ro|_=>false
def CB (r ver:Nat)(ho:Option (Nat×Nat))(i:Nat):Nat->List AV->List AV
 |_,[]=>[]
 |k,.pv (.slice _) _::cs=>(if ho=some (i,k)then .junk else .own r (some (i,k,ver)) none)::CB r ver ho i (k+1) cs
 |k,c::cs=>c::CB r ver ho i (k+1) cs
def Cont.at? (r:Nat):Cont->Nat->Option (List AV)
 | .lst _ t xs,i=>(xs[i]?).map (flat t)
 | .tree _ ver t xs ho,i=>(xs[i]?).map fun x=>CB r ver ho i 0 (flat t x)
 | .cells _ es,i=>es[i]?
 |_,_=>none
def Cont.atK {R:Type}(r:Nat)(c:Cont)(i:Nat)(K:List AV->Option R):Option R:=
 match c with
 | .lst _ t xs=>(xs[i]?).bind fun x=>K (flat t x)
 | .tree _ ver t xs ho=>(xs[i]?).bind fun x=>K (CB r ver ho i 0 (flat t x))
 | .cells _ es=>match es[i]? with|some cs=>K cs|none=>none
 |_=>none
def qF {R:Type}(ro:Bool)(t:Ty)(xs:List (den t))(i k:Nat)(K:Cont->Option R):Option R:=
 (xs[i]?).bind fun x=>match(flat t x)[k]? with
   |some (.pv (.slice u) ys)=>K (.lst ro u ys)
   |_=>none
def LE {R:Type}(h:Am)(r:Nat)(s:Sub)(K:Cont->Option R):Option R:=
 match h.getD r none with
 |none=>none
 |some .dead=>none
 |some c=>match s with
  |none=>K c
  |some (i,k,v)=>match c with
   | .tree ro ver t xs none=>if v=ver then qF ro t xs i k K else none
   |_=>none
def roH:Am->Am
 |[]=>[]
 |some (.lst true t xs)::h=>some (.lst true t xs)::roH h
 |some (.tree true v t xs ho)::h=>some (.tree true v t xs ho)::roH h
 |_::h=>none::roH h
def OY {R α:Type}(p:List AV->(α->List AV->Option R)->Option R):List (List AV)->(List α->Option R)->Option R
 |[],K=>K []
 |e::es,K=>p e fun x rest=>if rest.isEmpty then OY p es fun xs=>K (x::xs)else none
mutual
def DF {R:Type}(h:Am):(t:Ty)->List AV->(den t->List AV->Option R)->Option R
 | .prod a b,cs,K=>DF h a cs fun x cs=>DF h b cs fun y cs=>K (x,y) cs
 | .unit,cs,K=>K () cs
 | .int k,cs,K=>match cs with| .pv u x::cs=>(JY u (.int k) x).bind fun y=>K y cs|_=>none
 | .bool,cs,K=>match cs with| .pv u x::cs=>(JY u .bool x).bind fun y=>K y cs|_=>none
 | .str,cs,K=>match cs with| .pv u x::cs=>(JY u .str x).bind fun y=>K y cs|_=>none
 | .idx,cs,K=>match cs with| .pv u x::cs=>(JY u .idx x).bind fun y=>K y cs|_=>none
 | .err,cs,K=>match cs with| .pv u x::cs=>(JY u .err x).bind fun y=>K y cs| .nili::cs=>K true cs|_=>none
 | .slice t,cs,K=>match cs with
   | .pv u x::cs=>(JY u (.slice t) x).bind fun y=>K y cs
   | .nils::cs=>K [] cs
   | .own r s rg::cs=>LE h r s fun c=>match c with
     | .lst _ u xs=>(JY (.slice u) (.slice t) xs).bind fun ys=>K (Dr ys rg) cs
     | .tree _ _ u xs none=>(JY (.slice u) (.slice t) xs).bind fun ys=>K (Dr ys rg) cs
     | .cells _ es=>OY (DF h t) es fun ys=>K (Dr ys rg) cs
     |_=>none
   |_=>none
 | .iref t,cs,K=>match cs with
   | .pv u x::cs=>(JY u (.iref t) x).bind fun y=>K y cs
   | .nilp::cs=>K none cs
   | .iptr u x 0::cs=>(JY u t x).bind fun y=>K (some y) cs
   | .ptr r s i 0::cs=>LE h r s fun c=>c.atK r i fun es=>DF h t es fun x rest=>if rest.isEmpty then K (some x) cs else none
   |_=>none
 | .fn f t,cs,K=>match cs with
   | .pv u x::cs=>(JY u (.fn f t) x).bind fun y=>K y cs
   | .fn g cap::cs=>if g=f then K8 h t cap fun y=>K y cs else none
   |_=>none
def K8 {R:Type}(h:Am):(t:Ty)->List AV->(den t->Option R)->Option R
 | .prod a b,vs,K=>match vs with
   |v::vs=>if a.agg then match v with
     | .agg cs=>DF h a cs fun x rest=>if rest.isEmpty then K8 h b vs fun y=>K (x,y)else none
     |_=>none
     else DF h a [v] fun x _=>K8 h b vs fun y=>K (x,y)
   |[]=>none
 | .unit,vs,K=>if vs.isEmpty then K ()else none
 |_,_,_=>none
end
example (h:Am) (n:Int) (K:den (.prod .i (.prod .i .unit))->List AV->Option Int):DF h (.prod .i (.prod .i .unit)) [.n n,.n 3,.nili] K=K (n,3,()) [.nili]:=by kernel_rfl
end Go.Ab
end
section
namespace Go.Ab
inductive Und where
 |int (k:IntKind)|bool|str|slice (e:TypeId)|struct (fs:List (Nat×TypeId))|arr (n:Nat)(e:TypeId)|ptr (e:TypeId)|iface|func|other
structure TI where
 size:Nat
 und:Und
 code:Option Ty
 zero:List AV
 lim:Nat
def TI.agg (i:TI):Bool:=match i.und with| .struct _| .arr _ _=>true|_=>false
inductive TmL where
 |nil|junk (l:TmL)|slot (t:Ty)(l:TmL)|agg (cs l:TmL)|own (q:Nat)(l:TmL)|ptr (q i off:Nat)(l:TmL)|ptrI (q off:Nat)(l:TmL)|mptr (q k off:Nat)(l:TmL)|nown (q k:Nat)(l:TmL)|ownR (q:Nat)(l:TmL)|const (v:AV)(l:TmL)|fn (f:FuncId)(cs l:TmL)
inductive TmH where
 |nil|gone (l:TmH)|kept (l:TmH)|lst (ro:Bool)(t:Ty)(l:TmH)|tree (ro:Bool)(ver:Nat)(t:Ty)(l:TmH)|one (t:Ty)(l:TmH)|cells (n:Nat)(cs:TmL)(l:TmH)
structure Tmpl where
 ts:TmL
 hs:TmH
def Td {α R:Type}(o:Option α)(f:α->Option R)(no:Option R):Option R:=match o with|some x=>f x|none=>no
def TmL.ty:TmL->Ty->Ty
 | .nil,r=>r
 | .junk l,r=>l.ty r
 | .slot t l,r=>.prod t (l.ty r)
 | .agg cs l,r=>cs.ty (l.ty r)
 | .own _ l,r=>l.ty r
 | .ptr _ _ _ l,r=>l.ty r
 | .ptrI _ _ l,r=>.prod .idx (l.ty r)
 | .mptr _ _ _ l,r=>.prod (.iref (.prod .idx .idx)) (l.ty r)
 | .nown _ _ l,r=>.prod .idx (l.ty r)
 | .ownR _ l,r=>.prod (.prod .idx .idx) (l.ty r)
 | .const _ l,r=>l.ty r
 | .fn _ cs l,r=>cs.ty (l.ty r)
def TmH.ty:TmH->Ty
 | .nil=>.unit
 | .gone l=>l.ty
 | .kept l=>l.ty
 | .lst _ t l=>.prod (.slice t) l.ty
 | .tree _ _ t l=>.prod (.slice t) l.ty
 | .one t l=>.prod t l.ty
 | .cells _ cs l=>cs.ty l.ty
def TmH.len:TmH->Nat
 | .nil=>0
 | .gone l| .kept l| .lst _ _ l| .tree _ _ _ l| .one _ l| .cells _ _ l=>l.len+1
def Tmpl.ty (T:Tmpl):Ty:=T.ts.ty T.hs.ty
def TmL.write (ρ ν:Nat->Nat):(l:TmL)->(r:Ty)->den (l.ty r)->List AV×den r
 | .nil,_,x=>([],x)
 | .junk l,r,x=>(.junk::(l.write ρ ν r x).1,(l.write ρ ν r x).2)
 | .slot t l,r,x=>(up t x.1::(l.write ρ ν r x.2).1,(l.write ρ ν r x.2).2)
 | .agg cs l,r,x=>(.agg (cs.write ρ ν (l.ty r) x).1::(l.write ρ ν r (cs.write ρ ν (l.ty r) x).2).1,(l.write ρ ν r (cs.write ρ ν (l.ty r) x).2).2)
 | .own q l,r,x=>(.own (ρ q) none none::(l.write ρ ν r x).1,(l.write ρ ν r x).2)
 | .ptr q i off l,r,x=>(.ptr (ρ q) none i off::(l.write ρ ν r x).1,(l.write ρ ν r x).2)
 | .ptrI q off l,r,x=>(.ptr (ρ q) none x.1 off::(l.write ρ ν r x.2).1,(l.write ρ ν r x.2).2)
 | .mptr q k off l,r,x=>(.mptr (ρ q) k (ν q) off x.1::(l.write ρ ν r x.2).1,(l.write ρ ν r x.2).2)
 | .nown q k l,r,x=>(.own (ρ q) (some (x.1,k,ν q)) none::(l.write ρ ν r x.2).1,(l.write ρ ν r x.2).2)
 | .ownR q l,r,x=>(.own (ρ q) none (some (x.1.1,x.1.2))::(l.write ρ ν r x.2).1,(l.write ρ ν r x.2).2)
 | .const c l,r,x=>(c::(l.write ρ ν r x).1,(l.write ρ ν r x).2)
 | .fn f cs l,r,x=>(.fn f (cs.write ρ ν (l.ty r) x).1::(l.write ρ ν r (cs.write ρ ν (l.ty r) x).2).1,(l.write ρ ν r (cs.write ρ ν (l.ty r) x).2).2)
def TmH.write (ρ ν:Nat->Nat):(l:TmH)->Nat->den l.ty->List (Option Cont)
 | .nil,_,_=>[]
 | .gone l,q,x=>some .dead::l.write ρ ν (q+1) x
 | .kept l,q,x=>none::l.write ρ ν (q+1) x
 | .lst ro t l,q,x=>some (.lst ro t x.1)::l.write ρ ν (q+1) x.2
 | .tree ro _ t l,q,x=>some (.tree ro (ν q) t x.1 none)::l.write ρ ν (q+1) x.2
 | .one t l,q,x=>some (.cells t.size [flat t x.1])::l.write ρ ν (q+1) x.2
 | .cells k ms l,q,x=>some (.cells k [(ms.write ρ ν l.ty x).1])::l.write ρ ν (q+1) (ms.write ρ ν l.ty x).2
def Tmpl.vals (T:Tmpl)(ρ ν:Nat->Nat)(x:den T.ty):List AV:=(T.ts.write ρ ν T.hs.ty x).1
def Tmpl.objs (T:Tmpl)(ρ ν:Nat->Nat)(x:den T.ty):List (Option Cont):=T.hs.write ρ ν 0 (T.ts.write ρ ν T.hs.ty x).2
def TmH.ver:TmH->Nat->Nat
 | .nil,_=>0
 | .gone l,q| .kept l,q| .lst _ _ l,q| .one _ l,q| .cells _ _ l,q=>match q with|0=>0|q+1=>l.ver q
 | .tree _ v _ l,q=>match q with|0=>v|q+1=>l.ver q
abbrev Tmpl.vals0 (T:Tmpl)(x:den T.ty):List AV:=T.vals id T.hs.ver x
abbrev Tmpl.objs0 (T:Tmpl)(x:den T.ty):List (Option Cont):=T.objs id T.hs.ver x
def Tmpl.write (T:Tmpl)(x:den T.ty):St:=⟨T.vals0 x,T.objs0 x⟩
structure Ent where
 f:FuncId
 ti:Tmpl
 to:Tmpl
 fn:den ti.ty->Option (den to.ty)
inductive Ex where
 |normal|ret|exit (id:Nat)
 deriving DecidableEq
abbrev ek:=St->(R:Type)->(Ex->St->Option R)->Option R
structure Cfg where
 ti:List (TypeId×TI)
 ents:List Ent
 ann:List (Nat×ek)
 hid:List ((Nat×Nat)×List Nat):=[]
 cs:Nat:=13
 lent:Nat:=0
 cut:List (Option (Nat×Nat)):=[]
 pre:List (Option (Nat×Nat)):=[]
 gho:List (Nat×List Nat):=[]
 tak:List FuncId:=[]
 two:List FuncId:=[]
def Cfg.info (C:Cfg)(t:TypeId):Option TI:=(C.ti.find? fun x=>x.1==t).map (·.2)
abbrev Ren:=List (Option Nat)
def WX:Ren->Nat->Nat->Ren
 |[],0,r=>[some r]
 |[],q+1,r=>none::WX [] q r
 |_::ρ,0,r=>some r::ρ
 |o::ρ,q+1,r=>o::WX ρ q r
def Ld:TmL->List AV->Ren->Ren
 | .nil,_,ρ=>ρ
 | .junk l,vs,ρ| .slot _ l,vs,ρ| .const _ l,vs,ρ=>match vs with|[]=>ρ|_::vs=>Ld l vs ρ
 | .agg cs l,vs,ρ=>match vs with|[]=>ρ|v::vs=>Ld l vs (match v with| .agg us=>Ld cs us ρ|_=>ρ)
 | .fn _ cs l,vs,ρ=>match vs with|[]=>ρ|v::vs=>Ld l vs (match v with| .fn _ us=>Ld cs us ρ|_=>ρ)
 | .own q l,vs,ρ=>match vs with|[]=>ρ|v::vs=>Ld l vs (match v with| .own r none none=>WX ρ q r|_=>ρ)
 | .ptr q _ _ l,vs,ρ=>match vs with|[]=>ρ|v::vs=>Ld l vs (match v with| .ptr r none _ _=>WX ρ q r|_=>ρ)
 | .ptrI q _ l,vs,ρ=>match vs with|[]=>ρ|v::vs=>Ld l vs (match v with| .ptr r none _ _=>WX ρ q r|_=>ρ)
 | .mptr q _ _ l,vs,ρ=>match vs with|[]=>ρ|v::vs=>Ld l vs (match v with| .mptr r _ _ _ _=>WX ρ q r| .ptr r (some _) _ _=>WX ρ q r|_=>ρ)
 | .nown q _ l,vs,ρ| .ownR q l,vs,ρ=>match vs with|[]=>ρ|v::vs=>Ld l vs (match v with| .own r _ _=>WX ρ q r|_=>ρ)
def T4 (h:Am):TmH->Nat->Ren->Ren
 | .nil,_,ρ=>ρ
 | .gone l,q,ρ| .kept l,q,ρ| .lst _ _ l,q,ρ| .tree _ _ _ l,q,ρ| .one _ l,q,ρ=>T4 h l (q+1) ρ
 | .cells _ ms l,q,ρ=>T4 h l (q+1) (match ρ.getD q none with
   |some r=>match h.getD r none with
    |some (.cells _ [cs])=>Ld ms cs ρ
    |_=>ρ
   |none=>ρ)
inductive Conv where
 |fz (r:Nat)|thin (r:Nat)|solid (r:Nat)(t:Ty)|plant (r:Nat)(t:Ty)
def Ty.scalar:Ty->Bool| .int _| .bool| .str| .err=>true|_=>false
def Ky (h:Am):List AV->Option (List AV)
 |[]=>some []
 |c::cs=>match Ky h cs with
  |none=>none
  |some ds=>match c with
   | .own r none none=>match h.getD r none with
     |some (.lst false u ys)=>some (.pv (.slice u) ys::ds)
     |_=>none
   | .nils=>some (.nils::ds)
   | .pv t x=>if t.scalar then some (.pv t x::ds)else none
   |_=>none
def S5:AV->Option Nat
 | .own r none none=>some r
 |_=>none
def CP:List AV->List Nat
 |[]=>[]
 |c::cs=>match S5 c with|some r=>r::CP cs|none=>CP cs
def Kc (ks:List Nat):Bx:=ks.map fun r=>(r,.dead)
def Ka:List Nat->Bool
 |[]=>true
 |a::l=>!l.contains a&&Ka l
def U7 {R:Type}(c:Conv)(h:Am)(K:Bx->Option R):Option R:=
 match c with
 | .fz r=>match h.getD r none with
   |some (.lst _ t xs)=>K [(r,.lst true t xs)]
   |some (.tree _ v t xs none)=>K [(r,.tree true v t xs none)]
   |_=>none
 | .thin r=>match h.getD r none with
   |some (.tree false _ t xs none)=>K [(r,.lst false t xs)]
   |_=>none
 | .solid r t=>match h.getD r none with
   |some (.cells n es)=>if t.size=n then OY (DF (roH h) t) es fun xs=>K [(r,.lst false t xs)]else none
   |_=>none
 | .plant r t=>match h.getD r none with
   |some (.cells n [e])=>if t.size=n/\Ka (r::CP e)=true then match Ky h e with
     |some d=>DF [] t d fun x rest=>if rest.isEmpty then K ((r,.tree false 0 t [x] none)::Kc (CP e))else none
     |none=>none
     else none
   |_=>none
def OJ {R:Type}:List Conv->Am->(Bx->Option R)->Option R
 |[],_,K=>K []
 |c::cs,h,K=>U7 c h fun δ=>OJ cs (apD h δ) fun δ'=>K (δ++δ')
def Anr (h:Am)(r:Nat)(t:Ty):List Conv:=match h.getD r none with
 |some (.lst false _ _)=>[.fz r]
 |some (.tree false _ _ _ _)=>[.fz r]
 |some (.cells _ _)=>[.solid r t,.fz r]
 |_=>[]
def Q9 (h:Am):Ty->List AV->List Conv×List AV
 | .prod a b,cs=>((Q9 h a cs).1++(Q9 h b (Q9 h a cs).2).1,(Q9 h b (Q9 h a cs).2).2)
 | .unit,cs=>([],cs)
 | .slice t,cs=>match cs with
   | .own r _ _::cs=>(Anr h r t,cs)
   |_::cs=>([],cs)
   |[]=>([],[])
 | .iref t,cs=>match cs with
   | .ptr r _ _ _::cs=>((match h.getD r none with|some (.cells _ [e])=>(Q9 h t e).1|_=>[])++Anr h r t,cs)
   |_::cs=>([],cs)
   |[]=>([],[])
 | .fn _ t,cs=>match cs with
   | .fn _ us::cs=>(wantA h t us,cs)
   |_::cs=>([],cs)
   |[]=>([],[])
 |_,cs=>([],cs.drop 1)
where wantA (h:Am):Ty->List AV->List Conv
 | .prod a b,v::vs=>(Q9 h a (match v with| .agg cs=>if a.agg then cs else[v]|_=>[v])).1++wantA h b vs
 |_,_=>[]
def Amt (a b:ByteArray):Option ByteArray:=if a.size+b.size<=9223372036854775807 then some (a++b)else none
def Amv (k:IntKind)(a b:Int):Option Int:=if b=0 then none else some (k.wrap (a.tdiv b))
def Amu (a b:Int):Option Int:=if b=0 then none else some (a.tmod b)
def Ams (k:IntKind)(a b:Int):Option Int:=if b<0 then none else some (k.wrap (a*2 ^ min b.toNat k.bits))
def Amr (k:IntKind)(a b:Int):Option Int:=if b<0 then none else some (a.fdiv (2 ^ min b.toNat k.bits))
def Anl (k:IntKind)(a b:Int):Int:=k.wrap ((BitVec.ofInt k.bits a &&& BitVec.ofInt k.bits b).toNat)
def ior (k:IntKind)(a b:Int):Int:=k.wrap ((BitVec.ofInt k.bits a ||| BitVec.ofInt k.bits b).toNat)
def Ank (k:IntKind)(a b:Int):Int:=k.wrap ((BitVec.ofInt k.bits a ^^^ BitVec.ofInt k.bits b).toNat)
def bin (op:BinOp)(x y:AV):Option AV:=
 match op,x,y with
 | .add,.pv (.int k) a,.pv (.int l) b=>if k=l then some (.pv (.int k) (k.wrap (a+b)))else none
 | .sub,.pv (.int k) a,.pv (.int l) b=>if k=l then some (.pv (.int k) (k.wrap (a-b)))else none
 | .mul,.pv (.int k) a,.pv (.int l) b=>if k=l then some (.pv (.int k) (k.wrap (a*b)))else none
 | .eql,.pv (.int k) a,.pv (.int l) b=>if k=l then some (.b (a==b))else none
 | .neq,.pv (.int k) a,.pv (.int l) b=>if k=l then some (.b (a != b))else none
 | .lss,.pv (.int k) a,.pv (.int l) b=>if k=l then some (.b (decide (a<b)))else none
 | .leq,.pv (.int k) a,.pv (.int l) b=>if k=l then some (.b (decide (a<=b)))else none
 | .gtr,.pv (.int k) a,.pv (.int l) b=>if k=l then some (.b (decide (a>b)))else none
 | .geq,.pv (.int k) a,.pv (.int l) b=>if k=l then some (.b (decide (a>=b)))else none
 | .and,.pv (.int k) a,.pv (.int l) b=>if k=l then some (.pv (.int k) (Anl k a b))else none
 | .or,.pv (.int k) a,.pv (.int l) b=>if k=l then some (.pv (.int k) (ior k a b))else none
 | .xor,.pv (.int k) a,.pv (.int l) b=>if k=l then some (.pv (.int k) (Ank k a b))else none
 | .eql,.pv .str a,.pv .str b=>some (.b (a.toList==b.toList))
 | .neq,.pv .str a,.pv .str b=>some (.b (!(a.toList==b.toList)))
 |_,_,_=>none
def Agk {R:Type}(op:BinOp)(x y:AV)(K:AV->Option R):Option R:=
 match op,x,y with
 | .add,.pv .str a,.pv .str b=>(Amt a b).bind fun z=>K (.pv .str z)
 | .quo,.pv (.int k) a,.pv (.int l) b=>if k=l then(Amv k a b).bind fun z=>K (.pv (.int k) z)else none
 | .rem,.pv (.int k) a,.pv (.int l) b=>if k=l then(Amu a b).bind fun z=>K (.pv (.int k) z)else none
 | .shl,.pv (.int k) a,.pv (.int _) b=>(Ams k a b).bind fun z=>K (.pv (.int k) z)
 | .shr,.pv (.int k) a,.pv (.int _) b=>(Amr k a b).bind fun z=>K (.pv (.int k) z)
 |op,x,y=>match bin op x y with|some v=>K v|none=>none
def Nm:List AV->List AV->Option Bool
 |[],[]=>some true
 | .pv (.int k) a::xs,.pv (.int l) b::ys=>if k=l then(Nm xs ys).map fun r=>(a==b)&&r else none
 |_,_=>none
def TI.isInt (i:TI):Bool:=match i.und with| .int _=>i.size==1|_=>false
def TI.ints (C:List (TypeId×TI))(fs:List (Nat×TypeId)):Bool:=fs.all fun f=>((C.find? fun x=>x.1==f.2).map fun x=>x.2.isInt).getD false
def eqT (i:TI)(x y:AV):Option Bool:=
 match i.und,x,y with
 | .bool,.pv .bool a,.pv .bool b=>some (a==b)
 | .iface,.pv .err a,.nili=>some a
 | .ptr _,.pv (.iref t) a,.nilp=>some (a:Option (den t)).isNone
 | .ptr _,.iptr _ _ _,.nilp=>some false
 | .ptr _,.ptr _ _ _ _,.nilp=>some false
 | .ptr _,.mptr _ _ _ _ o,.nilp=>some o.isNone
 | .ptr _,.nilp,.nilp=>some true
 |_,_,_=>none
def Aiw (i:TI)(y:Operand):Bool:=match i.und with| .iface=>(match y with| .const _=>true|_=>false)|_=>true
def un (op:UnOp)(x:AV):Option AV:=
 match op,x with
 | .not,.pv .bool b=>some (.b (!b))
 | .neg,.pv (.int k) n=>some (.pv (.int k) (k.wrap (0-n)))
 |_,_=>none
def Nb (i:TI)(cs:List AV):Option AV:=
 if i.agg then(if i.size<=cs.length then some (.agg (cs.take i.size))else none)
 else match cs with|c::_=>some c|[]=>none
def ldK {R:Type}(i:TI)(cs:List AV)(K:AV->Option R):Option R:=match Nb i cs with|some v=>K v|none=>none
def lAt {α:Type}(xs:List α)(i:Int):Option α:=if 0<=i then xs[i.toNat]? else none
def bAt (s:ByteArray)(i:Int):Option Int:=if 0<=i then(s.data[i.toNat]?).map fun b=>(b.toNat:Int)else none
def GM {α:Type}(xs:List α)(lo hi:Int):Option (List α):=if 0<=lo/\lo<=hi/\hi<=xs.length then some ((xs.drop lo.toNat).take (hi.toNat-lo.toNat))else none
def Amq (s:ByteArray)(lo hi:Int):Option ByteArray:=if 0<=lo/\lo<=hi/\hi<=s.size then some (s.extract lo.toNat hi.toNat)else none
def mx (a b:Int):Int:=if b>a then b else a
def mn (a b:Int):Int:=if b<a then b else a
def A77 (k:IntKind)(a:Int):List AV->Option AV
 |[]=>some (.pv (.int k) a)
 | .pv (.int l) b::r=>if k=l then A77 k (mx a b) r else none
 |_=>none
def A76 (k:IntKind)(a:Int):List AV->Option AV
 |[]=>some (.pv (.int k) a)
 | .pv (.int l) b::r=>if k=l then A76 k (mn a b) r else none
 |_=>none
def Q1 (k:IntKind):List AV->Option (List Int)
 |[]=>some []
 | .pv (.int l) n::cs=>if k=l then(Q1 k cs).map ((n:Int)::·)else none
 |_=>none
def Agm {R:Type}(k:IntKind)(xs:List Int):Nat->Nat->(List AV->Option R)->Option R
 |0,_,K=>K []
 |n+1,j,K=>(xs[j]?).bind fun x=>Agm k xs n (j+1) fun cs=>K (.pv (.int k) x::cs)
def Ou {R:Type}(h:Am)(n:Nat)(x:AV)(K:AV->Option R):Option R:=match x with
 | .ptr r none 0 0=>LE h r none fun c=>match c with
   | .lst _ (.int k) xs=>Agm k xs n 0 fun cs=>K (.agg cs)
   |_=>none
 |_=>none
def A5q {R:Type}:Option R:=none
def Als {R:Type}(h:Am)(u:Und)(v:AV)(K:Int->Option R):Option R:=
 match u,v with
 | .str,.pv .str x=>K (((x:ByteArray).size:Nat):Int)
 | .slice _,.pv (.slice t) xs=>K (((xs:List (den t)).length:Nat):Int)
 | .slice _,.nils=>K 0
 | .slice _,.own r s rg=>LE h r s fun c=>match rg with
   |some p=>K ((p.2:Nat):Int)
   |none=>K ((c.len:Nat):Int)
 |_,_=>none
def callee:AV->Option (FuncId×List AV)
 | .fn f cap=>some (f,cap)
 | .pv (.fn f t) x=>some (f,ups t x)
 |_=>none
def isInt:AV->Option Int
 | .pv (.int .i64) n=>some n
 |_=>none
def WF (C:List (TypeId×TI))(i:TI)(n:Nat):Bool:=match i.und with
 | .slice e=>((C.find? fun x=>x.1==e).map fun x=>x.2.size==n).getD false
 |_=>false
def Aiy (i:TI):Bool:=match i.und with| .str=>true|_=>false
def A79:Option AV->Option Int|none=>some 0|some v=>isInt v
def R2 (n:Nat):Option AV->Option Int|none=>some (n:Int)|some v=>isInt v
def te {R:Type}(C:List (TypeId×TI))(ti:TI)(hp:Am)(x:AV)(lo hi:Option AV)(K:AV->Option R):Option R:=
 match A79 lo with
 |none=>none
 |some l=>match x with
  | .pv .str b=>if Aiy ti then match R2 (b:ByteArray).size hi with
    |some h=>(Amq b l h).bind fun y=>K (.pv .str y)
    |none=>none
    else none
  | .pv (.slice t) xs=>if WF C ti t.size then match R2 (xs:List (den t)).length hi with
    |some h=>(GM (α:=den t) xs l h).bind fun y=>K (.pv (.slice t) y)
    |none=>none
    else none
  | .own r s rg=>LE hp r s fun c=>if WF C ti c.sz then match R2 (rg.getD (0,c.len)).2 hi with
     |some h=>if 0<=l/\l<=h/\h<=(rg.getD (0,c.len)).2 then K (.own r s (some ((rg.getD (0,c.len)).1+l.toNat,h.toNat-l.toNat)))else none
     |none=>none
     else none
  |_=>none
def AV.cells:AV->List AV
 | .agg cs=>cs
 |v=>[v]
def AV.cell:AV->Bool
 | .pv t _=>!t.agg
 | .agg _| .tup _| .junk=>false
 |_=>true
def AV.ok (v:AV):Bool:=v.cells.all AV.cell
def GJ (cs:List AV)(off:Nat)(vs:List AV):List AV:=cs.take off++vs++cs.drop (off+vs.length)
def aw (C:List (TypeId×TI))(offs:List (Nat×TypeId))(zero:List AV):List (Nat×AV)->Option (List AV)
 |[]=>some zero
 |p::ps=>match offs[p.1]? with
  |some d=>if p.2.ok=true/\(C.find? fun x=>x.1==d.2).map (·.2.size)=some p.2.cells.length/\d.1+p.2.cells.length<=zero.length then aw C offs (GJ zero d.1 p.2.cells) ps else none
  |none=>none
def Lr (n:Nat)(z:List AV):List (List AV):=List.replicate n z
def Ny (es:List (List AV)):List (Nat×AV)->List (List AV)
 |[]=>es
 |p::ps=>Ny (es.set p.1 p.2.cells) ps
def T1 {R:Type}(C:Cfg)(ts:List TypeId)(h:Am)(b:Builtin)(args:List AV)(K:AV->Option R):Option R:=
 match b,args with
 | .len,[v]=>match ts with
   |t::_=>match C.info t with
    |some i=>Als h i.und v fun n=>K (.n n)
    |none=>none
   |[]=>none
 | .max,.pv (.int k) a::r=>match A77 k a r with|some v=>K v|none=>none
 | .min,.pv (.int k) a::r=>match A76 k a r with|some v=>K v|none=>none
 |_,_=>none
def I9 {R:Type}(C:Cfg)(s:St)(o:Oper)(K:AV->Option R):Option R:=
 match o.op with
 | .move x| .assign x=>K (ev s.t x)
 | .pick c a b=>match ev s.t c with
   | .pv .bool t=>match(t:Bool)with|true=>K (ev s.t a)|false=>K (ev s.t b)
   |_=>none
 | .binOp op t x y _=>match ev s.t x,ev s.t y with
   | .agg xs,.agg ys=>match C.info t with
     |some {und:=.struct fs,.. }=>if TI.ints C.ti fs&&fs.map (·.1)==List.range xs.length then match Nm xs ys with
      |some b=>match op with
       | .eql=>K (.b b)
       | .neq=>K (.b (!b))
       |_=>none
      |none=>none
      else none
     |_=>none
   | .own r sb rg,.nils=>match op with
     | .eql=>match C.info t with
       |some {und:=.slice _,.. }=>LE s.h r sb fun c=>bif (rg.getD (0,c.len)).2==0 then K .unk else K (.b false)
       |_=>none
     |_=>none
   | .pv (.slice u) xs,.nils=>match op with
     | .eql=>match C.info t with
       |some {und:=.slice _,.. }=>bif (xs:List (den u)).length==0 then K .unk else K (.b false)
       |_=>none
     |_=>none
   | .nils,.nils=>match op with
     | .eql=>match C.info t with
       |some {und:=.slice _,.. }=>K (.b true)
       |_=>none
     |_=>none
   | .pv .str a,.pv .str b=>Agk op (.pv .str a) (.pv .str b) K
   | .pv (.int k) a,.pv (.int l) b=>Agk op (.pv (.int k) a) (.pv (.int l) b) K
   |a,b=>match bin op a b with
    |some v=>K v
    |none=>match C.info t with
     |some i=>if Aiw i y then match eqT i a b with
      |some r=>match op with
       | .eql=>K (.b r)
       | .neq=>K (.b (!r))
       |_=>none
      |none=>none
      else none
     |none=>none
 | .unOp op _ x=>match un op (ev s.t x)with|some v=>K v|none=>none
 | .fieldAddr t x f=>match C.info t with
   |some {und:=.struct offs,.. }=>match offs[f]? with
    |some d=>if((C.info d.2).map fun j=>decide (j.size≠0))=some true then match ev s.t x with
     | .iptr u y off=>K (.iptr u y (off+d.1))
     | .ptr r q i off=>K (.ptr r q i (off+d.1))
     | .pv (.iref u) y=>(y:Option (den u)).bind fun z=>K (.iptr u z d.1)
     | .mptr r k v off y=>y.bind fun z=>K (.ptr r (some (z.1,k,v)) z.2 (off+d.1))
     |_=>none
     else none
    |none=>none
   |_=>none
 | .field t x f=>match C.info t,ev s.t x with
   |some {und:=.struct offs,.. },.agg cs=>match offs[f]? with
    |some d=>match C.info d.2 with
     |some i=>ldK i (cs.drop d.1) K
     |none=>none
    |none=>none
   |_,_=>none
 | .load t x=>match C.info t with
   |some i=>match i.und with
    | .arr _ _=>Ou s.h i.size (ev s.t x) K
    |_=>match ev s.t x with
     | .iptr u y off=>ldK i ((flat u y).drop off) K
     | .pv (.iref u) y=>(y:Option (den u)).bind fun z=>ldK i (flat u z) K
     | .ptr r q j off=>LE s.h r q fun c=>c.atK r j fun cs=>ldK i (cs.drop off) K
     | .mptr r k v off y=>y.bind fun z=>LE s.h r (some (z.1,k,v)) fun c=>c.atK r z.2 fun cs=>ldK i (cs.drop off) K
     |_=>none
   |none=>none
 | .indexAddr t x ix=>match isInt (ev s.t ix),C.info t with
   |some i,some {und:=.slice e,.. }=>match C.info e with
    |some ie=>match ev s.t x with
     | .pv (.slice u) xs=>if u.size=ie.size then(lAt (α:=den u) xs i).bind fun y=>K (.iptr u y 0)else none
     | .own r q rg=>LE s.h r q fun c=>if c.sz=ie.size then
        (if 0<=i/\i<(rg.getD (0,c.len)).2 then K (.ptr r q ((rg.getD (0,c.len)).1+i.toNat) 0)else none)
        else none
     |_=>none
    |none=>none
   |some i,some {und:=.arr n e,.. }=>match C.info e,ev s.t x with
    |some ie,.ptr r none 0 0=>if ie.size=1/\0<=i/\i<n then LE s.h r none fun c=>if c.sz=1 then K (.ptr r none i.toNat 0)else none else none
    |_,_=>none
   |_,_=>none
 | .index t x ix=>match C.info t,isInt (ev s.t ix),ev s.t x with
   |some {und:=.str,.. },some i,.pv .str b=>(bAt b i).bind fun c=>K (.pv (.int .u8) c)
   |some {und:=.arr n e,.. },some i,.agg cs=>match C.info e with
    |some {und:=.int k,size:=1,.. }=>match Q1 k cs with
     |some ys=>if 0<=i/\i<n then(lAt ys i).bind fun y=>K (.pv (.int k) y)else none
     |none=>none
    |_=>none
   |_,_,_=>none
 | .slice t x lo hi none=>match C.info t with
   |some ti=>te C.ti ti s.h (ev s.t x) (lo.map (ev s.t)) (hi.map (ev s.t)) K
   |none=>none
 | .build t ps=>match C.info t with
   |some i=>match i.und with
    | .struct offs=>match aw C.ti offs i.zero (ps.toList.map fun p=>(p.1,ev s.t p.2))with|some cs=>K (.agg cs)|none=>none
    | .arr _ e=>if ps.isEmpty then(match C.info e with|some _=>K (.agg i.zero)|none=>none)else none
    |_=>none
   |none=>none
 | .extract x i=>match ev s.t x with
   | .tup vs=>match vs[i]? with|some v=>K v|none=>none
   |_=>none
 | .makeFunc (.func f) first cap=>if first.isEmpty then K (.fn f (cap.toList.map (ev s.t)))else none
 | .nilCheck x=>match ev s.t x with
   | .ptr r q i f=>K (.ptr r q i f)
   | .iptr u y f=>K (.iptr u y f)
   | .fn f c=>K (.fn f c)
   | .pv (.iref u) y=>(y:Option (den u)).bind fun z=>K (.iptr u z 0)
   | .mptr r k v off y=>y.bind fun z=>K (.ptr r (some (z.1,k,v)) z.2 off)
   |_=>none
 | .convert src dst x=>match C.info src,C.info dst,ev s.t x with
   |some {und:=.int _,.. },some {und:=.int k,.. },.pv (.int _) n=>K (.pv (.int k) (k.wrap n))
   |some {und:=.str,.. },some {und:=.str,.. },.pv .str b=>K (.pv .str b)
   |_,_,_=>none
 | .makeInterface _ _=>A5q
 | .panic _=>A5q
 | .call c=>match c.callee with
   | .builtin b=>T1 C c.argTypes.toList s.h b (c.args.toList.map (ev s.t)) K
   |_=>none
 |_=>none
def Ty.hasSl:Ty->Bool
 | .slice _=>true
 | .prod a b=>a.hasSl||b.hasSl
 |_=>false
def AV.pureIn (h:Am):AV->Bool
 | .pv _ _| .iptr _ _ _| .nils| .nilp| .nilf| .nili=>true
 | .own r _ _=>match h.getD r none with|some c=>c.ro|none=>false
 | .ptr r _ _ _=>match h.getD r none with|some c=>c.ro|none=>false
 | .fn _ cs=>cs.all fun| .pv _ _=>true|_=>false
 |_=>false
def Gh:List AV->Bool
 |[]=>true
 | .own _ none none::cs=>Gh cs
 | .nils::cs=>Gh cs
 | .pv t _::cs=>t.scalar&&Gh cs
 |_=>false
def Wp {R:Type}(h:Am)(i:TI)(es:List (List AV))(K:Cont->Option R):Option R:=
 match i.code with
 |some t=>if t.size=i.size then
   (if t.hasSl=true/\es.isEmpty=true then K (.tree false 0 t [] none)
    else if(es.all fun e=>e.all (AV.pureIn h))=true/\(!t.hasSl||!(es.all Gh))=true then OY (DF (roH h) t) es fun xs=>K (.lst false t xs)
    else K (.cells i.size es))
  else K (.cells i.size es)
 |none=>K (.cells i.size es)
def WU {R:Type}(h:Am)(t:Ty)(y:AV)(K:List (den t)->Option R):Option R:=
 match y with
 | .nils=>K []
 | .pv u ys=>(JY u (.slice t) ys).bind K
 | .own r s rg=>LE h r s fun c=>match c with
   | .lst _ u ys=>(JY (.slice u) (.slice t) ys).bind fun zs=>K (Dr zs rg)
   |_=>none
 |_=>none
def tg (t:Ty)(x:den t)(k:Nat){u:Ty}(ys:List (den u)):Option (den t):=
 DF [] t ((flat t x).set k (.pv (.slice u) ys)) fun y rest=>if rest.isEmpty then some y else none
def tc {R:Type}(h:Am)(i:TI)(a v:AV)(K:Bx->Option R):Option R:=
 if v.ok=true/\v.cells.length=i.size then match a with
  | .ptr r none j off=>match h.getD r none with
    |some (.cells n es)=>match es[j]? with
     |some cs=>if off+i.size<=cs.length then K [(r,.cells n (es.set j (GJ cs off v.cells)))]else none
     |none=>none
    |some (.lst false t xs)=>(xs[j]?).bind fun x=>if off+i.size<=t.size then
      DF (roH h) t (GJ (flat t x) off v.cells) fun y rest=>if rest.isEmpty then K [(r,.lst false t (xs.set j y))]else none
      else none
    |some (.tree false ver t xs none)=>(xs[j]?).bind fun x=>if off+i.size<=t.size/\Ka (r::CP v.cells)=true then match Ky h v.cells with
      |some d=>DF [] t (GJ (flat t x) off d) fun y rest=>if rest.isEmpty then K ((r,.tree false (ver+1) t (xs.set j y) none)::Kc (CP v.cells))else none
      |none=>none
      else none
    |some (.tree false ver t xs (some p))=>(xs[j]?).bind fun x=>if off+i.size<=t.size/\Ka (r::CP v.cells)=true/\j=p.1/\off<=p.2/\p.2<off+i.size then match Ky h v.cells with
      |some d=>DF [] t (GJ (flat t x) off d) fun y rest=>if rest.isEmpty then K ((r,.tree false (ver+1) t (xs.set j y) none)::Kc (CP v.cells))else none
      |none=>none
      else none
    |_=>none
  | .ptr r (some (i',k,v')) j off=>match h.getD r none with
    |some (.tree false ver t xs none)=>if v'=ver then(xs[i']?).bind fun x=>match(flat t x)[k]? with
      |some (.pv (.slice u) ys)=>((ys:List (den u))[j]?).bind fun y=>if off+i.size<=u.size then
        DF [] u (GJ (flat u y) off v.cells) fun z rest=>if rest.isEmpty then
         (match tg t x k ((ys:List (den u)).set j z)with|some x'=>K [(r,.tree false ver t (xs.set i' x') none)]|none=>none)else none
        else none
      |_=>none
      else none
    |_=>none
  |_=>none
 else none
def Tp {R:Type}(h:Am)(n:Nat)(a v:AV)(K:Bx->Option R):Option R:=
 match a with
 | .ptr r none 0 0=>match h.getD r none with
   |some (.lst false (.int k) xs)=>match Q1 k v.cells with
    |some ys=>if ys.length=n/\n=xs.length then K [(r,.lst false (.int k) ys)]else none
    |none=>none
   |_=>none
 |_=>none
def QC (h:Am):List AV->List Conv
 |[]=>[]
 | .own r _ _::cs=>(match h.getD r none with
   |some (.lst false _ _)=>[Conv.fz r]
   |some (.tree false _ _ _ _)=>[.fz r]
   |_=>[])++QC h cs
 |_::cs=>QC h cs
def R0:AV->Am->Bool
 | .own r none none,h=>match h.getD r none with|some (.tree _ _ _ _ _)=>true|_=>false
 |_,_=>false
def Alu:AV->Bool| .nils=>true|_=>false
def Ago (h:Am)(t:Ty)(x y:AV):List Conv:=
 match y with
 | .own r none none=>match h.getD r none with
   |some (.cells _ [e])=>if(Alu x||R0 x h)&&Gh e then[.plant r t]else
     QC h e++[.solid r t]++(if R0 x h then(match x with| .own q _ _=>[.thin q]|_=>[])else[])
   |some (.tree _ _ _ _ _)=>[.thin r]++(if R0 x h then(match x with| .own q _ _=>[.thin q]|_=>[])else[])
   |_=>if R0 x h then(match x with| .own q _ _=>[.thin q]|_=>[])else[]
 | .nils=>[]
 | .own r none (some _)=>(match h.getD r none with
   |some (.tree false _ _ _ _)=>[.thin r]
   |_=>[])++(if R0 x h then(match x with| .own q _ _=>[.thin q]|_=>[])else[])
 |_=>if R0 x h then(match x with| .own q _ _=>[.thin q]|_=>[])else[]
def A8r {R:Type}(h:Am)(base lim:Nat)(t:Ty)(x y:AV)(K:AV->Bx->Option R):Option R:=
 match x with
 | .nils=>match y with
   | .nils=>K .nils []
   | .own r none none=>match h.getD r none with
     |some (.tree false _ u [z] none)=>if u=t/\1<=lim then K (.own base none none) [(r,.dead),(base,.tree false 0 u [z] none)]else none
     |_=>WU h t y fun ys=>if ys.length<=lim then K (.own base none none) [(base,.lst false t ys)]else none
   |_=>WU h t y fun ys=>if ys.length<=lim then K (.own base none none) [(base,.lst false t ys)]else none
 | .own q none none=>match h.getD q none with
   |some (.lst false u xs)=>if u=t then WU h u y fun ys=>if(xs++ys).length<=lim then K (.own base none none) [(q,.dead),(base,.lst false u (xs++ys))]else none else none
   |some (.tree false _ u xs none)=>match y with
    | .own r none none=>match h.getD r none with
      |some (.tree false _ u' [z] none)=>if u'=t/\r≠q then(JY u' u z).bind fun z'=>if(xs++[z']).length<=lim then K (.own base none none) [(q,.dead),(r,.dead),(base,.tree false 0 u (xs++[z']) none)]else none else none
      |_=>none
    |_=>none
   |_=>none
 | .own q (some (i,k,v)) none=>match h.getD q none with
   |some (.tree false ver u xs none)=>if v=ver then(xs[i]?).bind fun x=>match(flat u x)[k]? with
     |some (.pv (.slice u') zs)=>if u'=t then WU h u' y fun ys=>if((zs:List (den u'))++ys).length<=lim then K (.own (base+1) none none) [(q,.tree false (ver+1) u xs (some (i,k))),(base,.lst false u' zs),(base,.dead),(base+1,.lst false u' ((zs:List (den u'))++ys))]else none else none
     |_=>none
     else none
   |_=>none
 |_=>none
def Ant {R:Type}(h:Am)(base:Nat)(ie:TI)(x y:AV)(K:AV->Bx->Option R):Option R:=
 match ie.code with
 |some t=>if t.size=ie.size then OJ (Ago h t x y) h fun δ=>A8r (apD h δ) base ie.lim t x y fun v δ'=>K v (δ++δ')else none
 |none=>none
def QH {α:Type}(xs:List α)(off n:Nat)(ys:List α):List α:=xs.take off++ys.take n++xs.drop (off+(ys.take n).length)
def Aj1 {R:Type}(h:Am)(n:Nat)(x y:AV)(K:AV->Bx->Option R):Option R:=
 match x with
 | .own q none rg=>match h.getD q none with
   |some (.lst false t xs)=>if t.size=n then WU h t y fun ys=>K (.n (min (rg.getD (0,xs.length)).2 ys.length:Nat)) [(q,.lst false t (QH xs (rg.getD (0,xs.length)).1 (rg.getD (0,xs.length)).2 ys))]else none
   |_=>none
 |_=>none
def A8l {R:Type}(h:Am)(u:Ty)(z:den u)(x:AV)(K:AV->Bx->Option R):Option R:=
 match x with
 | .own q none rg=>match h.getD q none with
   |some (.lst false t xs)=>(JY u t z).bind fun z=>K .undef [(q,.lst false t (xs.take (rg.getD (0,xs.length)).1++List.replicate (rg.getD (0,xs.length)).2 z++xs.drop ((rg.getD (0,xs.length)).1+(rg.getD (0,xs.length)).2)))]
   |_=>none
 |_=>none
def JS (_:Cfg)(o:Oper):Nat:=
 match o.op with
 | .box _ _| .alloc _| .buildSlice _ _ _| .makeSlice _ _ _=>1
 | .call {callee:=.builtin .append,.. }=>2
 | .call {callee:=.value _,.. }=>0
 |_=>0
def Ls {R:Type}(C:Cfg)(base:Nat)(s:St)(o:Oper)(K:AV->Bx->Option R):Option R:=
 match o.op with
 | .box t x=>match C.info t with
   |some i=>if(ev s.t x).ok=true/\(ev s.t x).cells.length=i.size then K (.ptr base none 0 0) [(base,.cells i.size [(ev s.t x).cells])]else none
   |none=>none
 | .alloc t=>match C.info t with
   |some i=>match i.und with
    | .arr _ e=>match C.info e with
      |some {und:=.int k,.. }=>match Q1 k i.zero with
       |some ys=>K (.ptr base none 0 0) [(base,.lst false (.int k) ys)]
       |none=>none
      |_=>none
    |_=>K (.ptr base none 0 0) [(base,.cells i.size [i.zero])]
   |none=>none
 | .buildSlice t n ps=>match C.info t with
   |some {und:=.slice e,.. }=>match C.info e with
    |some ie=>if(ps.toList.all fun p=>p.1<n&&(ev s.t p.2).ok&&(ev s.t p.2).cells.length==ie.size)&&(n*ie.size<=16777216)then
      Wp s.h ie (Ny (Lr n ie.zero) (ps.toList.map fun p=>(p.1,ev s.t p.2))) fun c=>K (.own base none none) [(base,c)]else none
    |none=>none
   |_=>none
 | .makeSlice t l c=>match C.info t,isInt (ev s.t l),isInt (ev s.t c)with
   |some {und:=.slice e,.. },some n,some m=>match C.info e with
    |some ie=>if 0<=n/\n<=m/\m<=ie.lim then match ie.code with
      |some u=>if u.size=ie.size then(if u.hasSl then(if Gh ie.zero then DF [] u ie.zero (fun z rest=>if rest.isEmpty then K (.own base none none) [(base,.tree false 0 u (List.replicate n.toNat z) none)]else none)else none)
        else DF [] u ie.zero fun z rest=>if rest.isEmpty then K (.own base none none) [(base,.lst false u (List.replicate n.toNat z))]else none)else none
      |none=>none
     else none
    |none=>none
   |_,_,_=>none
 | .store t a v=>match C.info t with
   |some i=>match i.und with
    | .arr _ _=>Tp s.h i.size (ev s.t a) (ev s.t v) fun δ=>K .undef δ
    |_=>tc s.h i (ev s.t a) (ev s.t v) fun δ=>K .undef δ
   |none=>none
 | .call {callee:=.builtin .append,args,argTypes}=>match args.toList,argTypes.toList with
   |[x,y],[t,u]=>if t=u then match C.info t with
    |some {und:=.slice e,.. }=>match C.info e with
     |some ie=>Ant s.h base ie (ev s.t x) (ev s.t y) K
     |none=>none
    |_=>none
    else none
   |_,_=>none
 | .call {callee:=.builtin .clear,args,argTypes}=>match args.toList,argTypes.toList with
   |[x],[t]=>match C.info t with
    |some {und:=.slice e,.. }=>match C.info e with
     |some ie=>match ie.code with
      |some u=>if u.size=ie.size then DF [] u ie.zero fun z rest=>if rest.isEmpty then A8l s.h u z (ev s.t x) K else none else none
      |none=>none
     |none=>none
    |_=>none
   |_,_=>none
 | .call {callee:=.builtin .copy,args,argTypes}=>match args.toList,argTypes.toList with
   |[x,y],[t,_]=>match C.info t with
    |some {und:=.slice e,.. }=>match C.info e with
     |some ie=>Aj1 s.h ie.size (ev s.t x) (ev s.t y) K
     |none=>none
    |_=>none
   |_,_=>none
 |_=>I9 C s o fun v=>K v []
end Go.Ab
end
section
namespace Go.Ab
section
variable {R:Type}
def cW (h:Am)(t:Ty)(v:AV)(K:den t->Option R):Option R:=
 if t.agg then(match v with
  | .agg cs=>DF h t cs fun x rest=>if rest.isEmpty then K x else none
  |_=>none)
 else DF h t [v] fun x rest=>if rest.isEmpty then K x else none
def rIs (ρ:Ren)(q r:Nat):Bool:=match ρ.getD q none with|some r'=>r'==r|none=>false
def A6x (m:Nat)(ρ:Ren)(q:Nat)(v:AV):Bool:=Nat.blt q m&&match v with
 | .own r none none=>rIs ρ q r
 | .nils=>(ρ.getD q none).isNone
 |_=>false
def LL (h:Am)(r ver:Nat):Bool:=match h.getD r none with
 |some (.tree _ v _ _ _)=>v==ver
 |_=>false
def A5p (m:Nat)(ρ:Ren)(q i off:Nat)(v:AV):Bool:=Nat.blt q m&&match v with
 | .ptr r none i' off'=>rIs ρ q r&&(i'==i)&&(off'==off)
 |_=>false
def cV (m:Nat)(ρ:Ren)(q off:Nat)(v:AV)(K:Nat->Option R):Option R:=match v with
 | .ptr r none i off'=>if(Nat.blt q m&&rIs ρ q r&&(off'==off))=true then K i else none
 |_=>none
def dI (m:Nat)(h:Am)(ρ:Ren)(q k off:Nat)(v:AV)(K:Option (Nat×Nat)->Option R):Option R:=match v with
 | .nilp=>K none
 | .mptr r k' ver off' o=>if(Nat.blt q m&&rIs ρ q r&&(k'==k)&&(off'==off)&&LL h r ver)=true then K o else none
 | .ptr r (some (i,k',ver)) j off'=>if(Nat.blt q m&&rIs ρ q r&&(k'==k)&&(off'==off)&&LL h r ver)=true then K (some (i,j))else none
 |_=>none
def dG (m:Nat)(h:Am)(ρ:Ren)(q k:Nat)(v:AV)(K:Nat->Option R):Option R:=match v with
 | .own r (some (i,k',ver)) none=>if(Nat.blt q m&&rIs ρ q r&&(k'==k)&&LL h r ver)=true then K i else none
 |_=>none
def dA (m:Nat)(ρ:Ren)(q:Nat)(v:AV)(K:Nat×Nat->Option R):Option R:=match v with
 | .own r none (some p)=>if(Nat.blt q m&&rIs ρ q r)=true then K p else none
 |_=>none
def OU:AV->AV->Bool
 | .nils,.nils| .nilp,.nilp| .nilf,.nilf| .nili,.nili=>true
 | .fn f [],.fn g []=>f==g
 |_,_=>false
def TmL.readK (m:Nat)(h hp:Am)(ρ:Ren):(l:TmL)->(vs:List AV)->(r:Ty)->den r->(den (l.ty r)->Option R)->Option R
 | .nil,vs,_,x,K=>match vs with|[]=>K x|_=>none
 | .junk l,vs,r,x,K=>match vs with|_::vs=>l.readK m h hp ρ vs r x K|[]=>none
 | .slot t l,vs,r,x,K=>match vs with|v::vs=>l.readK m h hp ρ vs r x fun y=>cW hp t v fun z=>K (z,y)|[]=>none
 | .agg cs l,vs,r,x,K=>match vs with| .agg us::vs=>l.readK m h hp ρ vs r x fun y=>cs.readK m h hp ρ us (l.ty r) y K|_=>none
 | .fn f cs l,vs,r,x,K=>match vs with| .fn g us::vs=>if g=f then l.readK m h hp ρ vs r x fun y=>cs.readK m h hp ρ us (l.ty r) y K else none|_=>none
 | .own q l,vs,r,x,K=>match vs with|v::vs=>if A6x m ρ q v=true then l.readK m h hp ρ vs r x K else none|[]=>none
 | .ptr q i off l,vs,r,x,K=>match vs with|v::vs=>if A5p m ρ q i off v=true then l.readK m h hp ρ vs r x K else none|[]=>none
 | .ptrI q off l,vs,r,x,K=>match vs with|v::vs=>l.readK m h hp ρ vs r x fun y=>cV m ρ q off v fun i=>K (i,y)|[]=>none
 | .mptr q k off l,vs,r,x,K=>match vs with|v::vs=>l.readK m h hp ρ vs r x fun y=>dI m h ρ q k off v fun o=>K (o,y)|[]=>none
 | .nown q k l,vs,r,x,K=>match vs with|v::vs=>l.readK m h hp ρ vs r x fun y=>dG m h ρ q k v fun i=>K (i,y)|[]=>none
 | .ownR q l,vs,r,x,K=>match vs with|v::vs=>l.readK m h hp ρ vs r x fun y=>dA m ρ q v fun p=>K (p,y)|[]=>none
 | .const c l,vs,r,x,K=>match vs with|v::vs=>if OU v c=true then l.readK m h hp ρ vs r x K else none|[]=>none
def X0 (br ro ro':Bool):Bool:=match ro,ro' with|true,true=>true|false,false=>true|true,false=>br|false,true=>false
def Rd (n q:Nat)(ro:Bool)(v v':Nat):Bool:=if Nat.blt q n then(bif ro then(v==0)==(v'==0)else !(v==0)||v'==0)else true
def TmH.readK (br:Bool)(n m:Nat)(h hp:Am)(ρ:Ren):(l:TmH)->Nat->(den l.ty->Option R)->Option R
 | .nil,_,K=>K ()
 | .gone l,q,K=>l.readK br n m h hp ρ (q+1) K
 | .kept l,q,K=>if Nat.blt q n=true then(match h.getD q none with|none=>none|some .dead=>none|some _=>l.readK br n m h hp ρ (q+1) K)else none
 | .lst ro t l,q,K=>l.readK br n m h hp ρ (q+1) fun y=>match ρ.getD q none with
   |none=>K ([],y)
   |some r=>match h.getD r none with
    |some (.lst ro' u xs)=>if X0 br ro ro'=true then(JY (.slice u) (.slice t) xs).bind fun xs=>K (xs,y)else none
    |_=>none
 | .tree ro v t l,q,K=>l.readK br n m h hp ρ (q+1) fun y=>match ρ.getD q none with
   |none=>K ([],y)
   |some r=>match h.getD r none with
    |some (.tree ro' v' u xs none)=>if(X0 br ro ro'&&Rd n q ro' v v')=true then(JY (.slice u) (.slice t) xs).bind fun xs=>K (xs,y)else none
    |_=>none
 | .one t l,q,K=>l.readK br n m h hp ρ (q+1) fun y=>match ρ.getD q none with
   |none=>none
   |some r=>match h.getD r none with
    |some (.cells k [cs])=>if k=t.size then DF hp t cs fun x rest=>if rest.isEmpty then K (x,y)else none else none
    |_=>none
 | .cells k ms l,q,K=>l.readK br n m h hp ρ (q+1) fun y=>match ρ.getD q none with
   |none=>none
   |some r=>match h.getD r none with
    |some (.cells k' [cs])=>if k'=k then ms.readK m h hp ρ cs l.ty y K else none
    |_=>none
def Tmpl.readK (T:Tmpl)(br:Bool)(n:Nat)(h hp:Am)(ρ:Ren)(vs:List AV)(K:den T.ty->Option R):Option R:=
 T.hs.readK br n T.hs.len h hp ρ 0 fun y=>T.ts.readK T.hs.len h hp ρ vs T.hs.ty y K
end
def Amm (h:Am)(t:Ty)(v:AV):List Conv:=(Q9 h t (match v with| .agg cs=>if t.agg then cs else[v]|_=>[v])).1
def Rf (h:Am):TmL->List AV->List Conv
 | .nil,_=>[]
 | .slot t l,vs=>match vs with|v::vs=>Amm h t v++Rf h l vs|[]=>[]
 | .agg cs l,vs=>match vs with|v::vs=>(match v with| .agg us=>Rf h cs us|_=>[])++Rf h l vs|[]=>[]
 | .fn _ cs l,vs=>match vs with|v::vs=>(match v with| .fn _ us=>Rf h cs us|_=>[])++Rf h l vs|[]=>[]
 | .junk l,vs| .own _ l,vs| .ptr _ _ _ l,vs| .ptrI _ _ l,vs| .mptr _ _ _ l,vs| .nown _ _ l,vs| .ownR _ l,vs| .const _ l,vs=>match vs with|_::vs=>Rf h l vs|[]=>[]
def Aj0 (h:Am):List (List AV)->List Conv
 |[]=>[]
 |e::es=>QC h e++Aj0 h es
def TH (br:Bool)(h:Am)(ρ:Ren):TmH->Nat->List Conv
 | .nil,_=>[]
 | .gone l,q| .kept l,q=>TH br h ρ l (q+1)
 | .lst ro t l,q=>(match ρ.getD q none with
   |none=>[]
   |some r=>match h.getD r none with
    |some (.cells _ es)=>Aj0 h es++.solid r t::(if ro&&!br then[.fz r]else[])
    |some (.tree _ _ _ _ _)=>.thin r::(if ro&&!br then[.fz r]else[])
    |some (.lst false _ _)=>if ro&&!br then[.fz r]else[]
    |_=>[])++TH br h ρ l (q+1)
 | .tree ro _ t l,q=>(match ρ.getD q none with
   |none=>[]
   |some r=>match h.getD r none with
    |some (.cells _ _)=>.plant r t::(if ro&&!br then[.fz r]else[])
    |some (.tree false _ _ _ _)=>if ro&&!br then[.fz r]else[]
    |_=>[])++TH br h ρ l (q+1)
 | .one t l,q=>(match ρ.getD q none with
   |none=>[]
   |some r=>match h.getD r none with
    |some (.cells _ [cs])=>if br then[]else(Q9 h t cs).1
    |_=>[])++TH br h ρ l (q+1)
 | .cells _ ms l,q=>(match ρ.getD q none with
   |none=>[]
   |some r=>match h.getD r none with
    |some (.cells _ [cs])=>if br then[]else Rf h ms cs
    |_=>[])++TH br h ρ l (q+1)
def Tmpl.prep (T:Tmpl)(br:Bool)(h:Am)(ρ:Ren)(vs:List AV):List Conv:=TH br h ρ T.hs 0++(if br then[]else Rf h T.ts vs)
def tk:Nat->Ren
 |0=>[]
 |n+1=>tk n++[some n]
def JM:Ren->List Nat
 |[]=>[]
 |none::ρ=>JM ρ
 |some r::ρ=>r::JM ρ
def Afa (ρ:Ren):Nat->Bool
 |0=>true
 |n+1=>rIs ρ n n&&Afa ρ n
def Tv (ρ:Ren)(n:Nat):Bool:=Ka (JM ρ)&&Afa ρ n
section
variable {R:Type}
def TmH.noKept:TmH->Bool
 | .nil=>true
 | .kept _=>false
 | .gone l| .lst _ _ l| .tree _ _ _ l| .one _ l| .cells _ _ l=>l.noKept
def Tmpl.readS1 (T:Tmpl)(n:Nat)(s:St)(ρ:Ren)(K:den T.ty->Option R):Option R:=
 if(Tv ρ n&&Nat.ble n T.hs.len&&T.hs.noKept)=true then OJ (T.prep false s.h ρ s.t) s.h fun δ=>T.readK false n (apD s.h δ) (roH (apD s.h δ)) ρ s.t K else none
def Tmpl.readS (T:Tmpl)(n:Nat)(s:St)(K:den T.ty->Option R):Option R:=T.readS1 n s (T4 s.h T.hs 0 (Ld T.ts s.t (tk n))) K
end
def Ty.flat:Ty->Bool
 | .prod a b=>a.flat&&b.flat
 | .slice _| .iref _| .fn _ _=>false
 |_=>true
def Ty.tflat:Ty->Bool
 | .prod a b=>a.tflat&&b.tflat
 | .slice t=>t.flat
 | .iref _| .fn _ _=>false
 |_=>true
def TmL.fl (br:Bool):TmL->Bool
 | .nil=>true
 | .slot t l=>(!br||t.flat)&&l.fl br
 | .agg cs l| .fn _ cs l=>cs.fl br&&l.fl br
 | .const c l=>(match c with| .nils| .nilp| .nilf| .nili=>true| .fn _ []=>true|_=>false)&&l.fl br
 | .junk l| .own _ l| .ptr _ _ _ l| .ptrI _ _ l| .mptr _ _ _ l| .nown _ _ l| .ownR _ l=>l.fl br
def TmH.fl (br:Bool):TmH->Bool
 | .nil=>true
 | .gone l| .kept l=>l.fl br
 | .lst _ t l=>(!br||t.flat)&&l.fl br
 | .tree _ _ t l=>(!br||t.tflat)&&l.fl br
 | .one t l=>(!br||t.flat)&&l.fl br
 | .cells _ ms l=>ms.fl br&&l.fl br
def Tmpl.fl (T:Tmpl)(br:Bool):Bool:=T.ts.fl br&&T.hs.fl br
abbrev Tmpl.flat (T:Tmpl):Bool:=T.fl true
def TZ (ρ:Ren):TmH->Nat->Bool
 | .nil,_=>true
 | .kept l,q=>(ρ.getD q none).isSome&&TZ ρ l (q+1)
 | .gone l,q| .lst _ _ l,q| .tree _ _ _ l,q| .one _ l,q| .cells _ _ l,q=>TZ ρ l (q+1)
def Gy:TmH->TmH->Bool
 | .nil,.nil=>true
 | .nil,.lst false _ b| .nil,.tree false _ _ b| .nil,.one _ b| .nil,.cells _ _ b| .nil,.gone b=>Gy .nil b
 | .lst true _ a,.kept b=>Gy a b
 | .tree true 0 _ a,.kept b=>Gy a b
 | .lst false _ a,.lst false _ b=>Gy a b
 | .tree false 0 _ a,.tree false _ _ b=>Gy a b
 | .tree false 0 _ a,.lst false _ b=>Gy a b
 | .one _ a,.one _ b| .one _ a,.cells _ _ b| .cells _ _ a,.cells _ _ b| .cells _ _ a,.one _ b=>Gy a b
 | .lst false _ a,.gone b| .tree false 0 _ a,.gone b| .one _ a,.gone b| .cells _ _ a,.gone b=>Gy a b
 |_,_=>false
def QE (ms:TmL)(vs:List AV):Bool:=match ms with
 | .nil=>vs.isEmpty
 | .junk l=>match vs with|_::vs=>QE l vs|[]=>false
 | .slot t l=>match vs with
   |v::vs=>(match v with
    | .fn g _=>(match t with| .fn f _=>f==g|_=>false)
    | .pv (.fn g _) _=>(match t with| .fn f _=>f==g|_=>false)
    |_=>true)&&QE l vs
   |[]=>false
 | .agg cs l=>match vs with| .agg us::vs=>QE cs us&&QE l vs|_=>false
 | .fn f cs l=>match vs with| .fn g us::vs=>(g==f)&&QE cs us&&QE l vs|_=>false
 | .own _ l=>match vs with| .own _ none none::vs| .nils::vs=>QE l vs|_=>false
 | .ptr _ _ _ l| .ptrI _ _ l=>match vs with| .ptr _ none _ _::vs=>QE l vs|_=>false
 | .mptr _ _ _ l=>match vs with| .ptr _ (some _) _ _::vs| .mptr _ _ _ _ _::vs| .nilp::vs=>QE l vs|_=>false
 | .nown _ _ l=>match vs with| .own _ (some _) none::vs=>QE l vs|_=>false
 | .ownR _ l=>match vs with| .own _ none (some _)::vs=>QE l vs|_=>false
 | .const c l=>match vs with|v::vs=>OU v c&&QE l vs|[]=>false
def Zd (f:FuncId)(args:List AV):List Ent->Option Ent
 |[]=>none
 |e::es=>if(e.f==f&&QE e.ti.ts args)=true then some e else Zd f args es
def Agr {R:Type}(ti to:Tmpl)(s:St)(ρ:Ren)(vs:List AV)(K:den to.ty->Option R):Option R:=
 if(Tv ρ ti.hs.len&&Nat.ble ti.hs.len to.hs.len&&Gy ti.hs to.hs)=true then OJ (to.prep false s.h ρ vs) s.h fun δ=>to.readK false ti.hs.len (apD s.h δ) (roH (apD s.h δ)) ρ vs K else none
def A9c {R:Type}(ti to:Tmpl)(s:St)(vs:List AV)(K:den to.ty->Option R):Option R:=Agr ti to s (T4 s.h to.hs 0 (Ld to.ts vs (tk ti.hs.len))) vs K
def mrg:Am->List (Option Cont)->Am
 |h,[]=>h
 |[],os=>os
 |_::h,some c::os=>some c::mrg h os
 |o::h,none::os=>o::mrg h os
def Q3:Am->Nat->Am
 |[],_=>[]
 |_::h,0=>none::h
 |o::h,r+1=>o::Q3 h r
def Py:Am->List Nat->Am
 |h,[]=>h
 |h,r::rs=>Py (Q3 h r) rs
def dB (ρ:Ren):TmH->Nat->List Nat
 | .nil,_=>[]
 | .lst true _ l,q| .tree true _ _ l,q=>dB ρ l (q+1)
 | .gone l,q| .kept l,q| .lst _ _ l,q| .tree _ _ _ l,q| .one _ l,q| .cells _ _ l,q=>match ρ.getD q none with
   |some r=>r::dB ρ l (q+1)
   |none=>dB ρ l (q+1)
def rho (ρ:Ren)(base q:Nat):Nat:=match ρ.getD q none with|some r=>r|none=>base+q
def JB (h:Am)(ρ:Ren)(vr:Nat->Nat)(q:Nat):Nat:=match ρ.getD q none with
 |some r=>match h.getD r none with
  |some (.tree _ v _ _ _)=>if vr q==0 then v else v+1
  |_=>vr q
 |none=>vr q
def D6 (ρ:Ren)(base:Nat):Nat->List (Option Cont)->Bx
 |_,[]=>[]
 |q,none::os=>D6 ρ base (q+1) os
 |q,some c::os=>(rho ρ base q,c)::D6 ρ base (q+1) os
def eB (vs:List AV):AV:=match vs with
 |[v]=>v
 |vs=>.tup vs
section
variable {R:Type}
def WH (e:Ent)(base:Nat)(h:Am)(ρ:Ren)(args:List AV)(K:AV->Bx->Option R):Option R:=
 if(Tv ρ 0&&Gy e.ti.hs e.to.hs&&Nat.ble ρ.length e.ti.hs.len&&e.to.fl e.to.flat&&TZ ρ e.to.hs 0)=true then OJ (e.ti.prep e.to.flat h ρ args) h fun δ=>
  e.ti.readK e.to.flat 0 (apD h δ) (if e.to.flat then Py (apD h δ) (dB ρ e.ti.hs 0)else roH (apD h δ)) ρ args fun x=>
   (e.fn x).bind fun y=>K (eB (e.to.vals (rho ρ base) (JB (apD h δ) ρ e.to.hs.ver) y)) (δ++D6 ρ base 0 (e.to.objs (rho ρ base) (JB (apD h δ) ρ e.to.hs.ver) y))
 else none
def aG (e:Ent)(base:Nat)(h:Am)(ρ:Ren)(args:List AV)(K:AV->Bx->Option R)(no:Option R):Option R:=
 if(Tv ρ 0&&Gy e.ti.hs e.to.hs&&Nat.ble ρ.length e.ti.hs.len&&e.to.fl e.to.flat&&TZ ρ e.to.hs 0)=true then OJ (e.ti.prep e.to.flat h ρ args) h fun δ=>
  e.ti.readK e.to.flat 0 (apD h δ) (if e.to.flat then Py (apD h δ) (dB ρ e.ti.hs 0)else roH (apD h δ)) ρ args fun x=>
   Td (e.fn x) (fun y=>K (eB (e.to.vals (rho ρ base) (JB (apD h δ) ρ e.to.hs.ver) y)) (δ++D6 ρ base 0 (e.to.objs (rho ρ base) (JB (apD h δ) ρ e.to.hs.ver) y))) no
 else none
def W8 (f:FuncId)(args:List AV):List Ent->Option Ent
 |[]=>none
 |e::es=>if(e.f==f&&QE e.ti.ts args)=true then Zd f args es else W8 f args es
def SZ (C:Cfg)(base:Nat)(h:Am)(f:FuncId)(args:List AV)(K:AV->Bx->Option R):Option R:=
 match Zd f args C.ents with
 |some e=>if Nat.ble (e.to.hs.len+1) C.cs=true then(if C.two.contains f=true then
   (match W8 f args C.ents with
   |some e2=>if Nat.ble (e2.to.hs.len+1) C.cs=true then aG e base h (T4 h e.ti.hs 0 (Ld e.ti.ts args [])) args K (WH e2 base h (T4 h e2.ti.hs 0 (Ld e2.ti.ts args [])) args K)else none
   |none=>none)
   else WH e base h (T4 h e.ti.hs 0 (Ld e.ti.ts args [])) args K)else none
 |none=>none
def Agp (tak:Bool)(base:Nat)(h:Am)(args:List AV)(K:AV->Bx->Option R)(call:Nat->Am->List AV->(AV->Bx->Option R)->Option R):Option R:=
 match tak with
 |false=>call base h args K
 |true=>match args with
  | .own q (some (i,k,v)) none::rest=>match h.getD q none with
    |some (.tree false ver t xs none)=>if v=ver then(xs[i]?).bind fun x=>match(flat t x)[k]? with
      |some (.pv (.slice u) ys)=>call (base+1) (apD h [(q,.tree false (ver+1) t xs (some (i,k))),(base,.lst false u ys)]) (.own base none none::rest) fun v δ=>K v ([(q,.tree false (ver+1) t xs (some (i,k))),(base,.lst false u ys)]++δ)
      |_=>none
     else none
    |_=>none
  |args=>call base h args K
def qZ (C:Cfg)(base:Nat)(h:Am)(f:FuncId)(args:List AV)(K:AV->Bx->Option R):Option R:=
 Agp (C.tak.contains f) base h args K fun base h args K=>SZ C base h f args K
def rn (C:Cfg)(base:Nat)(s:St)(o:Oper)(K:AV->Bx->Option R):Option R:=
 match o.op with
 | .call c=>match c.callee with
   | .value fo=>match callee (ev s.t fo)with
     |some (f,cap)=>qZ C base s.h f (c.args.toList.map (ev s.t)++cap) K
     |none=>none
   |_=>Ls C base s o K
 |_=>Ls C base s o K
def IV (C:Cfg)(o:Oper):Nat:=
 match o.op with
 | .call c=>match c.callee with
   | .value _=>C.cs
   |_=>JS C o
 |_=>JS C o
end
end Go.Ab
end
section
namespace Go.Ab
def aft (o:Oper)(i:Nat):Bool:=o.after.any fun e=>Region.binds .any e&&e.on==i
def ZY (ops:Array Oper)(o:Oper):List Tmp:=
 (o.op.operands.toList.filterMap fun| .tmp t=>some t|_=>none)++
 (match o.guard with
  |some (g,_)=>((ops[g]?).bind (·.dst)).toList
  |none=>[])
def Og (ops:Array Oper):Bool:=
 (ops.toList.zipIdx.all fun p=>p.1.after.all fun e=>!Region.binds .any e||decide (e.on<p.2))&&
 (ops.toList.zipIdx.all fun p=>ops.toList.zipIdx.all fun q=>p.2==q.2||p.1.dst.isNone||p.1.dst != q.1.dst)&&
 (ops.toList.zipIdx.all fun p=>(ZY ops p.1).all fun t=>ops.toList.zipIdx.all fun q=>p.2==q.2||q.1.dst != some t||(decide (q.2<p.2)&&aft p.1 q.2)||(decide (p.2<q.2)&&aft q.1 p.2))
def SM (acc:List Nat):List Edge->Nat
 |[]=>0
 |e::es=>if Region.binds .any e=true then Nat.lor (Nat.lor (2 ^ e.on) (acc.getD e.on 0)) (SM acc es)else SM acc es
def LV:List Oper->List Nat->List Nat
 |[],acc=>acc
 |o::l,acc=>LV l (acc++[SM acc o.after.toList])
structure Tr where
 vis:Am
 base:Nat
 cnt:Nat
 t:List Nat
def ord (ms:List Nat)(k i:Nat):Bool:=Nat.testBit (ms.getD i 0) k
def PB (ms:List Nat)(i:Nat):List Tr->Nat->List Nat
 |[],_=>[]
 |a::tr,k=>if ord ms k i=true then PB ms i tr (k+1)else a.t++PB ms i tr (k+1)
def WM (a:Tr)(r:Nat):Bool:=(match a.vis.getD r none with|none=>true|some _=>false)&&!(a.t.contains r)&&!(Nat.ble a.base r&&Nat.blt r (a.base+a.cnt))
def OL (ms:List Nat)(i:Nat)(t:List Nat):List Tr->Nat->Bool
 |[],_=>true
 |a::tr,k=>(ord ms k i||t.all (WM a))&&OL ms i t tr (k+1)
def Fm (δ:Bx):List Nat:=δ.map (·.1)
def A7s (C:Cfg)(id i:Nat):List Nat:=((C.hid.find? fun x=>x.1.1==id&&x.1.2==i).map (·.2)).getD []
section
variable {R:Type}
def Ps (C:Cfg)(id:Nat)(ms:List Nat)(all:Array Oper):List Oper->List Tr->Nat->St->(St->Option R)->Option R
 |[],_,_,s,K=>K s
 |o::rest,tr,base,s,K=>
  let vis:=Py s.h (A7s C id tr.length++PB ms tr.length tr 0)
  let go (T:List AV):Option R:=if Nat.ble s.h.length base=true then rn C base ⟨T,vis⟩ o fun v δ=>
   if OL ms tr.length (Fm δ) tr 0=true then Ps C id ms all rest (tr++[⟨vis,base,IV C o,Fm δ⟩]) (base+IV C o) ⟨put T o.dst v,apD s.h δ⟩ K else none
   else none
  let skip (T:List AV):Option R:=Ps C id ms all rest (tr++[⟨[],0,0,[]⟩]) base ⟨put T o.dst .undef,s.h⟩ K
  match o.guard with
  |none=>go s.t
  |some (j,w)=>match(all[j]?).bind (·.dst)with
   |none=>none
   |some d=>match s.t.getD d .junk with
    | .pv .bool t=>match(t:Bool)with
      |true=>if w=true then go (s.t.set d (.b true))else skip (s.t.set d (.b true))
      |false=>if w=false then go (s.t.set d (.b false))else skip (s.t.set d (.b false))
    | .tup []=>skip s.t
    |_=>none
def Rb (C:Cfg)(all:Array Oper):List Oper->St->(St->Option R)->Option R
 |[],s,K=>K s
 |o::rest,s,K=>
  let go (T:List AV):Option R:=rn C s.h.length ⟨T,s.h⟩ o fun v δ=>Rb C all rest ⟨put T o.dst v,apD s.h δ⟩ K
  let skip (T:List AV):Option R:=Rb C all rest ⟨put T o.dst .undef,s.h⟩ K
  match o.guard with
  |none=>go s.t
  |some (j,w)=>match(all[j]?).bind (·.dst)with
   |none=>none
   |some d=>match s.t.getD d .junk with
    | .pv .bool t=>match(t:Bool)with
      |true=>if w=true then go (s.t.set d (.b true))else skip (s.t.set d (.b true))
      |false=>if w=false then go (s.t.set d (.b false))else skip (s.t.set d (.b false))
    | .tup []=>skip s.t
    |_=>none
end
end Go.Ab
end
section
namespace Go.Ab
noncomputable section
def Kr {σ ρ:Type}(B:σ->Option (σ ⊕ ρ)):Nat->σ->Option ρ
 |0,_=>none
 |n+1,s=>(B s).bind fun r=>match r with| .inl s'=>Kr B n s'| .inr r=>some r
open Classical in
def Au {σ ρ:Type}(B:σ->Option (σ ⊕ ρ))(s:σ):Option ρ:=
 if h:∃n,(Kr B n s).isSome then Kr B (Classical.choose h) s else none
def WI {R:Type}(a b:Option R):Option R:=open Classical in if a=b then a else none
theorem Pe {R:Type}(a:Option R):WI a a=a:=by unfold WI;simp
theorem sE {R:Type}{a b:Option R}{r:R}(h:WI a b=some r):a=some r/\b=some r:=by
 unfold WI at h
 split at h
 ·rename_i e;subst e;exact⟨h,h⟩
 ·cases h
def keep (live:List Nat):List AV->Nat->List AV
 |[],_=>[]
 |v::vs,i=>(if live.contains i then v else .junk)::keep live vs (i+1)
def St.trim (live:List Nat)(s:St):St:=⟨keep live s.t 0,s.h⟩
def KL:Code->Nat
 | .region id _ _=>id
 | .seq a _=>KL a
 | .block _ a| .loop a| .scope a=>KL a
 | .cond _ a _=>KL a
 |_=>0
def Qr (T:Tmpl)(n:Nat)(live:List Nat)(e:Ex)(s:St):Option (den T.ty ⊕ (Ex×St)):=match e with
 | .normal=>T.readS n s fun x=>some (.inl x)
 |e=>some (.inr (e,s.trim live))
def Anm (C:Cfg)(id:Nat):List Conv:=(((C.gho.find? fun x=>x.1==id).map (·.2)).getD []).map .thin
def Kk (C:Cfg):Code->{R:Type}->St->(Ex->St->Option R)->Option R
 | .skip,_,s,K=>K .normal s
 | .label _,_,s,K=>K .normal s
 | .region id ops draw,_,s,K=>if draw then(if Og ops then OJ (Anm C id) s.h fun δ=>Ps C id (LV ops.toList []) ops ops.toList [] (apD s.h δ).length ⟨s.t,apD s.h δ⟩ fun s'=>K .normal s' else none)else Rb C ops ops.toList s fun s'=>K .normal s'
 | .seq a b,_,s,K=>Kk C a s fun e s'=>match e with| .normal=>Kk C b s' K|e=>K e s'
 | .cond c a b,_,s,K=>match ev s.t c with
   | .pv .bool t=>match(t:Bool)with|true=>Kk C a s K|false=>Kk C b s K
   | .unk=>WI (Kk C a s K) (Kk C b s K)
   |_=>none
 | .block id c,_,s,K=>Kk C c s fun e s'=>match e with
   | .exit j=>if j=id then K .normal s' else K (.exit j) s'
   |e=>K e s'
 | .loop c,R,s,K=>match(C.ann.find? fun x=>x.1==KL c).map (·.2)with
   |none=>none
   |some F=>F s R K
 | .exit id,_,s,K=>K (.exit id) s
 | .ret,_,s,K=>K .ret s
 |_,_,_,_=>none
section
variable {R:Type}
def Ajb (C:Cfg)(s:St)(rv:ResultVar)(K:AV->Option R):Option R:=match rv with
 | .tmp t=>K (s.t.getD t .junk)
 | .cell a t=>match C.info t,s.t.getD a .junk with
   |some i,x=>match i.und with
    | .arr _ _=>Ou s.h i.size x K
    |_=>match x with
     | .ptr r q j off=>LE s.h r q fun c=>c.atK r j fun cs=>ldK i (cs.drop off) K
     |_=>none
   |_,_=>none
def X2 (C:Cfg)(s:St):List ResultVar->(List AV->Option R)->Option R
 |[],K=>K []
 |rv::l,K=>Ajb C s rv fun v=>X2 C s l fun vs=>K (v::vs)
end
def TmH.ver0:TmH->Bool
 | .nil=>true
 | .tree _ v _ l=>v==0&&l.ver0
 | .gone l| .kept l| .lst _ _ l| .one _ l| .cells _ _ l=>l.ver0
def Uf:Cont->Option Cont
 | .lst false t xs=>some (.lst false t xs)
 | .tree false _ t xs none=>some (.tree false 0 t xs none)
 |_=>none
def Amk {R:Type}(c:Option (Nat×Nat))(h:Am)(vs:List AV)(K:Am->List AV->Option R):Option R:=
 match c with
 |none=>match vs with
  | .own r none none::l=>match h.getD r none with
    |some c=>match Uf c with
     |some c'=>K (setH (setH h r .dead) h.length c') (.own h.length none none::l)
     |none=>none
    |none=>none
  | .own r none (some p)::l=>match h.getD r none with
    |some (.lst false t xs)=>if p.1=0 then K (setH (setH h r .dead) h.length (.lst false t (xs.take p.2))) (.own h.length none none::l)else none
    |_=>none
  | .nils::l=>K h (.nils::l)
  |_=>none
 |some (b,k)=>match h.getD b none with
  |some (.cells n [es])=>match es[k]? with
   |some (.own r none none)=>match h.getD r none with
    |some c=>match Uf c with
     |some c'=>K (setH (setH (setH h r .dead) h.length c') b (.cells n [es.set k (.own h.length none none)])) vs
     |none=>none
    |none=>none
   |some .nils=>K h vs
   |_=>none
  |_=>none
def U6 {R:Type}:List (Option (Nat×Nat))->Am->List AV->(Am->List AV->Option R)->Option R
 |[],h,vs,K=>K h vs
 |c::cs,h,vs,K=>Amk c h vs fun h vs=>U6 cs h vs K
def RX (C:Cfg)(fn:Func)(ti to:Tmpl)(x:den ti.ty):Option (den to.ty):=
 match fn.body with
 |none=>none
 |some c=>if(Nat.beq C.lent ti.hs.len&&ti.hs.ver0)=true then U6 C.pre (ti.objs0 x) (ti.vals0 x) fun h0 vs0=>Kk C c ⟨vs0++List.replicate (fn.ntmps-vs0.length) .undef,h0⟩ fun e s=>
  match e with
  | .exit _=>none
  |_=>X2 C s fn.results.toList fun vs=>U6 C.cut s.h vs fun h vs=>A9c ti to ⟨s.t,h⟩ vs some
  else none
end
end Go.Ab
end
section
namespace Go.Ab
open Go.RowKit
def IM (w:World)(b o:Nat)(cs:List Value):Prop:=∀(j:Nat) (h:j<cs.length),w.cell? ⟨b,o+j,none⟩=some cs[j]
def LN (agg:Bool)(R:List Value->Prop)(v:Value):Prop:=if agg then ∃cs:List Value,v=.agg cs.toArray/\R cs else R [v]
mutual
def B5 (I:Nat->Prop)(w:World):(t:Ty)->den t->List Value->Prop
 | .int k,n,vs=>vs=[.int k n]
 | .bool,b,vs=>vs=[.bool b]
 | .str,s,vs=>vs=[.string s]
 | .err,e,vs=>∃v,vs=[v]/\(if e then v=.nilIface else ∃t u,v=.iface t u)
 | .unit,_,vs=>vs=[]
 | .idx,_,_=>False
 | .prod a b,x,vs=>∃us ws,vs=us++ws/\B5 I w a x.1 us/\B5 I w b x.2 ws
 | .slice t,xs,vs=>∃A c,vs=[.slice A (xs:List (den t)).length c]/\(xs:List (den t)).length<=c/\((xs:List (den t)).length≠0->∃b o,A=some ⟨b,o,none⟩/\I b/\
    ∀(i:Nat) (h:i<(xs:List (den t)).length),∃cs:List Value,cs.length=t.size/\B5 I w t (xs:List (den t))[i] cs/\IM w b (o+i*t.size) cs)
 | .iref t,x,vs=>match(x:Option (den t))with
   |none=>vs=[.pointer none]
   |some y=>∃b o cs,vs=[.pointer (some ⟨b,o,none⟩)]/\I b/\cs.length=t.size/\B5 I w t y cs/\IM w b o cs
 | .fn f t,x,vs=>∃us:List Value,vs=[.func (.func f) #[] us.toArray]/\L0 I w t x us
def L0 (I:Nat->Prop)(w:World):(t:Ty)->den t->List Value->Prop
 | .prod a b,x,vs=>∃v us,vs=v::us/\LN a.agg (B5 I w a x.1) v/\L0 I w b x.2 us
 | .unit,_,vs=>vs=[]
 |_,_,_=>False
end
def R9 (I:Nat->Prop)(w:World)(t:Ty)(x:den t)(v:Value):Prop:=LN t.agg (B5 I w t x) v
def Tj (I:Nat->Prop)(w:World)(I':Nat->Prop)(w':World):Prop:=∀b,I b->I' b/\w'.heap[b]? =w.heap[b]?
theorem KD {w w':World}{b o:Nat}{cs:List Value}(h:w'.heap[b]? =w.heap[b]?)(hc:IM w b o cs):IM w' b o cs:=
 fun j hj=>(World.cell?_of_block (w:=w) (w':=w') (a:=⟨b,o+j,none⟩) h).trans (hc j hj)
theorem T8 {agg:Bool}{R R':List Value->Prop}(h:∀cs,R cs->R' cs){v:Value}(hv:LN agg R v):LN agg R' v:=by
 unfold LN at*
 split
 ·rename_i e;rw[if_pos e]at hv;obtain⟨cs,e1,e2⟩:=hv;exact⟨cs,e1,h _ e2⟩
 ·rename_i e;rw[if_neg e]at hv;exact h _ hv
theorem K7 {I I':Nat->Prop}{w w':World}(hs:Tj I w I' w'):(t:Ty)->(∀(x:den t) vs,B5 I w t x vs->B5 I' w' t x vs)/\(∀(x:den t) vs,L0 I w t x vs->L0 I' w' t x vs)
 | .int _| .bool| .str| .err| .unit| .idx=>⟨fun _ _ h=>by simpa only[B5]using h,fun _ _ h=>by simpa only[L0]using h⟩
 | .prod a b=>⟨fun x vs h=>by
    simp only[B5]at h ⊢
    obtain⟨us,ws,e,h1,h2⟩:=h
    exact⟨us,ws,e,(K7 hs a).1 _ _ h1,(K7 hs b).1 _ _ h2⟩,fun x vs h=>by
    simp only[L0]at h ⊢
    obtain⟨v,us,e,h1,h2⟩:=h
    exact⟨v,us,e,T8 (fun cs hc=>(K7 hs a).1 _ _ hc) h1,(K7 hs b).2 _ _ h2⟩⟩
 | .slice t=>⟨fun x vs h=>by
    simp only[B5]at h ⊢
    obtain⟨A,c,e,hlc,h1⟩:=h
    refine⟨A,c,e,hlc,fun hn=>?_⟩
    obtain⟨b,o,e1,hI,h2⟩:=h1 hn
    refine⟨b,o,e1,(hs b hI).1,fun i hi=>?_⟩
    obtain⟨cs,e2,h3,h4⟩:=h2 i hi
    exact⟨cs,e2,(K7 hs t).1 _ _ h3,KD (hs b hI).2 h4⟩,fun _ _ h=>by simpa only[L0]using h⟩
 | .iref t=>⟨fun x vs h=>by
    cases x with
    |none=>simpa only[B5]using h
    |some y=>
     simp only[B5]at h ⊢
     obtain⟨b,o,cs,e,hI,e2,h3,h4⟩:=h
     exact⟨b,o,cs,e,(hs b hI).1,e2,(K7 hs t).1 _ _ h3,KD (hs b hI).2 h4⟩,fun _ _ h=>by simpa only[L0]using h⟩
 | .fn f t=>⟨fun x vs h=>by
    simp only[B5]at h ⊢
    obtain⟨us,e,h1⟩:=h
    exact⟨us,e,(K7 hs t).2 _ _ h1⟩,fun _ _ h=>by simpa only[L0]using h⟩
theorem B5.mono {I I':Nat->Prop}{w w':World}{t:Ty}{x:den t}{vs:List Value}(hs:Tj I w I' w')(h:B5 I w t x vs):B5 I' w' t x vs:=(K7 hs t).1 x vs h
theorem L0.mono {I I':Nat->Prop}{w w':World}{t:Ty}{x:den t}{vs:List Value}(hs:Tj I w I' w')(h:L0 I w t x vs):L0 I' w' t x vs:=(K7 hs t).2 x vs h
theorem R9.mono {I I':Nat->Prop}{w w':World}{t:Ty}{x:den t}{v:Value}(hs:Tj I w I' w')(h:R9 I w t x v):R9 I' w' t x v:=T8 (fun _ hc=>hc.mono hs) h
theorem B5.length {I:Nat->Prop}{w:World}:(t:Ty)->{x:den t}->{vs:List Value}->B5 I w t x vs->vs.length=t.size
 | .int _,_,_,h| .bool,_,_,h| .str,_,_,h| .unit,_,_,h=>by simp only[B5]at h;subst h;rfl
 | .err,_,_,h=>by simp only[B5]at h;obtain⟨v,rfl,_⟩:=h;rfl
 | .idx,_,_,h=>by simp only[B5]at h
 | .prod a b,_,_,h=>by
   simp only[B5]at h;obtain⟨us,ws,rfl,h1,h2⟩:=h
   rw[List.length_append,B5.length a h1,B5.length b h2];rfl
 | .slice t,_,_,h=>by simp only[B5]at h;obtain⟨A,c,rfl,_⟩:=h;rfl
 | .iref t,x,_,h=>by
   cases x with
   |none=>simp only[B5]at h;subst h;rfl
   |some y=>simp only[B5]at h;obtain⟨_,_,_,rfl,_⟩:=h;rfl
 | .fn f t,_,_,h=>by simp only[B5]at h;obtain⟨us,rfl,_⟩:=h;rfl
structure Env where
 ι:Nat->Option (Nat×Nat)->Option (Nat×Nat)
 I:Nat->Prop
def C0 (ro:Bool)(t:Ty)(xs:List (den t))(i k:Nat):Option Cont:=
 (xs[i]?).bind fun x=>match(flat t x)[k]? with
   |some (.pv (.slice u) ys)=>some (.lst ro u ys)
   |_=>none
inductive RefSt where
 |no|off|on (c:Cont)
def AC (h:Am)(r:Nat):Sub->RefSt
 |none=>match h.getD r none with
  |none=>.no
  |some .dead=>.off
  |some c=>.on c
 |some (i,k,v)=>match h.getD r none with
  |none=>.no
  |some (.tree ro ver t xs ho)=>if ver<v then .no else if v<ver\/ho=some (i,k)then .off else match C0 ro t xs i k with
   |some c=>.on c
   |none=>.no
  |some (.cells _ _)=>.no
  |some (.lst _ _ _)=>.off
  |some (.shp _ _)=>.off
  |some .dead=>.off
def key:Sub->Option (Nat×Nat)
 |none=>none
 |some (i,k,_)=>some (i,k)
def La (E:Env)(w:World)(r:Nat)(s:Sub)(c:Cont)(rg:Option (Nat×Nat))(v:Value):Prop:=
 (rg.getD (0,c.len)).1+(rg.getD (0,c.len)).2<=c.len/\
   ((c.len=0/\v=.slice none 0 0)\/
    ∃b n a,E.ι r (key s)=some (b,c.sz)/\v=.slice (some a) (rg.getD (0,c.len)).2 n/\(rg.getD (0,c.len)).2<=n/\(n≠0->a=⟨b,(rg.getD (0,c.len)).1*c.sz,none⟩)/\
     ∃arr ty,w.heap[b]? =some (.cells arr ty (0,0))/\(rg.getD (0,c.len)).1*c.sz+n*c.sz<=arr.size)
def Cz (E:Env)(h:Am)(w:World)(r:Nat)(s:Sub)(rg:Option (Nat×Nat))(v:Value):Prop:=
 match AC h r s with
 | .no=>False
 | .off=>v.oneCell'=true
 | .on c=>La E w r s c rg v
def CY (E:Env)(h:Am)(r:Nat)(s:Sub)(i off:Nat)(v:Value):Prop:=
 match AC h r s with
 | .no=>False
 | .off=>∃a,v=.pointer (some a)
 | .on c=>∃b,E.ι r (key s)=some (b,c.sz)/\v=.pointer (some ⟨b,i*c.sz+off,none⟩)
mutual
def Ag (E:Env)(h:Am)(w:World):AV->Value->Prop
 | .pv t x,v=>B5 E.I w t x [v]
 | .agg cs,v=>∃vs:List Value,v=.agg vs.toArray/\Ak E h w cs vs
 | .tup cs,v=>∃vs:List Value,v=.tuple vs.toArray/\Ak E h w cs vs
 | .own r s rg,v=>Cz E h w r s rg v
 | .ptr r s i off,v=>CY E h r s i off v
 | .mptr r k ver off o,v=>match o with
   |none=>v=.pointer none
   |some p=>CY E h r (some (p.1,k,ver)) p.2 off v
 | .iptr t x off,v=>∃b o cs,v=.pointer (some ⟨b,o+off,none⟩)/\E.I b/\B5 E.I w t x cs/\IM w b o cs
 | .nils,v=>v=.slice none 0 0
 | .nilp,v=>v=.pointer none
 | .nilf,v=>v=.nilFunc
 | .nili,v=>v=.nilIface
 | .fn f cap,v=>∃us:List Value,v=.func (.func f) #[] us.toArray/\Ak E h w cap us
 | .unk,v=>∃b,v=.bool b
 | .junk,_=>True
def Ak (E:Env)(h:Am)(w:World):List AV->List Value->Prop
 |[],vs=>vs=[]
 |c::cs,vs=>∃v us,vs=v::us/\Ag E h w c v/\Ak E h w cs us
end
theorem Ak.nil {E:Env}{h:Am}{w:World}:Ak E h w [] []:=by simp[Ak]
theorem Ak.cons {E:Env}{h:Am}{w:World}{c:AV}{cs:List AV}{v:Value}{vs:List Value}(h1:Ag E h w c v)(h2:Ak E h w cs vs):Ak E h w (c::cs) (v::vs):=by
 simp only[Ak];exact⟨v,vs,rfl,h1,h2⟩
theorem Ak.append {E:Env}{h:Am}{w:World}:{cs ds:List AV}->{us vs:List Value}->Ak E h w cs us->Ak E h w ds vs->Ak E h w (cs++ds) (us++vs)
 |[],_,_,_,h1,h2=>by simp only[Ak]at h1;subst h1;simpa using h2
 |c::cs,_,_,_,h1,h2=>by
  simp only[Ak]at h1;obtain⟨v,us,rfl,h3,h4⟩:=h1
  exact Ak.cons h3 (Ak.append h4 h2)
theorem Ak.length {E:Env}{h:Am}{w:World}:{cs:List AV}->{vs:List Value}->Ak E h w cs vs->cs.length=vs.length
 |[],_,h1=>by simp only[Ak]at h1;subst h1;rfl
 |c::cs,_,h1=>by simp only[Ak]at h1;obtain⟨v,us,rfl,_,h4⟩:=h1;simp[Ak.length h4]
theorem Ak.get {E:Env}{h:Am}{w:World}:{cs:List AV}->{vs:List Value}->Ak E h w cs vs->(i:Nat)->{c:AV}->cs[i]? =some c->∃v,vs[i]? =some v/\Ag E h w c v
 |[],_,_,_,_,e=>by simp at e
 |c::cs,_,h1,i,d,e=>by
  simp only[Ak]at h1;obtain⟨v,us,rfl,h3,h4⟩:=h1
  cases i with
  |zero=>simp at e;subst e;exact⟨v,rfl,h3⟩
  |succ i=>simpa using Ak.get h4 i (by simpa using e)
theorem Ak.of {E:Env}{h:Am}{w:World}:{cs:List AV}->{vs:List Value}->cs.length=vs.length->(∀(i:Nat) (h1:i<cs.length) (h2:i<vs.length),Ag E h w cs[i] vs[i])->Ak E h w cs vs
 |[],[],_,_=>Ak.nil
 |c::cs,v::vs,e,hh=>Ak.cons (hh 0 (by simp) (by simp)) (Ak.of (by simpa using e) (fun i h1 h2=>hh (i+1) (by simpa using h1) (by simpa using h2)))
theorem Ak.take {E:Env}{h:Am}{w:World}(n:Nat):{cs:List AV}->{vs:List Value}->Ak E h w cs vs->Ak E h w (cs.take n) (vs.take n):=by
 induction n with
 |zero=>intro cs vs _;simp[Ak.nil]
 |succ n ih=>
  intro cs vs h1
  cases cs with
  |nil=>simp only[Ak]at h1;subst h1;simp[Ak.nil]
  |cons c cs=>simp only[Ak]at h1;obtain⟨v,us,rfl,h3,h4⟩:=h1;exact Ak.cons h3 (ih h4)
theorem Ak.drop {E:Env}{h:Am}{w:World}(n:Nat):{cs:List AV}->{vs:List Value}->Ak E h w cs vs->Ak E h w (cs.drop n) (vs.drop n):=by
 induction n with
 |zero=>intro cs vs h1;simpa using h1
 |succ n ih=>
  intro cs vs h1
  cases cs with
  |nil=>simp only[Ak]at h1;subst h1;simp[Ak.nil]
  |cons c cs=>simp only[Ak]at h1;obtain⟨v,us,rfl,h3,h4⟩:=h1;exact ih h4
theorem Dn {E:Env}{h:Am}{w:World}:(t:Ty)->{x:den t}->{vs:List Value}->B5 E.I w t x vs->Ak E h w (flat t x) vs
 | .prod a b,x,_,h1=>by
   simp only[B5]at h1;obtain⟨us,ws,rfl,h2,h3⟩:=h1
   exact Ak.append (Dn a h2) (Dn b h3)
 | .unit,_,_,h1=>by simp only[B5]at h1;subst h1;exact Ak.nil
 | .idx,_,_,h1=>by simp only[B5]at h1
 | .int k,x,vs,h1| .bool,x,vs,h1| .str,x,vs,h1=>by
   have h2:=h1;simp only[B5]at h2;subst h2
   exact Ak.cons (by simpa only[Ag]using h1) Ak.nil
 | .err,x,vs,h1=>by
   have h2:=h1;simp only[B5]at h2;obtain⟨v,rfl,_⟩:=h2
   exact Ak.cons (by simpa only[Ag]using h1) Ak.nil
 | .slice t,x,vs,h1=>by
   have h2:=h1;simp only[B5]at h2;obtain⟨A,c,rfl,_⟩:=h2
   exact Ak.cons (by simpa only[Ag]using h1) Ak.nil
 | .iref t,x,vs,h1=>by
   have h2:∃v,vs=[v]:=by
    cases x with
    |none=>simp only[B5]at h1;exact⟨_,h1⟩
    |some y=>simp only[B5]at h1;obtain⟨_,_,_,e,_⟩:=h1;exact⟨_,e⟩
   obtain⟨v,rfl⟩:=h2
   exact Ak.cons (by simpa only[Ag]using h1) Ak.nil
 | .fn f t,x,vs,h1=>by
   have h2:=h1;simp only[B5]at h2;obtain⟨us,rfl,_⟩:=h2
   exact Ak.cons (by simpa only[Ag]using h1) Ak.nil
theorem Ro {t:Ty}(x:den t)(ht:t.agg=false):flat t x=[.pv t x]:=by cases t<;>first|rfl|simp[Ty.agg]at ht
theorem Oe {E:Env}{h:Am}{w:World}{t:Ty}{x:den t}{v:Value}(hv:R9 E.I w t x v):Ag E h w (up t x) v:=by
 unfold R9 LN at hv
 unfold up
 split
 ·rename_i e;rw[if_pos e]at hv;obtain⟨cs,rfl,h1⟩:=hv
  simp only[Ag];exact⟨cs,rfl,Dn t h1⟩
 ·rename_i e;rw[if_neg e]at hv
  rw[Ro x (by simpa using e)];simpa only[List.headD_cons,Ag]using hv
theorem eC {E:Env}{h:Am}{w:World}:(t:Ty)->{x:den t}->{vs:List Value}->L0 E.I w t x vs->Ak E h w (ups t x) vs
 | .prod a b,x,_,h1=>by
   simp only[L0]at h1;obtain⟨v,us,rfl,h2,h3⟩:=h1
   exact Ak.cons (Oe h2) (eC b h3)
 | .unit,_,_,h1=>by simp only[L0]at h1;subst h1;exact Ak.nil
 | .int _,_,_,h1| .bool,_,_,h1| .str,_,_,h1| .err,_,_,h1| .idx,_,_,h1| .slice _,_,_,h1| .iref _,_,_,h1| .fn _ _,_,_,h1=>by simp only[L0]at h1
end Go.Ab
end
section
namespace Go.Ab
open Go.RowKit
def DV (h:Am)(r:Nat):Bool:=match h.getD r none with|some c=>c.ro|none=>false
def Anu (E:Env)(b:Nat):Prop:=∃r κ n,E.ι r κ=some (b,n)
structure HeapOK (E:Env)(h:Am)(w:World):Prop where
 obj:∀r s c,AC h r s=.on c->c.len=0\/∃b arr ty,E.ι r (key s)=some (b,c.sz)/\w.heap[b]? =some (.cells arr ty (0,0))/\c.len*c.sz<=arr.size/\
  ∀i,i<c.len->∃cs vs,c.at? r i=some cs/\vs.length=c.sz/\Ak E h w cs vs/\∀(j:Nat) (hj:j<vs.length),arr[i*c.sz+j]? =some vs[j]
 siz:∀r s c b n,AC h r s=.on c->E.ι r (key s)=some (b,n)->n=c.sz
 inj:∀r κ r' κ' b n n',E.ι r κ=some (b,n)->E.ι r' κ'=some (b,n')->r=r'/\κ=κ'
 live:∀r κ x,E.ι r κ=some x->∃c,h.getD r none=some c/\c≠.dead
 I_lt:∀b,E.I b->b<w.heap.size
 own_lt:∀b,Anu E b->b<w.heap.size
 apart:∀r κ b n,E.ι r κ=some (b,n)->DV h r=false->¬E.I b
 roI:∀r κ b n,E.ι r κ=some (b,n)->DV h r=true->E.I b
structure Keep (E:Env)(h:Am)(w:World)(E':Env)(h':Am)(w':World):Prop where
 stab:Tj E.I w E'.I w'
 off:∀r s,AC h r s=.off->AC h' r s=.off
 on:∀r s c,AC h r s=.on c->AC h' r s=.off\/∃c',AC h' r s=.on c'/\c'.len=c.len/\c'.sz=c.sz/\E'.ι r (key s)=E.ι r (key s)/\
  ∀b,E.ι r (key s)=some (b,c.sz)->∀arr ty,w.heap[b]? =some (.cells arr ty (0,0))->∃arr',w'.heap[b]? =some (.cells arr' ty (0,0))/\arr'.size=arr.size
theorem La.one {E:Env}{w:World}{r:Nat}{s:Sub}{c:Cont}{rg:Option (Nat×Nat)}{v:Value}(h:La E w r s c rg v):v.oneCell'=true:=by
 obtain⟨_,⟨_,rfl⟩|⟨b,n,a,_,rfl,_⟩⟩:=h<;>rfl
section
variable {E E':Env}{h h':Am}{w w':World}(hx:Keep E h w E' h' w')
include hx
theorem A7h {r:Nat}{s:Sub}{rg:Option (Nat×Nat)}{v:Value}(h1:Cz E h w r s rg v):Cz E' h' w' r s rg v:=by
 unfold Cz at h1 ⊢
 split at h1
 ·cases h1
 ·rename_i e;rw[hx.off r s e];exact h1
 ·rename_i c e
  rcases hx.on r s c e with h2|⟨c',h2,hl,hs,hιe,hb⟩
  ·rw[h2];exact h1.one
  ·rw[h2]
   obtain⟨hle,h3⟩:=h1
   show La E' w' r s c' rg v
   unfold La
   rw[hl,hs]
   refine⟨hle,h3.imp id ?_⟩
   rintro⟨b,n,a,hι,hv,hn,ha,arr,ty,hh,hcap⟩
   obtain⟨arr',k3,k4⟩:=hb b hι arr ty hh
   exact⟨b,n,a,hιe.trans hι,hv,hn,ha,arr',ty,k3,by rw[k4];exact hcap⟩
theorem ae {r:Nat}{s:Sub}{i off:Nat}{v:Value}(h1:CY E h r s i off v):CY E' h' r s i off v:=by
 unfold CY at h1 ⊢
 split at h1
 ·cases h1
 ·rename_i e;rw[hx.off r s e];exact h1
 ·rename_i c e
  obtain⟨b,hι,hv⟩:=h1
  rcases hx.on r s c e with h2|⟨c',h2,hl,hs,hιe,hb⟩
  ·rw[h2];exact⟨_,hv⟩
  ·rw[h2]
   exact⟨b,by rw[hs];exact hιe.trans hι,by rw[hs];exact hv⟩
mutual
theorem IZ:(c:AV)->{v:Value}->Ag E h w c v->Ag E' h' w' c v
 | .pv t x,v,h1=>by simp only[Ag]at h1 ⊢;exact h1.mono hx.stab
 | .agg cs,v,h1=>by simp only[Ag]at h1 ⊢;obtain⟨vs,e,h2⟩:=h1;exact⟨vs,e,C4 cs h2⟩
 | .tup cs,v,h1=>by simp only[Ag]at h1 ⊢;obtain⟨vs,e,h2⟩:=h1;exact⟨vs,e,C4 cs h2⟩
 | .fn f cs,v,h1=>by simp only[Ag]at h1 ⊢;obtain⟨vs,e,h2⟩:=h1;exact⟨vs,e,C4 cs h2⟩
 | .iptr t x off,v,h1=>by
   simp only[Ag]at h1 ⊢;obtain⟨b,o,cs,e,hI,h2,h3⟩:=h1
   exact⟨b,o,cs,e,(hx.stab b hI).1,h2.mono hx.stab,KD (hx.stab b hI).2 h3⟩
 | .nils,v,h1| .nilp,v,h1| .nilf,v,h1| .nili,v,h1| .unk,v,h1=>by simpa only[Ag]using h1
 | .ptr r s i o,v,h1=>by simp only[Ag]at h1 ⊢;exact ae hx h1
 | .mptr r k ver off o,v,h1=>by
   cases o with
   |none=>simpa only[Ag]using h1
   |some p=>simp only[Ag]at h1 ⊢;exact ae hx h1
 | .junk,v,_=>by simp only[Ag]
 | .own r s rg,v,h1=>by simp only[Ag]at h1 ⊢;exact A7h hx h1
theorem C4:(cs:List AV)->{vs:List Value}->Ak E h w cs vs->Ak E' h' w' cs vs
 |[],vs,h1=>by have _hx:=hx;simpa only[Ak]using h1
 |c::cs,vs,h1=>by
  simp only[Ak]at h1;obtain⟨v,us,rfl,h2,h3⟩:=h1
  exact Ak.cons (IZ c h2) (C4 cs h3)
end
end
theorem Keep.refl (E:Env)(h:Am)(w:World):Keep E h w E h w:=
 ⟨fun b hb=>⟨hb,rfl⟩,fun _ _ e=>e,fun r s c e=>.inr ⟨c,e,rfl,rfl,rfl,fun b hb arr ty ha=>⟨arr,ha,rfl⟩⟩⟩
theorem Keep.trans {E E' E'':Env}{h h' h'':Am}{w w' w'':World}(a:Keep E h w E' h' w')(b:Keep E' h' w' E'' h'' w''):Keep E h w E'' h'' w'':=by
 refine⟨fun k hk=>⟨(b.stab k (a.stab k hk).1).1,((b.stab k (a.stab k hk).1).2).trans (a.stab k hk).2⟩,fun r s e=>b.off r s (a.off r s e),fun r s c e=>?_⟩
 rcases a.on r s c e with h1|⟨c',h1,hl,hs,hι,hb⟩
 ·exact .inl (b.off r s h1)
 ·rcases b.on r s c' h1 with h2|⟨c'',h2,hl',hs',hι',hb'⟩
  ·exact .inl h2
  ·refine .inr ⟨c'',h2,hl'.trans hl,hs'.trans hs,hι'.trans hι,fun k hk arr ty ha=>?_⟩
   obtain⟨a1,m1,m2⟩:=hb k hk arr ty ha
   obtain⟨a2,m3,m4⟩:=hb' k (by rw[hs,hι];exact hk) a1 ty m1
   exact⟨a2,m3,m4.trans m2⟩
theorem I8 {ro:Bool}{t:Ty}{xs:List (den t)}{r i:Nat}{cs:List AV}(h:(Cont.lst ro t xs).at? r i=some cs):∃hi:i<xs.length,cs=flat t xs[i]:=by
 simp only[Cont.at?,Option.map_eq_some_iff]at h
 obtain⟨x,h1,rfl⟩:=h
 obtain⟨hi,rfl⟩:=zQj.1 h1
 exact⟨hi,rfl⟩
theorem KN {ro:Bool}{ver:Nat}{t:Ty}{xs:List (den t)}{ho:Option (Nat×Nat)}{r i:Nat}{cs:List AV}(h:(Cont.tree ro ver t xs ho).at? r i=some cs):∃hi:i<xs.length,cs=CB r ver ho i 0 (flat t xs[i]):=by
 simp only[Cont.at?,Option.map_eq_some_iff]at h
 obtain⟨x,h1,rfl⟩:=h
 obtain⟨hi,rfl⟩:=zQj.1 h1
 exact⟨hi,rfl⟩
theorem A8p {c:Cont}{r i:Nat}{cs:List AV}(h:c.at? r i=some cs):i<c.len:=by
 cases c with
 |lst ro t xs=>obtain⟨h1,_⟩:=I8 h;exact h1
 |tree ro ver t xs ho=>obtain⟨h1,_⟩:=KN h;exact h1
 |cells n es=>exact(zQj.1 h).1
 |shp n l=>cases h
 |dead=>cases h
theorem Bf {α β:Type}{x:Option α}{f:α->Option β}{r:β}(h:x.bind f=some r):∃y,x=some y/\f y=some r:=Option.bind_eq_some_iff.1 h
theorem T5 {R:Type}{r:Nat}{c:Cont}{i:Nat}{K:List AV->Option R}{x:R}(h:c.atK r i K=some x):∃cs,c.at? r i=some cs/\K cs=some x:=by
 cases c with
 |lst ro t xs=>obtain⟨y,h1,h2⟩:=Bf h;exact⟨_,by simp[Cont.at?,h1],h2⟩
 |tree ro ver t xs ho=>obtain⟨y,h1,h2⟩:=Bf h;exact⟨_,by simp[Cont.at?,h1],h2⟩
 |cells n es=>
  simp only[Cont.atK]at h
  split at h
  ·rename_i cs e;exact⟨cs,e,h⟩
  ·cases h
 |shp n l=>cases h
 |dead=>cases h
def BM (hp h:Am):Prop:=∀r c,hp.getD r none=some c->c≠.dead->h.getD r none=some c\/∃n l c',c=.shp n l/\h.getD r none=some c'/\c'≠.dead/\c'.len=l/\c'.sz=n
theorem BM.refl (h:Am):BM h h:=fun r c e _=>.inl e
def OnC (h:Am)(r:Nat)(s:Sub)(c:Cont):Prop:=AC h r s=.on c\/∃n l c',c=.shp n l/\AC h r s=.on c'/\c'.len=l/\c'.sz=n
theorem Av {h:Am}{r:Nat}{c:Cont}(e:h.getD r none=some c)(hd:c≠.dead):AC h r none=.on c:=by
 simp only[AC,e]
theorem Ud {h:Am}{r:Nat}{c:Cont}(e:AC h r none=.on c):h.getD r none=some c/\c≠.dead:=by
 simp only[AC]at e
 split at e
 ·cases e
 ·cases e
 ·rename_i c' hne hc
  obtain rfl:c'=c:=by simpa using e
  exact⟨hc,fun hd=>hne (by rw[hd])⟩
theorem Wm {R:Type}{ro:Bool}{t:Ty}{xs:List (den t)}{i k:Nat}{K:Cont->Option R}{x:R}(h:qF ro t xs i k K=some x):∃u ys,C0 ro t xs i k=some (.lst ro u ys)/\K (.lst ro u ys)=some x:=by
 obtain⟨y,h1,h2⟩:=Bf h
 unfold C0
 rw[h1]
 split at h2
 ·rename_i u ys e;exact⟨u,ys,by simp only[Option.bind_some,e],h2⟩
 ·cases h2
theorem HV {ro:Bool}{t:Ty}{xs:List (den t)}{i k:Nat}{c:Cont}(h:C0 ro t xs i k=some c):∃u ys,c=.lst ro u ys/\∃hi:i<xs.length,(flat t xs[i])[k]? =some (.pv (.slice u) ys):=by
 unfold C0 at h
 obtain⟨y,h1,h2⟩:=Bf h
 obtain⟨hi,rfl⟩:=zQj.1 h1
 split at h2
 ·rename_i u ys e;exact⟨u,ys,by simpa using h2.symm,hi,e⟩
 ·cases h2
theorem FS {R:Type}{hp:Am}{r:Nat}{s:Sub}{K:Cont->Option R}{x:R}(e:LE hp r s K=some x):∃c,K c=some x/\(∃c0,hp.getD r none=some c0)/\∀h,BM hp h->OnC h r s c:=by
 unfold LE at e
 split at e
 ·cases e
 ·cases e
 ·rename_i c hne hc
  have hd:c≠.dead:=fun hd=>hne (by rw[hd])
  split at e
  ·refine⟨c,e,⟨c,hc⟩,fun h hs=>?_⟩
   rcases hs r c hc hd with h1|⟨n,l,c',h1,h2,h3,h4⟩
   ·exact .inl (Av h1 hd)
   ·exact .inr ⟨n,l,c',h1,Av h2 h3,h4⟩
  ·rename_i i k v
   split at e
   ·rename_i ro ver u' xs
    split at e
    ·rename_i hv;subst hv
     obtain⟨u,ys,h1,h2⟩:=Wm e
     refine⟨_,h2,⟨_,hc⟩,fun h hs=>.inl ?_⟩
     rcases hs r _ hc hd with h3|⟨n,l,c',h3,_⟩
     ·simp only[AC,h3,Nat.lt_irrefl,if_false,false_or,h1,reduceCtorEq]
     ·cases h3
    ·cases e
   ·cases e
theorem OnC.at {h:Am}{r:Nat}{s:Sub}{c:Cont}(ho:OnC h r s c){i:Nat}{cs:List AV}(ha:c.at? r i=some cs):AC h r s=.on c:=by
 rcases ho with h1|⟨n,l,c',rfl,_⟩
 ·exact h1
 ·cases ha
theorem OnC.shape {h:Am}{r:Nat}{s:Sub}{c:Cont}(ho:OnC h r s c):∃c',AC h r s=.on c'/\c'.len=c.len/\c'.sz=c.sz:=by
 rcases ho with h1|⟨n,l,c',rfl,h1,h2,h3⟩
 ·exact⟨c,h1,rfl,rfl⟩
 ·exact⟨c',h1,h2,h3⟩
theorem BG {E:Env}{h:Am}{w:World}{r:Nat}{s:Sub}{c:Cont}(ho:AC h r s=.on c){rg:Option (Nat×Nat)}{v:Value}:Cz E h w r s rg v↔La E w r s c rg v:=by
 unfold Cz;rw[ho]
theorem JO {E:Env}{h:Am}{r:Nat}{s:Sub}{c:Cont}(ho:AC h r s=.on c){i off:Nat}{v:Value}:CY E h r s i off v↔∃b,E.ι r (key s)=some (b,c.sz)/\v=.pointer (some ⟨b,i*c.sz+off,none⟩):=by
 unfold CY;rw[ho]
theorem DA {t u:Ty}{x:den t}{y:den u}(h:JY t u x=some y):∃e:t=u,y=e▸x:=by
 unfold JY at h
 split at h
 ·rename_i e;exact⟨e,by simpa using h.symm⟩
 ·cases h
theorem PM {E:Env}{h:Am}{w:World}:(l:List AV)->{m:List AV}->{us:List Value}->Ak E h w (l++m) us->∃u1 u2,us=u1++u2/\Ak E h w l u1/\Ak E h w m u2
 |[],m,us,h=>⟨[],us,rfl,Ak.nil,h⟩
 |c::l,m,us,h=>by
  simp only[List.cons_append,Ak]at h;obtain⟨v,us,rfl,h2,h3⟩:=h
  obtain⟨u1,u2,rfl,h4,h5⟩:=PM l h3
  exact⟨v::u1,u2,rfl,Ak.cons h2 h4,h5⟩
theorem JC {E:Env}{h:Am}{w:World}:(t:Ty)->{x:den t}->{vs:List Value}->Ak E h w (flat t x) vs->B5 E.I w t x vs
 | .prod a b,x,vs,h1=>by
   obtain⟨u1,u2,rfl,h2,h3⟩:=PM _ h1
   simp only[B5];exact⟨u1,u2,rfl,JC a h2,JC b h3⟩
 | .unit,x,vs,h1=>by simp only[flat,Ak]at h1;simpa only[B5]using h1
 | .int _,x,vs,h1| .bool,x,vs,h1| .str,x,vs,h1| .err,x,vs,h1| .idx,x,vs,h1| .slice _,x,vs,h1| .iref _,x,vs,h1| .fn _ _,x,vs,h1=>by
   simp only[flat,Ak,Ag]at h1;obtain⟨v,us,rfl,h2,rfl⟩:=h1;exact h2
theorem Qe (r ver:Nat)(ho:Option (Nat×Nat))(i:Nat):(l m:List AV)->(k:Nat)->CB r ver ho i k (l++m)=CB r ver ho i k l++CB r ver ho i (k+l.length) m
 |[],m,k=>by simp[CB]
 |c::l,m,k=>by
  have ih:=Qe r ver ho i l m (k+1)
  have:k+1+l.length=k+(c::l).length:=by simp;omega
  rw[this]at ih
  cases c with
  |pv t x=>cases t<;>simp only[List.cons_append,CB,ih]
  |_=>simp only[List.cons_append,CB,ih]
theorem Qd (r ver:Nat)(ho:Option (Nat×Nat))(i:Nat):(l:List AV)->(k:Nat)->(CB r ver ho i k l).length=l.length
 |[],k=>rfl
 |c::l,k=>by
  have ih:=Qd r ver ho i l (k+1)
  cases c with
  |pv t x=>cases t<;>simp[CB,ih]
  |_=>simp[CB,ih]
theorem QW {E:Env}{hp:Am}{w:World}(H:HeapOK E hp w){r j:Nat}{s:Sub}{c:Cont}(hc:AC hp r s=.on c){cs:List AV}(ha:c.at? r j=some cs):
 ∃b vs,E.ι r (key s)=some (b,c.sz)/\vs.length=c.sz/\Ak E hp w cs vs/\IM w b (j*c.sz) vs:=by
 have hj:=A8p ha
 rcases H.obj r s c hc with h0|⟨b,arr,ty,hι,hb,hfit,hels⟩
 ·omega
 ·obtain⟨cs',vs,h1,h2,h3,h4⟩:=hels j hj
  rw[ha]at h1;obtain rfl:cs=cs':=by simpa using h1
  refine⟨b,vs,hι,h2,h3,fun k hk=>?_⟩
  have:=h4 k hk
  simp only[World.cell?,hb,Option.isSome_none,Bool.false_eq_true,if_false]
  exact this
theorem P5 {E:Env}{h:Am}{w:World}{J:Nat->Prop}(H:HeapOK E h w){r:Nat}{s:Sub}{c:Cont}(hc:AC h r s=.on c)(hJ:∀b n,E.ι r (key s)=some (b,n)->J b){rg:Option (Nat×Nat)}{v:Value}
 (hv:La E w r s c rg v){t:Ty}(xs:List (den t))(hlen:xs.length=c.len)
 (hel:∀(i:Nat) (hi:i<xs.length) cs vs,c.at? r i=some cs->Ak E h w cs vs->B5 J w t xs[i] vs):B5 J w (.slice t) (Dr xs rg) [v]:=by
 obtain⟨hle,hv⟩:=hv
 have hsub:(Dr xs rg).length=(rg.getD (0,c.len)).2:=by
  cases rg with
  |none=>simpa[Dr]using hlen
  |some p=>simp[Dr]at hle ⊢;omega
 have hget:∀(i:Nat) (hi:i<(Dr xs rg).length),∃hk:(rg.getD (0,c.len)).1+i<xs.length,(Dr xs rg)[i]=xs[(rg.getD (0,c.len)).1+i]:=by
  intro i hi
  cases rg with
  |none=>exact⟨by simpa[Dr]using hi,by simp[Dr]⟩
  |some p=>
   have h2:i<(Dr xs (some p)).length:=hi
   simp only[Dr,List.length_take,List.length_drop]at h2
   have hk:p.1+i<xs.length:=by omega
   exact⟨hk,by simp[Dr]⟩
 simp only[B5]
 rcases hv with⟨h0,rfl⟩|⟨b,n,a,hι,rfl,hn,ha,arr,ty,hb,hcap⟩
 ·have:(rg.getD (0,c.len)).2=0:=by omega
  exact⟨none,0,by rw[hsub,this],by rw[hsub,this];exact zQq _,fun hne=>absurd (hsub.trans this) hne⟩
 ·refine⟨some a,n,by rw[hsub],by rw[hsub];exact hn,fun hne=>?_⟩
  have ha:=ha (by omega)
  subst ha
  refine⟨b,_,rfl,hJ b _ hι,fun i hi=>?_⟩
  obtain⟨hk,he⟩:=hget i hi
  rcases H.obj r s c hc with h0|⟨b',arr',ty',hι',hb',hfit,hels⟩
  ·omega
  ·rw[hι]at hι';obtain rfl:b=b':=by simpa using hι'
   rw[hb]at hb';obtain⟨rfl,rfl⟩:arr=arr'/\ty=ty':=by simpa using hb'
   obtain⟨cs,vs,hat,hvl,hrep,hcell⟩:=hels ((rg.getD (0,c.len)).1+i) (by omega)
   have hR:=hel _ hk cs vs hat hrep
   have htl:=B5.length t hR
   refine⟨vs,htl,by rw[he];exact hR,fun j hj=>?_⟩
   have:=hcell j hj
   simp only[World.cell?,hb,Option.isSome_none,Bool.false_eq_true,if_false]
   rw[<-this]
   congr 1
   have:t.size=c.sz:=by omega
   rw[this,Nat.add_mul]
theorem Dq {t:Ty}{x:den t}:(flat t x).length=t.size:=by
 induction t with
 |prod a b iha ihb=>simp only[flat,List.length_append,iha,ihb,Ty.size]
 |_=>rfl
theorem MN {E:Env}{h:Am}{w:World}{J:Nat->Prop}(H:HeapOK E h w)(hJI:∀b,E.I b->J b){r:Nat}{ro:Bool}{ver:Nat}{T:Ty}{xs:List (den T)}(hc:h.getD r none=some (.tree ro ver T xs none))(hJ:∀p b n,E.ι r (some p)=some (b,n)->J b)
 {i:Nat}(hi:i<xs.length):(t:Ty)->(x:den t)->(k:Nat)->(∀j,j<(flat t x).length->(flat T xs[i])[k+j]? =(flat t x)[j]?)->{vs:List Value}->Ak E h w (CB r ver none i k (flat t x)) vs->B5 J w t x vs
 | .prod a b,x,k,hk,vs,h1=>by
   simp only[flat]at h1 hk
   rw[Qe]at h1
   obtain⟨u1,u2,rfl,h2,h3⟩:=PM _ h1
   simp only[B5]
   refine⟨u1,u2,rfl,MN H hJI hc hJ hi a x.1 k (fun j hj=>?_) h2,MN H hJI hc hJ hi b x.2 _ (fun j hj=>?_) h3⟩
   ·rw[hk j (by simp;omega),List.getElem?_append_left hj]
   ·have:=hk ((flat a x.1).length+j) (by simp;omega)
    rw[List.getElem?_append_right (by omega)]at this
    rw[Nat.add_assoc,this];congr 1;omega
 | .unit,x,k,hk,vs,h1=>by simp only[flat,CB,Ak]at h1;simpa only[B5]using h1
 | .slice u,ys,k,hk,vs,h1=>by
   simp only[flat,CB,Ak,reduceCtorEq,if_false]at h1
   obtain⟨v,us,rfl,h2,rfl⟩:=h1
   simp only[Ag]at h2
   have hst:AC h r (some (i,k,ver))=.on (.lst ro u ys):=by
    have hn:C0 ro T xs i k=some (.lst ro u ys):=by
     unfold C0
     rw[List.getElem?_eq_getElem hi]
     have:=hk 0 (by simp[flat])
     simp only[Nat.add_zero,flat,List.getElem?_cons_zero]at this
     simp only[Option.bind_some,this]
    simp only[AC,hc,Nat.lt_irrefl,if_false,false_or,reduceCtorEq,hn]
   rw[BG hst]at h2
   exact P5 H hst (fun b n hb=>hJ _ b n hb) h2 ys rfl fun j hj cs vs hat hr=>by
    obtain⟨_,rfl⟩:=I8 hat
    exact(JC u hr).mono (fun b hb=>⟨hJI b hb,rfl⟩)
 | .int _,x,k,hk,vs,h1| .bool,x,k,hk,vs,h1| .str,x,k,hk,vs,h1| .err,x,k,hk,vs,h1| .idx,x,k,hk,vs,h1| .iref _,x,k,hk,vs,h1| .fn _ _,x,k,hk,vs,h1=>by
   simp only[flat,CB,Ak,Ag]at h1;obtain⟨v,us,rfl,h2,rfl⟩:=h1;exact h2.mono (fun b hb=>⟨hJI b hb,rfl⟩)
theorem Lg {R α:Type}{p:List AV->(α->List AV->Option R)->Option R}:(es:List (List AV))->{K:List α->Option R}->{r:R}->OY p es K=some r->
 (Q:List AV->α->Prop)->(∀e,e∈es->∀(K:α->List AV->Option R) (r:R),p e K=some r->∃x rest,K x rest=some r/\(rest=[]->Q e x))->∃xs,K xs=some r/\xs.length=es.length/\∀(i:Nat) (h1:i<xs.length) (h2:i<es.length),Q es[i] xs[i]
 |[],K,r,h,Q,hp=>⟨[],h,rfl,fun i h1=>by simp at h1⟩
 |e::es,K,r,h,Q,hp=>by
  unfold OY at h
  obtain⟨x,rest,h1,h2⟩:=hp e (by simp) _ _ h
  split at h1
  ·rename_i he
   have he:rest=[]:=by simpa using he
   obtain⟨xs,h3,h4,h5⟩:=Lg es h1 Q (fun e' he'=>hp e' (by simp[he']))
   refine⟨x::xs,h3,by simp[h4],fun i h6 h7=>?_⟩
   cases i with
   |zero=>exact h2 he
   |succ i=>exact h5 i (by simpa using h6) (by simpa using h7)
  ·cases h1
theorem S0 {h:Am}{q:Nat}{s:Sub}{ro:Bool}{ver:Nat}{u:Ty}{xs:List (den u)}{ho:Option (Nat×Nat)}(hc:AC h q s=.on (.tree ro ver u xs ho)):h.getD q none=some (.tree ro ver u xs ho):=by
 cases s with
 |none=>exact(Ud hc).1
 |some p=>
  obtain⟨i,k,vv⟩:=p
  simp only[AC]at hc
  split at hc<;>first|(cases hc;done)|skip
  split at hc
  ·cases hc
  ·split at hc
   ·cases hc
   ·split at hc
    ·rename_i hn
     obtain⟨_,_,e,_⟩:=HV hn
     rw[e]at hc;cases hc
    ·cases hc
structure PackOK (hp:Am)(E:Env)(h:Am)(w:World)(J:Nat->Prop):Prop where
 I:∀b,E.I b->J b
 sub:BM hp h
 heap:hp=[]\/HeapOK E h w
 own:∀r c,hp.getD r none=some c->∀κ b n,E.ι r κ=some (b,n)->J b
theorem PackOK.stab {hp h:Am}{E:Env}{w:World}{J:Nat->Prop}(p:PackOK hp E h w J):Tj E.I w J w:=fun b hb=>⟨p.I b hb,rfl⟩
theorem PackOK.ok {hp h:Am}{E:Env}{w:World}{J:Nat->Prop}(p:PackOK hp E h w J){r:Nat}{c:Cont}(hc:hp.getD r none=some c):HeapOK E h w:=p.heap.elim (fun e=>by subst e;simp at hc) id
theorem HU {hp:Am}:(t:Ty)->
 (∀(R:Type) (cs:List AV) (K:den t->List AV->Option R) (r:R),DF hp t cs K=some r->∃x rest,K x rest=some r/\∀E h w J,PackOK hp E h w J->∀vs,Ak E h w cs vs->∃us ws,vs=us++ws/\B5 J w t x us/\Ak E h w rest ws)/\
 (∀(R:Type) (cs:List AV) (K:den t->Option R) (r:R),K8 hp t cs K=some r->∃x,K x=some r/\∀E h w J,PackOK hp E h w J->∀vs,Ak E h w cs vs->L0 J w t x vs):=by
 have hpv:∀(R:Type) (t:Ty) (cs:List AV) (K:den t->List AV->Option R) (r:R) (u:Ty) (y:den u) (cs':List AV),cs=.pv u y::cs'->(JY u t y).bind (fun z=>K z cs')=some r->∃x rest,K x rest=some r/\∀E h w J,PackOK hp E h w J->∀vs,Ak E h w cs vs->∃us ws,vs=us++ws/\B5 J w t x us/\Ak E h w rest ws:=by
  intro R t cs K r u y cs' e h1
  subst e
  obtain⟨z,h3,hK⟩:=Bf h1
  obtain⟨rfl,rfl⟩:=DA h3
  refine⟨_,_,hK,fun E h w J p vs h2=>?_⟩
  simp only[Ak,Ag]at h2;obtain⟨v,us,rfl,h4,h5⟩:=h2
  exact⟨[v],us,rfl,h4.mono p.stab,h5⟩
 intro t
 induction t with
 |int k=>
  refine⟨fun R cs K r h1=>?_,fun R cs K r h1=>by simp[K8]at h1⟩
  simp only[DF]at h1
  split at h1
  ·exact hpv R _ _ K r _ _ _ rfl h1
  ·cases h1
 |bool=>
  refine⟨fun R cs K r h1=>?_,fun R cs K r h1=>by simp[K8]at h1⟩
  simp only[DF]at h1
  split at h1
  ·exact hpv R _ _ K r _ _ _ rfl h1
  ·cases h1
 |str=>
  refine⟨fun R cs K r h1=>?_,fun R cs K r h1=>by simp[K8]at h1⟩
  simp only[DF]at h1
  split at h1
  ·exact hpv R _ _ K r _ _ _ rfl h1
  ·cases h1
 |idx=>
  refine⟨fun R cs K r h1=>?_,fun R cs K r h1=>by simp[K8]at h1⟩
  simp only[DF]at h1
  split at h1
  ·exact hpv R _ _ K r _ _ _ rfl h1
  ·cases h1
 |err=>
  refine⟨fun R cs K r h1=>?_,fun R cs K r h1=>by simp[K8]at h1⟩
  simp only[DF]at h1
  split at h1
  ·exact hpv R _ _ K r _ _ _ rfl h1
  ·refine⟨_,_,h1,fun E h w J p vs h2=>?_⟩
   simp only[Ak,Ag]at h2;obtain⟨v,us,rfl,rfl,h5⟩:=h2
   exact⟨[.nilIface],us,rfl,by simp[B5],h5⟩
  ·cases h1
 |unit=>
  refine⟨fun R cs K r h1=>?_,fun R cs K r h1=>?_⟩
  ·simp only[DF]at h1
   exact⟨_,_,h1,fun E h w J p vs h2=>⟨[],vs,rfl,by simp[B5],h2⟩⟩
  ·simp only[K8]at h1
   split at h1
   ·rename_i he
    have:cs=[]:=by simpa using he
    subst this
    exact⟨(),h1,fun E h w J p vs h2=>by simp only[Ak]at h2;subst h2;simp[L0]⟩
   ·cases h1
 |prod a b iha ihb=>
  refine⟨fun R cs K r h1=>?_,fun R cs K r h1=>?_⟩
  ·simp only[DF]at h1
   obtain⟨y,r1,h3,hA⟩:=iha.1 _ _ _ _ h1
   obtain⟨z,r2,h4,hB⟩:=ihb.1 _ _ _ _ h3
   refine⟨(y,z),r2,h4,fun E h w J p vs h2=>?_⟩
   obtain⟨us,ws,rfl,h5,h6⟩:=hA _ _ _ _ p vs h2
   obtain⟨us',ws',rfl,h7,h8⟩:=hB _ _ _ _ p ws h6
   refine⟨us++us',ws',by simp,?_,h8⟩
   simp only[B5];exact⟨us,us',rfl,h5,h7⟩
  ·simp only[K8]at h1
   split at h1
   ·rename_i v vs'
    split at h1
    ·rename_i ea
     split at h1
     ·rename_i ds
      obtain⟨y,r1,h3,hA⟩:=iha.1 _ _ _ _ h1
      split at h3
      ·rename_i he
       have:r1=[]:=by simpa using he
       subst this
       obtain⟨z,h12,hB⟩:=ihb.2 _ _ _ _ h3
       refine⟨(y,z),h12,fun E h w J p vs h2=>?_⟩
       simp only[Ak]at h2;obtain⟨u,us,rfl,h5,h6⟩:=h2
       simp only[Ag]at h5;obtain⟨us',rfl,h9⟩:=h5
       obtain⟨u1,u2,rfl,h10,h11⟩:=hA _ _ _ _ p _ h9
       simp only[Ak]at h11;subst h11
       simp only[L0]
       exact⟨_,us,rfl,by unfold LN;rw[if_pos ea];exact⟨u1,by simp,h10⟩,hB _ _ _ _ p _ h6⟩
      ·cases h3
     ·cases h1
    ·rename_i ea
     obtain⟨y,r1,h3,hA⟩:=iha.1 _ _ _ _ h1
     obtain⟨z,h12,hB⟩:=ihb.2 _ _ _ _ h3
     refine⟨(y,z),h12,fun E h w J p vs h2=>?_⟩
     simp only[Ak]at h2;obtain⟨u,us,rfl,h5,h6⟩:=h2
     obtain⟨u1,u2,e,h10,h11⟩:=hA _ _ _ _ p _ (Ak.cons h5 Ak.nil)
     simp only[L0]
     refine⟨u,us,rfl,?_,hB _ _ _ _ p _ h6⟩
     unfold LN;rw[if_neg ea]
     have hl:=B5.length a h10
     have:a.size=1:=by cases a<;>first|rfl|simp[Ty.agg]at ea
     rw[this]at hl
     obtain⟨q,rfl⟩:=List.length_eq_one_iff.1 hl
     have:q=u:=by simpa using(List.cons.inj e).1.symm
     subst this;exact h10
   ·cases h1
 |slice t ih=>
  refine⟨fun R cs K r h1=>?_,fun R cs K r h1=>by simp[K8]at h1⟩
  simp only[DF]at h1
  split at h1
  ·exact hpv R _ _ K r _ _ _ rfl h1
  ·refine⟨_,_,h1,fun E h w J p vs h2=>?_⟩
   simp only[Ak,Ag]at h2;obtain⟨v,us,rfl,rfl,h5⟩:=h2
   exact⟨[.slice none 0 0],us,rfl,by simp only[B5];exact⟨none,0,rfl,zQq _,fun hn=>absurd rfl hn⟩,h5⟩
  ·rename_i q s rg cs'
   obtain⟨c,h1,⟨c0,hc0⟩,hcc⟩:=FS h1
   split at h1
   ·rename_i ro u xs
    obtain⟨ys,h6,h1⟩:=Bf h1
    obtain⟨e,rfl⟩:=DA h6
    obtain rfl:u=t:=by simpa using e
    refine⟨_,_,h1,fun E h w J p vs h2=>?_⟩
    have hc:AC h q s=.on (.lst ro u xs):=(hcc h p.sub).elim id (fun⟨n,l,c',e,_⟩=>by cases e)
    have HO:=p.ok hc0
    have hJq:=p.own q c0 hc0
    simp only[Ak,Ag]at h2;obtain⟨v,us,rfl,h3,h5⟩:=h2
    rw[BG hc]at h3
    refine⟨[v],us,rfl,P5 HO hc (fun b n hb=>hJq _ b n hb) h3 xs rfl ?_,h5⟩
    intro i hi cs vs hat hrep
    obtain⟨hi',rfl⟩:=I8 hat
    exact(JC u hrep).mono p.stab
   ·rename_i ro ver u xs
    obtain⟨ys,h6,h1⟩:=Bf h1
    obtain⟨e,rfl⟩:=DA h6
    obtain rfl:u=t:=by simpa using e
    refine⟨_,_,h1,fun E h w J p vs h2=>?_⟩
    have hc:AC h q s=.on (.tree ro ver u xs none):=(hcc h p.sub).elim id (fun⟨n,l,c',e,_⟩=>by cases e)
    have hroot:h.getD q none=some (.tree ro ver u xs none):=S0 hc
    have HO:=p.ok hc0
    have hJq:=p.own q c0 hc0
    simp only[Ak,Ag]at h2;obtain⟨v,us,rfl,h3,h5⟩:=h2
    rw[BG hc]at h3
    refine⟨[v],us,rfl,P5 HO hc (fun b n hb=>hJq _ b n hb) h3 xs rfl ?_,h5⟩
    intro i hi cs vs hat hrep
    obtain⟨hi',rfl⟩:=KN hat
    exact MN HO p.I hroot (fun p b n=>hJq (some p) b n) hi' u _ 0 (fun j hj=>by rw[Nat.zero_add]) hrep
   ·rename_i sz es
    obtain⟨ys,h7,hl,hm⟩:=Lg es h1 (fun e x=>∀E h w J,PackOK hp E h w J->∀vs,Ak E h w e vs->B5 J w t x vs) (fun e _ K r hp=>by
     obtain⟨x,rest,k1,k2⟩:=ih.1 _ _ _ _ hp
     refine⟨x,rest,k1,fun hr E h w J p vs hvs=>?_⟩
     subst hr
     obtain⟨us,ws,rfl,k3,k4⟩:=k2 _ _ _ _ p vs hvs
     simp only[Ak]at k4;subst k4
     rw[List.append_nil];exact k3)
    refine⟨_,_,h7,fun E h w J p vs h2=>?_⟩
    have hc:AC h q s=.on (.cells sz es):=(hcc h p.sub).elim id (fun⟨n,l,c',e,_⟩=>by cases e)
    have HO:=p.ok hc0
    have hJq:=p.own q c0 hc0
    simp only[Ak,Ag]at h2;obtain⟨v,us,rfl,h3,h5⟩:=h2
    rw[BG hc]at h3
    refine⟨[v],us,rfl,P5 HO hc (fun b n hb=>hJq _ b n hb) h3 ys hl ?_,h5⟩
    intro i hi cs vs hat hrep
    simp only[Cont.at?]at hat
    obtain⟨hi',rfl⟩:=zQj.1 hat
    exact hm i hi hi' _ _ _ _ p vs hrep
   ·cases h1
  ·cases h1
 |iref t ih=>
  refine⟨fun R cs K r h1=>?_,fun R cs K r h1=>by simp[K8]at h1⟩
  simp only[DF]at h1
  split at h1
  ·exact hpv R _ _ K r _ _ _ rfl h1
  ·refine⟨_,_,h1,fun E h w J p vs h2=>?_⟩
   simp only[Ak,Ag]at h2;obtain⟨v,us,rfl,rfl,h5⟩:=h2
   exact⟨[.pointer none],us,rfl,by simp[B5],h5⟩
  ·rename_i u y cs'
   obtain⟨z,h3,hK⟩:=Bf h1
   obtain⟨rfl,rfl⟩:=DA h3
   refine⟨_,_,hK,fun E h w J p vs h2=>?_⟩
   simp only[Ak,Ag]at h2;obtain⟨v,us,rfl,⟨b,o,cs,rfl,hI,h4,h6⟩,h5⟩:=h2
   refine⟨[_],us,rfl,?_,h5⟩
   simp only[B5]
   exact⟨b,o,cs,by simp,p.I b hI,B5.length u h4,h4.mono p.stab,h6⟩
  ·rename_i q s i cs'
   obtain⟨c,h1,⟨c0,hc0⟩,hcc⟩:=FS h1
   obtain⟨es,hat,h1⟩:=T5 h1
   obtain⟨y,rest',h3,hA⟩:=ih.1 _ _ _ _ h1
   split at h3
   ·rename_i hemp
    obtain rfl:rest'=[]:=by simpa using hemp
    refine⟨_,_,h3,fun E h w J p vs h2=>?_⟩
    have hc:=(hcc h p.sub).at hat
    have HO:=p.ok hc0
    have hJq:=p.own q c0 hc0
    simp only[Ak,Ag]at h2;obtain⟨v,us,rfl,h4,h5⟩:=h2
    obtain⟨b,hι,rfl⟩:=(JO hc).1 h4
    obtain⟨b',vs',k0,k1,k2,k3⟩:=QW HO hc hat
    rw[hι]at k0;obtain rfl:b=b':=by simpa using k0
    obtain⟨us',ws,rfl,k4,k5⟩:=hA _ _ _ _ p vs' k2
    simp only[Ak]at k5;subst k5
    rw[List.append_nil]at k1 k3
    refine⟨[_],us,rfl,?_,h5⟩
    simp only[B5]
    exact⟨b,i*c.sz,us',by simp,hJq _ b _ hι,B5.length t k4,k4,k3⟩
   ·cases h3
  ·cases h1
 |fn f t ih=>
  refine⟨fun R cs K r h1=>?_,fun R cs K r h1=>by simp[K8]at h1⟩
  simp only[DF]at h1
  split at h1
  ·exact hpv R _ _ K r _ _ _ rfl h1
  ·rename_i g cap cs'
   split at h1
   ·rename_i e
    subst e
    obtain⟨z,h3,hA⟩:=ih.2 _ _ _ _ h1
    refine⟨z,_,h3,fun E h w J p vs h2=>?_⟩
    simp only[Ak,Ag]at h2;obtain⟨v,us,rfl,⟨ws,rfl,h4⟩,h5⟩:=h2
    refine⟨[_],us,rfl,?_,h5⟩
    simp only[B5]
    exact⟨ws,rfl,hA _ _ _ _ p _ h4⟩
   ·cases h1
  ·cases h1
end Go.Ab
end
section
namespace Go.Ab
open Go.RowKit
def Fl (P:Program)(t:TypeId)(u:Und)(d:TypeDesc):Prop:=
 match u with
 | .int k=>d=.int k
 | .bool=>d=.bool
 | .str=>d=.string
 | .slice e=>d=.slice e
 | .struct fs=>∃fields:Array Field,d=.struct fields/\fields.toList.map (fun f=>(f.offset,f.type))=fs/\(fields.toList.all fun f=>f.name != "_")=true/\P.stoodInHeld t=false/\P.eqGuardType P.depth t=false/\∀f∈fields,(P.info? f.type).isSome=true
 | .arr n e=>d=.array n e
 | .ptr e=>d=.pointer e
 | .iface=>∃ms,d=.interface ms
 | .func=>∃a b c,d=.func a b c
 | .other=>(match d with| .struct _| .array _ _=>false|_=>true)=true
def C6 (P:Program)(t:TypeId)(i:TI):Prop:=∃inf d,P.info? t=some inf/\P.underlying t=some d/\inf.size=i.size/\Fl P t i.und d/\
 (∃zv,inf.zero=some zv/\i.zero=zv.cells.toList.map AV.const/\zv.cells.size=i.size)/\i.lim*inf.bytes<=35184372088832/\i.lim<=35184372088832
structure TabOK (P:Program)(C:Cfg):Prop where
 ti:∀t i,C.info t=some i->C6 P t i
structure Fr where
 E0:Env
 h0:Am
 w0:World
 B0:Nat->Prop
abbrev Fr.I0 (F:Fr):Nat->Prop:=F.E0.I
structure Bel (B0:Nat->Prop)(w0 w:World):Prop where
 os:w.os=w0.os
 tape:w.tape=w0.tape
 output:w.output=w0.output/\w0.drawn<=w.drawn
 size:w0.heap.size<=w.heap.size
 blk:∀b,b<w0.heap.size->¬B0 b->w.heap[b]? =w0.heap[b]?
 asz:∀b,B0 b->∀arr ty,w0.heap[b]? =some (.cells arr ty (0,0))->∃arr',w.heap[b]? =some (.cells arr' ty (0,0))/\arr'.size=arr.size
theorem Bel.refl (B0:Nat->Prop)(w:World):Bel B0 w w:=⟨rfl,rfl,⟨rfl,zQq _⟩,zQq _,fun _ _ _=>rfl,fun b _ arr ty h=>⟨arr,h,rfl⟩⟩
theorem Bel.step {B0 D:Nat->Prop}{w0 w w':World}(h:Bel B0 w0 w)(k:Bel D w w')(hD:∀b,D b->B0 b\/w0.heap.size<=b)(hB:∀b,B0 b->b<w0.heap.size):Bel B0 w0 w' where
 os:=k.os.trans h.os
 tape:=k.tape.trans h.tape
 output:=⟨k.output.1.trans h.output.1,Nat.le_trans h.output.2 k.output.2⟩
 size:=Nat.le_trans h.size k.size
 blk:=fun b hb hn=>by
  rw[k.blk b (Nat.lt_of_lt_of_le hb h.size) (fun hd=>(hD b hd).elim hn (fun h1=>by omega))]
  exact h.blk b hb hn
 asz:=fun b hb arr ty ha=>by
  obtain⟨a1,h1,h2⟩:=h.asz b hb arr ty ha
  rcases Classical.em (D b)with hd|hd
  ·obtain⟨a2,h3,h4⟩:=k.asz b hd a1 ty h1
   exact⟨a2,h3,h4.trans h2⟩
  ·exact⟨a1,by rw[k.blk b (Nat.lt_of_lt_of_le (hB b hb) h.size) hd];exact h1,h2⟩
structure Kept (E:Env)(h:Am)(w:World)(E':Env)(h':Am)(w':World):Prop where
 stab:Tj E.I w E'.I w'
 on:∀r s c,AC h r s=.on c->AC h' r s=.off\/∃c',AC h' r s=.on c'/\c'.len=c.len/\c'.sz=c.sz/\E'.ι r (key s)=E.ι r (key s)/\
  ∀b,E.ι r (key s)=some (b,c.sz)->∀arr ty,w.heap[b]? =some (.cells arr ty (0,0))->∃arr',w'.heap[b]? =some (.cells arr' ty (0,0))/\arr'.size=arr.size
theorem Kept.trans {E E' E'':Env}{h h' h'':Am}{w w' w'':World}(a:Kept E h w E' h' w')(b:Keep E' h' w' E'' h'' w''):Kept E h w E'' h'' w'':=by
 refine⟨fun k hk=>⟨(b.stab k (a.stab k hk).1).1,((b.stab k (a.stab k hk).1).2).trans (a.stab k hk).2⟩,fun r s c e=>?_⟩
 rcases a.on r s c e with h1|⟨c',h1,hl,hs,hι,hb⟩
 ·exact .inl (b.off r s h1)
 ·rcases b.on r s c' h1 with h2|⟨c'',h2,hl',hs',hι',hb'⟩
  ·exact .inl h2
  ·refine .inr ⟨c'',h2,hl'.trans hl,hs'.trans hs,hι'.trans hι,fun k hk arr ty ha=>?_⟩
   obtain⟨a1,m1,m2⟩:=hb k hk arr ty ha
   obtain⟨a2,m3,m4⟩:=hb' k (by rw[hs,hι];exact hk) a1 ty m1
   exact⟨a2,m3,m4.trans m2⟩
theorem Keep.kept {E E':Env}{h h':Am}{w w':World}(a:Keep E h w E' h' w'):Kept E h w E' h' w':=⟨a.stab,a.on⟩
structure Inv (F:Fr)(E:Env)(h:Am)(w:World):Prop where
 heap:HeapOK E h w
 bel:Bel F.B0 F.w0 w
 B_lt:∀b,F.B0 b->b<F.w0.heap.size
 own_new:∀r κ b n,E.ι r κ=some (b,n)->DV h r=false->F.B0 b\/F.w0.heap.size<=b
 I_new:∀b,E.I b->F.I0 b\/F.B0 b\/F.w0.heap.size<=b
 kept:Kept F.E0 F.h0 F.w0 E h w
 fixed:∀r,DV F.h0 r=true->h.getD r none=F.h0.getD r none\/h.getD r none=some .dead
def DL (P:Program)(T:List AV)(h:Am)(o:Oper)(v:AV):Prop:=
 ∀(F:Fr) (E:Env) (w:World) (a:Act) (next:Act->World->Prop) (Q:Exit->Act->World->Prop),Inv F E h w->(∀x∈o.op.operands,Ag E h w (ev T x) (a.eval x))->
  (∀val E' w',Inv F E' h w'->Keep E h w E' h w'->Ag E' h w' v val->next (a.put o.dst val) w')->o.wp P a w next Q
theorem DL.of_run {P:Program}{T:List AV}{h:Am}{o:Oper}{v:AV}
 (hr:∀(E:Env) (w:World) (ρ:Operand->Value),HeapOK E h w->(∀x∈o.op.operands,Ag E h w (ev T x) (ρ x))->∃val,(execOp ρ o).run P w=.ok (.value val) w/\Ag E h w v val):DL P T h o v:=by
 intro F E w a next Q hI hop hk
 obtain⟨val,h1,h2⟩:=hr E w a.eval hI.heap hop
 unfold Oper.wp
 rw[h1]
 exact hk val E w hI (Keep.refl E h w) h2
theorem QZ (E:Env)(h:Am)(w:World):Keep E h w E h {w with drawn:=w.drawn+1}:=
 ⟨fun b hb=>⟨hb,rfl⟩,fun _ _ e=>e,fun r s c e=>.inr ⟨c,e,rfl,rfl,rfl,fun b hb arr ty ha=>⟨arr,ha,rfl⟩⟩⟩
theorem HeapOK.ext {E E':Env}{h:Am}{w w':World}(H:HeapOK E h w)(hx:Keep E h w E' h w')(hι:E'.ι=E.ι)(hb:∀b,Anu E b->w'.heap[b]? =w.heap[b]?)(hI:∀b,E'.I b->b<w'.heap.size)(hs:w.heap.size<=w'.heap.size)
 (hap:∀r κ b n,E.ι r κ=some (b,n)->DV h r=false->¬E'.I b):HeapOK E' h w' where
 obj:=fun r s c hc=>(H.obj r s c hc).imp id fun⟨b,arr,ty,h1,h2,h3,h4⟩=>⟨b,arr,ty,by rw[hι];exact h1,by rw[hb b ⟨_,_,_,h1⟩];exact h2,h3,fun i hi=>by
  obtain⟨cs,vs,k1,k2,k3,k4⟩:=h4 i hi
  exact⟨cs,vs,k1,k2,C4 hx cs k3,k4⟩⟩
 siz:=fun r s c b n hc h1=>H.siz r s c b n hc (by rw[<-hι];exact h1)
 inj:=fun r κ r' κ' b n n' h1 h2=>H.inj r κ r' κ' b n n' (by rw[<-hι];exact h1) (by rw[<-hι];exact h2)
 live:=fun r κ x h1=>H.live r κ x (by rw[<-hι];exact h1)
 I_lt:=hI
 own_lt:=fun b ⟨r,κ,n,h1⟩=>Nat.lt_of_lt_of_le (H.own_lt b ⟨r,κ,n,by rw[<-hι];exact h1⟩) hs
 apart:=fun r κ b n h1 h2=>hap r κ b n (by rw[<-hι];exact h1) h2
 roI:=fun r κ b n h1 h2=>(hx.stab b (H.roI r κ b n (by rw[<-hι];exact h1) h2)).1
theorem Inv.draw {F:Fr}{E:Env}{h:Am}{w:World}(H:Inv F E h w):Inv F E h {w with drawn:=w.drawn+1}:=
 ⟨H.heap.ext (QZ E h w) rfl (fun _ _=>rfl) H.heap.I_lt (zQq _) H.heap.apart,⟨H.bel.os,H.bel.tape,⟨H.bel.output.1,Nat.le_succ_of_le H.bel.output.2⟩,H.bel.size,H.bel.blk,H.bel.asz⟩,H.B_lt,H.own_new,H.I_new,H.kept.trans (QZ E h w),H.fixed⟩
theorem Ji {E:Env}{h:Am}{w:World}(v:Value):Ag E h w (.const v) v:=by
 unfold AV.const
 split<;>simp only[Ag,B5]
def KZ (E:Env)(h:Am)(w:World)(t:List AV)(a:Array Value):Prop:=t.length=a.size/\∀(i:Nat) (c:AV),t[i]? =some c->∃v,a[i]? =some v/\Ag E h w c v
theorem KZ.eval {E:Env}{h:Am}{w:World}{t:List AV}{a:Act}(H:KZ E h w t a.tmps)(x:Operand):Ag E h w (ev t x) (a.eval x):=by
 cases x with
 |tmp i=>
  simp only[ev,Act.eval,List.getD_eq_getElem?_getD]
  cases e:t[i]? with
  |none=>simp[Ag]
  |some c=>
   obtain⟨v,h1,h2⟩:=H.2 i c e
   simpa[h1]using h2
 |const v=>exact Ji v
 |global g=>simp[ev,Ag]
 |func f=>simp only[ev,Act.eval,Ag];exact⟨[],by simp,Ak.nil⟩
theorem KZ.put {E:Env}{h:Am}{w:World}{t:List AV}{a:Act}(H:KZ E h w t a.tmps)(d:Option Tmp){c:AV}{v:Value}(hv:Ag E h w c v):KZ E h w (put t d c) (a.put d v).tmps:=by
 cases d with
 |none=>exact H
 |some d=>
  refine⟨by simp[Ab.put,Act.put,H.1],fun i c' hi=>?_⟩
  simp only[Ab.put,Act.put]at hi ⊢
  by_cases e:d=i
  ·subst e
   rw[List.getElem?_set]at hi
   simp only[if_true]at hi
   split at hi
   ·rename_i hlt
    obtain rfl:c=c':=by simpa using hi
    exact⟨v,by simp[Array.getElem?_setIfInBounds,H.1▸hlt],hv⟩
   ·cases hi
  ·rw[List.getElem?_set_ne e]at hi
   obtain⟨u,h1,h2⟩:=H.2 i c' hi
   exact⟨u,by rw[Array.getElem?_setIfInBounds_ne e];exact h1,h2⟩
theorem KZ.keep {E E':Env}{h h':Am}{w w':World}{t:List AV}{a:Array Value}(H:KZ E h w t a)(hx:Keep E h w E' h' w'):KZ E' h' w' t a:=
 ⟨H.1,fun i c hi=>let⟨v,h1,h2⟩:=H.2 i c hi;⟨v,h1,IZ hx c h2⟩⟩
theorem Io (b o j:Nat):(⟨b,o,none⟩:Addr).add j=⟨b,o+j,none⟩:=by unfold Addr.add;split<;>simp_all
theorem O6 {P:Program}{t:TypeId}{i:TI}(h:C6 P t i)(w:World):(isAgg t).run P w=.ok i.agg w:=by
 obtain⟨inf,d,h1,h2,_,h3,_⟩:=h
 unfold isAgg TI.agg
 simp only[Sem.run_bind,run_underlying h2,Result.andThen_ok]
 unfold Fl at h3
 split at h3<;>first
  |(subst h3;simp[*];done)
  |(obtain⟨_,rfl,_⟩:=h3;simp[*];done)
  |(obtain⟨_,_,_,rfl⟩:=h3;simp[*];done)
  |(obtain⟨_,rfl⟩:=h3;simp[*];done)
  |(cases d<;>simp_all)
theorem EF {P:Program}{t:TypeId}{i:TI}(h:C6 P t i)(w:World):(sizeOf t).run P w=.ok i.size w:=by
 obtain⟨inf,d,h1,h2,h3,_⟩:=h
 simp[sizeOf,typeInfo,h1,h3]
theorem Lz {P:Program}{t:TypeId}{i:TI}(h:C6 P t i){E:Env}{hp:Am}{w:World}{b o:Nat}{cs:List AV}{vs:List Value}(hr:Ak E hp w cs vs)(hc:IM w b o vs){v:AV}(hv:Nb i cs=some v):
 ∃val,(Instr.loadAt t (.pointer (some ⟨b,o,none⟩))).run P w=.ok val w/\Ag E hp w v val:=by
 unfold Nb at hv
 simp only[Instr.loadAt,Instr.sureAddr,loadVar,Sem.run_bind,Sem.run_pure,Result.andThen_ok,O6 h,Sem.run_ite]
 split at hv
 ·rename_i ha
  rw[if_pos ha]
  split at hv
  ·rename_i hle
   obtain rfl:AV.agg (cs.take i.size)=v:=by simpa using hv
   have hl:=hr.length
   refine⟨.agg (vs.take i.size).toArray,?_,?_⟩
   ·rw[EF h]
    simp only[Result.andThen_ok]
    have:=run_loadCells_list (P:=P) (w:=w) ⟨b,o,none⟩ (vs.take i.size) (fun j v hj=>by
     rw[Io]
     obtain⟨hlt,rfl⟩:=zQj.1 hj
     have hlt':j<vs.length:=by simp at hlt;omega
     rw[hc j hlt'];simp)
    have e:(vs.take i.size).length=i.size:=by simp;omega
    rw[e]at this
    rw[this];rfl
   ·simp only[Ag];exact⟨_,rfl,hr.take _⟩
  ·cases hv
 ·rename_i ha
  rw[if_neg ha]
  split at hv
  ·rename_i c cs'
   obtain rfl:c=v:=by simpa using hv
   simp only[Ak]at hr;obtain⟨u,us,rfl,h1,h2⟩:=hr
   have:=hc 0 (by simp)
   simp at this
   exact⟨u,by simp[this],h1⟩
  ·cases hv
theorem Nr {w:World}{b o:Nat}{vs:List Value}(h:IM w b o vs)(k:Nat):IM w b (o+k) (vs.drop k):=fun j hj=>by
 simp only[List.length_drop]at hj
 rw[Nat.add_assoc,h (k+j) (by omega)];simp
end Go.Ab
end
section
namespace Go.Ab
open Go.RowKit
theorem HY {v:AV}{n:Int}(h:isInt v=some n):v=.n n:=by
 unfold isInt at h
 split at h
 ·obtain rfl:=by simpa using h
  rfl
 ·cases h
theorem BU {E:Env}{h:Am}{w:World}{k:IntKind}{n:Int}{v:Value}(hv:Ag E h w (.pv (.int k) n) v):v=.int k n:=by
 simpa[Ag,B5]using hv
theorem KP {E:Env}{h:Am}{w:World}{b:Bool}{v:Value}(hv:Ag E h w (.pv .bool b) v):v=.bool b:=by
 simpa[Ag,B5]using hv
theorem Lf {E:Env}{h:Am}{w:World}{s:ByteArray}{v:Value}(hv:Ag E h w (.pv .str s) v):v=.string s:=by
 simpa[Ag,B5]using hv
theorem HX {E:Env}{h:Am}{w:World}(k:IntKind)(n:Int):Ag E h w (.pv (.int k) n) (.int k n):=by simp[Ag,B5]
theorem KI {E:Env}{h:Am}{w:World}(b:Bool):Ag E h w (.b b) (.bool b):=by simp[Ag,B5]
theorem dJ {E:Env}{h:Am}{w:World}(s:ByteArray):Ag E h w (.pv .str s) (.string s):=by simp[Ag,B5]
section
variable {P:Program}{C:Cfg}(HC:TabOK P C)
theorem GR {op:BinOp}{t:TypeId}{x y:Operand}{a b:Value}{w:World}(h1:∀u,a≠.agg u)(h2:a≠.nilIface\/b≠.nilIface):(eqGuard op t x y a b).run P w=.ok () w:=by
 unfold eqGuard
 cases op<;>first
  |rfl
  |(cases a<;>cases b<;>simp_all)
theorem re {op:BinOp}{t:TypeId}{x y:AV}{v:AV}(hb:bin op x y=some v){E:Env}{h:Am}{w:World}{p q:Value}(hp:Ag E h w x p)(hq:Ag E h w y q){xo yo:Operand}:
 ∃val,(do eqGuard op t xo yo p q;binOp op t p q:Sem Value).run P w=.ok val w/\Ag E h w v val:=by
 unfold bin at hb
 split at hb
 iterate 9
  ·rename_i k a l b
   split at hb
   ·rename_i e;subst e
    obtain rfl:=by simpa using hb
    have:=BU hp;subst this
    have:=BU hq;subst this
    rw[Sem.run_bind,GR (by simp) (by simp)]
    simp only[Result.andThen_ok]
    first
     |exact⟨_,by simp[binOp,Op.intArith],HX _ _⟩
     |exact⟨_,by simp[binOp,Op.intCmp],KI _⟩
   ·cases hb
 iterate 3
  ·rename_i k a l b
   split at hb
   ·rename_i e;subst e
    obtain rfl:=by simpa using hb
    have:=BU hp;subst this
    have:=BU hq;subst this
    rw[Sem.run_bind,GR (by simp) (by simp)]
    simp only[Result.andThen_ok]
    first
     |exact⟨.int k (Anl k a b),by simp only[binOp,Op.intBits,ne_eq,not_true_eq_false,if_false];rfl,HX _ _⟩
     |exact⟨.int k (ior k a b),by simp only[binOp,Op.intBits,ne_eq,not_true_eq_false,if_false];rfl,HX _ _⟩
     |exact⟨.int k (Ank k a b),by simp only[binOp,Op.intBits,ne_eq,not_true_eq_false,if_false];rfl,HX _ _⟩
   ·cases hb
 iterate 2
  ·rename_i a b
   obtain rfl:=by simpa using hb
   have:=Lf hp;subst this
   have:=Lf hq;subst this
   rw[Sem.run_bind,GR (by simp) (by simp)]
   simp only[Result.andThen_ok]
   exact⟨_,by simp[binOp,Op.stringOp],KI _⟩
 ·cases hb
theorem aL {R:Type}{op:BinOp}{t:TypeId}{x y:AV}{K:AV->Option R}{r:R}(hb:Agk op x y K=some r):∃v,K v=some r/\∀{E:Env} {h:Am} {w:World} {p q:Value},Ag E h w x p->Ag E h w y q->∀{xo yo:Operand},
 ∃val,(do eqGuard op t xo yo p q;binOp op t p q:Sem Value).run P w=.ok val w/\Ag E h w v val:=by
 unfold Agk at hb
 split at hb
 ·rename_i a b
  obtain⟨z,hz,hK⟩:=Bf hb
  unfold Amt at hz
  split at hz
  ·rename_i hf
   obtain rfl:=by simpa using hz
   refine⟨_,hK,fun hp hq=>?_⟩
   have:=Lf hp;subst this
   have:=Lf hq;subst this
   intro xo yo
   rw[Sem.run_bind,GR (by simp) (by simp)]
   simp only[Result.andThen_ok]
   refine⟨.string (a++b),?_,dJ _⟩
   simp only[binOp]
   exact run_string_add_sum _ a b hf
  ·cases hz
 ·rename_i k a l b
  split at hb
  case isFalse=>cases hb
  rename_i e;subst e
  obtain⟨z,hz,hK⟩:=Bf hb
  unfold Amv at hz
  split at hz
  ·cases hz
  rename_i hz0
  obtain rfl:=by simpa using hz
  refine⟨_,hK,fun hp hq=>?_⟩
  have:=BU hp;subst this
  have:=BU hq;subst this
  intro xo yo
  rw[Sem.run_bind,GR (by simp) (by simp)]
  exact⟨_,by simp[binOp,Op.intDiv,hz0],HX _ _⟩
 ·rename_i k a l b
  split at hb
  case isFalse=>cases hb
  rename_i e;subst e
  obtain⟨z,hz,hK⟩:=Bf hb
  unfold Amu at hz
  split at hz
  ·cases hz
  rename_i hz0
  obtain rfl:=by simpa using hz
  refine⟨_,hK,fun hp hq=>?_⟩
  have:=BU hp;subst this
  have:=BU hq;subst this
  intro xo yo
  rw[Sem.run_bind,GR (by simp) (by simp)]
  exact⟨_,by simp[binOp,Op.intDiv,hz0],HX _ _⟩
 ·rename_i k a l b
  obtain⟨z,hz,hK⟩:=Bf hb
  unfold Ams at hz
  split at hz
  ·cases hz
  rename_i hz0
  obtain rfl:=by simpa using hz
  refine⟨_,hK,fun hp hq=>?_⟩
  have:=BU hp;subst this
  have:=BU hq;subst this
  intro xo yo
  rw[Sem.run_bind,GR (by simp) (by simp)]
  exact⟨_,by simp[binOp,Op.shift,hz0],HX _ _⟩
 ·rename_i k a l b
  obtain⟨z,hz,hK⟩:=Bf hb
  unfold Amr at hz
  split at hz
  ·cases hz
  rename_i hz0
  obtain rfl:=by simpa using hz
  refine⟨_,hK,fun hp hq=>?_⟩
  have:=BU hp;subst this
  have:=BU hq;subst this
  intro xo yo
  rw[Sem.run_bind,GR (by simp) (by simp)]
  exact⟨_,by simp[binOp,Op.shift,hz0],HX _ _⟩
 ·split at hb
  ·rename_i v hv
   exact⟨v,hb,fun hp hq=>re hv hp hq⟩
  ·cases hb
theorem QF {E:Env}{h:Am}{w:World}:{xs ys:List AV}->{r:Bool}->Nm xs ys=some r->{us vs:List Value}->Ak E h w xs us->Ak E h w ys vs->
 us.length=vs.length/\(∀(i:Nat) (h1:i<us.length) (h2:i<vs.length),∃k a b,us[i]=.int k a/\vs[i]=.int k b)/\(r=true↔us=vs)
 |[],[],r,hr,us,vs,h1,h2=>by
  simp only[Ak]at h1 h2;subst h1;subst h2
  obtain rfl:true=r:=by simpa[Nm]using hr
  exact⟨rfl,fun i h1=>by simp at h1,by simp⟩
 |x::xs,y::ys,r,hr,us,vs,h1,h2=>by
  unfold Nm at hr
  split at hr
  ·rename_i e1 e2;cases e1
  ·rename_i k a xs' l b ys' e1 e2
   obtain⟨rfl,rfl⟩:=List.cons.inj e1
   obtain⟨rfl,rfl⟩:=List.cons.inj e2
   split at hr
   ·rename_i e;subst e
    simp only[Option.map_eq_some_iff]at hr
    obtain⟨r',hr',rfl⟩:=hr
    simp only[Ak]at h1 h2
    obtain⟨u,us,rfl,h3,h4⟩:=h1
    obtain⟨v,vs,rfl,h5,h6⟩:=h2
    obtain⟨hl,hi,hq⟩:=QF hr' h4 h6
    have:=BU h3;subst this
    have:=BU h5;subst this
    refine⟨by simp[hl],fun i h7 h8=>?_,?_⟩
    ·cases i with
     |zero=>exact⟨k,a,b,rfl,rfl⟩
     |succ i=>exact hi i (by simpa using h7) (by simpa using h8)
    ·simp only[Bool.and_eq_true,hq,List.cons.injEq,Value.int.injEq,true_and,beq_iff_eq]
   ·cases hr
  ·cases hr
 |[],_::_,r,hr,_,_,_,_=>by simp[Nm]at hr
 |_::_,[],r,hr,_,_,_,_=>by simp[Nm]at hr
include HC in
theorem A7r {f:Nat×TypeId}(hi:((C.ti.find? fun x=>x.1==f.2).map fun x=>x.2.isInt).getD false=true):∃k i,C6 P f.2 i/\i.und=.int k/\i.size=1:=by
 cases e:C.ti.find? fun x=>x.1==f.2 with
 |none=>simp[e]at hi
 |some x=>
  simp only[e,Option.map_some,Option.getD_some]at hi
  unfold TI.isInt at hi
  split at hi
  ·rename_i k hk
   exact⟨k,x.2,HC.ti f.2 x.2 (by simp[Cfg.info,e]),hk,by simpa using hi⟩
  ·cases hi
theorem A8y {t:TypeId}{i:TI}{k:IntKind}(h:C6 P t i)(hk:i.und=.int k):P.underlying t=some (.int k):=by
 obtain⟨inf,d,_,h2,_,h3,_⟩:=h
 rw[hk]at h3;simp only[Fl]at h3;rw[h2,h3]
include HC in
theorem Qc {d:Nat}{us vs:List Value}:(fs:List Field)->(n:Nat)->((fs.map fun f=>(f.offset,f.type)).all fun f=>((C.ti.find? fun x=>x.1==f.2).map fun x=>x.2.isInt).getD false)=true->
 (fs.all fun f=>f.name != "_")=true->(fs.map fun f=>f.offset)=(List.range' n fs.length)->us.length=vs.length->n+fs.length=us.length->
 (∀(i:Nat) (h1:i<us.length) (h2:i<vs.length),∃k a b,us[i]=.int k a/\vs[i]=.int k b)->(w:World)->
 ∃r,(Op.eqFields (d+1) us.toArray vs.toArray fs).run P w=.ok r w/\(r=true↔us.drop n=vs.drop n)
 |[],n,_,_,_,hl,hn,_,w=>by
  simp only[List.length_nil,Nat.add_zero]at hn
  exact⟨true,by simp[Op.eqFields],by rw[hn,List.drop_length,List.drop_of_length_le (Nat.le_of_eq hl.symm)];simp⟩
 |f::fs,n,hint,hname,hoff,hl,hn,hcells,w=>by
  simp only[List.map_cons,List.all_cons,Bool.and_eq_true]at hint hname
  simp only[List.map_cons,List.length_cons,List.range'_succ,List.cons.injEq]at hoff
  simp only[List.length_cons]at hn
  obtain⟨k',i,hti,hk,hsz⟩:=A7r (P:=P) HC (f:=(f.offset,f.type)) hint.1
  have hlt:n<us.length:=by omega
  have hlt':n<vs.length:=by omega
  obtain⟨k,a,b,e1,e2⟩:=hcells n hlt hlt'
  obtain⟨r,hr,hiff⟩:=Qc fs (n+1) hint.2 hname.2 hoff.2 hl (by omega) hcells w
  have hagg:i.agg=false:=by unfold TI.agg;rw[hk]
  have hpart:∀l:List Value,(hlt:n<l.length)->(part f.type l.toArray f.offset).run P w=.ok l[n] w:=fun l hlt=>by
   simp[part,O6 hti,hagg,hoff.1,hlt]
  have hname':f.name≠ "_":=by simpa using hname.1
  simp only[Op.eqFields,ne_eq,hname',not_false_eq_true,if_true,Sem.run_bind,hpart us hlt,hpart vs hlt',Result.andThen_ok,e1,e2]
  rw[run_equalIn_int w d f.type k k' a b (A8y hti hk)]
  simp only[Result.andThen_ok]
  rw[List.drop_eq_getElem_cons hlt,List.drop_eq_getElem_cons hlt',e1,e2]
  by_cases hab:a=b
  ·subst hab;exact⟨r,by simpa using hr,by simp[hiff]⟩
  ·exact⟨false,by simp[hab],by simp[hab]⟩
end
end Go.Ab
end
section
namespace Go.Ab
open Go.RowKit
section
variable {P:Program}{C:Cfg}(HC:TabOK P C)
theorem Gx {s:Sem Value}{w:World}{v:Value}(h:s.run P w=.ok v w):(do pure (Next.value (<-s)):Sem Next).run P w=.ok (.value v) w:=by
 rw[Sem.run_bind,h];rfl
theorem WA (t:TypeId)(x y:Value):Op.equal t x y=Op.equalIn (9999+1) t x y:=rfl
theorem Agc {t:TypeId}(h:P.underlying t=some .bool)(d:Nat)(a b:Bool)(w:World):(Op.equalIn (d+1) t (.bool a) (.bool b)).run P w=.ok (a==b) w:=by simp[Op.equalIn,run_underlying h]
theorem Agb {t:TypeId}{ms:Array (String×TypeId)}(h:P.underlying t=some (.interface ms))(d:Nat)(w:World):(Op.equalIn (d+1) t .nilIface .nilIface).run P w=.ok true w:=by simp[Op.equalIn,run_underlying h]
theorem A89 {t:TypeId}{ms:Array (String×TypeId)}(h:P.underlying t=some (.interface ms))(d:Nat)(u:TypeId)(v:Value)(w:World):(Op.equalIn (d+1) t (.iface u v) .nilIface).run P w=.ok false w:=by simp[Op.equalIn,run_underlying h]
theorem WC {t e:TypeId}(h:P.underlying t=some (.pointer e))(d:Nat)(w:World):(Op.equalIn (d+1) t (.pointer none) (.pointer none)).run P w=.ok true w:=by simp[Op.equalIn,run_underlying h]
theorem WB {t e:TypeId}(h:P.underlying t=some (.pointer e))(d:Nat)(a:Addr)(w:World):(Op.equalIn (d+1) t (.pointer (some a)) (.pointer none)).run P w=.ok false w:=by simp[Op.equalIn,run_underlying h]
theorem MB {E:Env}{h:Am}{r:Nat}{s:Sub}{i off:Nat}{v:Value}(hp:CY E h r s i off v):∃a,v=.pointer (some a):=by
 unfold CY at hp
 split at hp
 ·cases hp
 ·exact hp
 ·obtain⟨b,_,e⟩:=hp;exact⟨_,e⟩
theorem TQ {E:Env}{w:World}{r:Nat}{s:Sub}{c:Cont}{rg:Option (Nat×Nat)}{v:Value}(hp:La E w r s c rg v):∃A n,v=.slice A (rg.getD (0,c.len)).2 n/\(rg.getD (0,c.len)).2<=n/\((rg.getD (0,c.len)).2≠0->A≠none):=by
 obtain⟨hle,⟨h0,rfl⟩|⟨b,n,a,_,rfl,hn,_⟩⟩:=hp
 ·have:(rg.getD (0,c.len)).2=0:=by omega
  exact⟨none,0,by rw[this],by omega,fun hne=>absurd this hne⟩
 ·exact⟨_,_,rfl,hn,fun _=>by simp⟩
theorem WD {i:TI}{t:TypeId}(ht:C6 P t i){x y:AV}{r:Bool}(hr:eqT i x y=some r){E:Env}{h:Am}{w:World}{p q:Value}(hp:Ag E h w x p)(hq:Ag E h w y q):
 (Op.equal t p q).run P w=.ok r w/\(∀u,p≠.agg u)/\(p=.nilIface->q=.nilIface->i.und=.iface)/\binOp .eql t p q=(do pure (.bool (<-Op.equal t p q)))/\binOp .neq t p q=(do pure (.bool (!(<-Op.equal t p q)))):=by
 obtain⟨inf,d,_,h2,_,h3,_⟩:=ht
 simp only[WA]
 unfold eqT at hr
 split at hr
 ·rename_i a b hu
  rw[hu]at h3;simp only[Fl]at h3;subst h3
  obtain rfl:=by simpa using hr
  have:=KP hp;subst this
  have:=KP hq;subst this
  exact⟨Agc h2 _ _ _ w,by simp,by simp,rfl,rfl⟩
 ·rename_i a hu
  rw[hu]at h3;simp only[Fl]at h3;obtain⟨ms,rfl⟩:=h3
  obtain rfl:=by simpa using hr
  simp only[Ag]at hq;subst hq
  simp only[Ag,B5]at hp
  obtain⟨v,e,hv⟩:=hp
  obtain rfl:p=v:=by simpa using e
  cases a with
  |true=>simp at hv;subst hv;exact⟨Agb h2 _ w,by simp,fun _ _=>hu,rfl,rfl⟩
  |false=>simp at hv;obtain⟨t',u,rfl⟩:=hv;exact⟨A89 h2 _ _ _ w,by simp,by simp,rfl,rfl⟩
 ·rename_i e' t' a hu
  rw[hu]at h3;simp only[Fl]at h3;subst h3
  obtain rfl:=by simpa using hr
  simp only[Ag]at hq;subst hq
  cases a with
  |none=>
   simp only[Ag,B5]at hp
   obtain rfl:p=_:=by simpa using hp
   exact⟨WC h2 _ w,by simp,by simp,rfl,rfl⟩
  |some z=>
   simp only[Ag,B5]at hp
   obtain⟨b,o,cs,e,_⟩:=hp
   obtain rfl:p=_:=by simpa using e
   exact⟨WB h2 _ _ w,by simp,by simp,rfl,rfl⟩
 ·rename_i e' t' a off hu
  rw[hu]at h3;simp only[Fl]at h3;subst h3
  obtain rfl:false=r:=by simpa using hr
  simp only[Ag]at hp hq;subst hq
  obtain⟨b,o,cs,rfl,_⟩:=hp
  exact⟨WB h2 _ _ w,by simp,by simp,rfl,rfl⟩
 ·rename_i e' r' s' i' off hu
  rw[hu]at h3;simp only[Fl]at h3;subst h3
  obtain rfl:false=r:=by simpa using hr
  simp only[Ag]at hp hq;subst hq
  obtain⟨a,rfl⟩:=MB hp
  exact⟨WB h2 _ _ w,by simp,by simp,rfl,rfl⟩
 ·rename_i e' r' k' v' off' o' hu
  rw[hu]at h3;simp only[Fl]at h3;subst h3
  obtain rfl:o'.isNone=r:=by simpa using hr
  cases o' with
  |none=>
   simp only[Ag]at hp hq;subst hq;subst hp
   exact⟨WC h2 _ w,by simp,by simp,rfl,rfl⟩
  |some p'=>
   simp only[Ag]at hp hq;subst hq
   obtain⟨a,rfl⟩:=MB hp
   exact⟨WB h2 _ _ w,by simp,by simp,rfl,rfl⟩
 ·rename_i e' hu
  rw[hu]at h3;simp only[Fl]at h3;subst h3
  obtain rfl:true=r:=by simpa using hr
  simp only[Ag]at hp hq;subst hq;subst hp
  exact⟨WC h2 _ w,by simp,by simp,rfl,rfl⟩
 ·cases hr
theorem A88 {t e:TypeId}(h:P.underlying t=some (.slice e))(d:Nat)(A:Option Addr)(n c:Nat)(w:World):(Op.equalIn (d+1) t (.slice A n c) (.slice none 0 0)).run P w=.ok A.isNone w:=by
 cases A<;>simp[Op.equalIn,run_underlying h]
theorem A73 {t e:TypeId}(hund:P.underlying t=some (.slice e)){A:Option Addr}{n c:Nat}{w:World}{xo yo:Operand}{p q:Value}(hp:p=.slice A n c)(hq:q=.slice none 0 0):
 (do eqGuard .eql t xo yo p q;binOp .eql t p q:Sem Value).run P w=.ok (.bool A.isNone) w:=by
 subst hp;subst hq
 rw[Sem.run_bind,GR (by simp) (by simp)]
 simp only[Result.andThen_ok,binOp,Sem.run_bind,WA,A88 hund,Sem.run_pure]
include HC in
theorem sF {R:Type}{s:St}{o:Oper}{op:BinOp}{t:TypeId}{x y:Operand}{t':TypeId}{K:AV->Option R}{r:R}(ho:o.op=.binOp op t x y t')(h:I9 C s o K=some r):∃v,K v=some r/\∀hp,BM s.h hp->DL P s.t hp o v:=by
 have hx:x∈o.op.operands:=by rw[ho];simp[Op.operands]
 have hy:y∈o.op.operands:=by rw[ho];simp[Op.operands]
 have ofv:∀(v:AV),(∀hp,BM s.h hp->∀(E:Env) (w:World) (p q:Value),Ag E hp w (ev s.t x) p->Ag E hp w (ev s.t y) q->∃val,(do eqGuard op t x y p q;binOp op t p q:Sem Value).run P w=.ok val w/\Ag E hp w v val)->∀hp,BM s.h hp->DL P s.t hp o v:=by
  intro v hv hp hs
  refine DL.of_run fun E w ρ H hop=>?_
  obtain⟨val,h1,h2⟩:=hv hp hs E w _ _ (hop x hx) (hop y hy)
  exact⟨val,by simp only[execOp,ho];exact Gx h1,h2⟩
 unfold I9 at h
 simp only[ho]at h
 split at h
 ·
  rename_i xs ys ex ey
  split at h
  ·rename_i size fs code zero lim hti
   have ht:=HC.ti t _ hti
   obtain⟨inf,d,hinf,hund,_,hu,_⟩:=ht
   simp only[Fl]at hu
   obtain⟨fields,rfl,hfs,hname,hstood,hguard,_⟩:=hu
   split at h
   ·rename_i hchk
    simp only[Bool.and_eq_true,beq_iff_eq]at hchk
    obtain⟨hint,hoff⟩:=hchk
    split at h
    ·rename_i b hb
     have main:∀(hp:Am) (E:Env) (w:World) (p q:Value),Ag E hp w (ev s.t x) p->Ag E hp w (ev s.t y) q->∃us vs:List Value,p=.agg us.toArray/\q=.agg vs.toArray/\(Op.equal t p q).run P w=.ok b w:=by
      intro hp E w p q h1 h2
      rw[ex]at h1;rw[ey]at h2
      simp only[Ag]at h1 h2
      obtain⟨us,e1,h3⟩:=h1;obtain⟨vs,e2,h4⟩:=h2
      obtain⟨hl,hcells,hiff⟩:=QF hb h3 h4
      refine⟨us,vs,e1,e2,?_⟩
      rw[WA,e1,e2]
      have hfo:P.fieldsOf t=fields:=by simp[Program.fieldsOf,hund]
      rw[run_equalIn_struct w 9999 t us.toArray vs.toArray (by rw[hfo];exact hund) hstood,hfo]
      have hlen:fields.toList.length=us.length:=by
       have:=congrArg List.length hoff
       rw[<-hfs]at this;simp only[List.length_map,List.length_range]at this;rw[this,h3.length]
      obtain⟨b',hr,hiff'⟩:=Qc HC (d:=9998) (us:=us) (vs:=vs) fields.toList 0 (by rw[hfs];exact hint) hname
       (by rw[<-hfs,List.map_map]at hoff;rw[show(List.map (fun f=>f.offset) fields.toList)=List.map ((fun x:Nat×TypeId=>x.1)∘fun f:Field=>(f.offset,f.type)) fields.toList from rfl,hoff,<-h3.length.symm,hlen,List.range_eq_range']) hl (by omega) hcells w
      rw[hr]
      congr 1
      simp only[List.drop_zero]at hiff'
      rw[Bool.eq_iff_iff,hiff,hiff']
     have hg:∀(us vs:List Value) (xo yo:Operand) (w:World) (op:BinOp),(eqGuard op t xo yo (.agg us.toArray) (.agg vs.toArray)).run P w=.ok () w:=by
      intro us vs xo yo w op
      cases op<;>first|rfl|(simp[eqGuard,hguard])
     split at h
     ·refine⟨_,h,ofv _ fun hp _ E w p q h1 h2=>⟨.bool b,?_,KI b⟩⟩
      obtain⟨us,vs,rfl,rfl,he⟩:=main hp E w p q h1 h2
      simp only[Sem.run_bind,hg,Result.andThen_ok,binOp,he,Sem.run_pure]
     ·refine⟨_,h,ofv _ fun hp _ E w p q h1 h2=>⟨.bool (!b),?_,KI _⟩⟩
      obtain⟨us,vs,rfl,rfl,he⟩:=main hp E w p q h1 h2
      simp only[Sem.run_bind,hg,Result.andThen_ok,binOp,he,Sem.run_pure]
     ·cases h
    ·cases h
   ·cases h
  ·cases h
 ·
  rename_i q sb rg ex ey
  split at h
  case h_2=>cases h
  split at h
  case h_2=>cases h
  rename_i size e code zero lim hti
  obtain⟨_,d,_,hund,_,hu,_⟩:=HC.ti t _ hti
  simp only[Fl]at hu;subst hu
  obtain⟨c,hK,_,hc⟩:=FS h
  have key:∀(hp:Am),BM s.h hp->∀(E:Env) (w:World) (p q:Value),Ag E hp w (ev s.t x) p->Ag E hp w (ev s.t y) q->∃A n,(do eqGuard .eql t x y p q;binOp .eql t p q:Sem Value).run P w=.ok (.bool A.isNone) w/\((rg.getD (0,c.len)).2≠0->A≠none)/\p=.slice A (rg.getD (0,c.len)).2 n:=by
   intro hp hs E w p q h1 h2
   rw[ex]at h1;rw[ey]at h2
   simp only[Ag]at h1 h2
   obtain⟨c',hc',hl,hz⟩:=(hc hp hs).shape
   rw[BG hc']at h1
   obtain⟨A,n,e1,hn,hne⟩:=TQ h1
   rw[hl]at e1 hne
   exact⟨A,n,A73 hund e1 h2,hne,e1⟩
  cases hz:((rg.getD (0,c.len)).2==0)with
  |true=>
   rw[hz]at hK
   refine⟨_,hK,ofv _ fun hp hs E w p q h1 h2=>?_⟩
   obtain⟨A,n,hr,_,_⟩:=key hp hs E w p q h1 h2
   exact⟨_,hr,by simp only[Ag];exact⟨_,rfl⟩⟩
  |false=>
   rw[hz]at hK
   refine⟨_,hK,ofv _ fun hp hs E w p q h1 h2=>?_⟩
   obtain⟨A,n,hr,hne,_⟩:=key hp hs E w p q h1 h2
   have:=hne (by simpa using hz)
   refine⟨_,hr,?_⟩
   have:A.isNone=false:=by cases A<;>simp_all
   rw[this];exact KI _
 ·
  rename_i u xs ex ey
  split at h
  case h_2=>cases h
  split at h
  case h_2=>cases h
  rename_i size e code zero lim hti
  obtain⟨_,d,_,hund,_,hu,_⟩:=HC.ti t _ hti
  simp only[Fl]at hu;subst hu
  have key:∀(hp:Am) (E:Env) (w:World) (p q:Value),Ag E hp w (ev s.t x) p->Ag E hp w (ev s.t y) q->∃(A:Option Addr),(do eqGuard .eql t x y p q;binOp .eql t p q:Sem Value).run P w=.ok (.bool A.isNone) w/\((xs:List (den u)).length≠0->A≠none):=by
   intro hp E w p q h1 h2
   rw[ex]at h1;rw[ey]at h2
   simp only[Ag,B5]at h1 h2
   obtain⟨A,n,e1,hn,hne⟩:=h1
   refine⟨A,A73 hund (by simpa using e1) h2,fun hz=>?_⟩
   obtain⟨b,o',rfl,_⟩:=hne hz
   simp
  cases hz:((xs:List (den u)).length==0)with
  |true=>
   rw[hz]at h
   refine⟨_,h,ofv _ fun hp hs E w p q h1 h2=>?_⟩
   obtain⟨A,hr,_⟩:=key hp E w p q h1 h2
   exact⟨_,hr,by simp only[Ag];exact⟨_,rfl⟩⟩
  |false=>
   rw[hz]at h
   refine⟨_,h,ofv _ fun hp hs E w p q h1 h2=>?_⟩
   obtain⟨A,hr,hne⟩:=key hp E w p q h1 h2
   have:=hne (by simpa using hz)
   refine⟨_,hr,?_⟩
   have:A.isNone=false:=by cases A<;>simp_all
   rw[this];exact KI _
 ·
  rename_i ex ey
  split at h
  case h_2=>cases h
  split at h
  case h_2=>cases h
  rename_i size e code zero lim hti
  obtain⟨_,d,_,hund,_,hu,_⟩:=HC.ti t _ hti
  simp only[Fl]at hu;subst hu
  refine⟨_,h,ofv _ fun hp hs E w p q h1 h2=>?_⟩
  rw[ex]at h1;rw[ey]at h2
  simp only[Ag]at h1 h2
  exact⟨_,A73 hund h1 h2,KI _⟩
 ·
  rename_i a b ex ey
  obtain⟨v,hK,hv⟩:=aL (P:=P) (t:=t) h
  refine⟨v,hK,ofv _ fun hp hs E w p q h1 h2=>?_⟩
  rw[ex]at h1;rw[ey]at h2
  exact hv h1 h2
 ·
  rename_i k a l b ex ey
  obtain⟨v,hK,hv⟩:=aL (P:=P) (t:=t) h
  refine⟨v,hK,ofv _ fun hp hs E w p q h1 h2=>?_⟩
  rw[ex]at h1;rw[ey]at h2
  exact hv h1 h2
 ·split at h
  ·rename_i v hv
   exact⟨v,h,ofv _ fun hp hs E w p q h1 h2=>re hv h1 h2⟩
  ·split at h
   ·rename_i i hi
    have hti:=HC.ti t i hi
    split at h
    ·rename_i hnil
     split at h
     ·rename_i b hb
      have hg:∀(hp:Am) (E:Env) (w:World) (p q:Value),Ag E hp w (ev s.t x) p->Ag E hp w (ev s.t y) q->∀op,(eqGuard op t x y p q).run P w=.ok () w:=by
       intro hp E w p q h1 h2 op
       obtain⟨_,h4,h5,_⟩:=WD hti hb h1 h2
       by_cases hnn:p=.nilIface/\q=.nilIface
       ·obtain⟨rfl,rfl⟩:=hnn
        have hu:=h5 rfl rfl
        unfold Aiw at hnil
        rw[hu]at hnil
        cases y with
        |const v=>cases op<;>simp[eqGuard]
        |_=>simp at hnil
       ·exact GR h4 (by by_cases e:p=.nilIface<;>simp_all)
      split at h
      ·refine⟨_,h,ofv _ fun hp hs E w p q h1 h2=>⟨.bool b,?_,KI b⟩⟩
       obtain⟨he,_,_,e1,e2⟩:=WD hti hb h1 h2
       rw[Sem.run_bind,hg hp E w _ _ h1 h2,Result.andThen_ok,e1,Sem.run_bind,he];rfl
      ·refine⟨_,h,ofv _ fun hp hs E w p q h1 h2=>⟨.bool (!b),?_,KI _⟩⟩
       obtain⟨he,_,_,e1,e2⟩:=WD hti hb h1 h2
       rw[Sem.run_bind,hg hp E w _ _ h1 h2,Result.andThen_ok,e2,Sem.run_bind,he];rfl
      ·cases h
     ·cases h
    ·cases h
   ·cases h
end
end Go.Ab
end
section
namespace Go.Ab
open Go.RowKit
section
variable {P:Program}{C:Cfg}(HC:TabOK P C)
theorem DL.of_v {T:List AV}{hp:Am}{o:Oper}{v:AV}(hv:∀h,BM hp h->∀(E:Env) (w:World) (ρ:Operand->Value),HeapOK E h w->(∀x∈o.op.operands,Ag E h w (ev T x) (ρ x))->∃val,(execOp ρ o).run P w=.ok (.value val) w/\Ag E h w v val):∀h,BM hp h->DL P T h o v:=
 fun h hs=>DL.of_run fun E w ρ H hop=>hv h hs E w ρ H hop
theorem sU {R:Type}{s:St}{o:Oper}{op:UnOp}{t:TypeId}{x:Operand}{K:AV->Option R}{r:R}(ho:o.op=.unOp op t x)(h:I9 C s o K=some r):∃v,K v=some r/\∀hp,BM s.h hp->DL P s.t hp o v:=by
 have hx:x∈o.op.operands:=by rw[ho];simp[Op.operands]
 unfold I9 at h;simp only[ho]at h
 split at h
 case h_2=>cases h
 rename_i v hv
 refine⟨v,h,DL.of_v fun hp hs E w ρ H hop=>?_⟩
 have h1:=hop x hx
 unfold un at hv
 split at hv
 ·rename_i b e
  obtain rfl:=by simpa using hv
  rw[e]at h1
  have:=KP h1
  exact⟨.bool (!b),by simp only[execOp,ho];exact Gx (by rw[this];rfl),KI _⟩
 ·rename_i k n e
  obtain rfl:=Option.some.inj hv
  rw[e]at h1
  have:=BU h1
  exact⟨_,by simp only[execOp,ho];exact Gx (by rw[this];rfl),HX _ _⟩
 ·cases hv
theorem Aen {E:Env}{h:Am}{r:Nat}{s:Sub}{i off d:Nat}{v:Value}(hp:CY E h r s i off v):∃b o,v=.pointer (some ⟨b,o,none⟩)/\CY E h r s i (off+d) (.pointer (some ⟨b,o+d,none⟩))\/(∃a,v=.pointer (some a)/\AC h r s=.off):=by
 unfold CY at hp ⊢
 split at hp
 ·cases hp
 ·rename_i e;obtain⟨a,rfl⟩:=hp;exact⟨0,0,.inr ⟨a,rfl,e⟩⟩
 ·rename_i c e;obtain⟨b,hι,rfl⟩:=hp
  exact⟨b,_,.inl ⟨rfl,b,hι,by rw[Nat.add_assoc]⟩⟩
include HC in
theorem Th {R:Type}{s:St}{o:Oper}{t:TypeId}{x:Operand}{f:Nat}{K:AV->Option R}{r:R}(ho:o.op=.fieldAddr t x f)(h:I9 C s o K=some r):∃v,K v=some r/\∀hp,BM s.h hp->DL P s.t hp o v:=by
 have hx:x∈o.op.operands:=by rw[ho];simp[Op.operands]
 unfold I9 at h;simp only[ho]at h
 split at h
 ·rename_i size fs code zero lim hti
  obtain⟨inf,d,hinf,hund,_,hu,_⟩:=HC.ti t _ hti
  simp only[Fl]at hu
  obtain⟨fields,rfl,hfs,hname,hstood,hguard,_⟩:=hu
  split at h
  ·rename_i d hd
   split at h
   ·rename_i hsz
    obtain⟨j,hj,hjs⟩:=Option.map_eq_some_iff.1 hsz
    have htj:=HC.ti d.2 j hj
    have hjs:j.size≠0:=by simpa using hjs
    have hfield:∃g:Field,fields[f]? =some g/\g.offset=d.1/\g.type=d.2:=by
     rw[<-hfs]at hd
     simp only[List.getElem?_map,Option.map_eq_some_iff]at hd
     obtain⟨g,hg,rfl⟩:=hd
     exact⟨g,by simpa using hg,rfl,rfl⟩
    obtain⟨g,hg,hgo,hgt⟩:=hfield
    have hrun':∀(w:World) (a:Addr),(Instr.fieldAt t (.pointer (some a)) f).run P w=.ok (.pointer (some (a.add d.1))) w:=by
     intro w a
     simp only[Instr.fieldAt,Sem.run_bind,run_underlying hund,Result.andThen_ok,hg,Instr.sureAddr,Sem.run_pure,fieldPlace,hgt,EF htj,hjs,Sem.run_ite,if_false,hgo]
    have hrun:∀(w:World) (b o':Nat),(Instr.fieldAt t (.pointer (some ⟨b,o',none⟩)) f).run P w=.ok (.pointer (some ⟨b,o'+d.1,none⟩)) w:=by
     intro w b o';rw[hrun',Io]
    have hptr:∀(hp:Am) (E:Env) (w:World) (p:Value) (q:Nat) (sb:Sub) (i off:Nat),CY E hp q sb i off p->∃val,(Instr.fieldAt t p f).run P w=.ok val w/\CY E hp q sb i (off+d.1) val:=by
     intro hp E w p q sb i off h1
     obtain⟨b,o',⟨rfl,h2⟩|⟨a,rfl,h2⟩⟩:=Aen (d:=d.1) h1
     ·exact⟨_,hrun w b o',h2⟩
     ·exact⟨_,hrun' w a,by unfold CY;rw[h2];exact⟨_,rfl⟩⟩
    split at h
    ·rename_i u y off e
     refine⟨_,h,DL.of_v fun hp hs E w ρ H hop=>?_⟩
     have h1:=hop x hx;rw[e]at h1
     simp only[Ag]at h1 ⊢
     obtain⟨b,o',cs,e1,hI,h2,h3⟩:=h1
     exact⟨_,by simp only[execOp,ho];exact Gx (by rw[e1];exact hrun w b _),b,o',cs,by rw[Nat.add_assoc],hI,h2,h3⟩
    ·rename_i q sb i off e
     refine⟨_,h,DL.of_v fun hp hs E w ρ H hop=>?_⟩
     have h1:=hop x hx;rw[e]at h1
     simp only[Ag]at h1 ⊢
     obtain⟨val,h2,h3⟩:=hptr hp E w _ _ _ _ _ h1
     exact⟨val,by simp only[execOp,ho];exact Gx h2,h3⟩
    ·rename_i u y e
     obtain⟨z,hz,hK⟩:=Bf h
     refine⟨_,hK,DL.of_v fun hp hs E w ρ H hop=>?_⟩
     have h1:=hop x hx;rw[e]at h1
     obtain rfl:y=some z:=hz
     simp only[Ag,B5]at h1 ⊢
     obtain⟨b,o',cs,e1,hI,h2,h3,h4⟩:=h1
     have e1:ρ x=.pointer (some ⟨b,o',none⟩):=by simpa using e1
     exact⟨_,by simp only[execOp,ho];exact Gx (by rw[e1];exact hrun w b _),b,o',cs,rfl,hI,h3,h4⟩
    ·rename_i q k v off y e
     obtain⟨z,hz,hK⟩:=Bf h
     refine⟨_,hK,DL.of_v fun hp hs E w ρ H hop=>?_⟩
     have h1:=hop x hx;rw[e]at h1
     obtain rfl:y=some z:=hz
     simp only[Ag]at h1 ⊢
     obtain⟨val,h2,h3⟩:=hptr hp E w _ _ _ _ _ h1
     exact⟨val,by simp only[execOp,ho];exact Gx h2,h3⟩
    ·cases h
   ·cases h
  ·cases h
 ·cases h
theorem Wr {R:Type}{i:TI}{cs:List AV}{K:AV->Option R}{r:R}(h:ldK i cs K=some r):∃v,Nb i cs=some v/\K v=some r:=by
 unfold ldK at h
 split at h
 ·rename_i v e;exact⟨v,e,h⟩
 ·cases h
theorem LY {k:IntKind}:{cs:List AV}->{ys:List Int}->Q1 k cs=some ys->cs=ys.map fun n=>AV.pv (.int k) n
 |[],ys,h=>by simp[Q1]at h;subst h;rfl
 |c::cs,ys,h=>by
  unfold Q1 at h
  split at h
  ·rename_i e;cases e
  ·rename_i l n cs' e
   obtain⟨rfl,rfl⟩:=List.cons.inj e
   split at h
   ·rename_i e;subst e
    simp only[Option.map_eq_some_iff]at h
    obtain⟨zs,h1,rfl⟩:=h
    rw[List.map_cons,LY h1]
   ·cases h
  ·cases h
theorem Qx {E:Env}{h:Am}{w:World}{k:IntKind}:(ys:List Int)->{vs:List Value}->Ak E h w (ys.map fun n=>AV.pv (.int k) n) vs->vs=ys.map fun n=>Value.int k n
 |[],vs,hr=>by simpa[Ak]using hr
 |y::ys,vs,hr=>by
  simp only[List.map_cons,Ak]at hr
  obtain⟨v,us,rfl,h1,h2⟩:=hr
  rw[List.map_cons,Qx ys h2,BU h1]
theorem X4 (E:Env)(h:Am)(w:World)(k:IntKind):(ys:List Int)->Ak E h w (ys.map fun n=>AV.pv (.int k) n) (ys.map fun n=>Value.int k n)
 |[]=>Ak.nil
 |y::ys=>Ak.cons (HX k y) (X4 E h w k ys)
theorem Ub {R:Type}{k:IntKind}{xs:List Int}:(n j:Nat)->{K:List AV->Option R}->{r:R}->Agm k xs n j K=some r->∃ys:List Int,K (ys.map fun n=>AV.pv (.int k) n)=some r/\ys.length=n/\∀(m:Nat) (hm:m<ys.length),xs[j+m]? =some ys[m]
 |0,j,K,r,h=>⟨[],h,rfl,fun m hm=>by simp at hm⟩
 |n+1,j,K,r,h=>by
  unfold Agm at h
  obtain⟨x,hx,h1⟩:=Bf h
  obtain⟨ys,h2,h3,h4⟩:=Ub n (j+1) h1
  refine⟨x::ys,h2,by simp[h3],fun m hm=>?_⟩
  cases m with
  |zero=>exact hx
  |succ m=>
   have:=h4 m (by simpa using hm)
   rw[show j+1+m=j+(m+1) by omega]at this
   simpa using this
theorem Af5 {E:Env}{h:Am}{w:World}(H:HeapOK E h w){q:Nat}{ro:Bool}{k:IntKind}{xs:List Int}(hst:AC h q none=.on (.lst ro (.int k) xs)){b:Nat}(hι:E.ι q none=some (b,1)){m:Nat}{y:Int}(hy:xs[m]? =some y):w.cell? ⟨b,m,none⟩=some (.int k y):=by
 obtain⟨hm,rfl⟩:=zQj.1 hy
 rcases H.obj q none _ hst with h0|⟨b',arr,ty,hι',hb,_,hels⟩
 ·simp only[Cont.len]at h0;omega
 simp only[key,Cont.sz,Ty.size]at hι'
 rw[hι]at hι';obtain rfl:b=b':=by simpa using hι'
 obtain⟨cs,vs,h1,h2,h3,h4⟩:=hels m hm
 have hcs:=(I8 h1).2
 rw[hcs]at h3
 simp only[flat,Ak]at h3
 obtain⟨v,us,rfl,h5,rfl⟩:=h3
 have:=BU h5;subst this
 have h6:=h4 0 (by simp)
 simp only[Cont.sz,Ty.size,Nat.mul_one,Nat.add_zero]at h6
 simp[World.cell?,hb,h6]
theorem Rk {R:Type}{t:TypeId}{i:TI}(hti:C6 P t i){n:Nat}{e:TypeId}(hu:i.und=.arr n e){h:Am}{x:AV}{K:AV->Option R}{r:R}(hl:Ou h i.size x K=some r):
 ∃v,K v=some r/\∀hp,BM h hp->∀(E:Env) (w:World) (p:Value),HeapOK E hp w->Ag E hp w x p->∃val,(Instr.loadAt t p).run P w=.ok val w/\Ag E hp w v val:=by
 unfold Ou at hl
 split at hl
 case h_2=>cases hl
 rename_i q
 obtain⟨c,h1,_,hc⟩:=FS hl
 split at h1
 case h_2=>cases h1
 rename_i ro k xs
 obtain⟨ys,hK,hyl,hys⟩:=Ub _ _ h1
 refine⟨_,hK,fun hp hs E w p H hp1=>?_⟩
 have hst:AC hp q none=.on (.lst ro (.int k) xs):=by
  rcases hc hp hs with h2|⟨_,_,_,h2,_⟩
  ·exact h2
  ·cases h2
 simp only[Ag]at hp1
 obtain⟨b,hι,rfl⟩:=(JO hst).1 hp1
 have hag:i.agg=true:=by unfold TI.agg;rw[hu]
 refine Lz hti (X4 E hp w k ys) (b:=b) (o:=0*1+0) (fun j hj=>?_) ?_
 ·rw[List.length_map]at hj
  have:=Af5 H hst hι (hys j hj)
  simp only[Nat.zero_add]at this
  simpa using this
 ·unfold Nb
  rw[if_pos hag,if_pos (by rw[List.length_map,hyl];exact zQq _),List.take_of_length_le (by rw[List.length_map,hyl];exact zQq _)]
include HC in
theorem A7a {R:Type}{s:St}{o:Oper}{t:TypeId}{x:Operand}{K:AV->Option R}{r:R}(ho:o.op=.load t x)(h:I9 C s o K=some r):∃v,K v=some r/\∀hp,BM s.h hp->DL P s.t hp o v:=by
 have hx:x∈o.op.operands:=by rw[ho];simp[Op.operands]
 unfold I9 at h;simp only[ho]at h
 split at h
 case h_2=>cases h
 rename_i i hi
 have hti:=HC.ti t i hi
 have hptr:∀(q:Nat) (sb:Sub) (j off:Nat) (K:AV->Option R),LE s.h q sb (fun c=>c.atK q j fun cs=>ldK i (cs.drop off) K)=some r->∃v,K v=some r/\∀hp,BM s.h hp->∀(E:Env) (w:World) (p:Value),HeapOK E hp w->CY E hp q sb j off p->∃val,(Instr.loadAt t p).run P w=.ok val w/\Ag E hp w v val:=by
  intro q sb j off K h
  obtain⟨c,h1,_,hc⟩:=FS h
  obtain⟨cs,hat,h2⟩:=T5 h1
  obtain⟨v,hv,hK⟩:=Wr h2
  refine⟨v,hK,fun hp hs E w p H h3=>?_⟩
  have hc:=(hc hp hs).at hat
  obtain⟨b,hι,rfl⟩:=(JO hc).1 h3
  obtain⟨b',vs,k0,_,k2,k3⟩:=QW H hc hat
  rw[hι]at k0;obtain rfl:b=b':=by simpa using k0
  exact Lz hti (k2.drop off) (Nr k3 off) hv
 split at h
 ·rename_i hu
  obtain⟨v,hK,hv⟩:=Rk hti hu h
  exact⟨v,hK,DL.of_v fun hp hs E w ρ H hop=>let⟨val,h1,h2⟩:=hv hp hs E w _ H (hop x hx);⟨val,by simp only[execOp,ho];exact Gx h1,h2⟩⟩
 split at h
 ·rename_i u y off e
  obtain⟨v,hv,hK⟩:=Wr h
  refine⟨v,hK,DL.of_v fun hp hs E w ρ H hop=>?_⟩
  have h1:=hop x hx;rw[e]at h1
  simp only[Ag]at h1
  obtain⟨b,o',cs,e1,hI,h2,h3⟩:=h1
  obtain⟨val,hr,hv'⟩:=Lz hti ((Dn (h:=hp) u h2).drop off) (Nr h3 off) hv
  exact⟨val,by simp only[execOp,ho];exact Gx (by rw[e1];exact hr),hv'⟩
 ·rename_i u y e
  obtain⟨z,hz,h⟩:=Bf h
  obtain⟨v,hv,hK⟩:=Wr h
  refine⟨v,hK,DL.of_v fun hp hs E w ρ H hop=>?_⟩
  have h1:=hop x hx;rw[e]at h1
  obtain rfl:y=some z:=hz
  simp only[Ag,B5]at h1
  obtain⟨b,o',cs,e1,hI,h2,h3,h4⟩:=h1
  have e1:ρ x=.pointer (some ⟨b,o',none⟩):=by simpa using e1
  obtain⟨val,hr,hv'⟩:=Lz hti (Dn (h:=hp) u h3) h4 hv
  exact⟨val,by simp only[execOp,ho];exact Gx (by rw[e1];exact hr),hv'⟩
 ·rename_i q sb j off e
  obtain⟨v,hK,hv⟩:=hptr q sb j off K h
  refine⟨v,hK,DL.of_v fun hp hs E w ρ H hop=>?_⟩
  have h1:=hop x hx;rw[e]at h1
  simp only[Ag]at h1
  obtain⟨val,hr,hv'⟩:=hv hp hs E w _ H h1
  exact⟨val,by simp only[execOp,ho];exact Gx hr,hv'⟩
 ·rename_i q k v0 off y e
  obtain⟨z,hz,h⟩:=Bf h
  obtain⟨v,hK,hv⟩:=hptr _ _ _ _ K h
  refine⟨v,hK,DL.of_v fun hp hs E w ρ H hop=>?_⟩
  have h1:=hop x hx;rw[e]at h1
  obtain rfl:y=some z:=hz
  simp only[Ag]at h1
  obtain⟨val,hr,hv'⟩:=hv hp hs E w _ H h1
  exact⟨val,by simp only[execOp,ho];exact Gx hr,hv'⟩
 ·cases h
theorem ac {α:Type}{xs:List α}{i:Int}{y:α}(h:lAt xs i=some y):∃n:Nat,i=n/\∃hn:n<xs.length,xs[n]=y:=by
 unfold lAt at h
 split at h
 ·rename_i h0
  obtain⟨hn,rfl⟩:=zQj.1 h
  exact⟨i.toNat,by omega,hn,rfl⟩
 ·cases h
include HC in
theorem Tg {R:Type}{s:St}{o:Oper}{t:TypeId}{x ix:Operand}{K:AV->Option R}{r:R}(ho:o.op=.indexAddr t x ix)(h:I9 C s o K=some r):∃v,K v=some r/\∀hp,BM s.h hp->DL P s.t hp o v:=by
 have hx:x∈o.op.operands:=by rw[ho];simp[Op.operands]
 have hix:ix∈o.op.operands:=by rw[ho];simp[Op.operands]
 unfold I9 at h;simp only[ho]at h
 split at h
 ·rename_i i size e code zero lim hi hti
  obtain⟨inf,d,hinf,hund,_,hu,_⟩:=HC.ti t _ hti
  simp only[Fl]at hu;subst hu
  split at h
  ·rename_i ie hie
   have hte:=HC.ti e ie hie
   have hrun:∀(w:World) (a:Addr) (n c k:Nat),i=k->k<n->(Instr.indexAt t (.slice (some a) n c) (.int .i64 i)).run P w=.ok (.pointer (some (a.add (k*ie.size)))) w:=by
    intro w a n c k hk hkn
    have h1:0<=i/\i<(n:Int):=by omega
    have h2:i.toNat=k:=by omega
    simp only[Instr.indexAt,asIntOf,Sem.run_bind,Sem.run_pure,Result.andThen_ok,run_underlying hund,Sem.run_ite,h1,and_self,if_true,EF hte,h2]
   split at h
   ·rename_i u xs ex
    split at h
    ·rename_i hsz
     obtain⟨y,hy,hK⟩:=Bf h
     refine⟨_,hK,DL.of_v fun hp hs E w ρ H hop=>?_⟩
     obtain⟨n,rfl,hn,rfl⟩:=ac hy
     have h1:=hop x hx;rw[ex]at h1
     have h2:=hop ix hix;rw[HY hi]at h2
     have h2:=BU h2
     simp only[Ag,B5]at h1 ⊢
     obtain⟨A,c,e1,_,h3⟩:=h1
     obtain⟨b,o',rfl,hI,h4⟩:=h3 (by omega)
     have e1:ρ x=.slice (some ⟨b,o',none⟩) (xs:List (den u)).length c:=by simpa using e1
     obtain⟨cs,hcl,h5,h6⟩:=h4 n hn
     refine⟨_,by simp only[execOp,ho];exact Gx (by rw[e1,h2];exact hrun w _ _ _ n rfl hn),b,o'+n*u.size,cs,?_,hI,h5,h6⟩
     rw[Io,hsz,Nat.add_zero]
    ·cases h
   ·rename_i q sb rg ex
    obtain⟨c0,h,_,hc0⟩:=FS h
    split at h
    case isFalse=>cases h
    rename_i hsz
    split at h
    case isFalse=>cases h
    rename_i hlt
    refine⟨_,h,DL.of_v fun hp hs E w ρ H hop=>?_⟩
    obtain⟨c,hc,hl,hz⟩:=(hc0 hp hs).shape
    have h1:=hop x hx;rw[ex]at h1
    have h2:=hop ix hix;rw[HY hi]at h2
    have h2:=BU h2
    simp only[Ag]at h1 ⊢
    rw[BG hc]at h1
    obtain⟨hle,h3⟩:=h1
    rw[<-hl]at hlt ⊢
    rcases h3 with⟨h0,_⟩|⟨b,m,a,hι,e1,hm,ha,arr,ty,hb,hcap⟩
    ·omega
    ·have ha:=ha (by omega)
     subst ha
     refine⟨_,by simp only[execOp,ho];exact Gx (by rw[e1,h2];exact hrun w _ _ _ i.toNat (by omega) (by omega)),(JO hc).2 ⟨b,hι,?_⟩⟩
     rw[Io,<-hsz,<-hz,Nat.add_mul,Nat.add_zero]
   ·cases h
  ·cases h
 ·rename_i i size n e code zero lim hi hti
  obtain⟨inf,d,hinf,hund,_,hu,_⟩:=HC.ti t _ hti
  simp only[Fl]at hu;subst hu
  split at h
  ·rename_i ie q hie ex
   split at h
   case isFalse=>cases h
   rename_i hc
   obtain⟨hc1,hc2,hc3⟩:=hc
   obtain⟨c0,h1,_,hc0⟩:=FS h
   split at h1
   case isFalse=>cases h1
   rename_i hsz
   refine⟨_,h1,DL.of_v fun hp hs E w ρ H hop=>?_⟩
   obtain⟨c,hc,hl,hz⟩:=(hc0 hp hs).shape
   have h1:=hop x hx;rw[ex]at h1
   have h2:=hop ix hix;rw[HY hi]at h2
   have h2:=BU h2
   simp only[Ag]at h1 ⊢
   obtain⟨b,hι,e1⟩:=(JO hc).1 h1
   refine⟨.pointer (some ((⟨b,0*c.sz+0,none⟩:Addr).add (i.toNat*ie.size))),by
    simp only[execOp,ho]
    refine Gx ?_
    rw[e1,h2]
    simp only[Instr.indexAt,Instr.sureAddr,asIntOf,Sem.run_bind,Sem.run_pure,Result.andThen_ok,run_underlying hund,Sem.run_ite,hc2,hc3,and_self,if_true,EF (HC.ti e ie hie)],(JO hc).2 ⟨b,hι,?_⟩⟩
   rw[Io,hz,hsz,hc1];simp
  ·cases h
 ·cases h
theorem Aml (b:ByteArray)(n:Nat):b[n]? =b.data[n]?:=by
 by_cases h:n<b.size
 ·rw[getElem?_pos b n h,getElem?_pos b.data n h];rfl
 ·rw[getElem?_neg b n h,getElem?_neg b.data n h]
include HC in
theorem sq {R:Type}{s:St}{o:Oper}{t:TypeId}{x ix:Operand}{K:AV->Option R}{r:R}(ho:o.op=.index t x ix)(h:I9 C s o K=some r):∃v,K v=some r/\∀hp,BM s.h hp->DL P s.t hp o v:=by
 have hx:x∈o.op.operands:=by rw[ho];simp[Op.operands]
 have hix:ix∈o.op.operands:=by rw[ho];simp[Op.operands]
 unfold I9 at h;simp only[ho]at h
 split at h
 ·rename_i i b hti hi ex
  obtain⟨_,_,_,ht,_,hu,_⟩:=HC.ti t _ hti
  simp only[Fl]at hu;subst hu
  obtain⟨c,hc,hK⟩:=Bf h
  refine⟨_,hK,DL.of_v fun hp hs E w ρ H hop=>?_⟩
  have h1:=hop x hx;rw[ex]at h1
  have h1:=Lf h1
  have h2:=hop ix hix;rw[HY hi]at h2
  have h2:=BU h2
  unfold bAt at hc
  split at hc
  ·rename_i h0
   obtain⟨q,hq,rfl⟩:=Option.map_eq_some_iff.1 hc
   refine⟨_,by simp only[execOp,ho];exact Gx (by rw[h1,h2];simp only[Instr.index,asIntOf,Sem.run_bind,Sem.run_pure,Result.andThen_ok,run_underlying ht,h0,if_true];rw[show(b:ByteArray)[i.toNat]? =some q from by rw[Aml];exact hq];rfl),HX _ _⟩
  ·cases hc
 ·rename_i size n e code0 zero0 lim0 i cs hti hi ex
  obtain⟨_,_,_,ht,_,hu,_⟩:=HC.ti t _ hti
  simp only[Fl]at hu;subst hu
  split at h
  case h_2=>cases h
  rename_i k code zero lim hie
  have hte:=HC.ti e _ hie
  split at h
  case h_2=>cases h
  rename_i ys hys
  split at h
  case isFalse=>cases h
  rename_i hb
  obtain⟨y,hy,hK⟩:=Bf h
  obtain⟨m,rfl,hm,rfl⟩:=ac hy
  refine⟨_,hK,DL.of_v fun hp hs E w ρ H hop=>?_⟩
  have h1:=hop x hx;rw[ex]at h1
  have h2:=hop ix hix;rw[HY hi]at h2
  have h2:=BU h2
  simp only[Ag]at h1
  obtain⟨vs,e1,h3⟩:=h1
  rw[LY hys]at h3
  have h4:=Qx ys h3
  subst h4
  refine⟨.int k ys[m],by
   simp only[execOp,ho]
   refine Gx ?_
   rw[e1,h2]
   simp only[Instr.index,asIntOf,Sem.run_bind,Sem.run_pure,Result.andThen_ok,run_underlying ht,Sem.run_ite,hb.1,hb.2,and_self,if_true,EF hte,part,O6 hte]
   simp[TI.agg,hm],HX _ _⟩
 ·cases h
theorem ax {R:Type}{s:St}{o:Oper}{x:Operand}{i:Nat}{K:AV->Option R}{r:R}(ho:o.op=.extract x i)(h:I9 C s o K=some r):∃v,K v=some r/\∀hp,BM s.h hp->DL P s.t hp o v:=by
 have hx:x∈o.op.operands:=by rw[ho];simp[Op.operands]
 unfold I9 at h;simp only[ho]at h
 split at h
 ·rename_i vs ex
  split at h
  ·rename_i v hv
   refine⟨v,h,DL.of_v fun hp hs E w ρ H hop=>?_⟩
   have h1:=hop x hx;rw[ex]at h1
   simp only[Ag]at h1
   obtain⟨us,e1,h2⟩:=h1
   obtain⟨u,hu,h3⟩:=h2.get i hv
   exact⟨u,by simp only[execOp,ho];exact Gx (by rw[e1];simp[Instr.extract,hu]),h3⟩
  ·cases h
 ·cases h
theorem Wl {R:Type}{s:St}{o:Oper}{x:Operand}{K:AV->Option R}{r:R}(ho:o.op=.nilCheck x)(h:I9 C s o K=some r):∃v,K v=some r/\∀hp,BM s.h hp->DL P s.t hp o v:=by
 have hx:x∈o.op.operands:=by rw[ho];simp[Op.operands]
 have hptr:∀(hp:Am) (E:Env) (w:World) (ρ:Operand->Value) (q:Nat) (sb:Sub) (i off:Nat),CY E hp q sb i off (ρ x)->∃val,(execOp ρ o).run P w=.ok (.value val) w/\CY E hp q sb i off val:=by
  intro hp E w ρ q sb i off h1
  obtain⟨a,e⟩:=MB h1
  exact⟨ρ x,by simp only[execOp,ho,e];rfl,h1⟩
 unfold I9 at h;simp only[ho]at h
 split at h
 ·rename_i ex
  refine⟨_,h,DL.of_v fun hp hs E w ρ H hop=>?_⟩
  have h1:=hop x hx;rw[ex]at h1
  simp only[Ag]at h1 ⊢
  exact hptr hp E w ρ _ _ _ _ h1
 ·rename_i ex
  refine⟨_,h,DL.of_v fun hp hs E w ρ H hop=>?_⟩
  have h1:=hop x hx;rw[ex]at h1
  simp only[Ag]at h1 ⊢
  obtain⟨b,o',cs,e1,hI,h2,h3⟩:=h1
  exact⟨_,by simp only[execOp,ho,e1];rfl,b,o',cs,rfl,hI,h2,h3⟩
 ·rename_i ex
  refine⟨_,h,DL.of_v fun hp hs E w ρ H hop=>?_⟩
  have h1:=hop x hx;rw[ex]at h1
  simp only[Ag]at h1 ⊢
  obtain⟨us,e1,h2⟩:=h1
  exact⟨_,by simp only[execOp,ho,e1];rfl,us,rfl,h2⟩
 ·rename_i u y ex
  obtain⟨z,hz,hK⟩:=Bf h
  refine⟨_,hK,DL.of_v fun hp hs E w ρ H hop=>?_⟩
  have h1:=hop x hx;rw[ex]at h1
  obtain rfl:y=some z:=hz
  simp only[Ag,B5]at h1 ⊢
  obtain⟨b,o',cs,e1,hI,h2,h3,h4⟩:=h1
  have e1:ρ x=.pointer (some ⟨b,o',none⟩):=by simpa using e1
  exact⟨_,by simp only[execOp,ho,e1];rfl,b,o',cs,rfl,hI,h3,h4⟩
 ·rename_i q k v off y ex
  obtain⟨z,hz,hK⟩:=Bf h
  refine⟨_,hK,DL.of_v fun hp hs E w ρ H hop=>?_⟩
  have h1:=hop x hx;rw[ex]at h1
  obtain rfl:y=some z:=hz
  simp only[Ag]at h1 ⊢
  exact hptr hp E w ρ _ _ _ _ h1
 ·cases h
include HC in
theorem aB {R:Type}{s:St}{o:Oper}{src dst:TypeId}{x:Operand}{K:AV->Option R}{r:R}(ho:o.op=.convert src dst x)(h:I9 C s o K=some r):∃v,K v=some r/\∀hp,BM s.h hp->DL P s.t hp o v:=by
 have hx:x∈o.op.operands:=by rw[ho];simp[Op.operands]
 unfold I9 at h;simp only[ho]at h
 split at h
 ·rename_i k l n hs hd ex
  refine⟨_,h,DL.of_v fun hp hs' E w ρ H hop=>?_⟩
  have h1:=hop x hx;rw[ex]at h1
  have h1:=BU h1
  obtain⟨_,_,_,hus,_,hu1,_⟩:=HC.ti src _ hs
  obtain⟨_,_,_,hud,_,hu2,_⟩:=HC.ti dst _ hd
  simp only[Fl]at hu1 hu2;subst hu1;subst hu2
  exact⟨_,by simp only[execOp,ho];exact Gx (by rw[h1];simp only[convert,Sem.run_bind,run_underlying hus,run_underlying hud,Result.andThen_ok,Conv.intToInt,Sem.run_pure]),HX _ _⟩
 ·rename_i b hs hd ex
  refine⟨_,h,DL.of_v fun hp hs' E w ρ H hop=>?_⟩
  have h1:=hop x hx;rw[ex]at h1
  have h1:=Lf h1
  obtain⟨_,_,_,hus,_,hu1,_⟩:=HC.ti src _ hs
  obtain⟨_,_,_,hud,_,hu2,_⟩:=HC.ti dst _ hd
  simp only[Fl]at hu1 hu2;subst hu1;subst hu2
  exact⟨_,by simp only[execOp,ho];exact Gx (by rw[h1];simp only[convert,Sem.run_bind,run_underlying hus,run_underlying hud,Result.andThen_ok,Sem.run_pure]),dJ _⟩
 ·cases h
end
end Go.Ab
end
section
namespace Go.Ab
open Go.RowKit
section
variable {P:Program}{C:Cfg}(HC:TabOK P C)
theorem Ns {P:Program}{w:World}{v:Value}{i:Int}(hv:v=.int .i64 i){y:Nat}(h0:0<=i)(h1:i<=y)(code:BoundsCode):(Instr.sliceBound v y code).run P w=.ok i.toNat w:=by
 subst hv;exact run_sliceBound w .i64 i y code h0 h1
theorem Rv {P:Program}{w:World}{isS:Bool}{len cap:Nat}(hlc:len<=cap){lo hi:Option Value}{l h:Int}(hl:(lo=none/\l=0)\/lo=some (.int .i64 l))(hh:(hi=none/\h=len)\/hi=some (.int .i64 h))(h0:0<=l)(h1:l<=h)(h2:h<=cap):
 (Instr.sliceBounds isS len cap lo hi none).run P w=.ok (l.toNat,h.toNat,cap) w:=by
 have e:((h.toNat:Nat):Int)=h:=Int.toNat_of_nonneg (by omega)
 rcases hh with⟨rfl,rfl⟩|rfl<;>rcases hl with⟨rfl,rfl⟩|rfl
 ·simp[Instr.sliceBounds]
 ·simp only[Instr.sliceBounds,Sem.run_bind,Sem.run_pure,Result.andThen_ok,Option.isSome_none,Bool.false_eq_true,if_false,Ns rfl h0 h1,Int.toNat_natCast]
 ·simp only[Instr.sliceBounds,Sem.run_bind,Sem.run_pure,Result.andThen_ok,Option.isSome_none,Bool.false_eq_true,if_false,Ns rfl (show 0<=h by omega) h2];rfl
 ·simp only[Instr.sliceBounds,Sem.run_bind,Sem.run_pure,Result.andThen_ok,Option.isSome_none,Bool.false_eq_true,if_false,Ns rfl (show 0<=h by omega) h2,Ns rfl h0 (show l<=(h.toNat:Nat) by omega)]
include HC in
theorem Rr {ti:TI}{n:Nat}{t:TypeId}(hti:C.info t=some ti)(h:WF C.ti ti n=true):∃e ie,P.underlying t=some (.slice e)/\C6 P e ie/\ie.size=n:=by
 obtain⟨inf,d,hinf,hund,_,hu,_⟩:=HC.ti t ti hti
 unfold WF at h
 split at h
 ·rename_i e he
  rw[he]at hu;simp only[Fl]at hu;subst hu
  cases hf:C.ti.find? fun x=>x.1==e with
  |none=>simp[hf]at h
  |some x=>
   simp[hf]at h
   exact⟨e,x.2,hund,HC.ti e x.2 (by simp[Cfg.info,hf]),h⟩
 ·cases h
theorem QN {t e:TypeId}{ie:TI}(hund:P.underlying t=some (.slice e))(hte:C6 P e ie){w:World}{A:Option Addr}{n c:Nat}(hnc:n<=c){lo hi:Option Value}{l h:Int}(hl:(lo=none/\l=0)\/lo=some (.int .i64 l))(hh:(hi=none/\h=n)\/hi=some (.int .i64 h))(h0:0<=l)(h1:l<=h)(h2:h<=n):
 (Instr.sliceAt t (.slice A n c) lo hi none).run P w=.ok (.slice (if c=l.toNat then A else A.map (·.add (l.toNat*ie.size))) (h.toNat-l.toNat) (c-l.toNat)) w:=by
 simp only[Instr.sliceAt,Instr.slice,Sem.run_bind,run_underlying hund,Result.andThen_ok]
 rw[Rv hnc hl hh h0 h1 (by omega)]
 simp only[Result.andThen_ok,EF hte,Sem.run_pure]
include HC in
theorem rx {R:Type}{s:St}{o:Oper}{t:TypeId}{x:Operand}{lo hi:Option Operand}{K:AV->Option R}{r:R}(ho:o.op=.slice t x lo hi none)(h:I9 C s o K=some r):∃v,K v=some r/\∀hp,BM s.h hp->DL P s.t hp o v:=by
 have hx:x∈o.op.operands:=by rw[ho];simp[Op.operands]
 have hlo:∀y,lo=some y->y∈o.op.operands:=by rintro y rfl;rw[ho];simp[Op.operands]
 have hhi:∀y,hi=some y->y∈o.op.operands:=by rintro y rfl;rw[ho];simp[Op.operands]
 unfold I9 at h;simp only[ho]at h
 split at h
 case h_2=>cases h
 rename_i ti hti
 have HT:=HC.ti t ti hti
 unfold te at h
 split at h
 ·cases h
 ·rename_i l hl
  have Hl:∀(hp:Am) (E:Env) (w:World) (ρ:Operand->Value),(∀z∈o.op.operands,Ag E hp w (ev s.t z) (ρ z))->(lo.map ρ=none/\l=0)\/lo.map ρ=some (.int .i64 l):=by
   intro hp E w ρ hop
   cases lo with
   |none=>left;exact⟨rfl,by simpa[A79]using hl.symm⟩
   |some y=>
    right
    simp only[Option.map_some,A79]at hl ⊢
    have h1:=hop y (hlo y rfl)
    rw[HY hl]at h1
    rw[BU h1]
  have Hh:∀(n:Nat) (hh:Int),R2 n (hi.map (ev s.t))=some hh->∀(hp:Am) (E:Env) (w:World) (ρ:Operand->Value),(∀z∈o.op.operands,Ag E hp w (ev s.t z) (ρ z))->(hi.map ρ=none/\hh=n)\/hi.map ρ=some (.int .i64 hh):=by
   intro n hh he hp E w ρ hop
   cases hi with
   |none=>left;exact⟨rfl,by simpa[R2]using he.symm⟩
   |some y=>
    right
    simp only[Option.map_some,R2]at he ⊢
    have h1:=hop y (hhi y rfl)
    rw[HY he]at h1
    rw[BU h1]
  split at h
  ·
   rename_i b ex
   split at h
   ·rename_i hstr
    obtain⟨inf,d,hinf,hund,_,hu,_⟩:=HT
    unfold Aiy at hstr
    split at hstr
    ·rename_i hu'
     rw[hu']at hu
     simp only[Fl]at hu;subst hu
     split at h
     ·rename_i hh he
      obtain⟨y,hy,hK⟩:=Bf h
      refine⟨_,hK,DL.of_v fun hp hs E w ρ H hop=>?_⟩
      unfold Amq at hy
      split at hy
      ·rename_i hb
       obtain rfl:=by simpa using hy
       have h1:=hop x hx;rw[ex]at h1
       have h1:=Lf h1
       refine⟨_,by
        simp only[execOp,ho]
        refine Gx ?_
        rw[h1]
        simp only[Instr.sliceAt,Instr.slice,Sem.run_bind,run_underlying hund,Result.andThen_ok,Option.map_none,Option.isSome_none,Bool.false_eq_true,if_false]
        rw[Rv (zQq _) (Hl hp E w ρ hop) (Hh _ _ he hp E w ρ hop) hb.1 hb.2.1 hb.2.2]
        rfl,dJ _⟩
      ·cases hy
     ·cases h
    ·cases hstr
   ·cases h
  ·
   rename_i u xs ex
   split at h
   ·rename_i hes
    obtain⟨e,ie,hund,hte,hsz⟩:=Rr HC hti hes
    split at h
    ·rename_i hh he
     obtain⟨y,hy,hK⟩:=Bf h
     refine⟨_,hK,DL.of_v fun hp hs E w ρ H hop=>?_⟩
     unfold GM at hy
     split at hy
     ·rename_i hb
      have hy:y=((xs:List (den u)).drop l.toNat).take (hh.toNat-l.toNat):=by simpa using hy.symm
      have h1:=hop x hx;rw[ex]at h1
      simp only[Ag,B5]at h1
      obtain⟨A,c,e1,hlc,h3⟩:=h1
      have e1:ρ x=.slice A (xs:List (den u)).length c:=by simpa using e1
      refine⟨_,by simp only[execOp,ho];exact Gx (by rw[e1];exact QN hund hte hlc (Hl hp E w ρ hop) (Hh _ _ he hp E w ρ hop) hb.1 hb.2.1 hb.2.2),?_⟩
      have hyl:(y:List (den u)).length=hh.toNat-l.toNat:=by rw[hy];simp;omega
      simp only[Ag,B5]
      refine⟨_,_,by rw[hyl],by rw[hyl];omega,fun hne=>?_⟩
      rw[hyl]at hne
      obtain⟨b,o',rfl,hI,h4⟩:=h3 (by omega)
      rw[if_neg (by omega)]
      refine⟨b,o'+l.toNat*u.size,by simp only[Option.map_some,Io,hsz],hI,fun i hi=>?_⟩
      rw[hyl]at hi
      obtain⟨cs,hcl,h5,h6⟩:=h4 (l.toNat+i) (by omega)
      refine⟨cs,hcl,?_,?_⟩
      ·have:(y:List (den u))[i]'(by rw[hyl];exact hi)=(xs:List (den u))[l.toNat+i]'(by omega):=by
        subst hy;simp
       rw[this];exact h5
      ·rw[Nat.add_assoc,<-Nat.add_mul];exact h6
     ·cases hy
    ·cases h
   ·cases h
  ·rename_i q sb rg ex
   obtain⟨c0,h,_,hc0⟩:=FS h
   split at h
   case isFalse=>cases h
   rename_i hes
   obtain⟨e,ie,hund,hte,hsz⟩:=Rr HC hti hes
   split at h
   case h_2=>cases h
   rename_i hh he
   split at h
   case isFalse=>cases h
   rename_i hb
   refine⟨_,h,DL.of_v fun hp hs E w ρ H hop=>?_⟩
   obtain⟨c,hc,hl,hz⟩:=(hc0 hp hs).shape
   have h1:=hop x hx;rw[ex]at h1
   simp only[Ag]at h1 ⊢
   rw[BG hc]at h1
   have Hhi:=Hh _ _ he hp E w ρ hop
   have Hlo:=Hl hp E w ρ hop
   obtain⟨hle,h3⟩:=h1
   rw[<-hl]at hb Hhi ⊢
   rw[<-hz]at hsz
   rcases h3 with⟨h0,e1⟩|⟨b,n,a,hι,e1,hn,ha,arr,ty,hb',hcap⟩
   ·refine⟨_,by simp only[execOp,ho];exact Gx (by rw[e1];exact QN hund hte (zQq _) Hlo (by rw[show(rg.getD (0,c.len)).2=0 by omega]at Hhi;simpa using Hhi) hb.1 hb.2.1 (by omega)),?_⟩
    refine(BG hc).2 ⟨by simp;omega,.inl ⟨h0,?_⟩⟩
    have e2:l.toNat=0:=by omega
    have e3:hh.toNat=0:=by omega
    simp[e2,e3]
   ·refine⟨_,by simp only[execOp,ho];exact Gx (by rw[e1];exact QN hund hte hn Hlo Hhi hb.1 hb.2.1 hb.2.2),?_⟩
    refine(BG hc).2 ⟨by simp;omega,.inr ⟨b,n-l.toNat,if n=l.toNat then a else a.add (l.toNat*ie.size),hι,?_,by simp;omega,fun hne=>?_,arr,ty,hb',?_⟩⟩
    ·simp only[Option.getD_some];congr 1;split<;>simp
    ·rw[if_neg (by omega),ha (by omega),Io,hsz];simp[Nat.add_mul]
    ·simp only[Option.getD_some]
     have:l.toNat*c.sz+(n-l.toNat)*c.sz=n*c.sz:=by rw[<-Nat.add_mul];congr 1;omega
     rw[Nat.add_mul];omega
  ·cases h
end
end Go.Ab
end
section
namespace Go.Ab
open Go.RowKit
section
variable {P:Program}{C:Cfg}(HC:TabOK P C)
theorem KW {E:Env}{h:Am}{w:World}{c:AV}{v:Value}(hc:c.cell=true)(hv:Ag E h w c v):v.oneCell'=true:=by
 cases c with
 |pv t x=>
  simp only[Ag]at hv
  cases t with
  |prod a b=>simp[AV.cell,Ty.agg]at hc
  |unit=>simp[AV.cell,Ty.agg]at hc
  |int k=>have:=BU (E:=E) (h:=h) (w:=w) (by simpa only[Ag]using hv);subst this;rfl
  |bool=>have:=KP (E:=E) (h:=h) (w:=w) (by simpa only[Ag]using hv);subst this;rfl
  |str=>have:=Lf (E:=E) (h:=h) (w:=w) (by simpa only[Ag]using hv);subst this;rfl
  |err=>
   simp only[B5]at hv;obtain⟨u,e,hu⟩:=hv
   obtain rfl:v=u:=by simpa using e
   split at hu
   ·subst hu;rfl
   ·obtain⟨_,_,rfl⟩:=hu;rfl
  |slice t=>simp only[B5]at hv;obtain⟨A,n,e,_⟩:=hv;obtain rfl:v=_:=(by simpa using e);rfl
  |iref t=>
   cases x with
   |none=>simp only[B5]at hv;obtain rfl:v=_:=(by simpa using hv);rfl
   |some y=>simp only[B5]at hv;obtain⟨b,o,cs,e,_⟩:=hv;obtain rfl:v=_:=(by simpa using e);rfl
  |idx=>simp only[B5]at hv
  |fn f t=>simp only[B5]at hv;obtain⟨us,e,_⟩:=hv;obtain rfl:v=_:=(by simpa using e);rfl
 |own r s rg=>
  simp only[Ag]at hv
  unfold Cz at hv
  split at hv
  ·cases hv
  ·exact hv
  ·exact hv.one
 |ptr r s i o=>simp only[Ag]at hv;obtain⟨a,rfl⟩:=MB hv;rfl
 |mptr r k v0 off o=>
  cases o with
  |none=>simp only[Ag]at hv;subst hv;rfl
  |some p=>simp only[Ag]at hv;obtain⟨a,rfl⟩:=MB hv;rfl
 |unk=>simp only[Ag]at hv;obtain⟨b,rfl⟩:=hv;rfl
 |iptr t x o=>simp only[Ag]at hv;obtain⟨_,_,_,rfl,_⟩:=hv;rfl
 |nils=>simp only[Ag]at hv;subst hv;rfl
 |nilp=>simp only[Ag]at hv;subst hv;rfl
 |nilf=>simp only[Ag]at hv;subst hv;rfl
 |nili=>simp only[Ag]at hv;subst hv;rfl
 |fn f cs=>simp only[Ag]at hv;obtain⟨us,rfl,_⟩:=hv;rfl
 |agg cs=>simp[AV.cell]at hc
 |tup cs=>simp[AV.cell]at hc
 |junk=>simp[AV.cell]at hc
theorem MK {E:Env}{h:Am}{w:World}{c:AV}{v:Value}(hc:c.ok=true)(hv:Ag E h w c v):Ak E h w c.cells v.cells.toList/\∀u∈v.cells.toList,u.oneCell'=true:=by
 have key:Ak E h w c.cells v.cells.toList:=by
  cases c with
  |agg cs=>simp only[Ag]at hv;obtain⟨vs,rfl,h1⟩:=hv;simpa[AV.cells,Value.cells]using h1
  |_=>
   simp only[AV.ok,AV.cells,List.all_cons,List.all_nil,Bool.and_true]at hc
   have h1:=KW hc hv
   cases v<;>first|(simp[Value.oneCell']at h1;done)|exact Ak.cons hv Ak.nil
 refine⟨key,?_⟩
 unfold AV.ok at hc
 intro u hu
 obtain⟨i,hi,rfl⟩:=List.getElem_of_mem hu
 have hl:=key.length
 obtain⟨u',h1,h2⟩:=key.get i (c:=c.cells[i]'(by omega)) (by simp[hl▸hi])
 rw[List.getElem?_eq_getElem hi]at h1
 obtain rfl:=by simpa using h1
 exact KW (List.all_eq_true.1 hc _ (List.getElem_mem _)) h2
theorem QD (cs:Array Value)(off:Nat)(us:List Value):∀(k:Nat),off+k+us.length<=cs.size->
 (us.zipIdx k).foldl (fun(a:Array Value) (p:Value×Nat)=>a.setIfInBounds (off+p.2) p.1) cs=(cs.toList.take (off+k)++us++cs.toList.drop (off+k+us.length)).toArray:=by
 induction us generalizing cs with
 |nil=>intro k _;simp
 |cons u us ih=>
  intro k hk
  simp only[List.length_cons]at hk
  simp only[List.zipIdx_cons,List.foldl_cons]
  rw[ih _ (k+1) (by simp;omega)]
  congr 1
  simp only[Array.toList_setIfInBounds,List.length_cons]
  have e1:(cs.toList.set (off+k) u).take (off+(k+1))=cs.toList.take (off+k)++[u]:=by
   rw[<-Nat.add_assoc,List.take_succ_eq_append_getElem (by simp;omega),List.take_set_of_le (by omega)]
   simp
  rw[e1,List.drop_set_of_lt (by omega)]
  have:off+(k+1)+us.length=off+k+(us.length+1):=by omega
  simp[this]
theorem au {fs:List (Nat×TypeId)}{places:Nat->Option (Nat×Nat)}(hpl:∀(i:Nat) (d:Nat×TypeId),fs[i]? =some d->∀n,(C.ti.find? fun x=>x.1==d.2).map (·.2.size)=some n->places i=some (d.1,n)){E:Env}{h:Am}{w:World}:
 ∀(ps:List (Nat×AV)) (zero cs:List AV) (qs:List (Nat×Value)) (zv:List Value),aw C.ti fs zero ps=some cs->Ak E h w zero zv->ps.length=qs.length->(∀(i:Nat) (h1:i<ps.length) (h2:i<qs.length),ps[i].1=qs[i].1/\Ag E h w ps[i].2 qs[i].2)->
  ∃vs:List Value,Instr.fill places zv.toArray qs=some vs.toArray/\Ak E h w cs vs
 |[],zero,cs,[],zv,hf,hz,_,_=>by
  simp only[aw,Option.some.injEq]at hf;subst hf
  exact⟨zv,rfl,hz⟩
 |p::ps,zero,cs,q::qs,zv,hf,hz,hl,hq=>by
  simp only[aw]at hf
  split at hf
  ·rename_i d hd
   split at hf
   ·rename_i hc
    obtain⟨hok,hsz,hle⟩:=hc
    obtain⟨e1,hr⟩:=hq 0 (by simp) (by simp)
    simp only[List.getElem_cons_zero]at e1 hr
    obtain⟨h1,_⟩:=MK hok hr
    have hl1:=h1.length
    have hlz:=hz.length
    have hpl':=hpl p.1 d hd _ hsz
    obtain⟨vs,h2,h3⟩:=au hpl ps (GJ zero d.1 p.2.cells) cs qs (zv.take d.1++q.2.cells.toList++zv.drop (d.1+q.2.cells.toList.length)) hf
     (by unfold GJ;rw[hl1];exact Ak.append (Ak.append (hz.take _) h1) (hz.drop _)) (by simpa using hl) (fun i h4 h5=>hq (i+1) (by simpa using h4) (by simpa using h5))
    refine⟨vs,?_,h3⟩
    simp only[Instr.fill,<-e1,hpl']
    have:q.2.cells.size=p.2.cells.length:=by simpa using hl1.symm
    rw[if_neg (by simp[this];omega)]
    rw[<-h2]
    congr 1
    have hf:=QD zv.toArray d.1 q.2.cells.toList 0 (by simp only[Nat.add_zero];have:q.2.cells.toList.length=p.2.cells.length:=hl1.symm;simp[this];omega)
    simp only[Nat.add_zero]at hf
    rw[<-hf,<-Array.foldl_toList,Array.toList_zipIdx]
   ·cases hf
  ·cases hf
 |[],_,_,_::_,_,_,_,hl,_=>by simp at hl
 |_::_,_,_,[],_,_,_,hl,_=>by simp at hl
theorem WY {α β:Type}{f:α->Sem β}{g:α->β}:(l:List α)->(∀a∈l,∀w,(f a).run P w=.ok (g a) w)->{w:World}->(l.mapM f).run P w=.ok (l.map g) w
 |[],_,w=>rfl
 |a::l,h,w=>by
  simp only[List.mapM_cons,Sem.run_bind,h a (by simp),Result.andThen_ok,WY l (fun b hb=>h b (by simp[hb])),Sem.run_pure,List.map_cons]
include HC in
theorem sD {R:Type}{s:St}{o:Oper}{t:TypeId}{ps:Array (Nat×Operand)}{K:AV->Option R}{r:R}(ho:o.op=.build t ps)(h:I9 C s o K=some r):∃v,K v=some r/\∀hp,BM s.h hp->DL P s.t hp o v:=by
 unfold I9 at h;simp only[ho]at h
 split at h
 ·rename_i i hi
  obtain⟨inf,d,hinf,hund,hsize,hu,⟨zv,hz1,hz2,hz3⟩,_⟩:=HC.ti t i hi
  split at h
  ·rename_i fs hfs'
   rw[hfs']at hu
   simp only[Fl]at hu
   obtain⟨fields,rfl,hfs,hname,hstood,hguard,hinfo⟩:=hu
   split at h
   case h_2=>cases h
   rename_i cs hcs
   refine⟨_,h,DL.of_v fun hp hs E w ρ H hop=>?_⟩
   have hzero:Ak E hp w i.zero zv.cells.toList:=by
    rw[hz2]
    exact Ak.of (by simp) (fun j h1 h2=>by simpa using Ji _)
   have hplaces:∃places:Array (Nat×Nat),(fields.mapM fun f=>do pure (f.offset,<-sizeOf f.type):Sem (Array (Nat×Nat))).run P w=.ok places w/\∀(j:Nat) (d:Nat×TypeId),fs[j]? =some d->∀n,(C.ti.find? fun x=>x.1==d.2).map (·.2.size)=some n->places[j]? =some (d.1,n):=by
    refine⟨(fields.toList.map fun f=>(f.offset,((P.info? f.type).map (·.size)).getD 0)).toArray,?_,?_⟩
    ·rw[Array.mapM_eq_mapM_toList,Sem.run_map]
     rw[WY (P:=P) (g:=fun f=>(f.offset,((P.info? f.type).map (·.size)).getD 0)) fields.toList (fun f hf w=>by
      obtain⟨inf,he⟩:=Option.isSome_iff_exists.1 (hinfo f (by simpa using hf))
      simp[sizeOf,typeInfo,he])]
     rfl
    ·intro j d hd n hn
     rw[<-hfs]at hd
     simp only[List.getElem?_map,Option.map_eq_some_iff]at hd
     obtain⟨f,hf,rfl⟩:=hd
     simp only[List.getElem?_toArray,List.getElem?_map,hf,Option.map_some,Option.some.injEq,Prod.mk.injEq,true_and]
     simp only[Option.map_eq_some_iff]at hn
     obtain⟨x,hx,rfl⟩:=hn
     obtain⟨inf',_,h1,_,h2,_⟩:=HC.ti f.type x.2 (by simp only[Cfg.info];rw[hx];rfl)
     simp[h1,h2]
   obtain⟨places,hpr,hpl⟩:=hplaces
   obtain⟨vs,h1,h2⟩:=au (C:=C) (places:=fun j=>places[j]?) hpl (ps.toList.map fun p=>(p.1,ev s.t p.2)) i.zero cs (ps.toList.map fun p=>(p.1,ρ p.2)) zv.cells.toList hcs hzero (by simp) (fun j h3 h4=>by
    simp only[List.getElem_map,true_and]
    exact hop _ (by rw[ho];simp only[Op.operands,List.mem_toArray,List.mem_map];exact⟨_,List.getElem_mem (by simpa using h3),rfl⟩))
   refine⟨.agg vs.toArray,?_,by simp only[Ag];exact⟨vs,rfl,h2⟩⟩
   simp only[execOp,ho]
   refine Gx ?_
   simp only[Instr.build,zeroValue,Sem.run_bind,Sem.run_pure,typeInfo,run_program,hinf,Result.andThen_ok,hz1,run_underlying hund,hpr]
   have:(ps.map fun p=>(p.1,ρ p.2)).toList=ps.toList.map fun p=>(p.1,ρ p.2):=by simp
   simp only[this]
   simp only[Array.toArray_toList]at h1
   rw[h1];rfl
  ·rename_i n e he
   rw[he]at hu;simp only[Fl]at hu;subst hu
   split at h
   case isFalse=>cases h
   rename_i hps
   split at h
   case h_2=>cases h
   rename_i ie hie
   have hps:ps=#[]:=by simpa using hps
   subst hps
   refine⟨_,h,DL.of_v fun hp hs E w ρ H hop=>⟨.agg zv.cells,?_,?_⟩⟩
   ·simp only[execOp,ho]
    refine Gx ?_
    simp only[Instr.build,zeroValue,Sem.run_bind,Sem.run_pure,typeInfo,run_program,hinf,Result.andThen_ok,hz1,run_underlying hund,EF (HC.ti e ie hie)]
    simp[Instr.fill]
   ·simp only[Ag]
    exact⟨zv.cells.toList,by simp,by rw[hz2];exact Ak.of (by simp) (fun j h1 h2=>by simpa using Ji _)⟩
  ·cases h
 ·cases h
end
end Go.Ab
end
section
namespace Go.Ab
open Go.RowKit
section
variable {P:Program}{C:Cfg}(HC:TabOK P C)
theorem Wq {R:Type}{s:St}{o:Oper}{f:FuncId}{first cap:Array Operand}{K:AV->Option R}{r:R}(ho:o.op=.makeFunc (.func f) first cap)(h:I9 C s o K=some r):∃v,K v=some r/\∀hp,BM s.h hp->DL P s.t hp o v:=by
 unfold I9 at h;simp only[ho]at h
 split at h
 ·rename_i he
  have he:first=#[]:=by simpa using he
  subst he
  refine⟨_,h,DL.of_v fun hp hs E w ρ H hop=>?_⟩
  refine⟨.func (.func f) #[] (cap.map ρ),by simp only[execOp,ho];exact Gx (by simp[Instr.makeFunc]),?_⟩
  simp only[Ag]
  refine⟨cap.toList.map ρ,by rw[<-List.map_toArray,Array.toArray_toList],Ak.of (by simp) fun i h1 h2=>?_⟩
  simp only[List.getElem_map]
  exact hop _ (by rw[ho];simp[Op.operands])
 ·cases h
include HC in
theorem ss {R:Type}{s:St}{o:Oper}{t:TypeId}{x:Operand}{f:Nat}{K:AV->Option R}{r:R}(ho:o.op=.field t x f)(h:I9 C s o K=some r):∃v,K v=some r/\∀hp,BM s.h hp->DL P s.t hp o v:=by
 have hx:x∈o.op.operands:=by rw[ho];simp[Op.operands]
 unfold I9 at h;simp only[ho]at h
 split at h
 ·rename_i size fs code zero lim cs hti ex
  obtain⟨inf,d,hinf,hund,_,hu,_⟩:=HC.ti t _ hti
  simp only[Fl]at hu
  obtain⟨fields,rfl,hfs,_⟩:=hu
  split at h
  ·rename_i d hd
   split at h
   ·rename_i i hi
    have htj:=HC.ti d.2 i hi
    obtain⟨v,hv,hK⟩:=Wr h
    refine⟨v,hK,DL.of_v fun hp hs E w ρ H hop=>?_⟩
    have h1:=hop x hx;rw[ex]at h1
    simp only[Ag]at h1
    obtain⟨vs,e1,h2⟩:=h1
    rw[<-hfs]at hd
    simp only[List.getElem?_map,Option.map_eq_some_iff]at hd
    obtain⟨g,hg,rfl⟩:=hd
    have hg:fields[f]? =some g:=by simpa using hg
    have hl:=h2.length
    unfold Nb at hv
    simp only[execOp,ho,e1]
    split at hv
    ·rename_i ha
     split at hv
     ·rename_i hle
      obtain rfl:=by simpa using hv
      refine⟨.agg ((vs.drop g.offset).take i.size).toArray,Gx (by
       simp only[Instr.field,Sem.run_bind,run_underlying hund,Result.andThen_ok,hg,asAgg,Sem.run_pure,part,O6 htj,ha,if_true,Sem.run_ite,EF htj]
       simp[List.extract_toArray,List.extract_eq_take_drop]),?_⟩
      simp only[Ag]
      exact⟨_,rfl,(h2.drop _).take _⟩
     ·cases hv
    ·rename_i ha
     split at hv
     ·rename_i c cs' hcs
      obtain rfl:c=v:=by simpa using hv
      have hlt:cs[g.offset]? =some c:=by
       have:=congrArg (·[0]?) hcs
       simpa[List.getElem?_drop]using this
      obtain⟨u,hu,h3⟩:=h2.get g.offset hlt
      refine⟨u,Gx (by
       simp only[Instr.field,Sem.run_bind,run_underlying hund,Result.andThen_ok,hg,asAgg,Sem.run_pure,part,O6 htj,ha,Bool.false_eq_true,if_false,Sem.run_ite]
       simp[hu]),h3⟩
     ·cases hv
   ·cases h
  ·cases h
 ·cases h
theorem ZW {k:IntKind}:(r:List AV)->{a:Int}->{v:AV}->A77 k a r=some v->{E:Env}->{h:Am}->{w:World}->{vs:List Value}->Ak E h w r vs->∃n,v=.pv (.int k) n/\(vs.foldlM Builtin.max2 (.int k a)).run P w=.ok (.int k n) w
 |[],a,v,hv,E,h,w,vs,hr=>by
  simp only[Ak]at hr;subst hr
  obtain rfl:=by simpa[A77]using hv
  exact⟨a,rfl,rfl⟩
 |x::r,a,v,hv,E,h,w,vs,hr=>by
  unfold A77 at hv
  split at hv
  ·rename_i e;cases e
  ·rename_i l b r' e
   obtain⟨rfl,rfl⟩:=List.cons.inj e
   split at hv
   ·rename_i e';subst e'
    simp only[Ak]at hr;obtain⟨u,us,rfl,h1,h2⟩:=hr
    have:=BU h1;subst this
    obtain⟨n,e1,e2⟩:=ZW r hv h2
    exact⟨n,e1,by simp only[List.foldlM_cons,Sem.run_bind,Builtin.max2,Sem.run_pure,Result.andThen_ok];exact e2⟩
   ·cases hv
  ·cases hv
theorem ZV {k:IntKind}:(r:List AV)->{a:Int}->{v:AV}->A76 k a r=some v->{E:Env}->{h:Am}->{w:World}->{vs:List Value}->Ak E h w r vs->∃n,v=.pv (.int k) n/\(vs.foldlM Builtin.min2 (.int k a)).run P w=.ok (.int k n) w
 |[],a,v,hv,E,h,w,vs,hr=>by
  simp only[Ak]at hr;subst hr
  obtain rfl:=by simpa[A76]using hv
  exact⟨a,rfl,rfl⟩
 |x::r,a,v,hv,E,h,w,vs,hr=>by
  unfold A76 at hv
  split at hv
  ·rename_i e;cases e
  ·rename_i l b r' e
   obtain⟨rfl,rfl⟩:=List.cons.inj e
   split at hv
   ·rename_i e';subst e'
    simp only[Ak]at hr;obtain⟨u,us,rfl,h1,h2⟩:=hr
    have:=BU h1;subst this
    obtain⟨n,e1,e2⟩:=ZV r hv h2
    exact⟨n,e1,by simp only[List.foldlM_cons,Sem.run_bind,Builtin.min2,Sem.run_pure,Result.andThen_ok];exact e2⟩
   ·cases hv
  ·cases hv
theorem A7d {R:Type}{hp:Am}{i:TI}{v:AV}{K:Int->Option R}{r:R}(h:Als hp i.und v K=some r){t:TypeId}(ht:C6 P t i):∃n,K n=some r/\∀h0,BM hp h0->∀{E:Env} {w:World} {u:Value},Ag E h0 w v u->∀(ty:TypeId) (ts:Array TypeId),ts[0]? =some t->
 (Builtin.len_ ts ty #[u]).run P w=.ok (.int .i64 n) w:=by
 obtain⟨inf,d,hinf,hund,_,hu',_⟩:=ht
 have key:∀{w:World} {u:Value} {ty:TypeId} {ts:Array TypeId} (hts:ts[0]? =some t) (m:Nat) (A:Option Addr) (c:Nat) (e:TypeId),i.und=.slice e->u=.slice A m c->(Builtin.len_ ts ty #[u]).run P w=.ok (.int .i64 (m:Int)) w:=by
  intro w u ty ts hts m A c e he hv
  rw[he]at hu';simp only[Fl]at hu';subst hu'
  subst hv
  simp[Builtin.len_,hts,run_underlying hund,goInt]
 unfold Als at h
 split at h
 ·rename_i b he
  refine⟨_,h,fun h0 hs E w u hu ty ts hts=>?_⟩
  have:=Lf hu;subst this
  rw[he]at hu';simp only[Fl]at hu';subst hu'
  simp[Builtin.len_,hts,run_underlying hund,goInt]
 ·rename_i e t' xs he
  refine⟨_,h,fun h0 hs E w u hu ty ts hts=>?_⟩
  simp only[Ag,B5]at hu
  obtain⟨A,c,e1,_⟩:=hu
  exact key hts _ A c e he (by simpa using e1)
 ·rename_i e he
  refine⟨_,h,fun h0 hs E w u hu ty ts hts=>?_⟩
  simp only[Ag]at hu
  exact key hts 0 none 0 e he hu
 ·rename_i e q sb rg he
  obtain⟨c0,hK,_,hc0⟩:=FS h
  have main:∀h0,BM hp h0->∀{E:Env} {w:World} {u:Value},Ag E h0 w (.own q sb rg) u->∀(ty:TypeId) (ts:Array TypeId),ts[0]? =some t->(Builtin.len_ ts ty #[u]).run P w=.ok (.int .i64 (((rg.getD (0,c0.len)).2:Nat):Int)) w:=by
   intro h0 hs E w u hu ty ts hts
   obtain⟨c,hc,hl,hz⟩:=(hc0 h0 hs).shape
   simp only[Ag]at hu
   rw[BG hc]at hu
   obtain⟨A,n,e1,_⟩:=TQ hu
   rw[hl]at e1
   exact key hts _ A n e he e1
  split at hK
  ·rename_i p
   exact⟨_,hK,fun h0 hs E w u hu ty ts hts=>main h0 hs hu ty ts hts⟩
  ·exact⟨_,hK,fun h0 hs E w u hu ty ts hts=>main h0 hs hu ty ts hts⟩
 ·cases h
include HC in
theorem aI {R:Type}{s:St}{o:Oper}{c:Call}{b:Builtin}{K:AV->Option R}{r:R}(ho:o.op=.call c)(hc:c.callee=.builtin b)(h:T1 C c.argTypes.toList s.h b (c.args.toList.map (ev s.t)) K=some r):∃v,K v=some r/\∀hp,BM s.h hp->DL P s.t hp o v:=by
 have hargs:∀z∈c.args,z∈o.op.operands:=fun z hz=>by rw[ho];simp[Op.operands,Call.operands,hz]
 have hall:∀(hp:Am) (E:Env) (w:World) (ρ:Operand->Value),(∀z∈o.op.operands,Ag E hp w (ev s.t z) (ρ z))->Ak E hp w (c.args.toList.map (ev s.t)) (c.args.map ρ).toList:=by
  intro hp E w ρ hop
  refine Ak.of (by simp) fun i h1 h2=>?_
  simp only[List.getElem_map,Array.toList_map]
  exact hop _ (hargs _ (by simp))
 unfold T1 at h
 split at h
 ·
  rename_i x hx
  split at h
  ·rename_i t ts hts
   split at h
   ·rename_i i hi
    obtain⟨n,hK,hn⟩:=A7d (P:=P) h (HC.ti _ i hi)
    refine⟨_,hK,DL.of_v fun hp hs E w ρ H hop=>?_⟩
    have h1:=hall hp E w ρ hop
    rw[hx]at h1
    simp only[Ak]at h1;obtain⟨u,us,e,h2,rfl⟩:=h1
    have he:(c.args.map ρ)=#[u]:=by
     rw[<-Array.toArray_toList (xs:=c.args.map ρ),e]
    have hts':c.argTypes[0]? =some t:=by rw[<-Array.getElem?_toList,hts];rfl
    refine⟨.int .i64 n,?_,HX _ n⟩
    simp only[execOp,ho,resolve,hc,Sem.run_bind,Sem.run_pure,Result.andThen_ok,invoke,builtin,he]
    rw[hn hp hs h2 o.type c.argTypes hts'];rfl
   ·cases h
  ·cases h
 ·
  rename_i k a r' hx
  split at h
  case h_2=>cases h
  rename_i v hv
  refine⟨v,h,DL.of_v fun hp hs E w ρ H hop=>?_⟩
  have h1:=hall hp E w ρ hop
  rw[hx]at h1
  simp only[Ak]at h1;obtain⟨u,us,e,h2,h3⟩:=h1
  have:=BU h2;subst this
  obtain⟨n,rfl,h4⟩:=ZW (P:=P) r' hv h3
  refine⟨.int k n,?_,HX k n⟩
  have he:(c.args.map ρ)=(Value.int k a::us).toArray:=by rw[<-Array.toArray_toList (xs:=c.args.map ρ),e]
  simp only[execOp,ho,resolve,hc,Sem.run_bind,Sem.run_pure,Result.andThen_ok,invoke,builtin,he,Builtin.max_,h4]
 ·rename_i k a r' hx
  split at h
  case h_2=>cases h
  rename_i v hv
  refine⟨v,h,DL.of_v fun hp hs E w ρ H hop=>?_⟩
  have h1:=hall hp E w ρ hop
  rw[hx]at h1
  simp only[Ak]at h1;obtain⟨u,us,e,h2,h3⟩:=h1
  have:=BU h2;subst this
  obtain⟨n,rfl,h4⟩:=ZV (P:=P) r' hv h3
  refine⟨.int k n,?_,HX k n⟩
  have he:(c.args.map ρ)=(Value.int k a::us).toArray:=by rw[<-Array.toArray_toList (xs:=c.args.map ρ),e]
  simp only[execOp,ho,resolve,hc,Sem.run_bind,Sem.run_pure,Result.andThen_ok,invoke,builtin,he,Builtin.min_,h4]
 ·cases h
include HC in
theorem sO {R:Type}{s:St}{o:Oper}{K:AV->Option R}{r:R}(h:I9 C s o K=some r):∃v,K v=some r/\∀hp,BM s.h hp->DL P s.t hp o v:=by
 cases ho:o.op with
 |move x=>
  unfold I9 at h;simp only[ho]at h
  exact⟨_,h,DL.of_v fun hp hs E w ρ H hop=>⟨_,by simp only[execOp,ho];rfl,hop x (by rw[ho];simp[Op.operands])⟩⟩
 |assign x=>
  unfold I9 at h;simp only[ho]at h
  exact⟨_,h,DL.of_v fun hp hs E w ρ H hop=>⟨_,by simp only[execOp,ho];rfl,hop x (by rw[ho];simp[Op.operands])⟩⟩
 |pick c a b=>
  unfold I9 at h;simp only[ho]at h
  split at h
  ·rename_i t ec
   have key:∀(hp:Am) (E:Env) (w:World) (ρ:Operand->Value),(∀x∈o.op.operands,Ag E hp w (ev s.t x) (ρ x))->ρ c=.bool t:=by
    intro hp E w ρ hop
    have h1:=hop c (by rw[ho];simp[Op.operands])
    rw[ec]at h1;exact KP h1
   split at h
   ·exact⟨_,h,DL.of_v fun hp hs E w ρ H hop=>⟨_,by simp only[execOp,ho,key hp E w ρ hop];rfl,hop a (by rw[ho];simp[Op.operands])⟩⟩
   ·exact⟨_,h,DL.of_v fun hp hs E w ρ H hop=>⟨_,by simp only[execOp,ho,key hp E w ρ hop];rfl,hop b (by rw[ho];simp[Op.operands])⟩⟩
  ·cases h
 |binOp op t x y t'=>exact sF HC ho h
 |unOp op t x=>exact sU ho h
 |fieldAddr t x f=>exact Th HC ho h
 |field t x f=>exact ss HC ho h
 |load t x=>exact A7a HC ho h
 |indexAddr t x ix=>exact Tg HC ho h
 |index t x ix=>exact sq HC ho h
 |slice t x lo hi mx=>
  cases mx with
  |none=>exact rx HC ho h
  |some m=>unfold I9 at h;simp only[ho]at h;cases h
 |build t ps=>exact sD HC ho h
 |extract x i=>exact ax ho h
 |makeFunc fn first cap=>
  cases fn with
  |func f=>exact Wq ho h
  |_=>unfold I9 at h;simp only[ho]at h;cases h
 |nilCheck x=>exact Wl ho h
 |convert src dst x=>exact aB HC ho h
 |makeInterface t x=>unfold I9 at h;simp only[ho]at h;cases h
 |panic x=>unfold I9 at h;simp only[ho]at h;cases h
 |call c=>
  unfold I9 at h;simp only[ho]at h
  cases hc:c.callee with
  |builtin b=>simp only[hc]at h;exact aI HC ho hc h
  |value f=>simp only[hc]at h;cases h
  |invoke r m=>simp only[hc]at h;cases h
 |_=>unfold I9 at h;simp only[ho]at h;cases h
end
end Go.Ab
end
section
namespace Go.Ab
open Go.RowKit
def A8t (E:Env)(h:Am)(w:World)(r:Nat)(s:Sub)(c:Cont):Prop:=
 c.len=0\/∃b arr ty,E.ι r (key s)=some (b,c.sz)/\w.heap[b]? =some (.cells arr ty (0,0))/\c.len*c.sz<=arr.size/\
  ∀i,i<c.len->∃cs vs,c.at? r i=some cs/\vs.length=c.sz/\Ak E h w cs vs/\∀(j:Nat) (hj:j<vs.length),arr[i*c.sz+j]? =some vs[j]
theorem MO {h h':Am}{r:Nat}(e:h'.getD r none=h.getD r none)(s:Sub):AC h' r s=AC h r s:=by
 cases s with
 |none=>simp only[AC,e]
 |some p=>simp only[AC,e]
theorem PL {h h':Am}{r:Nat}(e:h'.getD r none=h.getD r none):DV h' r=DV h r:=by unfold DV;rw[e]
structure Touch (D:Nat->Prop)(E:Env)(h:Am)(w:World)(E':Env)(h':Am)(w':World):Prop where
 hh:∀r,¬D r->h'.getD r none=h.getD r none
 hι:∀r κ,¬D r->E'.ι r κ=E.ι r κ
 II:∀b,E.I b->E'.I b
 size:w.heap.size<=w'.heap.size
 os:w'.os=w.os
 tape:w'.tape=w.tape
 output:w'.output=w.output/\w.drawn<=w'.drawn
 blk:∀b,b<w.heap.size->(∀r κ n,D r->DV h r=false->E.ι r κ≠some (b,n))->w'.heap[b]? =w.heap[b]?
 asz:∀(b:Nat) (arr:Array Value) (ty:TypeId),w.heap[b]? =some (Obj.cells arr ty (0,0))->∃arr':Array Value,w'.heap[b]? =some (Obj.cells arr' ty (0,0))/\arr'.size=arr.size
 off:∀r s,D r->AC h r s=.off->AC h' r s=.off
 on:∀r s c,D r->AC h r s=.on c->AC h' r s=.off\/∃c',AC h' r s=.on c'/\c'.len=c.len/\c'.sz=c.sz/\E'.ι r (key s)=E.ι r (key s)
 som:∀r,D r->∃c,h'.getD r none=some c
 fix:∀r,D r->DV h r=true->h'.getD r none=h.getD r none
 obj:Keep E h w E' h' w'->∀r s c,D r->AC h' r s=.on c->A8t E' h' w' r s c
 siz:∀r s c b n,D r->AC h' r s=.on c->E'.ι r (key s)=some (b,n)->n=c.sz
 from_:∀r κ b n,D r->E'.ι r κ=some (b,n)->(w.heap.size<=b/\b<w'.heap.size)\/∃r0 κ0 n0,D r0/\(DV h r0=false\/E.I b)/\E.ι r0 κ0=some (b,n0)
 inj:∀r κ r' κ' b n n',D r->D r'->E'.ι r κ=some (b,n)->E'.ι r' κ'=some (b,n')->r=r'/\κ=κ'
 live:∀r κ x,D r->E'.ι r κ=some x->∃c,h'.getD r none=some c/\c≠.dead
 Inew:∀b,E'.I b->E.I b\/(w.heap.size<=b/\b<w'.heap.size)\/∃r0 κ0 n0,D r0/\DV h r0=false/\E.ι r0 κ0=some (b,n0)
 apart:∀r κ b n,D r->E'.ι r κ=some (b,n)->DV h' r=false->¬E'.I b
 roI:∀r κ b n,D r->E'.ι r κ=some (b,n)->DV h' r=true->E'.I b
section
variable {D:Nat->Prop}{E E':Env}{h h':Am}{w w':World}
theorem Touch.keep (H:HeapOK E h w)(T:Touch D E h w E' h' w'):Keep E h w E' h' w':=by
 have hb:∀r κ b n,¬D r->E.ι r κ=some (b,n)->w'.heap[b]? =w.heap[b]?:=fun r κ b n hr h1=>
  T.blk b (H.own_lt b ⟨r,κ,n,h1⟩) fun r0 κ0 n0 hD _ h2=>hr (by rw[(H.inj _ _ _ _ _ _ _ h1 h2).1];exact hD)
 refine⟨fun b hI=>⟨T.II b hI,T.blk b (H.I_lt b hI) fun r κ n hD hro h1=>H.apart r κ b n h1 hro hI⟩,fun r s e=>?_,fun r s c e=>?_⟩
 ·rcases Classical.em (D r)with hr|hr
  ·exact T.off r s hr e
  ·rw[MO (T.hh r hr)];exact e
 ·rcases Classical.em (D r)with hr|hr
  ·rcases T.on r s c hr e with h1|⟨c',h1,h2,h3,h4⟩
   ·exact .inl h1
   ·exact .inr ⟨c',h1,h2,h3,h4,fun b hb arr ty ha=>T.asz b arr ty ha⟩
  ·exact .inr ⟨c,by rw[MO (T.hh r hr)];exact e,rfl,rfl,T.hι r _ hr,fun b hι arr ty ha=>T.asz b arr ty ha⟩
theorem Touch.heap (H:HeapOK E h w)(T:Touch D E h w E' h' w'):HeapOK E' h' w':=by
 have K:=T.keep H
 have hb:∀r κ b n,¬D r->E.ι r κ=some (b,n)->w'.heap[b]? =w.heap[b]?:=fun r κ b n hr h1=>
  T.blk b (H.own_lt b ⟨r,κ,n,h1⟩) fun r0 κ0 n0 hD _ h2=>hr (by rw[(H.inj _ _ _ _ _ _ _ h1 h2).1];exact hD)
 have hcross:∀r κ r' κ' b n n',¬D r->D r'->E'.ι r κ=some (b,n)->E'.ι r' κ'=some (b,n')->False:=by
  intro r κ r' κ' b n n' hr hr' h1 h2
  rw[T.hι r κ hr]at h1
  rcases T.from_ r' κ' b n' hr' h2 with⟨h3,_⟩|⟨r0,κ0,n0,hD0,_,h3⟩
  ·have:=H.own_lt b ⟨r,κ,n,h1⟩;omega
  ·exact hr (by rw[(H.inj _ _ _ _ _ _ _ h1 h3).1];exact hD0)
 refine⟨fun r s c e=>?_,fun r s c b n e hι=>?_,fun r κ r' κ' b n n' h1 h2=>?_,fun r κ x h1=>?_,fun b hI=>?_,fun b ⟨r,κ,n,h1⟩=>?_,fun r κ b n h1 hro=>?_,fun r κ b n h1 hro=>?_⟩
 ·rcases Classical.em (D r)with hr|hr
  ·exact T.obj K r s c hr e
  ·rw[MO (T.hh r hr)]at e
   refine(H.obj r s c e).imp id ?_
   rintro⟨b,arr,ty,h1,h2,h3,h4⟩
   refine⟨b,arr,ty,(T.hι r _ hr).trans h1,by rw[hb r _ b _ hr h1];exact h2,h3,fun i hi=>?_⟩
   obtain⟨cs,vs,k1,k2,k3,k4⟩:=h4 i hi
   exact⟨cs,vs,k1,k2,C4 K cs k3,k4⟩
 ·rcases Classical.em (D r)with hr|hr
  ·exact T.siz r s c b n hr e hι
  ·rw[MO (T.hh r hr)]at e;rw[T.hι r _ hr]at hι
   exact H.siz r s c b n e hι
 ·rcases Classical.em (D r)with hr|hr<;>rcases Classical.em (D r')with hr'|hr'
  ·exact T.inj r κ r' κ' b n n' hr hr' h1 h2
  ·exact(hcross r' κ' r κ b n' n hr' hr h2 h1).elim
  ·exact(hcross r κ r' κ' b n n' hr hr' h1 h2).elim
  ·rw[T.hι r κ hr]at h1;rw[T.hι r' κ' hr']at h2
   exact H.inj r κ r' κ' b n n' h1 h2
 ·rcases Classical.em (D r)with hr|hr
  ·exact T.live r κ x hr h1
  ·rw[T.hι r κ hr]at h1;rw[T.hh r hr];exact H.live r κ x h1
 ·rcases T.Inew b hI with h1|⟨_,h1⟩|⟨r0,κ0,n0,_,_,h1⟩
  ·exact Nat.lt_of_lt_of_le (H.I_lt b h1) T.size
  ·exact h1
  ·exact Nat.lt_of_lt_of_le (H.own_lt b ⟨_,_,_,h1⟩) T.size
 ·rcases Classical.em (D r)with hr|hr
  ·rcases T.from_ r κ b n hr h1 with⟨_,h3⟩|⟨r0,κ0,n0,_,_,h3⟩
   ·exact h3
   ·exact Nat.lt_of_lt_of_le (H.own_lt b ⟨_,_,_,h3⟩) T.size
  ·rw[T.hι r κ hr]at h1;exact Nat.lt_of_lt_of_le (H.own_lt b ⟨_,_,_,h1⟩) T.size
 ·rcases Classical.em (D r)with hr|hr
  ·exact T.apart r κ b n hr h1 hro
  ·intro hI
   rw[T.hι r κ hr]at h1;rw[PL (T.hh r hr)]at hro
   rcases T.Inew b hI with h2|⟨h2,_⟩|⟨r0,κ0,n0,hD0,_,h2⟩
   ·exact H.apart r κ b n h1 hro h2
   ·have:=H.own_lt b ⟨_,_,_,h1⟩;omega
   ·exact hr (by rw[(H.inj _ _ _ _ _ _ _ h1 h2).1];exact hD0)
 ·rcases Classical.em (D r)with hr|hr
  ·exact T.roI r κ b n hr h1 hro
  ·rw[T.hι r κ hr]at h1;rw[PL (T.hh r hr)]at hro
   exact T.II b (H.roI r κ b n h1 hro)
theorem Touch.inv {F:Fr}(H:Inv F E h w)(T:Touch D E h w E' h' w'):Inv F E' h' w'/\Keep E h w E' h' w':=by
 have K:=T.keep H.heap
 have hnew:∀b r0 κ0 n0,DV h r0=false\/E.I b->E.ι r0 κ0=some (b,n0)->F.I0 b\/F.B0 b\/F.w0.heap.size<=b:=by
  intro b r0 κ0 n0 h1 h2
  rcases h1 with h1|h1
  ·exact .inr (H.own_new r0 κ0 b n0 h2 h1)
  ·exact H.I_new b h1
 refine⟨⟨T.heap H.heap,?_,H.B_lt,fun r κ b n h1 hro=>?_,fun b hb=>?_,H.kept.trans K,fun r hr=>?_⟩,K⟩
 ·refine H.bel.step (D:=fun b=>∃r κ n,D r/\DV h r=false/\E.ι r κ=some (b,n)) ⟨T.os,T.tape,T.output,T.size,fun b hb hn=>T.blk b hb fun r κ n hD hro h1=>hn ⟨r,κ,n,hD,hro,h1⟩,fun b _ arr ty ha=>T.asz b arr ty ha⟩ ?_ H.B_lt
  rintro b ⟨r,κ,n,hD,hro,h1⟩
  exact H.own_new r κ b n h1 hro
 ·rcases Classical.em (D r)with hr|hr
  ·rcases T.from_ r κ b n hr h1 with⟨h3,_⟩|⟨r0,κ0,n0,_,h4,h3⟩
   ·right;have:=H.bel.size;omega
   ·rcases h4 with h4|h4
    ·exact H.own_new r0 κ0 b n0 h3 h4
    ·exact absurd (T.II b h4) (T.apart r κ b n hr h1 hro)
  ·rw[T.hι r κ hr]at h1;rw[PL (T.hh r hr)]at hro
   exact H.own_new r κ b n h1 hro
 ·rcases T.Inew b hb with h1|⟨h1,_⟩|⟨r0,κ0,n0,_,h2,h1⟩
  ·exact H.I_new b h1
  ·right;right;have:=H.bel.size;omega
  ·exact .inr (H.own_new r0 κ0 b n0 h1 h2)
 ·rcases H.fixed r hr with h0|h0
  ·left
   rcases Classical.em (D r)with hD|hD
   ·exact(T.fix r hD (by unfold DV at hr ⊢;rw[h0];exact hr)).trans h0
   ·exact(T.hh r hD).trans h0
  ·right
   rcases Classical.em (D r)with hD|hD
   ·have h1:=T.off r none hD (by simp only[AC,h0])
    simp only[AC]at h1
    split at h1
    ·cases h1
    ·rename_i h2;exact h2
    ·cases h1
   ·exact(T.hh r hD).trans h0
end
theorem An:(h:Am)->(r:Nat)->(c:Cont)->(q:Nat)->(setH h r c).getD q none=if q=r then some c else h.getD q none
 |[],0,c,q=>by cases q<;>simp[setH]
 |[],r+1,c,q=>by
  cases q with
  |zero=>simp[setH]
  |succ q=>
   have:=An [] r c q
   simp only[setH,List.getD_cons_succ,this,Nat.add_right_cancel_iff]
   simp
 |o::h,0,c,q=>by cases q<;>simp[setH]
 |o::h,r+1,c,q=>by
  cases q with
  |zero=>simp[setH]
  |succ q=>
   have:=An h r c q
   simp only[setH,List.getD_cons_succ,this,Nat.add_right_cancel_iff]
theorem OF:(h:Am)->(r:Nat)->(roH h).getD r none=match h.getD r none with|some c=>(if c.ro then some c else none)|none=>none
 |[],r=>by simp[roH]
 |o::h,r=>by
  have ih:=fun r=>OF h r
  cases r with
  |zero=>
   match o with
   |none=>simp[roH]
   |some (.lst true _ _)=>simp[roH,Cont.ro]
   |some (.lst false _ _)=>simp[roH,Cont.ro]
   |some (.tree true _ _ _ _)=>simp[roH,Cont.ro]
   |some (.tree false _ _ _ _)=>simp[roH,Cont.ro]
   |some (.cells _ _)=>simp[roH,Cont.ro]
   |some (.shp _ _)=>simp[roH,Cont.ro]
   |some .dead=>simp[roH,Cont.ro]
  |succ r=>
   match o with
   |none=>simpa[roH]using ih r
   |some (.lst true _ _)=>simpa[roH]using ih r
   |some (.lst false _ _)=>simpa[roH]using ih r
   |some (.tree true _ _ _ _)=>simpa[roH]using ih r
   |some (.tree false _ _ _ _)=>simpa[roH]using ih r
   |some (.cells _ _)=>simpa[roH]using ih r
   |some (.shp _ _)=>simpa[roH]using ih r
   |some .dead=>simpa[roH]using ih r
theorem BM.setH {hp h:Am}(hs:BM hp h)(r:Nat)(c:Cont):BM (setH hp r c) (setH h r c):=by
 intro q d hq hd
 rw[An]at hq ⊢
 split at hq
 ·rename_i e;subst e;rw[if_pos rfl];exact .inl hq
 ·rename_i e;rw[if_neg e];exact hs q d hq hd
theorem BM.apD {hp h:Am}(hs:BM hp h):(δ:Bx)->BM (apD hp δ) (apD h δ)
 |[]=>hs
 |p::δ=>BM.apD (hs.setH p.1 p.2) δ
theorem BM.ro {hp h:Am}(hs:BM hp h):BM (roH hp) h:=by
 intro q d hq hd
 rw[OF]at hq
 split at hq
 ·rename_i c hc
  split at hq
  ·obtain rfl:c=d:=by simpa using hq
   exact hs q c hc hd
  ·cases hq
 ·cases hq
theorem BM.nil (h:Am):BM [] h:=fun r c e=>by simp at e
def Env.set (E:Env)(r:Nat)(κ:Option (Nat×Nat))(x:Option (Nat×Nat)):Env:=⟨fun q κ'=>if q=r/\κ'=κ then x else E.ι q κ',E.I⟩
def Env.clr (E:Env)(r:Nat):Env:=⟨fun q κ=>if q=r then none else E.ι q κ,E.I⟩
def Cont.plain:Cont->Prop
 | .lst false _ _=>True
 | .cells _ _=>True
 |_=>False
theorem Cont.plain.ro {c:Cont}(h:c.plain):c.ro=false/\c≠.dead:=by
 cases c with
 |lst ro t xs=>cases ro with
  |true=>cases h
  |false=>exact⟨rfl,by simp⟩
 |cells n es=>exact⟨rfl,by simp⟩
 |_=>cases h
def Cont.past:Cont->RefSt
 | .cells _ _=>.no
 |_=>.off
theorem FH {h:Am}{r:Nat}{c:Cont}(e:h.getD r none=some c)(hp:c.plain)(s:Sub):AC h r s=(match s with|none=>.on c|some _=>c.past):=by
 cases s with
 |none=>exact Av e hp.ro.2
 |some p=>
  simp only[AC,e]
  cases c with
  |tree _ _ _ _ _=>cases hp
  |_=>rfl
theorem LT {c c':Cont}(h:c.past=.on c'):False:=by cases c<;>cases h
theorem EH {h:Am}{r:Nat}(e:h.getD r none=none)(s:Sub):AC h r s=.no:=by
 cases s with
 |none=>simp only[AC,e]
 |some p=>simp only[AC,e]
theorem Ha {h:Am}{r:Nat}(e:h.getD r none=some .dead)(s:Sub):AC h r s=.off:=by
 cases s with
 |none=>simp only[AC,e]
 |some p=>simp only[AC,e]
theorem B9 {h:Am}{r:Nat}{c:Cont}(e:h.getD r none=some c):DV h r=c.ro:=by unfold DV;rw[e]
section
variable {F:Fr}{E:Env}{h:Am}{w:World}
theorem ah (H:Inv F E h w){r:Nat}(hr:h.getD r none=none)(c:Cont)(hc:c.plain){w':World}{b:Nat}{arr:Array Value}{ty:TypeId}(hnew:w'.heap[b]? =some (.cells arr ty (0,0)))(hbn:w.heap.size<=b)(hblt:b<w'.heap.size)(hsize:w.heap.size<=w'.heap.size)
 (hold:∀k,k<w.heap.size->w'.heap[k]? =w.heap[k]?)(hos:w'.os=w.os)(htape:w'.tape=w.tape)(hout:w'.output=w.output/\w.drawn<=w'.drawn)(hfit:c.len*c.sz<=arr.size)
 (hels:∀i,i<c.len->∃cs vs,c.at? r i=some cs/\vs.length=c.sz/\Ak E h w cs vs/\∀(j:Nat) (hj:j<vs.length),arr[i*c.sz+j]? =some vs[j]):
 ∃E',Inv F E' (setH h r c) w'/\Keep E h w E' (setH h r c) w'/\E'.ι r none=some (b,c.sz):=by
 have hg:(setH h r c).getD r none=some c:=by rw[An,if_pos rfl]
 have hst:=FH hg hc
 have hno:∀κ x,E.ι r κ≠some x:=fun κ x hx=>by obtain⟨c',h1,_⟩:=H.heap.live r κ x hx;rw[hr]at h1;cases h1
 have hι:∀κ k n,(E.set r none (some (b,c.sz))).ι r κ=some (k,n)->κ=none/\k=b/\n=c.sz:=by
  intro κ k n h1
  simp only[Env.set,true_and]at h1
  split at h1
  ·rename_i e;simp only[Option.some.injEq,Prod.mk.injEq]at h1;exact⟨e,h1.1.symm,h1.2.symm⟩
  ·exact absurd h1 (hno _ _)
 have T:Touch (fun q=>q=r) E h w (E.set r none (some (b,c.sz))) (setH h r c) w':=by
  refine{hh:=fun q hq=>by rw[An,if_neg hq],hι:=fun q κ hq=>by simp only[Env.set];rw[if_neg (fun e=>hq e.1)],II:=fun b hb=>hb,size:=hsize,os:=hos,tape:=htape,output:=hout,
         blk:=fun b hb _=>hold b hb,asz:=fun b a t ha=>⟨a,by rw[hold b (Array.getElem?_eq_some_iff.1 ha).1];exact ha,rfl⟩,off:=?_,on:=?_,som:=?_,fix:=(fun q hq h1=>by subst hq;simp only[DV,hr]at h1;cases h1),obj:=?_,siz:=?_,from_:=?_,inj:=?_,live:=?_,Inew:=fun b hb=>.inl hb,apart:=?_,roI:=?_}
  ·rintro q s rfl e;rw[EH hr]at e;cases e
  ·rintro q s c' rfl e;rw[EH hr]at e;cases e
  ·rintro q rfl;exact⟨c,hg⟩
  ·rintro K q s c' rfl e
   rw[hst]at e
   cases s with
   |some p=>exact(LT e).elim
   |none=>
    obtain rfl:c=c':=by simpa using e
    right
    refine⟨b,arr,ty,by simp[Env.set,key],hnew,hfit,fun i hi=>?_⟩
    obtain⟨cs,vs,h1,h2,h3,h4⟩:=hels i hi
    exact⟨cs,vs,h1,h2,C4 K cs h3,h4⟩
  ·rintro q s c' k n rfl e h1
   rw[hst]at e
   cases s with
   |some p=>exact(LT e).elim
   |none=>obtain rfl:c=c':=by simpa using e
          exact(hι _ _ _ h1).2.2
  ·rintro q κ k n rfl h1;left;have:=(hι _ _ _ h1).2.1;omega
  ·rintro q κ q' κ' k n n' rfl rfl h1 h2;exact⟨rfl,by rw[(hι _ _ _ h1).1,(hι _ _ _ h2).1]⟩
  ·rintro q κ x rfl h1;exact⟨c,hg,hc.ro.2⟩
  ·rintro q κ k n rfl h1 _ hI;have:=(hι _ _ _ h1).2.1;have:=H.heap.I_lt k hI;omega
  ·rintro q κ k n rfl h1 hro;rw[B9 hg,hc.ro.1]at hro;cases hro
 obtain⟨h1,h2⟩:=T.inv H
 exact⟨_,h1,h2,by simp[Env.set]⟩
theorem Ww (H:Inv F E h w){r:Nat}(hr:h.getD r none=none)(c:Cont)(hc:c.plain)(arr:Array Value)(ty:TypeId)(hfit:c.len*c.sz<=arr.size)
 (hels:∀i,i<c.len->∃cs vs,c.at? r i=some cs/\vs.length=c.sz/\Ak E h w cs vs/\∀(j:Nat) (hj:j<vs.length),arr[i*c.sz+j]? =some vs[j]):
 ∃E',Inv F E' (setH h r c) (w.alloc (.cells arr ty (0,0)))/\Keep E h w E' (setH h r c) (w.alloc (.cells arr ty (0,0)))/\E'.ι r none=some (w.heap.size,c.sz):=
 ah H hr c hc (arr:=arr) (ty:=ty) (by show(w.heap.push _)[w.heap.size]? =_;simp) (zQq _) (by show _<(w.heap.push _).size;simp) (by show _<=(w.heap.push _).size;simp) (fun b hb=>Below.heap_alloc w _ b hb) rfl rfl ⟨rfl,zQq _⟩ hfit hels
theorem SN (H:Inv F E h w){r:Nat}(hr:h.getD r none=none)(c:Cont)(hc:c.plain)(h0:c.len=0):Inv F E (setH h r c) w/\Keep E h w E (setH h r c) w:=by
 have hg:(setH h r c).getD r none=some c:=by rw[An,if_pos rfl]
 have hst:=FH hg hc
 have hno:∀κ x,E.ι r κ≠some x:=fun κ x hx=>by obtain⟨c',h1,_⟩:=H.heap.live r κ x hx;rw[hr]at h1;cases h1
 have T:Touch (fun q=>q=r) E h w E (setH h r c) w:=by
  refine{hh:=fun q hq=>by rw[An,if_neg hq],hι:=fun q κ hq=>rfl,II:=fun b hb=>hb,size:=zQq _,os:=rfl,tape:=rfl,output:=⟨rfl,zQq _⟩,
         blk:=fun b hb _=>rfl,asz:=fun b a t ha=>⟨a,ha,rfl⟩,off:=?_,on:=?_,som:=?_,fix:=(fun q hq h1=>by subst hq;simp only[DV,hr]at h1;cases h1),obj:=?_,siz:=?_,from_:=?_,inj:=?_,live:=?_,Inew:=fun b hb=>.inl hb,apart:=?_,roI:=?_}
  ·rintro q s rfl e;rw[EH hr]at e;cases e
  ·rintro q s c' rfl e;rw[EH hr]at e;cases e
  ·rintro q rfl;exact⟨c,hg⟩
  ·rintro K q s c' rfl e
   rw[hst]at e
   cases s with
   |some p=>exact(LT e).elim
   |none=>obtain rfl:c=c':=by simpa using e
          exact .inl h0
  ·rintro q s c' b n rfl e h1;exact absurd h1 (hno _ _)
  ·rintro q κ b n rfl h1;exact absurd h1 (hno _ _)
  ·rintro q κ q' κ' b n n' rfl rfl h1 h2;exact absurd h1 (hno _ _)
  ·rintro q κ x rfl h1;exact⟨c,hg,hc.ro.2⟩
  ·rintro q κ b n rfl h1;exact absurd h1 (hno _ _)
  ·rintro q κ b n rfl h1;exact absurd h1 (hno _ _)
 exact T.inv H
theorem RQ (H:Inv F E h w){r:Nat}{c c':Cont}(hc:h.getD r none=some c)(hp:c.plain)(hp':c'.plain)(hpast:c'.past=c.past){b:Nat}{arr arr':Array Value}{ty:TypeId}(hι:E.ι r none=some (b,c.sz))(hb:w.heap[b]? =some (.cells arr ty (0,0)))
 (hlen:c'.len=c.len)(hsz:c'.sz=c.sz)(harr:arr'.size=arr.size)(hfit:c.len*c.sz<=arr.size)
 (hels:∀i,i<c.len->∃cs vs,c'.at? r i=some cs/\vs.length=c.sz/\Ak E h w cs vs/\∀(j:Nat) (hj:j<vs.length),arr'[i*c.sz+j]? =some vs[j])
 {w':World}(hw:∀k,k<w.heap.size->w'.heap[k]? =if k=b then some (.cells arr' ty (0,0))else w.heap[k]?)(hws:w.heap.size<=w'.heap.size)(hos:w'.os=w.os)(htape:w'.tape=w.tape)(hout:w'.output=w.output/\w.drawn<=w'.drawn):
 Inv F E (setH h r c') w'/\Keep E h w E (setH h r c') w':=by
 have hg:(setH h r c').getD r none=some c':=by rw[An,if_pos rfl]
 have hst:=FH hg hp'
 have hst0:=FH hc hp
 have hro:DV h r=false:=by rw[B9 hc];exact hp.ro.1
 have T:Touch (fun q=>q=r) E h w E (setH h r c') w':=by
  refine{hh:=fun q hq=>by rw[An,if_neg hq],hι:=fun q κ hq=>rfl,II:=fun b hb=>hb,size:=hws,os:=hos,tape:=htape,output:=hout,
         blk:=fun k hk hn=>by rw[hw k hk,if_neg (fun e=>hn r none c.sz rfl hro (by rw[e];exact hι))],asz:=fun k a t ha=>?_,off:=?_,on:=?_,som:=?_,fix:=(fun q hq h1=>by subst hq;rw[hro]at h1;cases h1),obj:=?_,siz:=?_,from_:=?_,inj:=?_,live:=?_,Inew:=fun b hb=>.inl hb,apart:=?_,roI:=?_}
  ·rw[hw k (Array.getElem?_eq_some_iff.1 ha).1]
   by_cases e:k=b
   ·subst e;rw[hb]at ha;obtain⟨rfl,rfl⟩:arr=a/\ty=t:=by simpa using ha
    exact⟨arr',by simp,harr⟩
   ·exact⟨a,by rw[if_neg e];exact ha,rfl⟩
  ·rintro q s rfl e
   rw[hst0]at e;rw[hst]
   cases s with
   |none=>cases e
   |some p=>exact hpast.trans e
  ·rintro q s c0 rfl e
   rw[hst0]at e;rw[hst]
   cases s with
   |none=>obtain rfl:c=c0:=by simpa using e
          exact .inr ⟨c',rfl,hlen,hsz,rfl⟩
   |some p=>exact(LT e).elim
  ·rintro q rfl;exact⟨c',hg⟩
  ·rintro K q s c0 rfl e
   rw[hst]at e
   cases s with
   |some p=>exact(LT e).elim
   |none=>
    obtain rfl:c'=c0:=by simpa using e
    right
    refine⟨b,arr',ty,by rw[hsz];exact hι,by rw[hw b (Array.getElem?_eq_some_iff.1 hb).1,if_pos rfl],by rw[hlen,hsz,harr];exact hfit,fun i hi=>?_⟩
    obtain⟨cs,vs,h1,h2,h3,h4⟩:=hels i (by omega)
    exact⟨cs,vs,h1,by rw[hsz];exact h2,C4 K cs h3,fun j hj=>by rw[hsz];exact h4 j hj⟩
  ·rintro q s c0 b0 n rfl e h1
   rw[hst]at e
   cases s with
   |some p=>exact(LT e).elim
   |none=>obtain rfl:c'=c0:=by simpa using e
          simp only[key]at h1;rw[hι]at h1;rw[hsz];simp only[Option.some.injEq,Prod.mk.injEq]at h1;exact h1.2.symm
  ·rintro q κ b0 n rfl h1;exact .inr ⟨q,κ,n,rfl,.inl hro,h1⟩
  ·rintro q κ q' κ' b0 n n' rfl rfl h1 h2;exact H.heap.inj _ _ _ _ _ _ _ h1 h2
  ·rintro q κ x rfl h1;exact⟨c',hg,hp'.ro.2⟩
  ·rintro q κ b0 n rfl h1 _;exact H.heap.apart _ _ _ _ h1 hro
  ·rintro q κ b0 n rfl h1 h2;rw[B9 hg,hp'.ro.1]at h2;cases h2
 exact T.inv H
theorem Qw (H:Inv F E h w){r:Nat}{c:Cont}(hc:h.getD r none=some c)(hcr:c.ro=false):Inv F (E.clr r) (setH h r .dead) w/\Keep E h w (E.clr r) (setH h r .dead) w:=by
 have hg:(setH h r .dead).getD r none=some .dead:=by rw[An,if_pos rfl]
 have hst:=Ha hg
 have hno:∀κ x,(E.clr r).ι r κ≠some x:=fun κ x hx=>by simp[Env.clr]at hx
 have T:Touch (fun q=>q=r) E h w (E.clr r) (setH h r .dead) w:=by
  refine{hh:=fun q hq=>by rw[An,if_neg hq],hι:=fun q κ hq=>by simp only[Env.clr];rw[if_neg hq],II:=fun b hb=>hb,size:=zQq _,os:=rfl,tape:=rfl,output:=⟨rfl,zQq _⟩,
         blk:=fun b hb _=>rfl,asz:=fun b a t ha=>⟨a,ha,rfl⟩,off:=?_,on:=?_,som:=?_,fix:=(fun q hq h1=>by subst hq;rw[B9 hc,hcr]at h1;cases h1),obj:=?_,siz:=?_,from_:=?_,inj:=?_,live:=?_,Inew:=fun b hb=>.inl hb,apart:=?_,roI:=?_}
  ·rintro q s rfl e;exact hst s
  ·rintro q s c' rfl e;exact .inl (hst s)
  ·rintro q rfl;exact⟨_,hg⟩
  ·rintro K q s c' rfl e;rw[hst]at e;cases e
  ·rintro q s c' b n rfl e h1;exact absurd h1 (hno _ _)
  ·rintro q κ b n rfl h1;exact absurd h1 (hno _ _)
  ·rintro q κ q' κ' b n n' rfl rfl h1 h2;exact absurd h1 (hno _ _)
  ·rintro q κ x rfl h1;exact absurd h1 (hno _ _)
  ·rintro q κ b n rfl h1;exact absurd h1 (hno _ _)
  ·rintro q κ b n rfl h1;exact absurd h1 (hno _ _)
 exact T.inv H
end
end Go.Ab
end
