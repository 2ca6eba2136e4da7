import Derived.Test.YtgljlakbfdnmfaaGreatF4
import Derived.KernelRfl
set_option linter.all false
namespace Go.Ab
inductive Pk:Ty->Ty->Ty->Type where
 |n:Pk .unit .unit .unit
 |i {a r x y:Ty} (p:Pk r x y):Pk (.prod a r) (.prod a x) y
 |v {a r x y:Ty} (p:Pk r x y):Pk (.prod a r) x (.prod a y)
def spP:{t x y:Ty}->Pk t x y->den t->den x×den y
 |_,_,_,.n,_=>((),())
 |_,_,_,.i p,z=>((z.1,(spP p z.2).1),(spP p z.2).2)
 |_,_,_,.v p,z=>((spP p z.2).1,(z.1,(spP p z.2).2))
def mkP:{t x y:Ty}->Pk t x y->den x->den y->den t
 |_,_,_,.n,_,_=>()
 |_,_,_,.i p,a,b=>(a.1,mkP p a.2 b)
 |_,_,_,.v p,a,b=>(b.1,mkP p a b.2)
theorem ZU:∀{t x y:Ty} (p:Pk t x y) (z:den t),mkP p (spP p z).1 (spP p z).2=z
 |_,_,_,.n,_=>rfl
 |_,_,_,.i p,z=>by show(z.1,mkP p (spP p z.2).1 (spP p z.2).2)=z;rw[ZU p z.2]
 |_,_,_,.v p,z=>by show(z.1,mkP p (spP p z.2).1 (spP p z.2).2)=z;rw[ZU p z.2]
def si (n:Nat)(l:TmL):TmL:=match n with|0=>l|n+1=>.slot .i (si n l)
structure Exs (ι π:Type)where
 E:ι->π->(R:Type)->(Ex->St->Option R)->Option R
 kk:ι->π->Ex×St
 ok:∀i p R K,E i p R K=K (kk i p).1 (kk i p).2
noncomputable def x1 {ι π:Type}(e:Ex)(X:ι->π->St):Exs ι π:=⟨fun i p _ K=>K e (X i p),fun i p=>(e,X i p),fun _ _ _ _=>rfl⟩
noncomputable def xs {ι π ρ:Type}(e:Ex)(X:ι->π->St)(r:Exs ι ρ):Exs ι (π ⊕ ρ):=
 ⟨fun i p R K=>Ap p (fun p=>K e (X i p)) fun p=>r.E i p R K,fun i p=>Ap p (fun p=>(e,X i p)) fun p=>r.kk i p,fun i p R K=>by
  cases p with
  |inl p=>rfl
  |inr p=>exact r.ok i p R K⟩
theorem lkA {P:Program}{C:Cfg}(HC:CfgOK P C){f:Func}{k:Nat}(T:Tmpl){x y:Ty}(p:Pk T.ty x y){π:Type}(D:den x->den y->(R:Type)->((den y ⊕ π)->Option R)->Option R)(Y:Exs (den x) π)(live:List Nat)(hD:AW D)
 (hF:(C.ann.find? fun x=>x.1==KL (lpc f k)).map (·.2)=some (Ao T C.lent (spP p) D Y.E):=by kernel_rfl)(hm:(EV (lpc f k)).length=0:=by kernel_rfl)
 (hbody:∀i v,Kk C (lpc f k) (T.write (mkP p i v)) (Qr T C.lent live)=D i v _ fun r=>some (Sum.map (mkP p i) (Y.kk i) r):=by intro i v;kernel_rfl):AN P C (lpc f k):=
 A7b HC hF hm (fun q h=>absurd h (Nat.not_lt_zero q)) live (mkP p) (ZU p) hD Y.kk Y.ok hbody
theorem lkB {P:Program}{C:Cfg}(HC:CfgOK P C){f:Func}{k:Nat}(T:Tmpl){x y:Ty}(p:Pk T.ty x y){π:Type}(D:den x->den y->(R:Type)->((den y ⊕ π)->Option R)->Option R)(Y:Exs (den x) π)(live:List Nat)(hD:AW D){b:Code}(hs:AN P C b)
 (he:b=(EV (lpc f k)).getD 0 .skip:=by kernel_rfl)
 (hF:(C.ann.find? fun x=>x.1==KL (lpc f k)).map (·.2)=some (Ao T C.lent (spP p) D Y.E):=by kernel_rfl)(hm:(EV (lpc f k)).length=1:=by kernel_rfl)
 (hbody:∀i v,Kk C (lpc f k) (T.write (mkP p i v)) (Qr T C.lent live)=D i v _ fun r=>some (Sum.map (mkP p i) (Y.kk i) r):=by intro i v;kernel_rfl):AN P C (lpc f k):=
 A7b HC hF hm (fun q h=>match q,h with|0,_=>A7c he hs) live (mkP p) (ZU p) hD Y.kk Y.ok hbody
theorem lkC {P:Program}{C:Cfg}(HC:CfgOK P C){f:Func}{k:Nat}(T:Tmpl){x y:Ty}(p:Pk T.ty x y){π:Type}(D:den x->den y->(R:Type)->((den y ⊕ π)->Option R)->Option R)(Y:Exs (den x) π)(live:List Nat)(hD:AW D){b c:Code}(hs:AN P C b)(ht:AN P C c)
 (he:b=(EV (lpc f k)).getD 0 .skip:=by kernel_rfl)(hg:c=(EV (lpc f k)).getD 1 .skip:=by kernel_rfl)
 (hF:(C.ann.find? fun x=>x.1==KL (lpc f k)).map (·.2)=some (Ao T C.lent (spP p) D Y.E):=by kernel_rfl)(hm:(EV (lpc f k)).length=2:=by kernel_rfl)
 (hbody:∀i v,Kk C (lpc f k) (T.write (mkP p i v)) (Qr T C.lent live)=D i v _ fun r=>some (Sum.map (mkP p i) (Y.kk i) r):=by intro i v;kernel_rfl):AN P C (lpc f k):=
 A7b HC hF hm (fun q h=>match q,h with|0,_=>A7c he hs|1,_=>A7c hg ht) live (mkP p) (ZU p) hD Y.kk Y.ok hbody
theorem okA {P:Program}{C:Cfg}(HC:CfgOK P C){f:FuncId}{fn:Func}{ti to:Tmpl}{S:den ti.ty->Option (den to.ty)}(hf:P.funcs[f]? =some fn)(hm:(EV (OK fn)).length=0:=by kernel_rfl)
 (hb:fn.body.isNone=false:=by kernel_rfl)(hn:(fn.name== "runtime.NumGoroutine")=false:=by kernel_rfl)(h:∀x,RX C fn ti to x=S x:=by intro x;kernel_rfl):Aj P ⟨f,ti,to,S⟩:=
 ME HC hf 0 hm (fun q h=>absurd h (Nat.not_lt_zero q)) hb hn h
theorem okB {P:Program}{C:Cfg}(HC:CfgOK P C){f:FuncId}{fn:Func}{ti to:Tmpl}{S:den ti.ty->Option (den to.ty)}(hf:P.funcs[f]? =some fn)(h0:AN P C (lpc fn 0))(hm:(EV (OK fn)).length=1:=by kernel_rfl)
 (hb:fn.body.isNone=false:=by kernel_rfl)(hn:(fn.name== "runtime.NumGoroutine")=false:=by kernel_rfl)(h:∀x,RX C fn ti to x=S x:=by intro x;kernel_rfl):Aj P ⟨f,ti,to,S⟩:=
 ME HC hf 1 hm (fun q h=>match q,h with|0,_=>h0) hb hn h
theorem okC {P:Program}{C:Cfg}(HC:CfgOK P C){f:FuncId}{fn:Func}{ti to:Tmpl}{S:den ti.ty->Option (den to.ty)}(hf:P.funcs[f]? =some fn)(h0:AN P C (lpc fn 0))(h1:AN P C (lpc fn 1))(hm:(EV (OK fn)).length=2:=by kernel_rfl)
 (hb:fn.body.isNone=false:=by kernel_rfl)(hn:(fn.name== "runtime.NumGoroutine")=false:=by kernel_rfl)(h:∀x,RX C fn ti to x=S x:=by intro x;kernel_rfl):Aj P ⟨f,ti,to,S⟩:=
 ME HC hf 2 hm (fun q h=>match q,h with|0,_=>h0|1,_=>h1) hb hn h
end Go.Ab
