import Derived.Test.YtgljlakbfdnmfaaGreatSp1
set_option linter.all false
open Go.IntKind renaming i64->zXq
open List renaming replicate->zKq
set_option maxRecDepth 100000
namespace Go.Ab
open Go.Proofs.Tryz
noncomputable section
abbrev uF:=List (B4)×Unit
abbrev uB:=Int×Unit
abbrev uC:=Unit ⊕ Unit ⊕ Unit ⊕ Unit ⊕ Unit ⊕ Unit ⊕ Unit
def Fz (i:uF)(v:uB)(R:Type)(K:uB ⊕ uC->Option R):Option R:=bif decide (v.1<(i.1.length:Int))then(lAt i.1 v.1).bind fun a=>(Al (a.1,1,9,())).bind fun b=>bif !b.1 then K (.inr (.inl ()))else(lAt i.1 v.1).bind fun c=>(Al (c.2.1,1,9,())).bind fun d=>bif !d.1 then K (.inr (.inr (.inl ())))else(lAt i.1 v.1).bind fun e=>(lAt i.1 v.1).bind fun f=>bif e.1==f.2.1 then K (.inr (.inr (.inr (.inl ()))))else(lAt i.1 v.1).bind fun g=>(Al (g.2.2.1,1,3,())).bind fun h=>bif !h.1 then K (.inr (.inr (.inr (.inr (.inl ())))))else(lAt i.1 v.1).bind fun j=>(Al (j.2.2.2.1,0,5,())).bind fun k=>bif !k.1 then K (.inr (.inr (.inr (.inr (.inr (.inl ()))))))else bif decide (v.1>0)then(lAt i.1 (zXq.wrap (v.1-1))).bind fun l=>(lAt i.1 v.1).bind fun m=>(IR ((l.1,l.2.1,l.2.2.1,l.2.2.2.1,()),(m.1,m.2.1,m.2.2.1,m.2.2.2.1,()),())).bind fun n=>bif !n.1 then K (.inr (.inr (.inr (.inr (.inr (.inr (.inl ())))))))else K (.inl (zXq.wrap (v.1+1),()))else K (.inl (zXq.wrap (v.1+1),()))else K (.inr (.inr (.inr (.inr (.inr (.inr (.inr ())))))))
theorem Od:AW Fz:=fun i v R K=>Ad (Ac fun _=>Ac fun _=>Ad (Aa) (Ac fun _=>Ac fun _=>Ad (Aa) (Ac fun _=>Ac fun _=>Ad (Aa) (Ac fun _=>Ac fun _=>Ad (Aa) (Ac fun _=>Ac fun _=>Ad (Aa) (Ad (Ac fun _=>Ac fun _=>Ac fun _=>Ad (Aa) (Aa)) (Aa))))))) (Aa)
def bm:Tmpl:=⟨(.slot (.slice AZ) (jk 2 (.slot .i (jk 70 .nil)))),.nil⟩
def uA:Exs uF uC:=xs .ret (fun i p=>⟨jn 2 (.b (false)::jn 71 ([])),[]⟩)<|xs .ret (fun i p=>⟨jn 2 (.b (false)::jn 71 ([])),[]⟩)<|xs .ret (fun i p=>⟨jn 2 (.b (false)::jn 71 ([])),[]⟩)<|xs .ret (fun i p=>⟨jn 2 (.b (false)::jn 71 ([])),[]⟩)<|xs .ret (fun i p=>⟨jn 2 (.b (false)::jn 71 ([])),[]⟩)<|xs .ret (fun i p=>⟨jn 2 (.b (false)::jn 71 ([])),[]⟩)<|x1 (.exit 0) fun i p=>⟨jn 74 ([]),[]⟩
def uD:=((.i (.v .n)):Pk bm.ty _ _)
def Ahk:Cfg:={ti:=Az,ents:=[N3,Uo],ann:=[(2,Ao bm 0 (spP uD) Fz uA.E)],lent:=0}
def Ic (x:List (B4)×Unit):Option (Bool×Unit):=(Au (fun v=>Fz (x.1,()) v _ some) (0,())).bind fun p=>Ap p (fun p=>some (false,())) fun p=>Ap p (fun p=>some (false,())) fun p=>Ap p (fun p=>some (false,())) fun p=>Ap p (fun p=>some (false,())) fun p=>Ap p (fun p=>some (false,())) fun p=>Ap p (fun p=>some (false,())) fun p=>some (true,())
def A9v:Ent:=⟨28,⟨(.slot (.slice AZ) .nil),.nil⟩,⟨(.slot .bool .nil),.nil⟩,Ic⟩
theorem uG:CfgOK prog Ahk:=hcB (all_cons Lb (all_cons vk all_nil))
theorem A9u:AN prog Ahk (lpc f28 0):=lkA uG bm uD Fz uA [2] Od
theorem uE:Aj prog A9v:=okB uG func28 A9u
abbrev uz:=List (B4)×Int×Unit
abbrev uo:=Int×List Int×Unit
abbrev ur:=List Int×Unit
def He (i:uz)(v:uo)(R:Type)(K:uo ⊕ ur->Option R):Option R:=bif decide (v.1<=9)then if(v.2.1++[-1]).length<=4398046511104 then K (.inl (zXq.wrap (v.1+1),v.2.1++[-1],()))else none else K (.inr (v.2.1,()))
theorem PF:AW He:=fun i v R K=>Ad (Ar (Aa)) (Aa)
def bl:Tmpl:=⟨(.slot (.slice AZ) (.slot .i (jk 3 (.own 0 (.slot .i (jk 66 .nil)))))),(.lst false .i .nil)⟩
def ul:Exs uz ur:=x1 (.exit 0) fun i p=>⟨AV.pv (.slice AZ) i.1::.n (i.2.1)::jn 3 (AV.own 0 none none::jn 67 ([])),[some (Cont.lst false (Ty.int zXq) p.1)]⟩
def uw:=((.i (.i (.v (.v .n)))):Pk bl.ty _ _)
abbrev fg:=List (B4)×Int×Int×Unit
abbrev fc:=Int×List Int×Unit
abbrev fe:=List Int×Unit
def F8 (i:fg)(v:fc)(R:Type)(K:fc ⊕ fe->Option R):Option R:=bif decide (v.1<(i.1.length:Int))then(lAt i.1 v.1).bind fun a=>if 0<=a.1/\a.1<(v.2.1.length:Int)then v.2.1[0+a.1.toNat]?.bind fun b=>bif decide (b<0)then bif i.2.2.1==1 then(lAt i.1 v.1).bind fun c=>bif c.2.1==i.2.1 then if 0<=a.1/\a.1<(v.2.1.length:Int)then v.2.1[0+a.1.toNat]?.bind fun d=>K (.inl (zXq.wrap (v.1+1),v.2.1.set (0+a.1.toNat) i.2.2.1,()))else none else bif decide (i.2.2.1>1)then(lAt i.1 v.1).bind fun d=>if 0<=d.2.1/\d.2.1<(v.2.1.length:Int)then v.2.1[0+d.2.1.toNat]?.bind fun e=>bif e==zXq.wrap (i.2.2.1-1)then if 0<=a.1/\a.1<(v.2.1.length:Int)then v.2.1[0+a.1.toNat]?.bind fun f=>K (.inl (zXq.wrap (v.1+1),v.2.1.set (0+a.1.toNat) i.2.2.1,()))else none else K (.inl (zXq.wrap (v.1+1),v.2.1,()))else none else K (.inl (zXq.wrap (v.1+1),v.2.1,()))else bif decide (i.2.2.1>1)then(lAt i.1 v.1).bind fun c=>if 0<=c.2.1/\c.2.1<(v.2.1.length:Int)then v.2.1[0+c.2.1.toNat]?.bind fun d=>bif d==zXq.wrap (i.2.2.1-1)then if 0<=a.1/\a.1<(v.2.1.length:Int)then v.2.1[0+a.1.toNat]?.bind fun e=>K (.inl (zXq.wrap (v.1+1),v.2.1.set (0+a.1.toNat) i.2.2.1,()))else none else K (.inl (zXq.wrap (v.1+1),v.2.1,()))else none else K (.inl (zXq.wrap (v.1+1),v.2.1,()))else K (.inl (zXq.wrap (v.1+1),v.2.1,()))else none else K (.inr (v.2.1,()))
theorem Pi:AW F8:=fun i v R K=>Ad (Ac fun _=>Ar (Ac fun _=>Ad (Ad (Ac fun _=>Ad (Ar (Ac fun _=>Aa)) (Ad (Ac fun _=>Ar (Ac fun _=>Ad (Ar (Ac fun _=>Aa)) (Aa))) (Aa))) (Ad (Ac fun _=>Ar (Ac fun _=>Ad (Ar (Ac fun _=>Aa)) (Aa))) (Aa))) (Aa))) (Aa)
def Uk:Tmpl:=⟨(.slot (.slice AZ) (.slot .i (jk 3 (.own 0 (.junk (si 2 (jk 64 .nil))))))),(.lst false .i .nil)⟩
def fb:Exs fg fe:=x1 (.exit 4) fun i p=>⟨AV.pv (.slice AZ) i.1::.n (i.2.1)::jn 3 (AV.own 0 none none::jn 1 (.n (i.2.2.1)::jn 65 ([]))),[some (Cont.lst false .i p.1)]⟩
def ff:=((.i (.i (.i (.v (.v .n))))):Pk Uk.ty _ _)
abbrev uy:=List (B4)×Int×Unit
abbrev um:=Int×List Int×Unit
abbrev uq:=List Int×Unit
def Hc (i:uy)(v:um)(R:Type)(K:um ⊕ uq->Option R):Option R:=bif decide (v.1<=9)then(Au (fun a=>F8 (i.1,i.2.1,v.1,()) a _ some) (0,v.2.1,())).bind fun p=>K (.inl (zXq.wrap (v.1+1),p.1,()))else K (.inr (v.2.1,()))
theorem PE:AW Hc:=fun i v R K=>Ad (Ac fun _=>Aa) (Aa)
def bk:Tmpl:=⟨(.slot (.slice AZ) (.slot .i (jk 3 (.own 0 (.junk (.slot .i (jk 65 .nil))))))),(.lst false .i .nil)⟩
def uk:Exs uy uq:=x1 (.exit 2) fun i p=>⟨jn 5 (AV.own 0 none none::jn 67 ([])),[some (Cont.lst false .i p.1)]⟩
def uv:=((.i (.i (.v (.v .n)))):Pk bk.ty _ _)
def fi:Cfg:={ti:=Az,ents:=[],ann:=[(3,Ao bl 0 (spP uw) He ul.E),(10,Ao Uk 0 (spP ff) F8 fb.E),(7,Ao bk 0 (spP uv) Hc uk.E)],lent:=0}
def Jz (x:List (B4)×Int×Unit):Option (List Int×Unit):=(Au (fun v=>He (x.1,x.2.1,()) v _ some) (0,[],())).bind fun p=>(Au (fun v=>Hc (x.1,x.2.1,()) v _ some) (1,p.1,())).bind fun p=>some (p.1,())
def fh:Ent:=⟨64,⟨(.slot (.slice AZ) (.slot .i .nil)),.nil⟩,⟨(.own 0 .nil),(.lst false .i .nil)⟩,Jz⟩
theorem Ul:CfgOK prog fi:=hcB all_nil
theorem Xc:AN prog fi (lpc f64 2):=lkA Ul Uk ff F8 fb [0,1,5,7] Pi
theorem A9s:AN prog fi (lpc f64 1):=lkB Ul bk uv Hc uk [5] PE Xc
theorem A9t:AN prog fi (lpc f64 0):=lkA Ul bl uw He ul [0,1,5] PF
theorem ux:Aj prog fh:=ME Ul func64 3 (by kernel_rfl) (fun k hk=>match k,hk with|0,_=>A9t|1,_=>A9s|2,_=>Xc) (by kernel_rfl) (by kernel_rfl) (fun x=>by kernel_rfl)
def GV (x:List (B4)×Int×Int×Unit):Option (Int×Unit):=(Ic (x.1,())).bind fun v=>bif !v.1 then some (-1,())else(Al (x.2.1,1,9,())).bind fun v=>bif !v.1 then some (-1,())else(Al (x.2.2.1,1,9,())).bind fun v=>bif !v.1 then some (-1,())else(Jz (x.1,x.2.2.1,())).bind fun v=>if 0<=x.2.1/\x.2.1<(v.1.length:Int)then v.1[0+x.2.1.toNat]?.bind fun v=>some (v,())else none
def fa:Ent:=⟨63,⟨(.slot (.slice AZ) (si 2 .nil)),.nil⟩,⟨(.slot .i .nil),.nil⟩,GV⟩
theorem Ajt:Aj prog fa:=okA (hcA 0 (all_cons uE (all_cons Lb (all_cons ux all_nil)))) func63
abbrev ug:=List (B4)×Int×Int×Unit
abbrev ud:=Int×Unit
abbrev ue:=Unit ⊕ Unit
def F9 (i:ug)(v:ud)(R:Type)(K:ud ⊕ ue->Option R):Option R:=bif decide (v.1<(i.1.length:Int))then(lAt i.1 v.1).bind fun a=>bif a.1==i.2.1 then(lAt i.1 v.1).bind fun b=>bif b.2.1==i.2.2.1 then K (.inr (.inl ()))else K (.inl (zXq.wrap (v.1+1),()))else K (.inl (zXq.wrap (v.1+1),()))else K (.inr (.inr ()))
theorem Po:AW F9:=fun i v R K=>Ad (Ac fun _=>Ad (Ac fun _=>Ad (Aa) (Aa)) (Aa)) (Aa)
def bj:Tmpl:=⟨(.slot (.slice AZ) (si 2 (jk 4 (.slot .i (jk 22 .nil))))),.nil⟩
def uc:Exs ug ue:=xs .ret (fun i p=>⟨jn 6 (.b (true)::jn 23 ([])),[]⟩)<|x1 (.exit 0) fun i p=>⟨jn 30 ([]),[]⟩
def uf:=((.i (.i (.i (.v .n)))):Pk bj.ty _ _)
def Ahd:Cfg:={ti:=Az,ents:=[],ann:=[(2,Ao bj 0 (spP uf) F9 uc.E)],lent:=0}
def K6 (x:List (B4)×Int×Int×Unit):Option (Bool×Unit):=(Au (fun v=>F9 (x.1,x.2.1,x.2.2.1,()) v _ some) (0,())).bind fun p=>Ap p (fun p=>some (true,())) fun p=>some (false,())
def eZ:Ent:=⟨65,⟨(.slot (.slice AZ) (si 2 .nil)),.nil⟩,⟨(.slot .bool .nil),.nil⟩,K6⟩
theorem uh:CfgOK prog Ahd:=hcB all_nil
theorem A9r:AN prog Ahd (lpc f65 0):=lkA uh bj uf F9 uc [6] Po
theorem Ajs:Aj prog eZ:=okB uh func65 A9r
abbrev ub:=List (B4)×Unit
abbrev tY:=B3
abbrev tZ:=Int×Int×Unit
def C7 (i:ub)(v:tY)(R:Type)(K:tY ⊕ tZ->Option R):Option R:=bif decide (v.2.2.1<=9)then(GV (i.1,v.2.2.1,v.2.2.1,())).bind fun a=>bif decide (a.1>0)then bif decide (v.2.1<0)then K (.inl (v.2.2.1,a.1,zXq.wrap (v.2.2.1+1),()))else bif decide (a.1<v.2.1)then K (.inl (v.2.2.1,a.1,zXq.wrap (v.2.2.1+1),()))else K (.inl (v.1,v.2.1,zXq.wrap (v.2.2.1+1),()))else K (.inl (v.1,v.2.1,zXq.wrap (v.2.2.1+1),()))else K (.inr (v.1,v.2.1,()))
theorem LO:AW C7:=fun i v R K=>Ad (Ac fun _=>Ad (Ad (Aa) (Ad (Aa) (Aa))) (Aa)) (Aa)
def bi:Tmpl:=⟨(.slot (.slice AZ) (jk 2 (si 3 (jk 64 .nil)))),.nil⟩
def tX:Exs ub tZ:=x1 (.exit 0) fun i p=>⟨AV.pv (.slice AZ) i.1::jn 2 (.n (p.1)::.n (p.2.1)::jn 65 ([])),[]⟩
def ua:=((.i (.v (.v (.v .n)))):Pk bi.ty _ _)
abbrev eV:=List (B4)×Int×Int×List Int×List Int×Unit
abbrev eM:=Int×Unit
abbrev eP:=Int×List Int×List Int×Unit ⊕ Unit
def D1 (i:eV)(v:eM)(R:Type)(K:eM ⊕ eP->Option R):Option R:=bif decide (v.1<=9)then(K6 (i.1,i.2.1,v.1,())).bind fun a=>bif a.1 then if 0<=v.1/\v.1<(i.2.2.2.1.length:Int)then i.2.2.2.1[0+v.1.toNat]?.bind fun b=>bif b==i.2.2.1 then if(i.2.2.2.2.1++[v.1]).length<=4398046511104 then K (.inr (.inl (v.1,[v.1],i.2.2.2.2.1++[v.1],())))else none else K (.inl (zXq.wrap (v.1+1),()))else none else K (.inl (zXq.wrap (v.1+1),()))else K (.inr (.inr ()))
theorem Lv:AW D1:=fun i v R K=>Ad (Ac fun _=>Ad (Ar (Ac fun _=>Ad (Ar (Aa)) (Aa))) (Aa)) (Aa)
def Uh:Tmpl:=⟨(.slot (.slice AZ) (jk 6 (.own 0 (.own 1 (si 3 (jk 58 .nil)))))),(.lst false .i (.lst false .i .nil))⟩
def eK:Exs eV eP:=xs (.exit 4) (fun i p=>⟨AV.pv (.slice AZ) i.1::jn 6 (AV.own 0 none none::AV.own 3 none none::.n (p.1)::.n (i.2.2.1)::jn 59 ([])),[some (Cont.lst false .i i.2.2.2.1),some Cont.dead,some (Cont.lst false .i p.2.1),some (Cont.lst false .i p.2.2.1)]⟩)<|x1 (.exit 4) fun i p=>⟨AV.pv (.slice AZ) i.1::jn 6 (AV.own 0 none none::AV.own 1 none none::.n (i.2.1)::.n (i.2.2.1)::jn 59 ([])),[some (Cont.lst false .i i.2.2.2.1),some (Cont.lst false .i i.2.2.2.2.1)]⟩
def eT:=((.i (.i (.i (.v (.i (.i .n)))))):Pk Uh.ty _ _)
abbrev eX:=List (B4)×List Int×Unit
abbrev eN:=Int×Int×List Int×Unit
abbrev eS:=List Int×Unit
def BR (i:eX)(v:eN)(R:Type)(K:eN ⊕ eS->Option R):Option R:=bif decide (v.2.1>0)then(Au (fun a=>D1 (i.1,v.1,v.2.1,i.2.1,v.2.2.1,()) a _ some) (1,())).bind fun p=>Ap p (fun p=>K (.inl (p.1,zXq.wrap (v.2.1-1),p.2.2.1,()))) fun p=>K (.inl (v.1,zXq.wrap (v.2.1-1),v.2.2.1,()))else K (.inr (v.2.2.1,()))
theorem Lw:AW BR:=fun i v R K=>Ad (Ac fun _=>KH (fun _=>Aa) (fun _=>Aa)) (Aa)
def Ui:Tmpl:=⟨(.slot (.slice AZ) (jk 6 (.own 0 (.own 1 (si 2 (jk 59 .nil)))))),(.lst false .i (.lst false .i .nil))⟩
def eL:Exs eX eS:=x1 (.exit 2) fun i p=>⟨jn 8 (AV.own 1 none none::jn 61 ([])),[some (Cont.lst false .i i.2.1),some (Cont.lst false .i p.1)]⟩
def eU:=((.i (.v (.v (.i (.v .n))))):Pk Ui.ty _ _)
def eY:Cfg:={ti:=Az,ents:=[fa,fh,eZ],ann:=[(4,Ao bi 0 (spP ua) C7 tX.E),(19,Ao Uh 0 (spP eT) D1 eK.E),(16,Ao Ui 0 (spP eU) BR eL.E)],lent:=0}
def Gp (x:List (B4)×Unit):Option (List Int×Unit):=(Au (fun v=>C7 (x.1,()) v _ some) (0,-1,1,())).bind fun p=>bif decide (p.2.1<0)then some ([],())else(Jz (x.1,p.1,())).bind fun v=>(Au (fun a=>BR (x.1,v.1,()) a _ some) (p.1,zXq.wrap (p.2.1-1),[p.1],())).bind fun p=>some (p.1,())
def A9q:Ent:=⟨29,⟨(.slot (.slice AZ) .nil),.nil⟩,⟨(.own 0 .nil),(.lst false .i .nil)⟩,Gp⟩
theorem Uj:CfgOK prog eY:=hcB (all_cons Ajt (all_cons ux (all_cons Ajs all_nil)))
theorem Xb:AN prog eY (lpc f29 2):=lkA Uj Uh eT D1 eK [0,7,8,9,10] Lv
theorem tW:AN prog eY (lpc f29 1):=lkB Uj Ui eU BR eL [8] Lw Xb
theorem A9p:AN prog eY (lpc f29 0):=lkA Uj bi ua C7 tX [0,3,4] LO
theorem Ajr:Aj prog A9q:=ME Uj func29 3 (by kernel_rfl) (fun k hk=>match k,hk with|0,_=>A9p|1,_=>tW|2,_=>Xb) (by kernel_rfl) (by kernel_rfl) (fun x=>by kernel_rfl)
def Je (x:List (B4)×Unit):Option (Bool×Unit):=(Ic (x.1,())).bind fun v=>bif v.1 then(Gp (x.1,())).bind fun v=>some ((v.1.length:Int)==0,())else some (false,())
def A9o:Ent:=⟨13,⟨(.slot (.slice AZ) .nil),.nil⟩,⟨(.slot .bool .nil),.nil⟩,Je⟩
theorem Ajq:Aj prog A9o:=okA (hcA 0 (all_cons uE (all_cons Ajr all_nil))) func13
def EU (x:List (List A6)×Unit):Option (Int×Int×Bool×Unit):=(FL (x.1,())).bind fun v=>bif !v.1 then some (0,0,false,())else(IU (true,x.1,())).bind fun v=>(IU (false,x.1,())).bind fun a=>(Ei ((v.1,(v.2.2.1,()),v.2.2.2.2.1,v.2.2.2.2.2.1,v.2.2.2.2.2.2.1,v.2.1,()),2,())).bind fun v=>(Ei ((a.1,(a.2.2.1,()),a.2.2.2.2.1,a.2.2.2.2.2.1,a.2.2.2.2.2.2.1,a.2.1,()),2,())).bind fun b=>(Jf ((a.1,(a.2.2.1,()),a.2.2.2.2.1,a.2.2.2.2.2.1,a.2.2.2.2.2.2.1,a.2.1,()),())).bind fun c=>(IJ (c.1,())).bind fun d=>(Je (d.1,())).bind fun e=>some ((v.1.length:Int),(b.1.length:Int),e.1,())
def A9n:Ent:=⟨5,⟨(.slot (.slice (.slice YOp)) .nil),.nil⟩,⟨(si 2 (.slot .bool .nil)),.nil⟩,EU⟩
theorem Ajp:Aj prog A9n:=okA (hcA 0 (all_cons Aha (all_cons Ak4 (all_cons Ak3 (all_cons Ak1 (all_cons Ajv (all_cons Ajq all_nil))))))) func5
def BJ (x:B3):Option (Bool×Unit):=bif decide (x.2.1<=x.1)then some (decide (x.1<=x.2.2.1),())else some (false,())
def RH:Ent:=⟨75,⟨(si 3 .nil),.nil⟩,⟨(.slot .bool .nil),.nil⟩,BJ⟩
theorem L3:Aj prog RH:=okA (hcA 0 all_nil) func75
def Gj (x:Int×Unit):Option (Bool×Unit):=(BJ (x.1,1,4,())).bind fun v=>some (v.1,())
def A9m:Ent:=⟨133,⟨(.slot .i .nil),.nil⟩,⟨(.slot .bool .nil),.nil⟩,Gj⟩
theorem tV:Aj prog A9m:=okA (hcA 0 (all_cons L3 all_nil)) func133
def BB (x:Int×Unit):Option (Bool×Unit):=(BJ (x.1,1,9,())).bind fun v=>some (v.1,())
def Qg:Ent:=⟨88,⟨(.slot .i .nil),.nil⟩,⟨(.slot .bool .nil),.nil⟩,BB⟩
theorem M5:Aj prog Qg:=okA (hcA 0 (all_cons L3 all_nil)) func88
def DX (x:Int×Unit):Option (Bool×Unit):=(BJ (x.1,0,5,())).bind fun v=>some (v.1,())
def Qf:Ent:=⟨89,⟨(.slot .i .nil),.nil⟩,⟨(.slot .bool .nil),.nil⟩,DX⟩
theorem QQ:Aj prog Qf:=okA (hcA 0 (all_cons L3 all_nil)) func89
def Hu (x:Int×Unit):Option (Bool×Unit):=(BJ (x.1,-1,99,())).bind fun v=>some (v.1,())
def eJ:Ent:=⟨134,⟨(.slot .i .nil),.nil⟩,⟨(.slot .bool .nil),.nil⟩,Hu⟩
theorem bh:Aj prog eJ:=okA (hcA 0 (all_cons L3 all_nil)) func134
def FD (x:A6×Unit):Option (Bool×Unit):=bif x.1.1==1 then(Gj (x.1.2.2.1,())).bind fun v=>(BJ (x.1.1,1,6,())).bind fun a=>bif a.1 then(BB (x.1.2.1,())).bind fun b=>bif b.1 then bif v.1 then some (0==0&&(0==0&&(0==0&&(x.1.2.2.2.1==0&&(x.1.2.2.2.2.1==0&&(x.1.2.2.2.2.2.1==0&&true))))),())else some (false,())else some (false,())else some (false,())else bif x.1.1==2 then(DX (x.1.2.2.2.1,())).bind fun v=>(BJ (x.1.1,1,6,())).bind fun a=>bif a.1 then(BB (x.1.2.1,())).bind fun b=>bif b.1 then bif v.1 then some (0==0&&(0==0&&(x.1.2.2.1==0&&(0==0&&(x.1.2.2.2.2.1==0&&(x.1.2.2.2.2.2.1==0&&true))))),())else some (false,())else some (false,())else some (false,())else bif x.1.1==3 then(DX (x.1.2.2.2.1,())).bind fun v=>bif v.1 then(Hu (x.1.2.2.2.2.2.1,())).bind fun v=>(BJ (x.1.1,1,6,())).bind fun a=>bif a.1 then(BB (x.1.2.1,())).bind fun b=>bif b.1 then bif v.1 then some (0==0&&(0==0&&(x.1.2.2.1==0&&(0==0&&(x.1.2.2.2.2.1==0&&(0==0&&true))))),())else some (false,())else some (false,())else some (false,())else(BJ (x.1.1,1,6,())).bind fun v=>bif v.1 then(BB (x.1.2.1,())).bind fun v=>bif v.1 then some (false,())else some (false,())else some (false,())else bif x.1.1==4 then(DX (x.1.2.2.2.1,())).bind fun v=>bif v.1 then(BJ (x.1.2.2.2.2.1,x.1.2.2.2.1,5,())).bind fun v=>(BJ (x.1.1,1,6,())).bind fun a=>bif a.1 then(BB (x.1.2.1,())).bind fun b=>bif b.1 then bif v.1 then some (0==0&&(0==0&&(x.1.2.2.1==0&&(0==0&&(0==0&&(x.1.2.2.2.2.2.1==0&&true))))),())else some (false,())else some (false,())else some (false,())else(BJ (x.1.1,1,6,())).bind fun v=>bif v.1 then(BB (x.1.2.1,())).bind fun v=>bif v.1 then some (false,())else some (false,())else some (false,())else(BJ (x.1.1,1,6,())).bind fun v=>bif v.1 then(BB (x.1.2.1,())).bind fun v=>bif v.1 then some (0==0&&(0==0&&(x.1.2.2.1==0&&(x.1.2.2.2.1==0&&(x.1.2.2.2.2.1==0&&(x.1.2.2.2.2.2.1==0&&true))))),())else some (false,())else some (false,())
def eI:Ent:=⟨76,⟨(.slot YOp .nil),.nil⟩,⟨(.slot .bool .nil),.nil⟩,FD⟩
theorem Ajm:Aj prog eI:=okA (hcA 0 (all_cons tV (all_cons L3 (all_cons M5 (all_cons QQ (all_cons bh all_nil)))))) func76
abbrev tO:=List A6×List A6×Int×Unit
abbrev tL:=Int×Unit
abbrev tM:=A6 ⊕ A6 ⊕ A6 ⊕ A6 ⊕ A6 ⊕ A6 ⊕ A6 ⊕ A6 ⊕ Unit
def F5 (i:tO)(v:tL)(R:Type)(K:tL ⊕ tM->Option R):Option R:=bif decide (v.1<i.2.2.1)then(lAt i.2.1 v.1).bind fun a=>bif a.1==5 then(FD ((a.1,a.2.1,a.2.2.1,a.2.2.2.1,a.2.2.2.2.1,a.2.2.2.2.2.1,()),())).bind fun b=>bif !b.1 then K (.inr (.inl (a.1,a.2.1,a.2.2.1,a.2.2.2.1,a.2.2.2.2.1,a.2.2.2.2.2.1,())))else(lAt i.1 0).bind fun c=>bif a.2.1 != c.2.1 then K (.inr (.inr (.inl (a.1,a.2.1,a.2.2.1,a.2.2.2.1,a.2.2.2.2.1,a.2.2.2.2.2.1,()))))else bif !(a.1==1)==(v.1==0)then K (.inr (.inr (.inr (.inl (a.1,a.2.1,a.2.2.1,a.2.2.2.1,a.2.2.2.2.1,a.2.2.2.2.2.1,())))))else bif !true==(v.1==zXq.wrap ((i.1.length:Int)-1))then K (.inr (.inr (.inr (.inr (.inl (a.1,a.2.1,a.2.2.1,a.2.2.2.1,a.2.2.2.2.1,a.2.2.2.2.2.1,()))))))else K (.inl (zXq.wrap (v.1+1),()))else(FD ((a.1,a.2.1,a.2.2.1,a.2.2.2.1,a.2.2.2.2.1,a.2.2.2.2.2.1,()),())).bind fun b=>bif !b.1 then K (.inr (.inr (.inr (.inr (.inr (.inl (a.1,a.2.1,a.2.2.1,a.2.2.2.1,a.2.2.2.2.1,a.2.2.2.2.2.1,())))))))else(lAt i.1 0).bind fun c=>bif a.2.1 != c.2.1 then K (.inr (.inr (.inr (.inr (.inr (.inr (.inl (a.1,a.2.1,a.2.2.1,a.2.2.2.1,a.2.2.2.2.1,a.2.2.2.2.2.1,()))))))))else bif !(a.1==1)==(v.1==0)then K (.inr (.inr (.inr (.inr (.inr (.inr (.inr (.inl (a.1,a.2.1,a.2.2.1,a.2.2.2.1,a.2.2.2.2.1,a.2.2.2.2.2.1,())))))))))else bif !(a.1==6)==(v.1==zXq.wrap ((i.1.length:Int)-1))then K (.inr (.inr (.inr (.inr (.inr (.inr (.inr (.inr (.inl (a.1,a.2.1,a.2.2.1,a.2.2.2.1,a.2.2.2.2.1,a.2.2.2.2.2.1,()))))))))))else K (.inl (zXq.wrap (v.1+1),()))else K (.inr (.inr (.inr (.inr (.inr (.inr (.inr (.inr (.inr ())))))))))
theorem O0:AW F5:=fun i v R K=>Ad (Ac fun _=>Ad (Ac fun _=>Ad (Aa) (Ac fun _=>Ad (Aa) (Ad (Aa) (Ad (Aa) (Aa))))) (Ac fun _=>Ad (Aa) (Ac fun _=>Ad (Aa) (Ad (Aa) (Ad (Aa) (Aa)))))) (Aa)
def bg:Tmpl:=⟨(.slot (.slice YOp) (jk 9 (.slot (.slice YOp) (si 2 (jk 42 .nil))))),.nil⟩
def tK:Exs tO tM:=xs .ret (fun i p=>⟨jn 2 (.b (false)::jn 52 ([])),[some (Cont.cells 6 [[AV.pv .i p.1,AV.pv .i p.2.1,AV.pv .i p.2.2.1,AV.pv .i p.2.2.2.1,AV.pv .i p.2.2.2.2.1,AV.pv .i p.2.2.2.2.2.1]])]⟩)<|xs .ret (fun i p=>⟨jn 2 (.b (false)::jn 52 ([])),[some (Cont.cells 6 [[AV.pv .i p.1,AV.pv .i p.2.1,AV.pv .i p.2.2.1,AV.pv .i p.2.2.2.1,AV.pv .i p.2.2.2.2.1,AV.pv .i p.2.2.2.2.2.1]])]⟩)<|xs .ret (fun i p=>⟨jn 2 (.b (false)::jn 52 ([])),[some (Cont.cells 6 [[AV.pv .i p.1,AV.pv .i p.2.1,AV.pv .i p.2.2.1,AV.pv .i p.2.2.2.1,AV.pv .i p.2.2.2.2.1,AV.pv .i p.2.2.2.2.2.1]])]⟩)<|xs .ret (fun i p=>⟨jn 2 (.b (false)::jn 52 ([])),[some (Cont.cells 6 [[AV.pv .i p.1,AV.pv .i p.2.1,AV.pv .i p.2.2.1,AV.pv .i p.2.2.2.1,AV.pv .i p.2.2.2.2.1,AV.pv .i p.2.2.2.2.2.1]])]⟩)<|xs .ret (fun i p=>⟨jn 2 (.b (false)::jn 52 ([])),[some (Cont.cells 6 [[AV.pv .i p.1,AV.pv .i p.2.1,AV.pv .i p.2.2.1,AV.pv .i p.2.2.2.1,AV.pv .i p.2.2.2.2.1,AV.pv .i p.2.2.2.2.2.1]])]⟩)<|xs .ret (fun i p=>⟨jn 2 (.b (false)::jn 52 ([])),[some (Cont.cells 6 [[AV.pv .i p.1,AV.pv .i p.2.1,AV.pv .i p.2.2.1,AV.pv .i p.2.2.2.1,AV.pv .i p.2.2.2.2.1,AV.pv .i p.2.2.2.2.2.1]])]⟩)<|xs .ret (fun i p=>⟨jn 2 (.b (false)::jn 52 ([])),[some (Cont.cells 6 [[AV.pv .i p.1,AV.pv .i p.2.1,AV.pv .i p.2.2.1,AV.pv .i p.2.2.2.1,AV.pv .i p.2.2.2.2.1,AV.pv .i p.2.2.2.2.2.1]])]⟩)<|xs .ret (fun i p=>⟨jn 2 (.b (false)::jn 52 ([])),[some (Cont.cells 6 [[AV.pv .i p.1,AV.pv .i p.2.1,AV.pv .i p.2.2.1,AV.pv .i p.2.2.2.1,AV.pv .i p.2.2.2.2.1,AV.pv .i p.2.2.2.2.2.1]])]⟩)<|x1 (.exit 0) fun i p=>⟨jn 55 ([]),[]⟩
def tN:=((.i (.i (.i (.v .n)))):Pk bg.ty _ _)
def Ah1:Cfg:={ti:=Az,ents:=[RH,eI],ann:=[(4,Ao bg 0 (spP tN) F5 tK.E)],lent:=0}
def HA (x:List A6×Unit):Option (Bool×Unit):=(BJ ((x.1.length:Int),2,12,())).bind fun v=>bif !v.1 then some (false,())else(Au (fun v=>F5 (x.1,x.1,(x.1.length:Int),()) v _ some) (0,())).bind fun p=>Ap p (fun p=>some (false,())) fun p=>Ap p (fun p=>some (false,())) fun p=>Ap p (fun p=>some (false,())) fun p=>Ap p (fun p=>some (false,())) fun p=>Ap p (fun p=>some (false,())) fun p=>Ap p (fun p=>some (false,())) fun p=>Ap p (fun p=>some (false,())) fun p=>Ap p (fun p=>some (false,())) fun p=>some (true,())
def eH:Ent:=⟨37,⟨(.slot (.slice YOp) .nil),.nil⟩,⟨(.slot .bool .nil),.nil⟩,HA⟩
theorem tP:CfgOK prog Ah1:=hcB (all_cons L3 (all_cons Ajm all_nil))
theorem A9l:AN prog Ah1 (lpc f37 0):=lkA tP bg tN F5 tK [2] O0
theorem Ajl:Aj prog eH:=okB tP func37 A9l
section
open Go.RowKit Go.Proofs Go.Maps Go.WideShapes
set_option maxHeartbeats 4000000 in
set_option maxRecDepth 100000 in
theorem tI {S:List (den YOp)×Unit->Option (Bool×Unit)}(hg:Aj prog ⟨37,⟨.slot (.slice YOp) .nil,.nil⟩,⟨.slot .bool .nil,.nil⟩,S⟩){I:Nat->Prop}{w:World}(hI:∀b,I b->b<w.heap.size){x:List (List (den YOp))}(hx:x.length<4611686018427387904){v:Value}(hr:B5 I w (.slice (.slice YOp)) x [v]){r:Bool}(hS:aM S [] x=some r):
 Calls prog 17 #[v] w fun e w'=>e=.returned (.bool (r&&decide ((x.length:Int)<=6)))/\Grow w w':=by
 have hr0:=hr
 simp only[B5]at hr
 obtain⟨A,c,hv,hlc,-⟩:=hr
 obtain rfl:v=.slice A x.length c:=by simpa using hv
 have hels:∀i (hi:i<x.length),∃b o,A=some ⟨b,o,none⟩/\b<w.heap.size/\∃u,B5 I w (.slice YOp) x[i] [u]/\IM w b (o+i) [u]:=by
  intro i hi
  have h2:=hr0
  rw[B5]at h2
  obtain⟨A',c',e1,e2,h3⟩:=h2
  obtain⟨b,o,e3,e4,h5⟩:=h3 (by omega)
  obtain⟨cs,e5,e6,e7⟩:=h5 i hi
  have e8:cs.length=1:=e5
  obtain⟨u,rfl⟩:=List.length_eq_one_iff.1 e8
  refine⟨b,o,?_,hI b e4,u,e6,by simpa[Ty.size]using e7⟩
  have:A=A'/\c=c':=by simpa using e1
  rw[this.1];exact e3
 clear hr0 hv
 have law3:Keyed prog 3:=int_keyed underlying3
 have hmm:=@run_makeMap prog
 have u83:prog.underlying 83=some (.map 3 4):=underlying83
 have hz4:∀w,(zeroValue 4).run prog w=.ok (.bool false) w:=zeroValue4
 obtain⟨⟨gfn,hgf,hgn,hgb⟩,hgspec⟩:=id hg
 have eg:∀args w,(callFunc 37 args).run prog w=.ok (.enter 37 args) w:=by
  cases hb:gfn.body with
  |none=>rw[hb]at hgb;cases hgb
  |some c=>exact enters_of hgf hgn hb
 clear hgspec hgf hgn hgb
 go_enter func17,ntmps17
 go_wp2
 go_loopw [9] (fun i wr=>∃k:Nat,k<=x.length/\i=.int .i64 k/\∃(known:List Int) (D:DataW Unit),aM S known (x.drop k)=some r/\WO known D/\wr.ownsMap prog 3 (plainElem prog 4) w.heap.size k D/\Grow w wr)
  (fun i _=>x.length-(RowKit.intOf i).toNat)
 case atStart=>exact⟨0,Nat.zero_le _,rfl,[],.map [],hS,sk,World.ownsMap_made _ _ _ _,⟨rfl,rfl,⟨rfl,Nat.le_refl _⟩,by show _<=(w.heap.push _).size;simp,fun b hb=>Below.heap_alloc w _ b hb⟩⟩
 case round=>
  obtain⟨k,hk,rfl,known,D,hG,hD,hown,hgr⟩:=hrel
  by_cases hlt:k<x.length
  ·rw[List.drop_eq_getElem_cons hlt]at hG
   obtain⟨b0,o0,rfl,hb0,u,hu,hcu⟩:=hels k hlt
   unfold aM at hG
   obtain⟨⟨bb,_⟩,hSb,hG⟩:=Option.bind_eq_some_iff.1 hG
   have hstab:Tj I w I wr:=fun b hb=>⟨hb,hgr.blk b (hI b hb)⟩
   have hcell:wr.cell? ⟨b0,o0+k,none⟩=some u:=by simpa using sr hgr hb0 hcu 0 (by simp)
   have hcall:=rG (w:=wr) hg (fun b hb=>Nat.lt_of_lt_of_le (hI b hb) hgr.size) (hu.mono hstab) hSb
   cases bb with
   |false=>
    simp only[Bool.not_false,cond_true,Option.some.injEq]at hG
    subst hG
    go_wp2_with (go_at_call 37;refine hcall.mono ?_;rintro e w1 ⟨rfl,hg1⟩)
    go_ret
    exact⟨rfl,hgr.trans hg1⟩
   |true=>
    simp only[Bool.not_true,cond_false]at hG
    obtain⟨l,hl⟩:∃l,l=x[k]:=⟨_,rfl⟩
    rw[<-hl]at hu hG
    cases l with
    |nil=>cases hG
    |cons op l=>
     simp only at hG
     have hu':=hu
     rw[B5]at hu'
     obtain⟨A1,c1,e1,e2,h3⟩:=hu'
     obtain rfl:u=.slice A1 (op::l).length c1:=by simpa using e1
     obtain⟨b1,o1,rfl,hb1,h5⟩:=h3 (by simp)
     obtain⟨cs,e5,e6,e7⟩:=h5 0 (by simp)
     have e8:=RC YOp rfl e6
     simp only[List.getElem_cons_zero]at e8
     subst e8
     simp only[Nat.zero_mul,Nat.add_zero]at e7
     have hidw:w.cell? ⟨b1,o1+1,none⟩=some (.int .i64 op.2.1):=e7 1 (by rw[e5];decide)
     have hb1w:=hI b1 hb1
     have hlen:0<(op::l).length:=by simp
     obtain⟨m,hm⟩:∃m,m=(op::l).length:=⟨_,rfl⟩
     rw[<-hm]at hcell hlen hu hcall
     obtain⟨id,hid⟩:∃id,id=op.2.1:=⟨_,rfl⟩
     rw[<-hid]at hidw hG
     have hidc:∀W,Grow w W->W.cell? ⟨b1,o1+1,none⟩=some (.int .i64 id):=fun W G=>by
      rw[<-hidw];simp only[World.cell?];rw[G.blk b1 hb1w]
     split at hG
     case isFalse=>cases hG
     rename_i hwf
     have hkey:keyOf prog 3 (.int .i64 id)=some (.int .i64 id):=keyOf_int_mk underlying3 (WalkArith.wf_i64 (by omega))
     have hlook:∀W,Grow wr W->(Instr.lookup 83 (.map (some w.heap.size)) (.int .i64 id) false).run prog W=.ok (.bool (known.contains id)) W:=fun W G=>by
      obtain⟨v,ps,hrun,hv⟩:=(TP hown G).lookup law3 u83 (hz4 W) (plainElem_bool underlying4 false) hkey
      obtain⟨b',rfl,hb'⟩:=PS underlying4 hv
      rw[hD.2]at hb'
      simp only[Prod.mk.injEq,DataW.lit.injEq,Lit.bool.injEq]at hb'
      rw[hb'.1];exact hrun
     clear hels hl hu e1 e2 h3 h5 e5 e6 e7 hmm hSb hid hm hidw
     cases hc:known.contains id with
     |true=>
      rw[hc]at hG hlook
      simp only[cond_true,Option.some.injEq]at hG
      subst hG
      go_wp2_with (go_at_call 37;refine hcall.mono ?_;rintro e w1 ⟨rfl,hg1⟩;have hlk:=hlook w1 hg1;have hic:=hidc w1 (hgr.trans hg1))
      go_ret
      exact⟨rfl,hgr.trans hg1⟩
     |false=>
      rw[hc]at hG hlook
      simp only[cond_false]at hG
      go_wp2_with (first
       |(go_at_call 37;refine hcall.mono ?_;rintro e w1 ⟨rfl,hg1⟩;have hlk:=hlook w1 hg1;have hic:=hidc w1 (hgr.trans hg1);have hown1:=TP hown hg1)
       |(at_mapUpdate;go_loud (refine wpList_mapUpdate_in _ rfl _ _ _ 83 rfl 3 4 law3 u83 _ w.heap.size k _ rfl hown1 (by unfold maxLen;omega) _ _ _ rfl rfl hkey _ [] (plainElem_bool underlying4 true) ?_);intro w2 hown2 hturn2))
      ·go_roundw
       case rel=>
        have h01:=hgr.trans hg1
        have ht:Grow w w2:=by
         obtain⟨es,clock,es',clock',q1,rfl⟩:=hturn2
         refine⟨h01.os,h01.tape,h01.output,Nat.le_trans h01.size (by simp[Go.ChangeMaps.setBlock]),fun b hb=>?_⟩
         rw[Go.ChangeMaps.heap_setBlock_other q1 _ (by omega)]
         exact h01.blk b hb
        exact⟨k+1,by omega,by go_num,id::known,_,hG,sj hD id,hown2,ht⟩
       case measure=>simp[RowKit.intOf];omega
  ·have hkx:k=x.length:=by omega
   subst hkx
   rw[List.drop_length]at hG
   obtain rfl:true=r:=by simpa[aM]using hG
   go_wp2
   go_ret
   exact⟨rfl,hgr⟩
theorem A9k {S:List (den YOp)×Unit->Option (Bool×Unit)}(hg:Aj prog ⟨37,⟨.slot (.slice YOp) .nil,.nil⟩,⟨.slot .bool .nil,.nil⟩,S⟩):
 Aj prog ⟨17,⟨.slot (.slice (.slice YOp)) .nil,.nil⟩,⟨.slot .bool .nil,.nil⟩,A8q S⟩:=by
 refine⟨⟨_,func17,by kernel_rfl,by kernel_rfl⟩,fun x y hy E w vs hH hA=>?_⟩
 obtain⟨xs,u⟩:=x
 change List (List (den YOp))at xs
 change A8q S (xs,u)=some y at hy
 unfold A8q at hy
 split at hy
 case isFalse=>cases hy
 rename_i hx
 obtain⟨r,hr,hy⟩:=Option.map_eq_some_iff.1 hy
 subst hy
 change HeapOK E [] w at hH
 have hA':Ak E [] w [.pv (.slice (.slice YOp)) xs] vs:=hA
 simp only[Ak,Ag]at hA'
 obtain⟨v,us,rfl,h1,rfl⟩:=hA'
 refine(show Calls prog 17 #[v] w _ from(tI hg hH.I_lt hx h1 hr).mono ?_)
 rintro e w' ⟨rfl,hgr⟩
 refine⟨[_],E,rfl,A7k (P9 hH) hgr,?_⟩
 exact Ak.cons (show Ag E [] w' (.b _) _ from by simp only[Ag,B5]) Ak.nil
end
def FU (x:List (List (Int×Int×Int×Int×Int×Int×Unit))×Unit):Option (Bool×Unit):=A8q HA x
def Ao2:Cfg:={ti:=Az,ents:=[eH],ann:=[],lent:=0}
def eG:Ent:=⟨17,⟨(.slot (Ty.slice (Ty.slice YOp)) .nil),.nil⟩,⟨(.slot (Ty.bool) .nil),.nil⟩,FU⟩
theorem tJ:Aj prog eG:=A9k Ajl
abbrev tG:=Unit
abbrev tD:=Int×List (List A2)×Unit
abbrev tE:=List (List A2)×Unit
def Hy (i:tG)(v:tD)(R:Type)(K:tD ⊕ tE->Option R):Option R:=bif decide (v.1<6)then if(v.2.1++[[(0,-1,0,0,1000,())]]).length<=1466015503701 then K (.inl (zXq.wrap (v.1+1),v.2.1++[[(0,-1,0,0,1000,())]],()))else none else K (.inr (v.2.1,()))
theorem OA:AW Hy:=fun i v R K=>Ad (Ar (Aa)) (Aa)
def bf:Tmpl:=⟨(.ptr 0 0 0 (.ptr 1 0 0 (.junk (.slot .i (jk 10 .nil))))),(.cells 1 (.const (AV.nils) .nil) (.cells 1 (.own 2 .nil) (.tree false 0 (.slice Af) .nil)))⟩
def tC:Exs tG tE:=x1 (.exit 0) fun i p=>⟨AV.ptr 0 none 0 0::AV.ptr 1 none 0 0::jn 12 ([]),[some (Cont.cells 1 [[AV.nils]]),some (Cont.cells 1 [[AV.own 2 none none]]),some (Cont.tree false 0 (.slice Af) p.1 none)]⟩
def tF:=((.v (.v .n)):Pk bf.ty _ _)
def Ah0:Cfg:={ti:=Az,ents:=[],ann:=[(3,Ao bf 0 (spP tF) Hy tC.E)],lent:=0}
def JK (x:Unit):Option A4:=(Au (fun v=>Hy () v _ some) (0,[],())).bind fun p=>some (p.1,())
def A9j:Ent:=⟨77,⟨.nil,.nil⟩,⟨(.agg (.own 0 .nil) .nil),(.tree false 0 (.slice Af) .nil)⟩,JK⟩
theorem tH:CfgOK prog Ah0:=hcB all_nil
theorem A9i:AN prog Ah0 (lpc f77 0):=lkA tH bf tF Hy tC [0,1] OA
theorem Ajk:Aj prog A9j:=okB tH func77 A9i
def Jl (x:Bool×Unit):Option (Bool×Int×List (List A2)×Unit):=(JK ()).bind fun v=>some (x.1,0,v.1,())
def eF:Ent:=⟨38,⟨(.slot .bool .nil),.nil⟩,⟨(.agg (.slot .bool (.own 0 (.const (AV.nils) (.const (AV.nils) (.const (AV.nils) (.slot .i .nil)))))) .nil),(.tree false 0 (.slice Af) .nil)⟩,Jl⟩
theorem Ajj:Aj prog eF:=okA (hcA 0 (all_cons Ajk all_nil)) func38
def JL (x:Int×Unit):Option (Bool×Unit):=some (x.1 != x.1,())
def A9h:Ent:=⟨112,⟨(.slot .i .nil),.nil⟩,⟨(.slot .bool .nil),.nil⟩,JL⟩
theorem Aji:Aj prog A9h:=okA (hcA 0 all_nil) func112
def Bs (x:Int×Int×Unit):Option (Int×Unit):=(JL (x.1,())).bind fun v=>(JL (x.2.1,())).bind fun a=>bif v.1 then bif a.1 then some (0,())else some (-1,())else bif a.1 then some (1,())else bif decide (x.1<x.2.1)then some (-1,())else bif decide (x.1>x.2.1)then some (1,())else some (0,())
def A9g:Ent:=⟨48,⟨(si 2 .nil),.nil⟩,⟨(.slot .i .nil),.nil⟩,Bs⟩
theorem PQ:Aj prog A9g:=okA (hcA 0 (all_cons Aji all_nil)) func48
def El (x:A3×Int×Unit):Option (Int×Unit):=(Bs (x.1.1,x.2.1,())).bind fun v=>some (v.1,())
def eE:Ent:=⟨136,⟨(.slot Ae (.slot .i .nil)),.nil⟩,⟨(.slot .i .nil),.nil⟩,El⟩
theorem Ajh:Aj prog eE:=okA (hcA 0 (all_cons PQ all_nil)) func136
abbrev tz:=List A3×Int×Unit×Int×Unit
abbrev tu:=Int×Int×Unit
abbrev tw:=Int×Unit
def AE (i:tz)(v:tu)(R:Type)(K:tu ⊕ tw->Option R):Option R:=bif decide (v.1<v.2.1)then(lAt i.1 (zXq.wrap (Int.fdiv (IntKind.u64.wrap (zXq.wrap (v.1+v.2.1))) (2 ^ min (Int.toNat 1) (IntKind.bits IntKind.u64))))).bind fun a=>(El ((a.1,a.2.1,a.2.2.1,a.2.2.2.1,a.2.2.2.2.1,a.2.2.2.2.2.1,a.2.2.2.2.2.2.1,a.2.2.2.2.2.2.2.1,a.2.2.2.2.2.2.2.2.1,()),i.2.1,())).bind fun b=>bif decide (b.1<0)then K (.inl (zXq.wrap (zXq.wrap (Int.fdiv (IntKind.u64.wrap (zXq.wrap (v.1+v.2.1))) (2 ^ min (Int.toNat 1) (IntKind.bits IntKind.u64)))+1),v.2.1,()))else K (.inl (v.1,zXq.wrap (Int.fdiv (IntKind.u64.wrap (zXq.wrap (v.1+v.2.1))) (2 ^ min (Int.toNat 1) (IntKind.bits IntKind.u64))),()))else K (.inr (v.1,()))
theorem FA:AW AE:=fun i v R K=>Ad (Ac fun _=>Ac fun _=>Ad (Aa) (Aa)) (Aa)
def bc:Tmpl:=⟨(.slot (.slice Ae) (.slot .i (.slot (.fn 136 .unit) (jk 5 (si 3 (jk 38 .nil)))))),.nil⟩
def tq:Exs tz tw:=x1 (.exit 0) fun i p=>⟨AV.pv (.slice Ae) i.1::.n (i.2.1)::AV.pv (.fn 136 .unit) i.2.2.1::jn 5 (.n (i.2.2.2.1)::.n (p.1)::jn 39 ([])),[]⟩
def tx:=((.i (.i (.i (.i (.v (.v .n)))))):Pk bc.ty _ _)
def Agz:Cfg:={ti:=Az,ents:=[eE],ann:=[(3,Ao bc 0 (spP tx) AE tq.E)],lent:=0}
def Bb (x:List A3×Int×Unit×Unit):Option (Int×Bool×Unit):=(Au (fun v=>AE (x.1,x.2.1,x.2.2.1,(x.1.length:Int),()) v _ some) (0,(x.1.length:Int),())).bind fun p=>bif decide (p.1<(x.1.length:Int))then(lAt x.1 p.1).bind fun v=>(El ((v.1,v.2.1,v.2.2.1,v.2.2.2.1,v.2.2.2.2.1,v.2.2.2.2.2.1,v.2.2.2.2.2.2.1,v.2.2.2.2.2.2.2.1,v.2.2.2.2.2.2.2.2.1,()),x.2.1,())).bind fun v=>some (p.1,v.1==0,())else some (p.1,false,())
def eD:Ent:=⟨135,⟨(.slot (.slice Ae) (.slot .i (.slot (.fn 136 .unit) .nil))),.nil⟩,⟨(.slot .i (.slot .bool .nil)),.nil⟩,Bb⟩
theorem tB:CfgOK prog Agz:=hcB (all_cons Ajh all_nil)
theorem A9f:AN prog Agz (lpc f135 0):=lkA tB bc tx AE tq [0,1,2,8,9] FA
theorem Ajg:Aj prog eD:=okB tB func135 A9f
def J2 (x:Int×Unit):Option (Bool×Unit):=(BJ (x.1,1,999,())).bind fun v=>some (v.1,())
def A9e:Ent:=⟨159,⟨(.slot .i .nil),.nil⟩,⟨(.slot .bool .nil),.nil⟩,J2⟩
theorem tp:Aj prog A9e:=okA (hcA 0 (all_cons L3 all_nil)) func159
abbrev qv:=Int×List Int×Int×Unit
abbrev qq:=Int×Unit
abbrev qr:=Int×Unit ⊕ Unit
def CG (i:qv)(v:qq)(R:Type)(K:qq ⊕ qr->Option R):Option R:=bif decide (v.1<i.2.2.1)then(lAt i.2.1 v.1).bind fun a=>bif a != i.1 then K (.inr (.inl (a,())))else K (.inl (zXq.wrap (v.1+1),()))else K (.inr (.inr ()))
theorem QI:AW CG:=fun i v R K=>Ad (Ac fun _=>Ad (Aa) (Aa)) (Aa)
def W7:Tmpl:=⟨(jk 3 (.slot .i (jk 2 (.slot (.slice .i) (si 2 (jk 9 .nil)))))),.nil⟩
def qp:Exs qv qr:=xs .ret (fun i p=>⟨jn 2 (.n (p.1)::.n (i.1)::jn 14 ([])),[]⟩)<|x1 (.exit 0) fun i p=>⟨jn 3 (.n (i.1)::jn 14 ([])),[]⟩
def qt:=((.i (.i (.i (.v .n)))):Pk W7.ty _ _)
def A5l:Cfg:={ti:=Az,ents:=[],ann:=[(3,Ao W7 0 (spP qt) CG qp.E)],lent:=0}
def I7 (x:List Int×Unit):Option (Int×Unit):=(Au (fun v=>CG (0,x.1,(x.1.length:Int),()) v _ some) (0,())).bind fun p=>Ap p (fun p=>some (p.1,())) fun p=>some (0,())
def A5k:Ent:=⟨155,⟨(.slot (.slice .i) .nil),.nil⟩,⟨(.slot .i .nil),.nil⟩,I7⟩
theorem qw:CfgOK prog A5l:=hcB all_nil
theorem A5j:AN prog A5l (lpc f155 0):=lkA qw W7 qt CG qp [2,3] QI
theorem qu:Aj prog A5k:=okB qw func155 A5j
def Ch (x:A1×A1×Unit):Option (Int×Unit):=(Bs (x.1.1,x.2.1.1,())).bind fun v=>(Bs (x.1.2.1,x.2.1.2.1,())).bind fun a=>(I7 ([v.1,a.1],())).bind fun v=>some (v.1,())
def So:Ent:=⟨214,⟨(.slot A0 (.slot A0 .nil)),.nil⟩,⟨(.slot .i .nil),.nil⟩,Ch⟩
theorem qo:Aj prog So:=okA (hcA 0 (all_cons PQ (all_cons qu all_nil))) func214
abbrev qm:=List A1×List A1×Int×Unit
abbrev qi:=Int×Unit
abbrev qj:=Int×Int×Unit ⊕ Int×Int×Unit ⊕ Int×Int×Unit ⊕ Unit
def FC (i:qm)(v:qi)(R:Type)(K:qi ⊕ qj->Option R):Option R:=bif decide (v.1<i.2.2.1)then(lAt i.2.1 v.1).bind fun a=>(DX (a.1,())).bind fun b=>bif !b.1 then K (.inr (.inl (a.1,a.2.1,())))else(BJ (a.2.1,0,999,())).bind fun c=>bif !c.1 then K (.inr (.inr (.inl (a.1,a.2.1,()))))else bif decide (v.1>0)then(lAt i.1 (zXq.wrap (v.1-1))).bind fun d=>(Ch ((d.1,d.2.1,()),(a.1,a.2.1,()),())).bind fun e=>bif decide (e.1>=0)then K (.inr (.inr (.inr (.inl (a.1,a.2.1,())))))else K (.inl (zXq.wrap (v.1+1),()))else K (.inl (zXq.wrap (v.1+1),()))else K (.inr (.inr (.inr (.inr ()))))
theorem Oy:AW FC:=fun i v R K=>Ad (Ac fun _=>Ac fun _=>Ad (Aa) (Ac fun _=>Ad (Aa) (Ad (Ac fun _=>Ac fun _=>Ad (Aa) (Aa)) (Aa)))) (Aa)
def W6:Tmpl:=⟨(.slot (.slice A0) (jk 4 (.slot (.slice A0) (si 2 (jk 32 .nil))))),.nil⟩
def qh:Exs qm qj:=xs .ret (fun i p=>⟨AV.pv (.slice A0) i.1::jn 1 (.b (false)::jn 37 ([])),[some (Cont.cells 2 [[AV.pv .i p.1,AV.pv .i p.2.1]])]⟩)<|xs .ret (fun i p=>⟨AV.pv (.slice A0) i.1::jn 1 (.b (false)::jn 37 ([])),[some (Cont.cells 2 [[AV.pv .i p.1,AV.pv .i p.2.1]])]⟩)<|xs .ret (fun i p=>⟨AV.pv (.slice A0) i.1::jn 1 (.b (false)::jn 37 ([])),[some (Cont.cells 2 [[AV.pv .i p.1,AV.pv .i p.2.1]])]⟩)<|x1 (.exit 0) fun i p=>⟨AV.pv (.slice A0) i.1::jn 39 ([]),[]⟩
def qk:=((.i (.i (.i (.v .n)))):Pk W6.ty _ _)
def A5i:Cfg:={ti:=Az,ents:=[Qf,RH,So],ann:=[(2,Ao W6 0 (spP qk) FC qh.E)],lent:=0}
def Dt (x:List A1×Unit):Option (Bool×Unit):=(Au (fun v=>FC (x.1,x.1,(x.1.length:Int),()) v _ some) (0,())).bind fun p=>Ap p (fun p=>some (false,())) fun p=>Ap p (fun p=>some (false,())) fun p=>Ap p (fun p=>some (false,())) fun p=>some (decide ((x.1.length:Int)<=60),())
def A5h:Ent:=⟨160,⟨(.slot (.slice A0) .nil),.nil⟩,⟨(.slot .bool .nil),.nil⟩,Dt⟩
theorem qn:CfgOK prog A5i:=hcB (all_cons QQ (all_cons L3 (all_cons qo all_nil)))
theorem A5g:AN prog A5i (lpc f160 0):=lkA qn W6 qk FC qh [0,2] Oy
theorem ql:Aj prog A5h:=okB qn func160 A5g
abbrev qf:=List A1×List A1×Int×Unit
abbrev qb:=Int×Unit
abbrev qc:=Int×Int×Unit ⊕ Int×Int×Unit ⊕ Int×Int×Unit ⊕ Unit
def EX (i:qf)(v:qb)(R:Type)(K:qb ⊕ qc->Option R):Option R:=bif decide (v.1<i.2.2.1)then(lAt i.2.1 v.1).bind fun a=>(DX (a.1,())).bind fun b=>bif !b.1 then K (.inr (.inl (a.1,a.2.1,())))else(Hu (a.2.1,())).bind fun c=>bif !c.1 then K (.inr (.inr (.inl (a.1,a.2.1,()))))else bif decide (v.1>0)then(lAt i.1 (zXq.wrap (v.1-1))).bind fun d=>bif decide (d.1>=a.1)then K (.inr (.inr (.inr (.inl (a.1,a.2.1,())))))else K (.inl (zXq.wrap (v.1+1),()))else K (.inl (zXq.wrap (v.1+1),()))else K (.inr (.inr (.inr (.inr ()))))
theorem NY:AW EX:=fun i v R K=>Ad (Ac fun _=>Ac fun _=>Ad (Aa) (Ac fun _=>Ad (Aa) (Ad (Ac fun _=>Ad (Aa) (Aa)) (Aa)))) (Aa)
def W5:Tmpl:=⟨(.slot (.slice A0) (jk 4 (.slot (.slice A0) (si 2 (jk 30 .nil))))),.nil⟩
def qa:Exs qf qc:=xs .ret (fun i p=>⟨jn 2 (.b (false)::jn 35 ([])),[some (Cont.cells 2 [[AV.pv .i p.1,AV.pv .i p.2.1]])]⟩)<|xs .ret (fun i p=>⟨jn 2 (.b (false)::jn 35 ([])),[some (Cont.cells 2 [[AV.pv .i p.1,AV.pv .i p.2.1]])]⟩)<|xs .ret (fun i p=>⟨jn 2 (.b (false)::jn 35 ([])),[some (Cont.cells 2 [[AV.pv .i p.1,AV.pv .i p.2.1]])]⟩)<|x1 (.exit 0) fun i p=>⟨jn 38 ([]),[]⟩
def qd:=((.i (.i (.i (.v .n)))):Pk W5.ty _ _)
def A5f:Cfg:={ti:=Az,ents:=[Qf,eJ],ann:=[(2,Ao W5 0 (spP qd) EX qa.E)],lent:=0}
def D3 (x:List A1×Unit):Option (Bool×Unit):=(Au (fun v=>EX (x.1,x.1,(x.1.length:Int),()) v _ some) (0,())).bind fun p=>Ap p (fun p=>some (false,())) fun p=>Ap p (fun p=>some (false,())) fun p=>Ap p (fun p=>some (false,())) fun p=>some (true,())
def A5e:Ent:=⟨161,⟨(.slot (.slice A0) .nil),.nil⟩,⟨(.slot .bool .nil),.nil⟩,D3⟩
theorem qg:CfgOK prog A5f:=hcB (all_cons QQ (all_cons bh all_nil))
theorem A5d:AN prog A5f (lpc f161 0):=lkA qg W5 qd EX qa [2] NY
theorem qe:Aj prog A5e:=okB qg func161 A5d
def D8 (x:A3×Unit):Option (Bool×Unit):=(BB (x.1.1,())).bind fun v=>bif !v.1 then some (false,())else(Gj (x.1.2.1,())).bind fun v=>bif !v.1 then some (false,())else(BJ (x.1.2.2.1,1,3,())).bind fun v=>bif !v.1 then some (false,())else(BJ (x.1.2.2.2.1,0,999,())).bind fun v=>bif !v.1 then some (false,())else(BJ (x.1.2.2.2.2.1,0,999,())).bind fun v=>bif !v.1 then some (false,())else(BJ (x.1.2.2.2.2.2.1,1,1000,())).bind fun v=>bif !v.1 then some (false,())else bif x.1.2.2.1==2 then(J2 (x.1.2.2.2.2.2.2.1,())).bind fun v=>bif !v.1 then some (false,())else bif x.1.2.2.1 != 2 then bif x.1.2.2.2.2.2.2.1 != 0 then some (false,())else(Dt (x.1.2.2.2.2.2.2.2.1,())).bind fun v=>bif v.1 then(D3 (x.1.2.2.2.2.2.2.2.2.1,())).bind fun v=>some (v.1,())else some (false,())else(Dt (x.1.2.2.2.2.2.2.2.1,())).bind fun v=>bif v.1 then(D3 (x.1.2.2.2.2.2.2.2.2.1,())).bind fun v=>some (v.1,())else some (false,())else bif x.1.2.2.1 != 2 then bif x.1.2.2.2.2.2.2.1 != 0 then some (false,())else(Dt (x.1.2.2.2.2.2.2.2.1,())).bind fun v=>bif v.1 then(D3 (x.1.2.2.2.2.2.2.2.2.1,())).bind fun v=>some (v.1,())else some (false,())else(Dt (x.1.2.2.2.2.2.2.2.1,())).bind fun v=>bif v.1 then(D3 (x.1.2.2.2.2.2.2.2.2.1,())).bind fun v=>some (v.1,())else some (false,())
def Zb:Ent:=⟨170,⟨(.slot Ae .nil),.nil⟩,⟨(.slot .bool .nil),.nil⟩,D8⟩
theorem pZ:Aj prog Zb:=okA (hcA 0 (all_cons M5 (all_cons tV (all_cons L3 (all_cons tp (all_cons ql (all_cons qe all_nil))))))) func170
def G0 (x:B3):Option (Int×Int×Int×Int×Int×Int×Int×Bool×Unit):=(D8 ((x.1,x.2.1,1,x.2.2.1,0,1000,0,[],[],()),())).bind fun v=>bif !v.1 then some (0,0,0,0,0,0,0,false,())else some (x.1,x.2.1,1,x.2.2.1,0,1000,0,true,())
def Za:Ent:=⟨137,⟨(si 3 .nil),.nil⟩,⟨(.agg (si 7 (.const (AV.nils) (.const (AV.nils) .nil))) (.slot .bool .nil)),.nil⟩,G0⟩
theorem Ael:Aj prog Za:=okA (hcA 0 (all_cons pZ all_nil)) func137
def Z8:Go.Shelf.Ren:=⟨fun|22=>138|29=>186|30=>187|n=>n,fun|24=>36|9=>65|n=>n,fun|n=>n⟩
theorem Alj:InsL prog Z8 true 9 where
 mixed:=by kernel_rfl
 f22:=⟨ "slices.Insert[[]loop.example/g01924/impl.Transaction,loop.example/g01924/impl.Transaction]",by decide,func138.trans (congrArg some (by kernel_rfl))⟩
 f29:=⟨_,func186,by kernel_rfl,by kernel_rfl,by kernel_rfl,by kernel_rfl⟩
 a9:=isAgg65
 z9:=sizeOf65
 t0:=underlying0
 a0:=isAgg0
 z0:=sizeOf0
 v0:=zeroValue0
 t3:=underlying3
 a3:=isAgg3
 z3:=sizeOf3
 v3:=zeroValue3
 t4:=underlying4
 a4:=isAgg4
 z4:=sizeOf4
 v4:=zeroValue4
 t24:=underlying36
 a24:=isAgg36
 z24:=sizeOf36
 v24:=zeroValue36
def DU (x:Int×List (Int×Int×Int×Int×Int×Int×Int×List (Int×Int×Unit)×List (Int×Int×Unit)×Unit)×List (Int×Int×Int×Int×Int×Int×Int×List (Int×Int×Unit)×List (Int×Int×Unit)×Unit)×Unit):Option (List (Int×Int×Int×Int×Int×Int×Int×List (Int×Int×Unit)×List (Int×Int×Unit)×Unit)×Unit):=R1 (α:=Int×Int×Int×Int×Int×Int×Int×List (Int×Int×Unit)×List (Int×Int×Unit)×Unit) 338311270084 x
def Ao0:Cfg:={ti:=Az,ents:=[],ann:=[],lent:=2}
def Z9:Ent:=⟨138,⟨(.own 0 (.slot Ty.i (.own 1 .nil))),(.tree false 0 (Ty.prod Ty.i (Ty.prod Ty.i (Ty.prod Ty.i (Ty.prod Ty.i (Ty.prod Ty.i (Ty.prod Ty.i (Ty.prod Ty.i (Ty.prod (Ty.slice (Ty.prod
 Ty.i (Ty.prod Ty.i Ty.unit))) (Ty.prod (Ty.slice A0) Ty.unit))))))))) (.tree false 0 (Ty.prod Ty.i (Ty.prod Ty.i (Ty.prod Ty.i (Ty.prod Ty.i (Ty.prod Ty.i (Ty.prod Ty.i (Ty.prod Ty.i (Ty.prod (Ty.slice (Ty.prod
 Ty.i (Ty.prod Ty.i Ty.unit))) (Ty.prod (Ty.slice A0) Ty.unit))))))))) .nil))⟩,⟨(.own 2 .nil),(.gone (.gone (.tree false 0 (Ty.prod Ty.i (Ty.prod Ty.i (Ty.prod Ty.i (Ty.prod Ty.i (Ty.prod Ty.i (Ty.prod Ty.i (Ty.prod Ty.i (Ty.prod (Ty.slice (Ty.prod
 Ty.i (Ty.prod Ty.i Ty.unit))) (Ty.prod (Ty.slice A0) Ty.unit))))))))) .nil)))⟩,DU⟩
theorem Aek:Aj prog Z9:=Af6 (ρ:=Z8) (t:=Ty.prod Ty.i (Ty.prod Ty.i (Ty.prod Ty.i (Ty.prod Ty.i (Ty.prod Ty.i (Ty.prod Ty.i (Ty.prod Ty.i (Ty.prod (Ty.slice (Ty.prod
 Ty.i (Ty.prod Ty.i Ty.unit))) (Ty.prod (Ty.slice A0) Ty.unit))))))))) A7y Alj rfl (by decide) rfl
def Ali:Cfg:={ti:=Az,ents:=[Z9,eD,Za],ann:=[],lent:=5,hid:=[((5,0),[2,5])],pre:=[(some (0,2))]}
def G5 (x:Int×Int×Int×Int×Int×Int×Bool×Int×A7):Option (Int×Bool×Int×List (List A2)×List A1×List A1×List A3×Unit):=(Bb (x.2.2.2.2.2.2.2.2.2.1,x.2.1,(),())).bind fun v=>bif v.2.1 then some (6,x.2.2.2.2.2.2.1,x.2.2.2.2.2.2.2.1,x.2.2.2.2.2.2.2.2.1,x.2.2.2.2.2.2.2.2.2.2.1,x.2.2.2.2.2.2.2.2.2.2.2.1,x.2.2.2.2.2.2.2.2.2.1,())else bif (x.2.2.2.2.2.2.2.2.2.1.length:Int)==6 then some (6,x.2.2.2.2.2.2.1,x.2.2.2.2.2.2.2.1,x.2.2.2.2.2.2.2.2.1,x.2.2.2.2.2.2.2.2.2.2.1,x.2.2.2.2.2.2.2.2.2.2.2.1,x.2.2.2.2.2.2.2.2.2.1,())else(G0 (x.2.1,x.2.2.1,x.2.2.2.2.2.2.2.1,())).bind fun a=>(DU (v.1,x.2.2.2.2.2.2.2.2.2.1,[(a.1,a.2.1,a.2.2.1,a.2.2.2.1,a.2.2.2.2.1,a.2.2.2.2.2.1,a.2.2.2.2.2.2.1,[],[],())],())).bind fun v=>some (0,x.2.2.2.2.2.2.1,x.2.2.2.2.2.2.2.1,x.2.2.2.2.2.2.2.2.1,x.2.2.2.2.2.2.2.2.2.2.1,x.2.2.2.2.2.2.2.2.2.2.2.1,v.1,())
def Z7:Ent:=⟨78,⟨(.ptr 0 0 0 (.agg (si 6 .nil) .nil)),(.cells 6 (.slot .bool (.own 1 (.own 2 (.own 3 (.own 4 (.slot .i .nil)))))) (.tree false 0 (.slice Af) (.tree false 0 Ae (.lst false A0 (.lst false A0 .nil)))))⟩,⟨(.agg (.slot .i (.const (AV.nils) .nil)) .nil),(.cells 6 (.slot .bool (.own 1 (.own 5 (.own 3 (.own 4 (.slot .i .nil)))))) (.tree false 0 (.slice Af) (.gone (.lst false A0 (.lst false A0 (.tree false 0 Ae .nil))))))⟩,G5⟩
theorem Aej:Aj prog Z7:=okA (C:=Ali) (hcB (all_cons Aek (all_cons Ajg (all_cons Ael all_nil)))) func78
def GP (x:A3×Option Int×Unit):Option (Bool×Unit):=x.2.1.bind fun v=>some (x.1.1==v,())
def Z6:Ent:=⟨140,⟨(.slot Ae (.slot (.iref .i) .nil)),.nil⟩,⟨(.slot .bool .nil),.nil⟩,GP⟩
theorem Aei:Aj prog Z6:=okA (hcA 0 all_nil) func140
abbrev pX:=List A3×(Option Int×Unit)×Int×Unit
abbrev pU:=Int×Unit
abbrev pV:=Int×Unit ⊕ Unit
def AK (i:pX)(v:pU)(R:Type)(K:pU ⊕ pV->Option R):Option R:=bif decide (v.1<i.2.2.1)then(lAt i.1 v.1).bind fun a=>(GP ((a.1,a.2.1,a.2.2.1,a.2.2.2.1,a.2.2.2.2.1,a.2.2.2.2.2.1,a.2.2.2.2.2.2.1,a.2.2.2.2.2.2.2.1,a.2.2.2.2.2.2.2.2.1,()),i.2.1.1,())).bind fun b=>bif b.1 then K (.inr (.inl (v.1,())))else K (.inl (zXq.wrap (v.1+1),()))else K (.inr (.inr ()))
theorem Gv:AW AK:=fun i v R K=>Ad (Ac fun _=>Ac fun _=>Ad (Aa) (Aa)) (Aa)
def W4:Tmpl:=⟨(.slot (.slice Ae) (.slot (.fn 140 (.prod (.iref .i) .unit)) (jk 5 (si 2 (jk 10 .nil))))),.nil⟩
def pT:Exs pX pV:=xs .ret (fun i p=>⟨jn 4 (.n (p.1)::jn 14 ([])),[]⟩)<|x1 (.exit 0) fun i p=>⟨jn 19 ([]),[]⟩
def pW:=((.i (.i (.i (.v .n)))):Pk W4.ty _ _)
def A5c:Cfg:={ti:=Az,ents:=[Z6],ann:=[(2,Ao W4 0 (spP pW) AK pT.E)],lent:=0}
def Cs (x:List A3×(Option Int×Unit)×Unit):Option (Int×Unit):=(Au (fun v=>AK (x.1,x.2.1,(x.1.length:Int),()) v _ some) (0,())).bind fun p=>Ap p (fun p=>some (p.1,())) fun p=>some (-1,())
def A5b:Ent:=⟨139,⟨(.slot (.slice Ae) (.slot (.fn 140 (.prod (.iref .i) .unit)) .nil)),.nil⟩,⟨(.slot .i .nil),.nil⟩,Cs⟩
theorem pY:CfgOK prog A5c:=hcB (all_cons Aei all_nil)
theorem A5a:AN prog A5c (lpc f139 0):=lkA pY W4 pW AK pT [4] Gv
theorem Aeh:Aj prog A5b:=okB pY func139 A5a
def E5 (x:A5×Int×Unit):Option (Int×Unit):=(Cs (x.1.2.2.1,(some x.2.1,()),())).bind fun v=>some (v.1,())
def Z5:Ent:=⟨80,⟨(.slot Dh (.slot .i .nil)),.nil⟩,⟨(.slot .i .nil),.nil⟩,E5⟩
theorem pR:Aj prog Z5:=okA (hcA 0 (all_cons Aeh all_nil)) func80
def Cy (x:A5×Int×Unit):Option (Bool×Unit):=(E5 ((x.1.1,(x.1.2.1.1,()),x.1.2.2.1,x.1.2.2.2.1,x.1.2.2.2.2.1,x.1.2.2.2.2.2.1,()),x.2.1,())).bind fun v=>bif decide (v.1>=0)then(lAt x.1.2.2.1 v.1).bind fun v=>some (v.2.2.1==1,())else some (false,())
def Z4:Ent:=⟨79,⟨(.slot Dh (.slot .i .nil)),.nil⟩,⟨(.slot .bool .nil),.nil⟩,Cy⟩
theorem W3:Aj prog Z4:=okA (hcA 0 (all_cons pR all_nil)) func79
def CE (x:List A1×Unit):Option (List A1×Unit):=bif x.1.length==0 then WI (some ([],())) (if x.1.length<=2199023255552 then some (x.1,())else none)else if x.1.length<=2199023255552 then some (x.1,())else none
def Z3:Ent:=⟨82,⟨(.slot (.slice A0) .nil),.nil⟩,⟨(.own 0 .nil),(.lst false A0 .nil)⟩,CE⟩
theorem W2:Aj prog Z3:=okA (hcA 0 all_nil) func82
def DJ (x:A1×Option A6×Unit):Option (Bool×Unit):=x.2.1.bind fun v=>some (x.1.1==v.2.1,())
def Sn:Ent:=⟨83,⟨(.slot A0 (.slot (.iref YOp) .nil)),.nil⟩,⟨(.slot .bool .nil),.nil⟩,DJ⟩
theorem pQ:Aj prog Sn:=okA (hcA 0 all_nil) func83
abbrev pO:=List A1×(Option A6×Unit)×Int×Unit
abbrev pL:=Int×Unit
abbrev pM:=Int×Unit ⊕ Unit
def Bc (i:pO)(v:pL)(R:Type)(K:pL ⊕ pM->Option R):Option R:=bif decide (v.1<i.2.2.1)then(lAt i.1 v.1).bind fun a=>(DJ ((a.1,a.2.1,()),i.2.1.1,())).bind fun b=>bif b.1 then K (.inr (.inl (v.1,())))else K (.inl (zXq.wrap (v.1+1),()))else K (.inr (.inr ()))
theorem HF:AW Bc:=fun i v R K=>Ad (Ac fun _=>Ac fun _=>Ad (Aa) (Aa)) (Aa)
def W0:Tmpl:=⟨(.slot (.slice A0) (.slot (.fn 83 (.prod (.iref YOp) .unit)) (jk 5 (si 2 (jk 10 .nil))))),.nil⟩
def pK:Exs pO pM:=xs .ret (fun i p=>⟨jn 4 (.n (p.1)::jn 14 ([])),[]⟩)<|x1 (.exit 0) fun i p=>⟨jn 19 ([]),[]⟩
def pN:=((.i (.i (.i (.v .n)))):Pk W0.ty _ _)
def A59:Cfg:={ti:=Az,ents:=[Sn],ann:=[(2,Ao W0 0 (spP pN) Bc pK.E)],lent:=0}
def BT (x:List A1×(Option A6×Unit)×Unit):Option (Int×Unit):=(Au (fun v=>Bc (x.1,x.2.1,(x.1.length:Int),()) v _ some) (0,())).bind fun p=>Ap p (fun p=>some (p.1,())) fun p=>some (-1,())
def Z2:Ent:=⟨141,⟨(.slot (.slice A0) (.slot (.fn 83 (.prod (.iref YOp) .unit)) .nil)),.nil⟩,⟨(.slot .i .nil),.nil⟩,BT⟩
theorem pP:CfgOK prog A59:=hcB (all_cons pQ all_nil)
theorem A58:AN prog A59 (lpc f141 0):=lkA pP W0 pN Bc pK [4] HF
theorem Aeg:Aj prog Z2:=okB pP func141 A58
abbrev pI:=A6
abbrev pF:=Int×Int×List A1×Unit
abbrev pG:=Int×List A1×Unit
def Bp (i:pI)(v:pF)(R:Type)(K:pF ⊕ pG->Option R):Option R:=bif decide (v.2.1<(v.2.2.1.length:Int))then if 0<=v.2.1/\v.2.1<(v.2.2.1.length:Int)then v.2.2.1[0+v.2.1.toNat]?.bind fun a=>(DJ ((a.1,a.2.1,()),some (i.1,i.2.1,i.2.2.1,i.2.2.2.1,i.2.2.2.2.1,i.2.2.2.2.2.1,()),())).bind fun b=>bif !b.1 then if 0<=v.1/\v.1<(v.2.2.1.length:Int)then v.2.2.1[0+v.1.toNat]?.bind fun c=>K (.inl (zXq.wrap (v.1+1),zXq.wrap (v.2.1+1),v.2.2.1.set (0+v.1.toNat) (a.1,a.2.1,()),()))else none else K (.inl (v.1,zXq.wrap (v.2.1+1),v.2.2.1,()))else none else K (.inr (v.1,v.2.2.1,()))
theorem Jw:AW Bp:=fun i v R K=>Ad (Ar (Ac fun _=>Ac fun _=>Ad (Ar (Ac fun _=>Aa)) (Aa))) (Aa)
def VZ:Tmpl:=⟨(.own 0 (.fn 83 (.ptr 1 0 0 .nil) (jk 3 (si 2 (jk 35 .nil))))),(.lst false A0 (.cells 6 (si 6 .nil) .nil))⟩
def pE:Exs pI pG:=x1 (.exit 0) fun i p=>⟨AV.own 0 none none::jn 4 (.n (p.1)::jn 36 ([])),[some (Cont.lst false A0 p.2.1),some (Cont.cells 6 [[AV.pv .i i.1,AV.pv .i i.2.1,AV.pv .i i.2.2.1,AV.pv .i i.2.2.2.1,AV.pv .i i.2.2.2.2.1,AV.pv .i i.2.2.2.2.2.1]])]⟩
def pH:=((.v (.v (.v (.i (.i (.i (.i (.i (.i .n))))))))):Pk VZ.ty _ _)
def A57:Cfg:={ti:=Az,ents:=[Z2,Sn],ann:=[(5,Ao VZ 2 (spP pH) Bp pE.E)],lent:=2,cut:=[none]}
def C5 (x:List A1×A6):Option (Int×Int×Int×Int×Int×Int×List A1×Unit):=(BT (x.1,(some (x.2.1,x.2.2.1,x.2.2.2.1,x.2.2.2.2.1,x.2.2.2.2.2.1,x.2.2.2.2.2.2.1,()),()),())).bind fun v=>bif v.1==-1 then some (x.2.1,x.2.2.1,x.2.2.2.1,x.2.2.2.2.1,x.2.2.2.2.2.1,x.2.2.2.2.2.2.1,x.1,())else(Au (fun v=>Bp (x.2.1,x.2.2.1,x.2.2.2.1,x.2.2.2.2.1,x.2.2.2.2.2.1,x.2.2.2.2.2.2.1,()) v _ some) (v.1,zXq.wrap (v.1+1),x.1,())).bind fun p=>if 0<=p.1/\p.1<=(p.2.1.length:Int)/\(p.2.1.length:Int)<=(p.2.1.length:Int)then if(0:Int)<=0/\0<=p.1/\p.1<=(↑((List.take (0+p.1.toNat) p.2.1++zKq ((p.2.1.length:Int).toNat-p.1.toNat) (0,0,())++List.drop (0+p.1.toNat+((p.2.1.length:Int).toNat-p.1.toNat)) p.2.1).length):Int)then some (x.2.1,x.2.2.1,x.2.2.2.1,x.2.2.2.2.1,x.2.2.2.2.2.1,x.2.2.2.2.2.2.1,List.take (p.1.toNat-Int.toNat 0) (List.take (0+p.1.toNat) p.2.1++zKq ((p.2.1.length:Int).toNat-p.1.toNat) (0,0,())++List.drop (0+p.1.toNat+((p.2.1.length:Int).toNat-p.1.toNat)) p.2.1),())else none else none
def Z1:Ent:=⟨81,⟨(.own 0 (.fn 83 (.ptr 1 0 0 .nil) .nil)),(.lst false A0 (.cells 6 (si 6 .nil) .nil))⟩,⟨(.own 2 .nil),(.gone (.cells 6 (si 6 .nil) (.lst false A0 .nil)))⟩,C5⟩
theorem pJ:CfgOK prog A57:=hcB (all_cons Aeg (all_cons pQ all_nil))
theorem A56:AN prog A57 (lpc f81 0):=lkA pJ VZ pH Bp pE [0,5] Jw
theorem Aef:Aj prog Z1:=okB pJ func81 A56
def I5 (x:A1×Option Int×Unit):Option (Bool×Unit):=x.2.1.bind fun v=>some (x.1.1==v,())
def Z0:Ent:=⟨237,⟨(.slot A0 (.slot (.iref .i) .nil)),.nil⟩,⟨(.slot .bool .nil),.nil⟩,I5⟩
theorem Aee:Aj prog Z0:=okA (hcA 0 all_nil) func237
abbrev pC:=List A1×(Option Int×Unit)×Int×Unit
abbrev pz:=Int×Unit
abbrev pA:=Int×Unit ⊕ Unit
def Bl (i:pC)(v:pz)(R:Type)(K:pz ⊕ pA->Option R):Option R:=bif decide (v.1<i.2.2.1)then(lAt i.1 v.1).bind fun a=>(I5 ((a.1,a.2.1,()),i.2.1.1,())).bind fun b=>bif b.1 then K (.inr (.inl (v.1,())))else K (.inl (zXq.wrap (v.1+1),()))else K (.inr (.inr ()))
theorem Ih:AW Bl:=fun i v R K=>Ad (Ac fun _=>Ac fun _=>Ad (Aa) (Aa)) (Aa)
def VY:Tmpl:=⟨(.slot (.slice A0) (.slot (.fn 237 (.prod (.iref .i) .unit)) (jk 5 (si 2 (jk 10 .nil))))),.nil⟩
def py:Exs pC pA:=xs .ret (fun i p=>⟨jn 4 (.n (p.1)::jn 14 ([])),[]⟩)<|x1 (.exit 0) fun i p=>⟨jn 19 ([]),[]⟩
def pB:=((.i (.i (.i (.v .n)))):Pk VY.ty _ _)
def A55:Cfg:={ti:=Az,ents:=[Z0],ann:=[(2,Ao VY 0 (spP pB) Bl py.E)],lent:=0}
def Cf (x:List A1×(Option Int×Unit)×Unit):Option (Int×Unit):=(Au (fun v=>Bl (x.1,x.2.1,(x.1.length:Int),()) v _ some) (0,())).bind fun p=>Ap p (fun p=>some (p.1,())) fun p=>some (-1,())
def A54:Ent:=⟨236,⟨(.slot (.slice A0) (.slot (.fn 237 (.prod (.iref .i) .unit)) .nil)),.nil⟩,⟨(.slot .i .nil),.nil⟩,Cf⟩
theorem pD:CfgOK prog A55:=hcB (all_cons Aee all_nil)
theorem A53:AN prog A55 (lpc f236 0):=lkA pD VY pB Bl py [4] Ih
theorem Aed:Aj prog A54:=okB pD func236 A53
def Jp (x:A3×Int×Unit):Option (Int×Unit):=(Cf (x.1.2.2.2.2.2.2.2.2.1,(some x.2.1,()),())).bind fun v=>some (v.1,())
def YZ:Ent:=⟨188,⟨(.slot Ae (.slot .i .nil)),.nil⟩,⟨(.slot .i .nil),.nil⟩,Jp⟩
theorem Aec:Aj prog YZ:=okA (hcA 0 (all_cons Aed all_nil)) func188
abbrev pw:=List A2×Int×Unit
abbrev pr:=Int×Unit
abbrev pt:=Int×Unit ⊕ Int×Unit
def Dg (i:pw)(v:pr)(R:Type)(K:pr ⊕ pt->Option R):Option R:=bif decide (v.1>=0)then(lAt i.1 v.1).bind fun a=>bif decide (a.2.2.1>i.2.1)then K (.inl (zXq.wrap (v.1-1),()))else K (.inr (.inl (v.1,())))else K (.inr (.inr (v.1,())))
theorem NV:AW Dg:=fun i v R K=>Ad (Ac fun _=>Ad (Aa) (Aa)) (Aa)
def VX:Tmpl:=⟨(.slot (.slice Af) (.slot .i (jk 3 (.slot .i (jk 17 .nil))))),.nil⟩
def pq:Exs pw pt:=xs (.exit 0) (fun i p=>⟨jn 5 (.n (p.1)::jn 17 ([])),[]⟩)<|x1 (.exit 0) fun i p=>⟨jn 5 (.n (p.1)::jn 17 ([])),[]⟩
def pu:=((.i (.i (.v .n))):Pk VX.ty _ _)
def A52:Cfg:={ti:=Az,ents:=[],ann:=[(2,Ao VX 0 (spP pu) Dg pq.E)],lent:=0}
def Jk (x:List A2×Int×Unit):Option (Int×Unit):=(Au (fun v=>Dg (x.1,x.2.1,()) v _ some) (zXq.wrap ((x.1.length:Int)-1),())).bind fun p=>Ap p (fun p=>some (p.1,())) fun p=>some (p.1,())
def A51:Ent:=⟨238,⟨(.slot (.slice Af) (.slot .i .nil)),.nil⟩,⟨(.slot .i .nil),.nil⟩,Jk⟩
theorem px:CfgOK prog A52:=hcB all_nil
theorem A50:AN prog A52 (lpc f238 0):=lkA px VX pu Dg pq [5] NV
theorem Aeb:Aj prog A51:=okB px func238 A50
def GX (x:A4×A3×Int×Unit):Option A6:=(lAt x.1.1 x.2.2.1).bind fun v=>bif x.2.1.2.1==2 then(Jk (v,x.2.1.2.2.2.1,())).bind fun a=>bif decide (a.1<0)then some (0,0,0,0,0,3,())else bif x.2.1.2.1==4 then(lAt v a.1).bind fun b=>bif decide (b.2.2.1>x.2.1.2.2.2.1)then some (0,0,0,0,0,3,())else(lAt v a.1).bind fun v=>some (v.1,v.2.1,v.2.2.1,v.2.2.2.1,v.2.2.2.2.1,0,())else(lAt v a.1).bind fun v=>some (v.1,v.2.1,v.2.2.1,v.2.2.2.1,v.2.2.2.2.1,0,())else bif decide (zXq.wrap ((v.length:Int)-1)<0)then some (0,0,0,0,0,3,())else bif x.2.1.2.1==4 then(lAt v (zXq.wrap ((v.length:Int)-1))).bind fun a=>bif decide (a.2.2.1>x.2.1.2.2.2.1)then some (0,0,0,0,0,3,())else(lAt v (zXq.wrap ((v.length:Int)-1))).bind fun v=>some (v.1,v.2.1,v.2.2.1,v.2.2.2.1,v.2.2.2.2.1,0,())else(lAt v (zXq.wrap ((v.length:Int)-1))).bind fun v=>some (v.1,v.2.1,v.2.2.1,v.2.2.2.1,v.2.2.2.2.1,0,())
def YY:Ent:=⟨189,⟨(.slot BW (.slot Ae (.slot .i .nil))),.nil⟩,⟨(.agg (si 5 .nil) (.slot .i .nil)),.nil⟩,GX⟩
theorem Aea:Aj prog YY:=okA (hcA 0 (all_cons Aeb all_nil)) func189
def Dm (x:List A1×Unit):Option (List A1×Unit):=bif x.1.length==0 then WI (some ([],())) (if x.1.length<=2199023255552 then some (x.1,())else none)else if x.1.length<=2199023255552 then some (x.1,())else none
def A4z:Ent:=⟨197,⟨(.slot (.slice A0) .nil),.nil⟩,⟨(.own 0 .nil),(.lst false A0 .nil)⟩,Dm⟩
theorem po:Aj prog A4z:=okA (hcA 0 all_nil) func197
def Dk (x:A1×Option Int×Unit):Option (Bool×Unit):=x.2.1.bind fun v=>some (x.1.2.1==v,())
def Sm:Ent:=⟨250,⟨(.slot A0 (.slot (.iref .i) .nil)),.nil⟩,⟨(.slot .bool .nil),.nil⟩,Dk⟩
theorem pn:Aj prog Sm:=okA (hcA 0 all_nil) func250
abbrev pl:=List A1×(Option Int×Unit)×Int×Unit
abbrev pi:=Int×Unit
abbrev pj:=Int×Unit ⊕ Unit
def B7 (i:pl)(v:pi)(R:Type)(K:pi ⊕ pj->Option R):Option R:=bif decide (v.1<i.2.2.1)then(lAt i.1 v.1).bind fun a=>(Dk ((a.1,a.2.1,()),i.2.1.1,())).bind fun b=>bif b.1 then K (.inr (.inl (v.1,())))else K (.inl (zXq.wrap (v.1+1),()))else K (.inr (.inr ()))
theorem Hn:AW B7:=fun i v R K=>Ad (Ac fun _=>Ac fun _=>Ad (Aa) (Aa)) (Aa)
def VW:Tmpl:=⟨(.slot (.slice A0) (.slot (.fn 250 (.prod (.iref .i) .unit)) (jk 5 (si 2 (jk 10 .nil))))),.nil⟩
def ph:Exs pl pj:=xs .ret (fun i p=>⟨jn 4 (.n (p.1)::jn 14 ([])),[]⟩)<|x1 (.exit 0) fun i p=>⟨jn 19 ([]),[]⟩
def pk:=((.i (.i (.i (.v .n)))):Pk VW.ty _ _)
def A4y:Cfg:={ti:=Az,ents:=[Sm],ann:=[(2,Ao VW 0 (spP pk) B7 ph.E)],lent:=0}
def BP (x:List A1×(Option Int×Unit)×Unit):Option (Int×Unit):=(Au (fun v=>B7 (x.1,x.2.1,(x.1.length:Int),()) v _ some) (0,())).bind fun p=>Ap p (fun p=>some (p.1,())) fun p=>some (-1,())
def YX:Ent:=⟨172,⟨(.slot (.slice A0) (.slot (.fn 250 (.prod (.iref .i) .unit)) .nil)),.nil⟩,⟨(.slot .i .nil),.nil⟩,BP⟩
theorem pm:CfgOK prog A4y:=hcB (all_cons pn all_nil)
theorem A4x:AN prog A4y (lpc f172 0):=lkA pm VW pk B7 ph [4] Hn
theorem Ae9:Aj prog YX:=okB pm func172 A4x
abbrev pf:=Int×Unit
abbrev pc:=Int×Int×List A1×Unit
abbrev pd:=Int×List A1×Unit
def Bq (i:pf)(v:pc)(R:Type)(K:pc ⊕ pd->Option R):Option R:=bif decide (v.2.1<(v.2.2.1.length:Int))then if 0<=v.2.1/\v.2.1<(v.2.2.1.length:Int)then v.2.2.1[0+v.2.1.toNat]?.bind fun a=>(Dk ((a.1,a.2.1,()),some i.1,())).bind fun b=>bif !b.1 then if 0<=v.1/\v.1<(v.2.2.1.length:Int)then v.2.2.1[0+v.1.toNat]?.bind fun c=>K (.inl (zXq.wrap (v.1+1),zXq.wrap (v.2.1+1),v.2.2.1.set (0+v.1.toNat) (a.1,a.2.1,()),()))else none else K (.inl (v.1,zXq.wrap (v.2.1+1),v.2.2.1,()))else none else K (.inr (v.1,v.2.2.1,()))
theorem Jx:AW Bq:=fun i v R K=>Ad (Ar (Ac fun _=>Ac fun _=>Ad (Ar (Ac fun _=>Aa)) (Aa))) (Aa)
def VU:Tmpl:=⟨(.own 0 (.fn 250 (.ptr 1 0 0 .nil) (jk 3 (si 2 (jk 35 .nil))))),(.lst false A0 (.cells 1 (.slot .i .nil) .nil))⟩
def pb:Exs pf pd:=x1 (.exit 0) fun i p=>⟨AV.own 0 none none::jn 4 (.n (p.1)::jn 36 ([])),[some (Cont.lst false A0 p.2.1),some (Cont.cells 1 [[AV.pv .i i.1]])]⟩
def pe:=((.v (.v (.v (.i .n)))):Pk VU.ty _ _)
def A4w:Cfg:={ti:=Az,ents:=[YX,Sm],ann:=[(5,Ao VU 2 (spP pe) Bq pb.E)],lent:=2,cut:=[none]}
def CU (x:List A1×Int×Unit):Option (Int×List A1×Unit):=(BP (x.1,(some x.2.1,()),())).bind fun v=>bif v.1==-1 then some (x.2.1,x.1,())else(Au (fun v=>Bq (x.2.1,()) v _ some) (v.1,zXq.wrap (v.1+1),x.1,())).bind fun p=>if 0<=p.1/\p.1<=(p.2.1.length:Int)/\(p.2.1.length:Int)<=(p.2.1.length:Int)then if(0:Int)<=0/\0<=p.1/\p.1<=(↑((List.take (0+p.1.toNat) p.2.1++zKq ((p.2.1.length:Int).toNat-p.1.toNat) (0,0,())++List.drop (0+p.1.toNat+((p.2.1.length:Int).toNat-p.1.toNat)) p.2.1).length):Int)then some (x.2.1,List.take (p.1.toNat-Int.toNat 0) (List.take (0+p.1.toNat) p.2.1++zKq ((p.2.1.length:Int).toNat-p.1.toNat) (0,0,())++List.drop (0+p.1.toNat+((p.2.1.length:Int).toNat-p.1.toNat)) p.2.1),())else none else none
def A4v:Ent:=⟨249,⟨(.own 0 (.fn 250 (.ptr 1 0 0 .nil) .nil)),(.lst false A0 (.cells 1 (.slot .i .nil) .nil))⟩,⟨(.own 2 .nil),(.gone (.cells 1 (.slot .i .nil) (.lst false A0 .nil)))⟩,CU⟩
theorem pg:CfgOK prog A4w:=hcB (all_cons Ae9 (all_cons pn all_nil))
theorem A4u:AN prog A4w (lpc f249 0):=lkA pg VU pe Bq pb [0,5] Jx
theorem Ae8:Aj prog A4v:=okB pg func249 A4u
def GY (x:List A1×Int×Unit):Option (List A1×Unit):=(Dm (x.1,())).bind fun v=>(CU (v.1,x.2.1,())).bind fun v=>some (v.2.1,())
def YW:Ent:=⟨210,⟨(.slot (.slice A0) (.slot .i .nil)),.nil⟩,⟨(.own 0 .nil),(.lst false A0 .nil)⟩,GY⟩
theorem Ae7:Aj prog YW:=okA (hcA 0 (all_cons Ae8 (all_cons po all_nil))) func210
def Ed (x:A1×Option Int×Unit):Option (Bool×Unit):=x.2.1.bind fun v=>bif x.1.1==v then some (true,())else x.2.1.bind fun v=>some (x.1.2.1==v,())
def Sl:Ent:=⟨251,⟨(.slot A0 (.slot (.iref .i) .nil)),.nil⟩,⟨(.slot .bool .nil),.nil⟩,Ed⟩
theorem pa:Aj prog Sl:=okA (hcA 0 all_nil) func251
abbrev oY:=List A1×(Option Int×Unit)×Int×Unit
abbrev oV:=Int×Unit
abbrev oW:=Int×Unit ⊕ Unit
def Bg (i:oY)(v:oV)(R:Type)(K:oV ⊕ oW->Option R):Option R:=bif decide (v.1<i.2.2.1)then(lAt i.1 v.1).bind fun a=>(Ed ((a.1,a.2.1,()),i.2.1.1,())).bind fun b=>bif b.1 then K (.inr (.inl (v.1,())))else K (.inl (zXq.wrap (v.1+1),()))else K (.inr (.inr ()))
theorem HS:AW Bg:=fun i v R K=>Ad (Ac fun _=>Ac fun _=>Ad (Aa) (Aa)) (Aa)
def VT:Tmpl:=⟨(.slot (.slice A0) (.slot (.fn 251 (.prod (.iref .i) .unit)) (jk 5 (si 2 (jk 10 .nil))))),.nil⟩
def oU:Exs oY oW:=xs .ret (fun i p=>⟨jn 4 (.n (p.1)::jn 14 ([])),[]⟩)<|x1 (.exit 0) fun i p=>⟨jn 19 ([]),[]⟩
def oX:=((.i (.i (.i (.v .n)))):Pk VT.ty _ _)
def A4t:Cfg:={ti:=Az,ents:=[Sl],ann:=[(2,Ao VT 0 (spP oX) Bg oU.E)],lent:=0}
def C3 (x:List A1×(Option Int×Unit)×Unit):Option (Int×Unit):=(Au (fun v=>Bg (x.1,x.2.1,(x.1.length:Int),()) v _ some) (0,())).bind fun p=>Ap p (fun p=>some (p.1,())) fun p=>some (-1,())
def YV:Ent:=⟨141,⟨(.slot (.slice A0) (.slot (.fn 251 (.prod (.iref .i) .unit)) .nil)),.nil⟩,⟨(.slot .i .nil),.nil⟩,C3⟩
theorem oZ:CfgOK prog A4t:=hcB (all_cons pa all_nil)
theorem A4s:AN prog A4t (lpc f141 0):=lkA oZ VT oX Bg oU [4] HS
theorem Ae6:Aj prog YV:=okB oZ func141 A4s
abbrev oS:=Int×Unit
abbrev oO:=Int×Int×List A1×Unit
abbrev oP:=Int×List A1×Unit
def Be (i:oS)(v:oO)(R:Type)(K:oO ⊕ oP->Option R):Option R:=bif decide (v.2.1<(v.2.2.1.length:Int))then if 0<=v.2.1/\v.2.1<(v.2.2.1.length:Int)then v.2.2.1[0+v.2.1.toNat]?.bind fun a=>(Ed ((a.1,a.2.1,()),some i.1,())).bind fun b=>bif !b.1 then if 0<=v.1/\v.1<(v.2.2.1.length:Int)then v.2.2.1[0+v.1.toNat]?.bind fun c=>K (.inl (zXq.wrap (v.1+1),zXq.wrap (v.2.1+1),v.2.2.1.set (0+v.1.toNat) (a.1,a.2.1,()),()))else none else K (.inl (v.1,zXq.wrap (v.2.1+1),v.2.2.1,()))else none else K (.inr (v.1,v.2.2.1,()))
theorem IW:AW Be:=fun i v R K=>Ad (Ar (Ac fun _=>Ac fun _=>Ad (Ar (Ac fun _=>Aa)) (Aa))) (Aa)
def VS:Tmpl:=⟨(.own 0 (.fn 251 (.ptr 1 0 0 .nil) (jk 3 (si 2 (jk 35 .nil))))),(.lst false A0 (.cells 1 (.slot .i .nil) .nil))⟩
def oM:Exs oS oP:=x1 (.exit 0) fun i p=>⟨AV.own 0 none none::jn 4 (.n (p.1)::jn 36 ([])),[some (Cont.lst false A0 p.2.1),some (Cont.cells 1 [[AV.pv .i i.1]])]⟩
def oQ:=((.v (.v (.v (.i .n)))):Pk VS.ty _ _)
def A4r:Cfg:={ti:=Az,ents:=[YV,Sl],ann:=[(5,Ao VS 2 (spP oQ) Be oM.E)],lent:=2,cut:=[none]}
def CD (x:List A1×Int×Unit):Option (Int×List A1×Unit):=(C3 (x.1,(some x.2.1,()),())).bind fun v=>bif v.1==-1 then some (x.2.1,x.1,())else(Au (fun v=>Be (x.2.1,()) v _ some) (v.1,zXq.wrap (v.1+1),x.1,())).bind fun p=>if 0<=p.1/\p.1<=(p.2.1.length:Int)/\(p.2.1.length:Int)<=(p.2.1.length:Int)then if(0:Int)<=0/\0<=p.1/\p.1<=(↑((List.take (0+p.1.toNat) p.2.1++zKq ((p.2.1.length:Int).toNat-p.1.toNat) (0,0,())++List.drop (0+p.1.toNat+((p.2.1.length:Int).toNat-p.1.toNat)) p.2.1).length):Int)then some (x.2.1,List.take (p.1.toNat-Int.toNat 0) (List.take (0+p.1.toNat) p.2.1++zKq ((p.2.1.length:Int).toNat-p.1.toNat) (0,0,())++List.drop (0+p.1.toNat+((p.2.1.length:Int).toNat-p.1.toNat)) p.2.1),())else none else none
def A4q:Ent:=⟨81,⟨(.own 0 (.fn 251 (.ptr 1 0 0 .nil) .nil)),(.lst false A0 (.cells 1 (.slot .i .nil) .nil))⟩,⟨(.own 2 .nil),(.gone (.cells 1 (.slot .i .nil) (.lst false A0 .nil)))⟩,CD⟩
theorem oT:CfgOK prog A4r:=hcB (all_cons Ae6 (all_cons pa all_nil))
theorem A4p:AN prog A4r (lpc f81 0):=lkA oT VS oQ Be oM [0,5] IW
theorem Ae5:Aj prog A4q:=okB oT func81 A4p
def IK (x:List A1×Int×Unit):Option (List A1×Unit):=(CE (x.1,())).bind fun v=>(CD (v.1,x.2.1,())).bind fun v=>some (v.2.1,())
def YU:Ent:=⟨211,⟨(.slot (.slice A0) (.slot .i .nil)),.nil⟩,⟨(.own 0 .nil),(.lst false A0 .nil)⟩,IK⟩
theorem Ae4:Aj prog YU:=okA (hcA 0 (all_cons Ae5 (all_cons W2 all_nil))) func211
def Alf:Cfg:={ti:=Az,ents:=[YW,YU],ann:=[],lent:=5,hid:=[((0,1),[0])]}
def Eb (x:Nat×Bool×Int×A7):Option (Bool×Int×List (List A2)×List A3×List A1×List A1×A9):=x.2.2.2.2.1[x.1]?.bind fun v=>(GY (x.2.2.2.2.2.1,v.1,())).bind fun v=>x.2.2.2.2.1[x.1]?.bind fun a=>(IK (x.2.2.2.2.2.2.1,a.1,())).bind fun b=>some (x.2.1,x.2.2.1,x.2.2.2.1,x.2.2.2.2.1,x.2.2.2.2.2.1,x.2.2.2.2.2.2.1,v.1,b.1,())
def YT:Ent:=⟨154,⟨(.ptr 0 0 0 (.ptrI 2 0 .nil)),(.cells 6 (.slot .bool (.own 1 (.own 2 (.own 3 (.own 4 (.slot .i .nil)))))) (.tree false 0 (.slice Af) (.tree false 0 Ae (.lst false A0 (.lst false A0 .nil)))))⟩,⟨.nil,(.cells 6 (.slot .bool (.own 1 (.own 2 (.own 5 (.own 6 (.slot .i .nil)))))) (.tree false 0 (.slice Af) (.tree false 0 Ae (.lst false A0 (.lst false A0 (.lst false A0 (.lst false A0 .nil)))))))⟩,Eb⟩
theorem oL:Aj prog YT:=okA (C:=Alf) (hcB (all_cons Ae7 (all_cons Ae4 all_nil))) func154
def Bi (x:Nat×Int×Bool×Int×A7):Option (Int×Bool×Int×List (List A2)×List A3×List A1×List A1×A9):=x.2.2.2.2.2.1[x.1]?.bind fun v=>(Eb (x.1,x.2.2.1,x.2.2.2.1,x.2.2.2.2.1,x.2.2.2.2.2.1.set x.1 (v.1,v.2.1,3,v.2.2.2.1,v.2.2.2.2.1,v.2.2.2.2.2.1,v.2.2.2.2.2.2.1,v.2.2.2.2.2.2.2.1,v.2.2.2.2.2.2.2.2.1,()),x.2.2.2.2.2.2.1,x.2.2.2.2.2.2.2.1,())).bind fun v=>some (x.2.1,v.1,v.2.1,v.2.2.1,v.2.2.2.1,v.2.2.2.2.1,v.2.2.2.2.2.1,v.2.2.2.2.2.2.1,v.2.2.2.2.2.2.2.1,())
def Oi:Ent:=⟨87,⟨(.ptr 0 0 0 (.ptrI 2 0 (.slot .i .nil))),(.cells 6 (.slot .bool (.own 1 (.own 2 (.own 3 (.own 4 (.slot .i .nil)))))) (.tree false 0 (.slice Af) (.tree false 0 Ae (.lst false A0 (.lst false A0 .nil)))))⟩,⟨(.agg (.slot .i (.const (AV.nils) .nil)) .nil),(.cells 6 (.slot .bool (.own 1 (.own 2 (.own 5 (.own 6 (.slot .i .nil)))))) (.tree false 0 (.slice Af) (.tree false 1 Ae (.lst false A0 (.lst false A0 (.lst false A0 (.lst false A0 .nil)))))))⟩,Bi⟩
theorem RP:Aj prog Oi:=okA (hcA 5 (all_cons oL all_nil)) func87
abbrev oJ:=List A1×Unit×B3
abbrev oG:=Int×Int×Unit
abbrev oH:=Int×Unit
def AH (i:oJ)(v:oG)(R:Type)(K:oG ⊕ oH->Option R):Option R:=bif decide (v.1<v.2.1)then(lAt i.1 (zXq.wrap (Int.fdiv (IntKind.u64.wrap (zXq.wrap (v.1+v.2.1))) (2 ^ min (Int.toNat 1) (IntKind.bits IntKind.u64))))).bind fun a=>(Ch ((a.1,a.2.1,()),(i.2.2.2.1,i.2.2.2.2.1,()),())).bind fun b=>bif decide (b.1<0)then K (.inl (zXq.wrap (zXq.wrap (Int.fdiv (IntKind.u64.wrap (zXq.wrap (v.1+v.2.1))) (2 ^ min (Int.toNat 1) (IntKind.bits IntKind.u64)))+1),v.2.1,()))else K (.inl (v.1,zXq.wrap (Int.fdiv (IntKind.u64.wrap (zXq.wrap (v.1+v.2.1))) (2 ^ min (Int.toNat 1) (IntKind.bits IntKind.u64))),()))else K (.inr (v.1,()))
theorem G7:AW AH:=fun i v R K=>Ad (Ac fun _=>Ac fun _=>Ad (Aa) (Aa)) (Aa)
def VQ:Tmpl:=⟨(.slot (.slice A0) (.junk (.slot (.fn 214 .unit) (.junk (.ptr 0 0 0 (jk 3 (si 3 (jk 38 .nil)))))))),(.cells 2 (si 2 .nil) .nil)⟩
def oF:Exs oJ oH:=x1 (.exit 0) fun i p=>⟨AV.pv (.slice A0) i.1::jn 1 (AV.pv (.fn 214 .unit) i.2.1::jn 1 (AV.ptr 0 none 0 0::jn 3 (.n (i.2.2.1)::.n (p.1)::jn 39 ([])))),[some (Cont.cells 2 [[AV.pv .i i.2.2.2.1,AV.pv .i i.2.2.2.2.1]])]⟩
def oI:=((.i (.i (.i (.v (.v (.i (.i .n))))))):Pk VQ.ty _ _)
def A4h:Cfg:={ti:=Az,ents:=[So],ann:=[(3,Ao VQ 0 (spP oI) AH oF.E)],lent:=0}
def Bh (x:List A1×A1×Unit×Unit):Option (Int×Bool×Unit):=(Au (fun v=>AH (x.1,x.2.2.1,(x.1.length:Int),x.2.1.1,x.2.1.2.1,()) v _ some) (0,(x.1.length:Int),())).bind fun p=>bif decide (p.1<(x.1.length:Int))then(lAt x.1 p.1).bind fun v=>(Ch ((v.1,v.2.1,()),(x.2.1.1,x.2.1.2.1,()),())).bind fun v=>some (p.1,v.1==0,())else some (p.1,false,())
def YS:Ent:=⟨239,⟨(.slot (.slice A0) (.slot A0 (.slot (.fn 214 .unit) .nil))),.nil⟩,⟨(.slot .i (.slot .bool .nil)),.nil⟩,Bh⟩
theorem oK:CfgOK prog A4h:=hcB (all_cons qo all_nil)
theorem A4g:AN prog A4h (lpc f239 0):=lkA oK VQ oI AH oF [0,2,4,8,9] G7
theorem Ae2:Aj prog YS:=okB oK func239 A4g
def CA (x:List A1×Unit):Option (List A1×Unit):=bif x.1.length==0 then WI (some ([],())) (if x.1.length<=2199023255552 then some (x.1,())else none)else if x.1.length<=2199023255552 then some (x.1,())else none
def YR:Ent:=⟨109,⟨(.slot (.slice A0) .nil),.nil⟩,⟨(.own 0 .nil),(.lst false A0 .nil)⟩,CA⟩
theorem oE:Aj prog YR:=okA (hcA 0 all_nil) func109
def YP:Go.Shelf.Ren:=⟨fun|22=>240|29=>260|30=>261|n=>n,fun|24=>62|9=>71|n=>n,fun|n=>n⟩
theorem Ale:InsL prog YP true 2 where
 mixed:=by kernel_rfl
 f22:=⟨ "slices.Insert[[]loop.example/g01924/impl.ReadMark,loop.example/g01924/impl.ReadMark]",by decide,func240.trans (congrArg some (by kernel_rfl))⟩
 f29:=⟨_,func260,by kernel_rfl,by kernel_rfl,by kernel_rfl,by kernel_rfl⟩
 a9:=isAgg71
 z9:=sizeOf71
 t0:=underlying0
 a0:=isAgg0
 z0:=sizeOf0
 v0:=zeroValue0
 t3:=underlying3
 a3:=isAgg3
 z3:=sizeOf3
 v3:=zeroValue3
 t4:=underlying4
 a4:=isAgg4
 z4:=sizeOf4
 v4:=zeroValue4
 t24:=underlying62
 a24:=isAgg62
 z24:=sizeOf62
 v24:=zeroValue62
def De (x:Int×List (Int×Int×Unit)×List (Int×Int×Unit)×Unit):Option (List (Int×Int×Unit)×Unit):=R1 (α:=Int×Int×Unit) 2199023255552 x
def Anz:Cfg:={ti:=Az,ents:=[],ann:=[],lent:=2}
def YQ:Ent:=⟨240,⟨(.own 0 (.slot Ty.i (.own 1 .nil))),(.lst false A0 (.lst false A0 .nil))⟩,⟨(.own 2 .nil),(.gone (.gone (.lst false A0 .nil)))⟩,De⟩
theorem Ae1:Aj prog YQ:=RR (ρ:=YP) (t:=A0) A7x Ale rfl (by decide) rfl
def Ald:Cfg:={ti:=Az,ents:=[YQ,YS,YR],ann:=[],lent:=1,hid:=[((7,1),[0]),((7,13),[0]),((7,14),[0]),((7,15),[0])]}
def DZ (x:Nat×Int×Int×Int×Int×Int×Int×List A3×Unit):Option (Bool×List A3×Unit):=x.2.2.2.2.2.2.2.1[x.1]?.bind fun v=>x.2.2.2.2.2.2.2.1[x.1]?.bind fun v=>bif (v.2.2.2.2.2.2.2.1.length:Int)==60 then some (false,x.2.2.2.2.2.2.2.1,())else x.2.2.2.2.2.2.2.1[x.1]?.bind fun v=>x.2.2.2.2.2.2.2.1[x.1]?.bind fun v=>(Bh (v.2.2.2.2.2.2.2.1,(x.2.1,x.2.2.2.2.1,()),(),())).bind fun v=>bif !v.2.1 then x.2.2.2.2.2.2.2.1[x.1]?.bind fun a=>x.2.2.2.2.2.2.2.1[x.1]?.bind fun b=>(CA (b.2.2.2.2.2.2.2.1,())).bind fun c=>(De (v.1,c.1,[(x.2.1,x.2.2.2.2.1,())],())).bind fun v=>x.2.2.2.2.2.2.2.1[x.1]?.bind fun d=>(x.2.2.2.2.2.2.2.1.set x.1 (d.1,d.2.1,d.2.2.1,d.2.2.2.1,d.2.2.2.2.1,d.2.2.2.2.2.1,d.2.2.2.2.2.2.1,v.1,d.2.2.2.2.2.2.2.2.1,()))[x.1]?.bind fun e=>(x.2.2.2.2.2.2.2.1.set x.1 (d.1,d.2.1,d.2.2.1,d.2.2.2.1,d.2.2.2.2.1,d.2.2.2.2.2.1,d.2.2.2.2.2.2.1,v.1,d.2.2.2.2.2.2.2.2.1,()))[x.1]?.bind fun f=>(x.2.2.2.2.2.2.2.1.set x.1 (d.1,d.2.1,d.2.2.1,d.2.2.2.1,d.2.2.2.2.1,d.2.2.2.2.2.1,d.2.2.2.2.2.2.1,v.1,d.2.2.2.2.2.2.2.2.1,()))[x.1]?.bind fun g=>((x.2.2.2.2.2.2.2.1.set x.1 (d.1,d.2.1,d.2.2.1,d.2.2.2.1,d.2.2.2.2.1,d.2.2.2.2.2.1,d.2.2.2.2.2.2.1,v.1,d.2.2.2.2.2.2.2.2.1,())).set x.1 (g.1,g.2.1,g.2.2.1,g.2.2.2.1,mx e.2.2.2.2.1 x.2.2.2.2.1,g.2.2.2.2.2.1,g.2.2.2.2.2.2.1,g.2.2.2.2.2.2.2.1,g.2.2.2.2.2.2.2.2.1,()))[x.1]?.bind fun h=>some (true,((x.2.2.2.2.2.2.2.1.set x.1 (d.1,d.2.1,d.2.2.1,d.2.2.2.1,d.2.2.2.2.1,d.2.2.2.2.2.1,d.2.2.2.2.2.2.1,v.1,d.2.2.2.2.2.2.2.2.1,())).set x.1 (g.1,g.2.1,g.2.2.1,g.2.2.2.1,mx e.2.2.2.2.1 x.2.2.2.2.1,g.2.2.2.2.2.1,g.2.2.2.2.2.2.1,g.2.2.2.2.2.2.2.1,g.2.2.2.2.2.2.2.2.1,())).set x.1 (h.1,h.2.1,h.2.2.1,h.2.2.2.1,h.2.2.2.2.1,mn f.2.2.2.2.2.1 x.2.2.2.2.2.2.1,h.2.2.2.2.2.2.1,h.2.2.2.2.2.2.2.1,h.2.2.2.2.2.2.2.2.1,()),())else x.2.2.2.2.2.2.2.1[x.1]?.bind fun v=>x.2.2.2.2.2.2.2.1[x.1]?.bind fun a=>x.2.2.2.2.2.2.2.1[x.1]?.bind fun b=>(x.2.2.2.2.2.2.2.1.set x.1 (b.1,b.2.1,b.2.2.1,b.2.2.2.1,mx v.2.2.2.2.1 x.2.2.2.2.1,b.2.2.2.2.2.1,b.2.2.2.2.2.2.1,b.2.2.2.2.2.2.2.1,b.2.2.2.2.2.2.2.2.1,()))[x.1]?.bind fun c=>some (true,(x.2.2.2.2.2.2.2.1.set x.1 (b.1,b.2.1,b.2.2.1,b.2.2.2.1,mx v.2.2.2.2.1 x.2.2.2.2.1,b.2.2.2.2.2.1,b.2.2.2.2.2.2.1,b.2.2.2.2.2.2.2.1,b.2.2.2.2.2.2.2.2.1,())).set x.1 (c.1,c.2.1,c.2.2.1,c.2.2.2.1,c.2.2.2.2.1,mn a.2.2.2.2.2.1 x.2.2.2.2.2.2.1,c.2.2.2.2.2.2.1,c.2.2.2.2.2.2.2.1,c.2.2.2.2.2.2.2.2.1,()),())
def YO:Ent:=⟨190,⟨(.ptrI 0 0 (.slot .i (.agg (si 5 .nil) .nil))),(.tree false 0 Ae .nil)⟩,⟨(.slot .bool .nil),(.tree false 1 Ae .nil)⟩,DZ⟩
theorem Ae0:Aj prog YO:=okA (C:=Ald) (hcB (all_cons Ae1 (all_cons Ae2 (all_cons oE all_nil)))) func190
def Alc:Cfg:={ti:=Az,ents:=[Oi,YO,YZ,YY],ann:=[],lent:=5,pre:=[(some (0,3)),(some (0,4))]}
def GH (x:Nat×Int×Bool×Int×A7):Option (Int×Int×Bool×Int×A7):=x.2.2.2.2.2.1[x.1]?.bind fun v=>x.2.2.2.2.2.1[x.1]?.bind fun a=>x.2.2.2.2.2.1[x.1]?.bind fun b=>(Jp ((v.1,v.2.1,v.2.2.1,v.2.2.2.1,v.2.2.2.2.1,v.2.2.2.2.2.1,v.2.2.2.2.2.2.1,a.2.2.2.2.2.2.2.1,b.2.2.2.2.2.2.2.2.1,()),x.2.1,())).bind fun v=>bif decide (v.1>=0)then x.2.2.2.2.2.1[x.1]?.bind fun c=>x.2.2.2.2.2.1[x.1]?.bind fun d=>if 0<=v.1/\v.1<(d.2.2.2.2.2.2.2.2.1.length:Int)then x.2.2.2.2.2.1[x.1]?.bind fun e=>e.2.2.2.2.2.2.2.2.1[0+v.1.toNat]?.bind fun v=>some (v.2.1,0,x.2.2.1,x.2.2.2.1,x.2.2.2.2.1,x.2.2.2.2.2.1,x.2.2.2.2.2.2.1,x.2.2.2.2.2.2.2.1,())else none else x.2.2.2.2.2.1[x.1]?.bind fun v=>x.2.2.2.2.2.1[x.1]?.bind fun c=>x.2.2.2.2.2.1[x.1]?.bind fun d=>(GX ((x.2.2.2.2.1,()),(v.1,v.2.1,v.2.2.1,v.2.2.2.1,v.2.2.2.2.1,v.2.2.2.2.2.1,v.2.2.2.2.2.2.1,c.2.2.2.2.2.2.2.1,d.2.2.2.2.2.2.2.2.1,()),x.2.1,())).bind fun v=>bif v.2.2.2.2.2.1 != 0 then(Bi (x.1,v.2.2.2.2.2.1,x.2.2.1,x.2.2.2.1,x.2.2.2.2.1,x.2.2.2.2.2.1,x.2.2.2.2.2.2.1,x.2.2.2.2.2.2.2.1,())).bind fun e=>some (0,v.2.2.2.2.2.1,e.2.1,e.2.2.1,e.2.2.2.1,e.2.2.2.2.1,e.2.2.2.2.2.2.2.1,e.2.2.2.2.2.2.2.2.1,())else(DZ (x.1,x.2.1,v.1,v.2.1,v.2.2.1,v.2.2.2.1,v.2.2.2.2.1,x.2.2.2.2.2.1,())).bind fun e=>bif !e.1 then some (0,6,x.2.2.1,x.2.2.2.1,x.2.2.2.2.1,e.2.1,x.2.2.2.2.2.2.1,x.2.2.2.2.2.2.2.1,())else some (v.2.1,0,x.2.2.1,x.2.2.2.1,x.2.2.2.2.1,e.2.1,x.2.2.2.2.2.2.1,x.2.2.2.2.2.2.2.1,())
def YN:Ent:=⟨142,⟨(.ptr 0 0 0 (.ptrI 2 0 (.slot .i .nil))),(.cells 6 (.slot .bool (.own 1 (.own 2 (.own 3 (.own 4 (.slot .i .nil)))))) (.tree false 0 (.slice Af) (.tree false 0 Ae (.lst false A0 (.lst false A0 .nil)))))⟩,⟨(si 2 .nil),(.cells 6 (.slot .bool (.own 1 (.own 2 (.own 5 (.own 6 (.slot .i .nil)))))) (.tree false 0 (.slice Af) (.tree false 1 Ae (.gone (.gone (.lst false A0 (.lst false A0 .nil)))))))⟩,GH⟩
theorem Adz:Aj prog YN:=okA (C:=Alc) (hcB (all_cons RP (all_cons Ae0 (all_cons Aec (all_cons Aea all_nil))))) func142
abbrev oC:=Nat×B3
abbrev oz:=Int×Bool×Int×List (List A2)×List A3×List A1×List A1×List Int×Unit
abbrev oA:=Bool×Int×List (List A2)×List A3×Int×List Int×A9 ⊕ Bool×Int×List (List A2)×List A3×List A1×List A1×List Int×Unit
def CN (i:oC)(v:oz)(R:Type)(K:oz ⊕ oA->Option R):Option R:=bif decide (v.1<=i.2.1)then(GH (i.1,v.1,v.2.1,v.2.2.1,v.2.2.2.1,v.2.2.2.2.1,v.2.2.2.2.2.1,v.2.2.2.2.2.2.1,())).bind fun a=>bif a.2.1 != 0 then K (.inr (.inl (a.2.2.1,a.2.2.2.1,a.2.2.2.2.1,a.2.2.2.2.2.1,a.2.1,v.2.2.2.2.2.2.2.1,a.2.2.2.2.2.2.1,a.2.2.2.2.2.2.2.1,())))else if(v.2.2.2.2.2.2.2.1++[a.1]).length<=4398046511104 then K (.inl (zXq.wrap (v.1+1),a.2.2.1,a.2.2.2.1,a.2.2.2.2.1,a.2.2.2.2.2.1,a.2.2.2.2.2.2.1,a.2.2.2.2.2.2.2.1,v.2.2.2.2.2.2.2.1++[a.1],()))else none else K (.inr (.inr (v.2.1,v.2.2.1,v.2.2.2.1,v.2.2.2.2.1,v.2.2.2.2.2.1,v.2.2.2.2.2.2.1,v.2.2.2.2.2.2.2.1,())))
theorem LS:AW CN:=fun i v R K=>Ad (Ac fun _=>Ad (Aa) (Ar (Aa))) (Aa)
def VP:Tmpl:=⟨(.ptr 0 0 0 (.ptrI 2 0 (.junk (.slot .i (jk 4 (.ptr 7 0 0 (.ptr 8 0 0 (.slot .i (jk 27 .nil))))))))),(.cells 6 (.slot .bool (.own 1 (.own 2 (.own 5 (.own 6 (.slot .i .nil)))))) (.tree false 0 (.slice Af) (.tree false 1 Ae (.gone (.gone (.lst false A0 (.lst false A0 (.cells 2 (.slot .i (.const (AV.nils) .nil)) (.cells 2 (.slot .i (.own 9 .nil)) (.lst false .i .nil))))))))))⟩
def oy:Exs oC oA:=xs .ret (fun i p=>⟨jn 8 (AV.ptr 7 none 0 0::AV.ptr 8 none 0 0::jn 28 ([])),[some (Cont.cells 6 [[AV.pv .bool p.1,AV.own 1 none none,AV.own 2 none none,AV.own 15 none none,AV.own 16 none none,AV.pv .i p.2.1]]),some (Cont.tree false 0 (.slice Af) p.2.2.1 none),some (Cont.tree false 2 Ae p.2.2.2.1 none),some Cont.dead,some Cont.dead,some Cont.dead,some Cont.dead,some (Cont.cells 2 [[AV.pv .i p.2.2.2.2.1,AV.nils]]),some (Cont.cells 2 [[AV.pv .i i.2.2.2.1,AV.own 9 none none]]),some (Cont.lst false .i p.2.2.2.2.2.1),none,none,none,none,none,some (Cont.lst false A0 p.2.2.2.2.2.2.1),some (Cont.lst false A0 p.2.2.2.2.2.2.2.1)]⟩)<|x1 (.exit 0) fun i p=>⟨jn 8 (AV.ptr 7 none 0 0::AV.ptr 8 none 0 0::jn 28 ([])),[some (Cont.cells 6 [[AV.pv .bool p.1,AV.own 1 none none,AV.own 2 none none,AV.own 5 none none,AV.own 6 none none,AV.pv .i p.2.1]]),some (Cont.tree false 0 (.slice Af) p.2.2.1 none),some (Cont.tree false 1 Ae p.2.2.2.1 none),some Cont.dead,some Cont.dead,some (Cont.lst false A0 p.2.2.2.2.1),some (Cont.lst false A0 p.2.2.2.2.2.1),some (Cont.cells 2 [[AV.pv .i i.2.2.1,AV.nils]]),some (Cont.cells 2 [[AV.pv .i i.2.2.2.1,AV.own 9 none none]]),some (Cont.lst false .i p.2.2.2.2.2.2.1)]⟩
def oB:=((.i (.i (.v (.v (.v (.v (.v (.v (.v (.i (.i (.v .n)))))))))))):Pk VP.ty _ _)
def A4f:Cfg:={ti:=Az,ents:=[YN],ann:=[(3,Ao VP 5 (spP oB) CN oy.E)],lent:=5,pre:=[(some (0,3)),(some (0,4))]}
def GG (x:Nat×Int×Int×Bool×Int×A7):Option (Int×Bool×Int×List (List A2)×List A3×List A1×List A1×List Int×Unit):=(Au (fun v=>CN (x.1,x.2.2.1,0,0,()) v _ some) (x.2.1,x.2.2.2.1,x.2.2.2.2.1,x.2.2.2.2.2.1,x.2.2.2.2.2.2.1,x.2.2.2.2.2.2.2.1,x.2.2.2.2.2.2.2.2.1,[],())).bind fun p=>Ap p (fun p=>some (p.2.2.2.2.1,p.1,p.2.1,p.2.2.1,p.2.2.2.1,p.2.2.2.2.2.2.1,p.2.2.2.2.2.2.2.1,[],())) fun p=>some (0,p.1,p.2.1,p.2.2.1,p.2.2.2.1,p.2.2.2.2.1,p.2.2.2.2.2.1,p.2.2.2.2.2.2.1,())
def YM:Ent:=⟨84,⟨(.ptr 0 0 0 (.ptrI 2 0 (si 2 .nil))),(.cells 6 (.slot .bool (.own 1 (.own 2 (.own 3 (.own 4 (.slot .i .nil)))))) (.tree false 0 (.slice Af) (.tree false 0 Ae (.lst false A0 (.lst false A0 .nil)))))⟩,⟨(.agg (.slot .i (.own 7 .nil)) .nil),(.cells 6 (.slot .bool (.own 1 (.own 2 (.own 5 (.own 6 (.slot .i .nil)))))) (.tree false 0 (.slice Af) (.tree false 1 Ae (.gone (.gone (.lst false A0 (.lst false A0 (.lst false .i .nil))))))))⟩,GG⟩
theorem oD:CfgOK prog A4f:=hcB (all_cons Adz all_nil)
theorem A4e:AN prog A4f (lpc f84 0):=lkA oD VP oB CN oy [8,9] LS
theorem Ady:Aj prog YM:=okB oD func84 A4e
def I1 (x:A1×Option Int×Unit):Option (Bool×Unit):=x.2.1.bind fun v=>some (x.1.1==v,())
def YL:Ent:=⟨192,⟨(.slot A0 (.slot (.iref .i) .nil)),.nil⟩,⟨(.slot .bool .nil),.nil⟩,I1⟩
theorem Adx:Aj prog YL:=okA (hcA 0 all_nil) func192
abbrev ow:=List A1×(Option Int×Unit)×Int×Unit
abbrev ot:=Int×Unit
abbrev ou:=Int×Unit ⊕ Unit
def Bk (i:ow)(v:ot)(R:Type)(K:ot ⊕ ou->Option R):Option R:=bif decide (v.1<i.2.2.1)then(lAt i.1 v.1).bind fun a=>(I1 ((a.1,a.2.1,()),i.2.1.1,())).bind fun b=>bif b.1 then K (.inr (.inl (v.1,())))else K (.inl (zXq.wrap (v.1+1),()))else K (.inr (.inr ()))
theorem Ig:AW Bk:=fun i v R K=>Ad (Ac fun _=>Ac fun _=>Ad (Aa) (Aa)) (Aa)
def VO:Tmpl:=⟨(.slot (.slice A0) (.slot (.fn 192 (.prod (.iref .i) .unit)) (jk 5 (si 2 (jk 10 .nil))))),.nil⟩
def oq:Exs ow ou:=xs .ret (fun i p=>⟨jn 4 (.n (p.1)::jn 14 ([])),[]⟩)<|x1 (.exit 0) fun i p=>⟨jn 19 ([]),[]⟩
def ov:=((.i (.i (.i (.v .n)))):Pk VO.ty _ _)
def A4d:Cfg:={ti:=Az,ents:=[YL],ann:=[(2,Ao VO 0 (spP ov) Bk oq.E)],lent:=0}
def Ce (x:List A1×(Option Int×Unit)×Unit):Option (Int×Unit):=(Au (fun v=>Bk (x.1,x.2.1,(x.1.length:Int),()) v _ some) (0,())).bind fun p=>Ap p (fun p=>some (p.1,())) fun p=>some (-1,())
def A4c:Ent:=⟨172,⟨(.slot (.slice A0) (.slot (.fn 192 (.prod (.iref .i) .unit)) .nil)),.nil⟩,⟨(.slot .i .nil),.nil⟩,Ce⟩
theorem ox:CfgOK prog A4d:=hcB (all_cons Adx all_nil)
theorem A4b:AN prog A4d (lpc f172 0):=lkA ox VO ov Bk oq [4] Ig
theorem Adw:Aj prog A4c:=okB ox func172 A4b
def Hz (x:List A1×Int×Unit):Option (Int×Unit):=(Ce (x.1,(some x.2.1,()),())).bind fun v=>bif decide (v.1<0)then some (0,())else(lAt x.1 v.1).bind fun v=>some (v.2.1,())
def YK:Ent:=⟨144,⟨(.slot (.slice A0) (.slot .i .nil)),.nil⟩,⟨(.slot .i .nil),.nil⟩,Hz⟩
theorem oo:Aj prog YK:=okA (hcA 0 (all_cons Adw all_nil)) func144
def Ea (x:A4×Int×Unit):Option (Option A2×Unit):=(lAt x.1.1 x.2.1).bind fun v=>(lAt v (zXq.wrap ((v.length:Int)-1))).bind fun v=>some (some v,())
def YJ:Ent:=⟨191,⟨(.slot BW (.slot .i .nil)),.nil⟩,⟨(.slot (.iref Af) .nil),.nil⟩,Ea⟩
theorem VL:Aj prog YJ:=okA (hcA 0 all_nil) func191
def Fo (x:A4×List A1×A3×Int×Unit):Option (Int×Unit):=(Hz (x.2.1,x.2.2.2.1,())).bind fun v=>(Ea ((x.1.1,()),x.2.2.2.1,())).bind fun a=>bif v.1 != 0 then bif x.2.2.1.2.1==1 then bif v.1 != x.2.2.1.1 then some (1,())else bif x.2.2.1.2.1==2 then bif v.1 != x.2.2.1.1 then some (2,())else a.1.bind fun v=>bif decide (v.2.2.1>x.2.2.1.2.2.2.1)then some (2,())else bif x.2.2.1.2.1==4 then a.1.bind fun v=>bif decide (v.2.2.2.1>x.2.2.1.2.2.2.1)then some (3,())else some (0,())else some (0,())else bif x.2.2.1.2.1==4 then a.1.bind fun v=>bif decide (v.2.2.2.1>x.2.2.1.2.2.2.1)then some (3,())else some (0,())else some (0,())else bif x.2.2.1.2.1==2 then bif v.1 != x.2.2.1.1 then some (2,())else a.1.bind fun v=>bif decide (v.2.2.1>x.2.2.1.2.2.2.1)then some (2,())else bif x.2.2.1.2.1==4 then a.1.bind fun v=>bif decide (v.2.2.2.1>x.2.2.1.2.2.2.1)then some (3,())else some (0,())else some (0,())else bif x.2.2.1.2.1==4 then a.1.bind fun v=>bif decide (v.2.2.2.1>x.2.2.1.2.2.2.1)then some (3,())else some (0,())else some (0,())else bif x.2.2.1.2.1==1 then bif x.2.2.1.2.1==2 then a.1.bind fun v=>bif decide (v.2.2.1>x.2.2.1.2.2.2.1)then some (2,())else bif x.2.2.1.2.1==4 then a.1.bind fun v=>bif decide (v.2.2.2.1>x.2.2.1.2.2.2.1)then some (3,())else some (0,())else some (0,())else bif x.2.2.1.2.1==4 then a.1.bind fun v=>bif decide (v.2.2.2.1>x.2.2.1.2.2.2.1)then some (3,())else some (0,())else some (0,())else bif x.2.2.1.2.1==2 then a.1.bind fun v=>bif decide (v.2.2.1>x.2.2.1.2.2.2.1)then some (2,())else bif x.2.2.1.2.1==4 then a.1.bind fun v=>bif decide (v.2.2.2.1>x.2.2.1.2.2.2.1)then some (3,())else some (0,())else some (0,())else bif x.2.2.1.2.1==4 then a.1.bind fun v=>bif decide (v.2.2.2.1>x.2.2.1.2.2.2.1)then some (3,())else some (0,())else some (0,())
def YI:Ent:=⟨143,⟨(.slot BW (.slot (.slice A0) (.slot Ae (.slot .i .nil)))),.nil⟩,⟨(.slot .i .nil),.nil⟩,Fo⟩
theorem Adv:Aj prog YI:=okA (hcA 0 (all_cons oo (all_cons VL all_nil))) func143
abbrev ol:=List A1×List A1×Int×Unit
abbrev oh:=Int×Unit
abbrev oi:=Int×Int×Unit ⊕ Int×Int×Unit ⊕ Int×Int×Unit ⊕ Int×Int×Unit ⊕ Unit
def FE (i:ol)(v:oh)(R:Type)(K:oh ⊕ oi->Option R):Option R:=bif decide (v.1<i.2.2.1)then(lAt i.2.1 v.1).bind fun a=>(BB (a.1,())).bind fun b=>bif !b.1 then K (.inr (.inl (a.1,a.2.1,())))else(BB (a.2.1,())).bind fun c=>bif !c.1 then K (.inr (.inr (.inl (a.1,a.2.1,()))))else bif a.1==a.2.1 then K (.inr (.inr (.inr (.inl (a.1,a.2.1,())))))else bif decide (v.1>0)then(lAt i.1 (zXq.wrap (v.1-1))).bind fun d=>bif decide (d.1>=a.1)then K (.inr (.inr (.inr (.inr (.inl (a.1,a.2.1,()))))))else K (.inl (zXq.wrap (v.1+1),()))else K (.inl (zXq.wrap (v.1+1),()))else K (.inr (.inr (.inr (.inr (.inr ())))))
theorem OB:AW FE:=fun i v R K=>Ad (Ac fun _=>Ac fun _=>Ad (Aa) (Ac fun _=>Ad (Aa) (Ad (Aa) (Ad (Ac fun _=>Ad (Aa) (Aa)) (Aa))))) (Aa)
def VJ:Tmpl:=⟨(.slot (.slice A0) (jk 4 (.slot (.slice A0) (si 2 (jk 37 .nil))))),.nil⟩
def og:Exs ol oi:=xs .ret (fun i p=>⟨jn 2 (.b (false)::jn 42 ([])),[some (Cont.cells 2 [[AV.pv .i p.1,AV.pv .i p.2.1]])]⟩)<|xs .ret (fun i p=>⟨jn 2 (.b (false)::jn 42 ([])),[some (Cont.cells 2 [[AV.pv .i p.1,AV.pv .i p.2.1]])]⟩)<|xs .ret (fun i p=>⟨jn 2 (.b (false)::jn 42 ([])),[some (Cont.cells 2 [[AV.pv .i p.1,AV.pv .i p.2.1]])]⟩)<|xs .ret (fun i p=>⟨jn 2 (.b (false)::jn 42 ([])),[some (Cont.cells 2 [[AV.pv .i p.1,AV.pv .i p.2.1]])]⟩)<|x1 (.exit 0) fun i p=>⟨jn 45 ([]),[]⟩
def oj:=((.i (.i (.i (.v .n)))):Pk VJ.ty _ _)
def A49:Cfg:={ti:=Az,ents:=[Qg],ann:=[(2,Ao VJ 0 (spP oj) FE og.E)],lent:=0}
def Ef (x:List A1×Unit):Option (Bool×Unit):=(Au (fun v=>FE (x.1,x.1,(x.1.length:Int),()) v _ some) (0,())).bind fun p=>Ap p (fun p=>some (false,())) fun p=>Ap p (fun p=>some (false,())) fun p=>Ap p (fun p=>some (false,())) fun p=>Ap p (fun p=>some (false,())) fun p=>some (true,())
def YH:Ent:=⟨102,⟨(.slot (.slice A0) .nil),.nil⟩,⟨(.slot .bool .nil),.nil⟩,Ef⟩
theorem om:CfgOK prog A49:=hcB (all_cons M5 all_nil)
theorem A48:AN prog A49 (lpc f102 0):=lkA om VJ oj FE og [2] OB
theorem VK:Aj prog YH:=okB om func102 A48
def Hx (x:A1×Int×Unit):Option (Int×Unit):=(Bs (x.1.1,x.2.1,())).bind fun v=>some (v.1,())
def YG:Ent:=⟨195,⟨(.slot A0 (.slot .i .nil)),.nil⟩,⟨(.slot .i .nil),.nil⟩,Hx⟩
theorem Adu:Aj prog YG:=okA (hcA 0 (all_cons PQ all_nil)) func195
abbrev od:=List A1×Int×Unit×Int×Unit
abbrev oa:=Int×Int×Unit
abbrev ob:=Int×Unit
def AM (i:od)(v:oa)(R:Type)(K:oa ⊕ ob->Option R):Option R:=bif decide (v.1<v.2.1)then(lAt i.1 (zXq.wrap (Int.fdiv (IntKind.u64.wrap (zXq.wrap (v.1+v.2.1))) (2 ^ min (Int.toNat 1) (IntKind.bits IntKind.u64))))).bind fun a=>(Hx ((a.1,a.2.1,()),i.2.1,())).bind fun b=>bif decide (b.1<0)then K (.inl (zXq.wrap (zXq.wrap (Int.fdiv (IntKind.u64.wrap (zXq.wrap (v.1+v.2.1))) (2 ^ min (Int.toNat 1) (IntKind.bits IntKind.u64)))+1),v.2.1,()))else K (.inl (v.1,zXq.wrap (Int.fdiv (IntKind.u64.wrap (zXq.wrap (v.1+v.2.1))) (2 ^ min (Int.toNat 1) (IntKind.bits IntKind.u64))),()))else K (.inr (v.1,()))
theorem GL:AW AM:=fun i v R K=>Ad (Ac fun _=>Ac fun _=>Ad (Aa) (Aa)) (Aa)
def VI:Tmpl:=⟨(.slot (.slice A0) (.slot .i (.slot (.fn 195 .unit) (jk 5 (si 3 (jk 38 .nil)))))),.nil⟩
def nZ:Exs od ob:=x1 (.exit 0) fun i p=>⟨AV.pv (.slice A0) i.1::.n (i.2.1)::AV.pv (.fn 195 .unit) i.2.2.1::jn 5 (.n (i.2.2.2.1)::.n (p.1)::jn 39 ([])),[]⟩
def oc:=((.i (.i (.i (.i (.v (.v .n)))))):Pk VI.ty _ _)
def A47:Cfg:={ti:=Az,ents:=[YG],ann:=[(3,Ao VI 0 (spP oc) AM nZ.E)],lent:=0}
def Bw (x:List A1×Int×Unit×Unit):Option (Int×Bool×Unit):=(Au (fun v=>AM (x.1,x.2.1,x.2.2.1,(x.1.length:Int),()) v _ some) (0,(x.1.length:Int),())).bind fun p=>bif decide (p.1<(x.1.length:Int))then(lAt x.1 p.1).bind fun v=>(Hx ((v.1,v.2.1,()),x.2.1,())).bind fun v=>some (p.1,v.1==0,())else some (p.1,false,())
def A46:Ent:=⟨194,⟨(.slot (.slice A0) (.slot .i (.slot (.fn 195 .unit) .nil))),.nil⟩,⟨(.slot .i (.slot .bool .nil)),.nil⟩,Bw⟩
theorem oe:CfgOK prog A47:=hcB (all_cons Adu all_nil)
theorem A45:AN prog A47 (lpc f194 0):=lkA oe VI oc AM nZ [0,1,2,8,9] GL
theorem Adt:Aj prog A46:=okB oe func194 A45
def YF:Go.Shelf.Ren:=⟨fun|22=>196|29=>242|30=>243|n=>n,fun|24=>38|9=>121|n=>n,fun|n=>n⟩
theorem Alb:InsL prog YF true 2 where
 mixed:=by kernel_rfl
 f22:=⟨ "slices.Insert[[]loop.example/g01924/impl.Wait,loop.example/g01924/impl.Wait]",by decide,func196.trans (congrArg some (by kernel_rfl))⟩
 f29:=⟨_,func242,by kernel_rfl,by kernel_rfl,by kernel_rfl,by kernel_rfl⟩
 a9:=isAgg121
 z9:=sizeOf121
 t0:=underlying0
 a0:=isAgg0
 z0:=sizeOf0
 v0:=zeroValue0
 t3:=underlying3
 a3:=isAgg3
 z3:=sizeOf3
 v3:=zeroValue3
 t4:=underlying4
 a4:=isAgg4
 z4:=sizeOf4
 v4:=zeroValue4
 t24:=underlying38
 a24:=isAgg38
 z24:=sizeOf38
 v24:=zeroValue38
def G8 (x:Int×List (Int×Int×Unit)×List (Int×Int×Unit)×Unit):Option (List (Int×Int×Unit)×Unit):=R1 (α:=Int×Int×Unit) 2199023255552 x
def Any:Cfg:={ti:=Az,ents:=[],ann:=[],lent:=2}
def A44:Ent:=⟨196,⟨(.own 0 (.slot Ty.i (.own 1 .nil))),(.lst false A0 (.lst false A0 .nil))⟩,⟨(.own 2 .nil),(.gone (.gone (.lst false A0 .nil)))⟩,G8⟩
theorem Ads:Aj prog A44:=RR (ρ:=YF) (t:=A0) qQ Alb rfl (by decide) rfl
def Hw (x:List A1×Int×Int×Unit):Option (Bool×List A1×Unit):=(CE (x.1,())).bind fun v=>(Ef (x.1,())).bind fun a=>bif !a.1 then some (false,v.1,())else(BB (x.2.1,())).bind fun b=>bif !b.1 then some (false,v.1,())else(BB (x.2.2.1,())).bind fun c=>bif !c.1 then some (false,v.1,())else bif x.2.1==x.2.2.1 then some (false,v.1,())else(Bw (x.1,x.2.1,(),())).bind fun d=>bif !d.2.1 then(G8 (d.1,v.1,[(x.2.1,x.2.2.1,())],())).bind fun v=>some (true,v.1,())else if 0<=d.1/\d.1<(v.1.length:Int)then v.1[0+d.1.toNat]?.bind fun e=>some (true,v.1.set (0+d.1.toNat) (e.1,x.2.2.1,()),())else none
def YE:Ent:=⟨146,⟨(.slot (.slice A0) (si 2 .nil)),.nil⟩,⟨(.own 0 (.slot .bool .nil)),(.lst false A0 .nil)⟩,Hw⟩
theorem nY:Aj prog YE:=okA (hcA 0 (all_cons Ads (all_cons W2 (all_cons VK (all_cons M5 (all_cons Adt all_nil)))))) func146
def HZ (x:A1×Option (List Int)×Unit):Option (Bool×Unit):=x.2.1.bind fun v=>x.2.1.bind fun a=>(lAt v (zXq.wrap ((a.length:Int)-1))).bind fun v=>some (x.1.1==v,())
def YD:Ent:=⟨241,⟨(.slot A0 (.slot (.iref (.slice .i)) .nil)),.nil⟩,⟨(.slot .bool .nil),.nil⟩,HZ⟩
theorem Adr:Aj prog YD:=okA (hcA 0 all_nil) func241
abbrev nW:=List A1×(Option (List Int)×Unit)×Int×Unit
abbrev nT:=Int×Unit
abbrev nU:=Int×Unit ⊕ Unit
def Bj (i:nW)(v:nT)(R:Type)(K:nT ⊕ nU->Option R):Option R:=bif decide (v.1<i.2.2.1)then(lAt i.1 v.1).bind fun a=>(HZ ((a.1,a.2.1,()),i.2.1.1,())).bind fun b=>bif b.1 then K (.inr (.inl (v.1,())))else K (.inl (zXq.wrap (v.1+1),()))else K (.inr (.inr ()))
theorem Ie:AW Bj:=fun i v R K=>Ad (Ac fun _=>Ac fun _=>Ad (Aa) (Aa)) (Aa)
def VH:Tmpl:=⟨(.slot (.slice A0) (.slot (.fn 241 (.prod (.iref (.slice .i)) .unit)) (jk 5 (si 2 (jk 10 .nil))))),.nil⟩
def nS:Exs nW nU:=xs .ret (fun i p=>⟨jn 4 (.n (p.1)::jn 14 ([])),[]⟩)<|x1 (.exit 0) fun i p=>⟨jn 19 ([]),[]⟩
def nV:=((.i (.i (.i (.v .n)))):Pk VH.ty _ _)
def A43:Cfg:={ti:=Az,ents:=[YD],ann:=[(2,Ao VH 0 (spP nV) Bj nS.E)],lent:=0}
def Cd (x:List A1×(Option (List Int)×Unit)×Unit):Option (Int×Unit):=(Au (fun v=>Bj (x.1,x.2.1,(x.1.length:Int),()) v _ some) (0,())).bind fun p=>Ap p (fun p=>some (p.1,())) fun p=>some (-1,())
def YC:Ent:=⟨141,⟨(.slot (.slice A0) (.slot (.fn 241 (.prod (.iref (.slice .i)) .unit)) .nil)),.nil⟩,⟨(.slot .i .nil),.nil⟩,Cd⟩
theorem nX:CfgOK prog A43:=hcB (all_cons Adr all_nil)
theorem A42:AN prog A43 (lpc f141 0):=lkA nX VH nV Bj nS [4] Ie
theorem Adq:Aj prog YC:=okB nX func141 A42
abbrev nQ:=List Int×Int×Int×Unit
abbrev nN:=Int×Unit
abbrev nO:=Int×Unit ⊕ Unit
def BN (i:nQ)(v:nN)(R:Type)(K:nN ⊕ nO->Option R):Option R:=bif decide (v.1<i.2.2.1)then(lAt i.1 v.1).bind fun a=>bif i.2.1==a then K (.inr (.inl (v.1,())))else K (.inl (zXq.wrap (v.1+1),()))else K (.inr (.inr ()))
theorem Mu:AW BN:=fun i v R K=>Ad (Ac fun _=>Ad (Aa) (Aa)) (Aa)
def VE:Tmpl:=⟨(.slot (.slice .i) (.slot .i (jk 5 (si 2 (jk 10 .nil))))),.nil⟩
def nM:Exs nQ nO:=xs .ret (fun i p=>⟨jn 4 (.n (p.1)::jn 14 ([])),[]⟩)<|x1 (.exit 0) fun i p=>⟨jn 19 ([]),[]⟩
def nP:=((.i (.i (.i (.v .n)))):Pk VE.ty _ _)
def A41:Cfg:={ti:=Az,ents:=[],ann:=[(2,Ao VE 0 (spP nP) BN nM.E)],lent:=0}
def HQ (x:List Int×Int×Unit):Option (Int×Unit):=(Au (fun v=>BN (x.1,x.2.1,(x.1.length:Int),()) v _ some) (0,())).bind fun p=>Ap p (fun p=>some (p.1,())) fun p=>some (-1,())
def A40:Ent:=⟨212,⟨(.slot (.slice .i) (.slot .i .nil)),.nil⟩,⟨(.slot .i .nil),.nil⟩,HQ⟩
theorem nR:CfgOK prog A41:=hcB all_nil
theorem A3z:AN prog A41 (lpc f212 0):=lkA nR VE nP BN nM [4] Mu
theorem Adp:Aj prog A40:=okB nR func212 A3z
def CM (x:List Int×Int×Unit):Option (Bool×Unit):=(HQ (x.1,x.2.1,())).bind fun v=>some (decide (v.1>=0),())
def Sk:Ent:=⟨156,⟨(.slot (.slice .i) (.slot .i .nil)),.nil⟩,⟨(.slot .bool .nil),.nil⟩,CM⟩
theorem nL:Aj prog Sk:=okA (hcA 0 (all_cons Adp all_nil)) func156
abbrev nJ:=List A1×Unit
abbrev nG:=List Int×Unit
abbrev nH:=List Int×Unit ⊕ List Int×List Int×Unit
def EY (i:nJ)(v:nG)(R:Type)(K:nG ⊕ nH->Option R):Option R:=(Cd (i.1,(some v.1,()),())).bind fun a=>bif decide (a.1<0)then K (.inr (.inl (v.1,())))else(lAt i.1 a.1).bind fun b=>(CM (v.1,b.2.1,())).bind fun c=>(lAt i.1 a.1).bind fun d=>if(v.1++[d.2.1]).length<=4398046511104 then bif c.1 then K (.inr (.inr ([d.2.1],v.1++[d.2.1],())))else K (.inl (v.1++[d.2.1],()))else none
theorem NZ:AW EY:=fun i v R K=>Ac fun _=>Ad (Aa) (Ac fun _=>Ac fun _=>Ac fun _=>Ar (Ad (Aa) (Aa)))
def VD:Tmpl:=⟨(.slot (.slice A0) (jk 4 (.ptr 0 0 0 (jk 35 .nil)))),(.cells 1 (.own 1 .nil) (.lst false .i .nil))⟩
def nF:Exs nJ nH:=xs .ret (fun i p=>⟨jn 4 (AV.own 1 none none::jn 36 ([])),[some (Cont.cells 1 [[AV.own 1 none none]]),some (Cont.lst false .i p.1)]⟩)<|x1 .ret fun i p=>⟨jn 4 (AV.own 3 none none::jn 36 ([])),[some (Cont.cells 1 [[AV.own 3 none none]]),some Cont.dead,some (Cont.lst false .i p.1),some (Cont.lst false .i p.2.1)]⟩
def nI:=((.i (.v .n)):Pk VD.ty _ _)
def A3y:Cfg:={ti:=Az,ents:=[YH,Qg,YC,Sk],ann:=[(4,Ao VD 0 (spP nI) EY nF.E)],lent:=0}
def Kz (x:List A1×Int×Unit):Option (List Int×Unit):=(Ef (x.1,())).bind fun v=>bif !v.1 then some ([],())else(BB (x.2.1,())).bind fun v=>bif !v.1 then some ([],())else(Au (fun v=>EY (x.1,()) v _ some) ([x.2.1],())).bind fun p=>Ap p (fun p=>some (p.1,())) fun p=>some (p.2.1,())
def A3x:Ent:=⟨193,⟨(.slot (.slice A0) (.slot .i .nil)),.nil⟩,⟨(.own 0 .nil),(.lst false .i .nil)⟩,Kz⟩
theorem nK:CfgOK prog A3y:=hcB (all_cons VK (all_cons M5 (all_cons Adq (all_cons nL all_nil))))
theorem A3w:AN prog A3y (lpc f193 0):=lkA nK VD nI EY nF [4] NZ
theorem Ado:Aj prog A3x:=okB nK func193 A3w
def GA (x:List A1×Int×Int×Unit):Option (Bool×Unit):=(Hw (x.1,x.2.1,x.2.2.1,())).bind fun v=>bif !v.1 then some (false,())else(Kz (v.2.1,x.2.1,())).bind fun v=>if 0<=zXq.wrap ((v.1.length:Int)-1)/\zXq.wrap ((v.1.length:Int)-1)<(v.1.length:Int)then v.1[0+(zXq.wrap ((v.1.length:Int)-1)).toNat]?.bind fun v=>some (v==x.2.1,())else none
def YB:Ent:=⟨145,⟨(.slot (.slice A0) (si 2 .nil)),.nil⟩,⟨(.slot .bool .nil),.nil⟩,GA⟩
theorem Adn:Aj prog YB:=okA (hcA 0 (all_cons nY (all_cons Ado all_nil))) func145
def GB (x:Int×Unit):Option (Bool×Unit):=bif x.1==1 then some (true,())else some (x.1==2,())
def YA:Ent:=⟨147,⟨(.slot .i .nil),.nil⟩,⟨(.slot .bool .nil),.nil⟩,GB⟩
theorem Adm:Aj prog YA:=okA (hcA 0 all_nil) func147
abbrev nD:=List A1×List A1×Int×Unit
abbrev nz:=Int×Unit
abbrev nA:=Int×Int×Unit ⊕ Int×Int×Unit ⊕ Int×Int×Unit ⊕ Unit
def FF (i:nD)(v:nz)(R:Type)(K:nz ⊕ nA->Option R):Option R:=bif decide (v.1<i.2.2.1)then(lAt i.2.1 v.1).bind fun a=>(DX (a.1,())).bind fun b=>bif !b.1 then K (.inr (.inl (a.1,a.2.1,())))else(BB (a.2.1,())).bind fun c=>bif !c.1 then K (.inr (.inr (.inl (a.1,a.2.1,()))))else bif decide (v.1>0)then(lAt i.1 (zXq.wrap (v.1-1))).bind fun d=>bif decide (d.1>=a.1)then K (.inr (.inr (.inr (.inl (a.1,a.2.1,())))))else K (.inl (zXq.wrap (v.1+1),()))else K (.inl (zXq.wrap (v.1+1),()))else K (.inr (.inr (.inr (.inr ()))))
theorem OC:AW FF:=fun i v R K=>Ad (Ac fun _=>Ac fun _=>Ad (Aa) (Ac fun _=>Ad (Aa) (Ad (Ac fun _=>Ad (Aa) (Aa)) (Aa)))) (Aa)
def VC:Tmpl:=⟨(.slot (.slice A0) (jk 4 (.slot (.slice A0) (si 2 (jk 30 .nil))))),.nil⟩
def ny:Exs nD nA:=xs .ret (fun i p=>⟨jn 2 (.b (false)::jn 35 ([])),[some (Cont.cells 2 [[AV.pv .i p.1,AV.pv .i p.2.1]])]⟩)<|xs .ret (fun i p=>⟨jn 2 (.b (false)::jn 35 ([])),[some (Cont.cells 2 [[AV.pv .i p.1,AV.pv .i p.2.1]])]⟩)<|xs .ret (fun i p=>⟨jn 2 (.b (false)::jn 35 ([])),[some (Cont.cells 2 [[AV.pv .i p.1,AV.pv .i p.2.1]])]⟩)<|x1 (.exit 0) fun i p=>⟨jn 38 ([]),[]⟩
def nB:=((.i (.i (.i (.v .n)))):Pk VC.ty _ _)
def A3v:Cfg:={ti:=Az,ents:=[Qf,Qg],ann:=[(2,Ao VC 0 (spP nB) FF ny.E)],lent:=0}
def Fd (x:List A1×Unit):Option (Bool×Unit):=(Au (fun v=>FF (x.1,x.1,(x.1.length:Int),()) v _ some) (0,())).bind fun p=>Ap p (fun p=>some (false,())) fun p=>Ap p (fun p=>some (false,())) fun p=>Ap p (fun p=>some (false,())) fun p=>some (true,())
def A3u:Ent:=⟨101,⟨(.slot (.slice A0) .nil),.nil⟩,⟨(.slot .bool .nil),.nil⟩,Fd⟩
theorem nE:CfgOK prog A3v:=hcB (all_cons QQ (all_cons M5 all_nil))
theorem A3t:AN prog A3v (lpc f101 0):=lkA nE VC nB FF ny [2] OC
theorem nC:Aj prog A3u:=okB nE func101 A3t
def EE (x:A1×Int×Unit):Option (Int×Unit):=(Bs (x.1.1,x.2.1,())).bind fun v=>some (v.1,())
def Yz:Ent:=⟨199,⟨(.slot A0 (.slot .i .nil)),.nil⟩,⟨(.slot .i .nil),.nil⟩,EE⟩
theorem Adl:Aj prog Yz:=okA (hcA 0 (all_cons PQ all_nil)) func199
abbrev nv:=List A1×Int×Unit×Int×Unit
abbrev nr:=Int×Int×Unit
abbrev ns:=Int×Unit
def AG (i:nv)(v:nr)(R:Type)(K:nr ⊕ ns->Option R):Option R:=bif decide (v.1<v.2.1)then(lAt i.1 (zXq.wrap (Int.fdiv (IntKind.u64.wrap (zXq.wrap (v.1+v.2.1))) (2 ^ min (Int.toNat 1) (IntKind.bits IntKind.u64))))).bind fun a=>(EE ((a.1,a.2.1,()),i.2.1,())).bind fun b=>bif decide (b.1<0)then K (.inl (zXq.wrap (zXq.wrap (Int.fdiv (IntKind.u64.wrap (zXq.wrap (v.1+v.2.1))) (2 ^ min (Int.toNat 1) (IntKind.bits IntKind.u64)))+1),v.2.1,()))else K (.inl (v.1,zXq.wrap (Int.fdiv (IntKind.u64.wrap (zXq.wrap (v.1+v.2.1))) (2 ^ min (Int.toNat 1) (IntKind.bits IntKind.u64))),()))else K (.inr (v.1,()))
theorem FQ:AW AG:=fun i v R K=>Ad (Ac fun _=>Ac fun _=>Ad (Aa) (Aa)) (Aa)
def VB:Tmpl:=⟨(.slot (.slice A0) (.slot .i (.slot (.fn 199 .unit) (jk 5 (si 3 (jk 38 .nil)))))),.nil⟩
def nq:Exs nv ns:=x1 (.exit 0) fun i p=>⟨AV.pv (.slice A0) i.1::.n (i.2.1)::AV.pv (.fn 199 .unit) i.2.2.1::jn 5 (.n (i.2.2.2.1)::.n (p.1)::jn 39 ([])),[]⟩
def nt:=((.i (.i (.i (.i (.v (.v .n)))))):Pk VB.ty _ _)
def A3s:Cfg:={ti:=Az,ents:=[Yz],ann:=[(3,Ao VB 0 (spP nt) AG nq.E)],lent:=0}
def Bd (x:List A1×Int×Unit×Unit):Option (Int×Bool×Unit):=(Au (fun v=>AG (x.1,x.2.1,x.2.2.1,(x.1.length:Int),()) v _ some) (0,(x.1.length:Int),())).bind fun p=>bif decide (p.1<(x.1.length:Int))then(lAt x.1 p.1).bind fun v=>(EE ((v.1,v.2.1,()),x.2.1,())).bind fun v=>some (p.1,v.1==0,())else some (p.1,false,())
def A3r:Ent:=⟨198,⟨(.slot (.slice A0) (.slot .i (.slot (.fn 199 .unit) .nil))),.nil⟩,⟨(.slot .i (.slot .bool .nil)),.nil⟩,Bd⟩
theorem nw:CfgOK prog A3s:=hcB (all_cons Adl all_nil)
theorem A3q:AN prog A3s (lpc f198 0):=lkA nw VB nt AG nq [0,1,2,8,9] FQ
theorem Adk:Aj prog A3r:=okB nw func198 A3q
def Yy:Go.Shelf.Ren:=⟨fun|22=>200|29=>244|30=>245|n=>n,fun|24=>37|9=>119|n=>n,fun|n=>n⟩
theorem Ala:InsL prog Yy true 2 where
 mixed:=by kernel_rfl
 f22:=⟨ "slices.Insert[[]loop.example/g01924/impl.Lock,loop.example/g01924/impl.Lock]",by decide,func200.trans (congrArg some (by kernel_rfl))⟩
 f29:=⟨_,func244,by kernel_rfl,by kernel_rfl,by kernel_rfl,by kernel_rfl⟩
 a9:=isAgg119
 z9:=sizeOf119
 t0:=underlying0
 a0:=isAgg0
 z0:=sizeOf0
 v0:=zeroValue0
 t3:=underlying3
 a3:=isAgg3
 z3:=sizeOf3
 v3:=zeroValue3
 t4:=underlying4
 a4:=isAgg4
 z4:=sizeOf4
 v4:=zeroValue4
 t24:=underlying37
 a24:=isAgg37
 z24:=sizeOf37
 v24:=zeroValue37
def G9 (x:Int×List (Int×Int×Unit)×List (Int×Int×Unit)×Unit):Option (List (Int×Int×Unit)×Unit):=R1 (α:=Int×Int×Unit) 2199023255552 x
def Anx:Cfg:={ti:=Az,ents:=[],ann:=[],lent:=2}
def A3p:Ent:=⟨200,⟨(.own 0 (.slot Ty.i (.own 1 .nil))),(.lst false A0 (.lst false A0 .nil))⟩,⟨(.own 2 .nil),(.gone (.gone (.lst false A0 .nil)))⟩,G9⟩
theorem Adj:Aj prog A3p:=RR (ρ:=Yy) (t:=A0) qR Ala rfl (by decide) rfl
def FW (x:List A1×Int×Int×Unit):Option (Bool×List A1×Unit):=(Dm (x.1,())).bind fun v=>(Fd (x.1,())).bind fun a=>bif !a.1 then some (false,v.1,())else(DX (x.2.1,())).bind fun b=>bif !b.1 then some (false,v.1,())else(BB (x.2.2.1,())).bind fun c=>bif !c.1 then some (false,v.1,())else(Bd (x.1,x.2.1,(),())).bind fun d=>bif d.2.1 then(lAt x.1 d.1).bind fun e=>some (e.2.1==x.2.2.1,v.1,())else(G9 (d.1,v.1,[(x.2.1,x.2.2.1,())],())).bind fun v=>some (true,v.1,())
def Yx:Ent:=⟨148,⟨(.slot (.slice A0) (si 2 .nil)),.nil⟩,⟨(.own 0 (.slot .bool .nil)),(.lst false A0 .nil)⟩,FW⟩
theorem Adi:Aj prog Yx:=okA (hcA 0 (all_cons Adj (all_cons po (all_cons nC (all_cons QQ (all_cons M5 (all_cons Adk all_nil))))))) func148
def Dp (x:A1×Int×Unit):Option (Int×Unit):=(Bs (x.1.1,x.2.1,())).bind fun v=>some (v.1,())
def Yw:Ent:=⟨202,⟨(.slot A0 (.slot .i .nil)),.nil⟩,⟨(.slot .i .nil),.nil⟩,Dp⟩
theorem Adg:Aj prog Yw:=okA (hcA 0 (all_cons PQ all_nil)) func202
abbrev nl:=List A1×Int×Unit×Int×Unit
abbrev ni:=Int×Int×Unit
abbrev nj:=Int×Unit
def AA (i:nl)(v:ni)(R:Type)(K:ni ⊕ nj->Option R):Option R:=bif decide (v.1<v.2.1)then(lAt i.1 (zXq.wrap (Int.fdiv (IntKind.u64.wrap (zXq.wrap (v.1+v.2.1))) (2 ^ min (Int.toNat 1) (IntKind.bits IntKind.u64))))).bind fun a=>(Dp ((a.1,a.2.1,()),i.2.1,())).bind fun b=>bif decide (b.1<0)then K (.inl (zXq.wrap (zXq.wrap (Int.fdiv (IntKind.u64.wrap (zXq.wrap (v.1+v.2.1))) (2 ^ min (Int.toNat 1) (IntKind.bits IntKind.u64)))+1),v.2.1,()))else K (.inl (v.1,zXq.wrap (Int.fdiv (IntKind.u64.wrap (zXq.wrap (v.1+v.2.1))) (2 ^ min (Int.toNat 1) (IntKind.bits IntKind.u64))),()))else K (.inr (v.1,()))
theorem Fc:AW AA:=fun i v R K=>Ad (Ac fun _=>Ac fun _=>Ad (Aa) (Aa)) (Aa)
def VA:Tmpl:=⟨(.slot (.slice A0) (.slot .i (.slot (.fn 202 .unit) (jk 5 (si 3 (jk 38 .nil)))))),.nil⟩
def nh:Exs nl nj:=x1 (.exit 0) fun i p=>⟨AV.pv (.slice A0) i.1::.n (i.2.1)::AV.pv (.fn 202 .unit) i.2.2.1::jn 5 (.n (i.2.2.2.1)::.n (p.1)::jn 39 ([])),[]⟩
def nk:=((.i (.i (.i (.i (.v (.v .n)))))):Pk VA.ty _ _)
def A3i:Cfg:={ti:=Az,ents:=[Yw],ann:=[(3,Ao VA 0 (spP nk) AA nh.E)],lent:=0}
def AY (x:List A1×Int×Unit×Unit):Option (Int×Bool×Unit):=(Au (fun v=>AA (x.1,x.2.1,x.2.2.1,(x.1.length:Int),()) v _ some) (0,(x.1.length:Int),())).bind fun p=>bif decide (p.1<(x.1.length:Int))then(lAt x.1 p.1).bind fun v=>(Dp ((v.1,v.2.1,()),x.2.1,())).bind fun v=>some (p.1,v.1==0,())else some (p.1,false,())
def Yv:Ent:=⟨201,⟨(.slot (.slice A0) (.slot .i (.slot (.fn 202 .unit) .nil))),.nil⟩,⟨(.slot .i (.slot .bool .nil)),.nil⟩,AY⟩
theorem nn:CfgOK prog A3i:=hcB (all_cons Adg all_nil)
theorem A3h:AN prog A3i (lpc f201 0):=lkA nn VA nk AA nh [0,1,2,8,9] Fc
theorem Adf:Aj prog Yv:=okB nn func201 A3h
def D7 (x:List A1×Unit):Option (List A1×Unit):=bif x.1.length==0 then WI (some ([],())) (if x.1.length<=2199023255552 then some (x.1,())else none)else if x.1.length<=2199023255552 then some (x.1,())else none
def Yu:Ent:=⟨110,⟨(.slot (.slice A0) .nil),.nil⟩,⟨(.own 0 .nil),(.lst false A0 .nil)⟩,D7⟩
theorem ng:Aj prog Yu:=okA (hcA 0 all_nil) func110
def C8 (x:Int×List (List A2)×Unit):Option (Option (Nat×Nat)×List (List A2)×Unit):=if 0<=x.1/\x.1<(x.2.1.length:Int)then x.2.1[0+x.1.toNat]?.bind fun v=>x.2.1[0+x.1.toNat]?.bind fun v=>x.2.1[0+x.1.toNat]?.bind fun a=>if 0<=zXq.wrap ((v.length:Int)-1)/\zXq.wrap ((v.length:Int)-1)<(a.length:Int)then some (some (0+x.1.toNat,0+(zXq.wrap ((v.length:Int)-1)).toNat),x.2.1,())else none else none
def Sj:Ent:=⟨191,⟨(.agg (.own 0 .nil) (.slot .i .nil)),(.tree false 0 (.slice Af) .nil)⟩,⟨(.mptr 0 0 0 .nil),(.tree false 0 (.slice Af) .nil)⟩,C8⟩
theorem nf:Aj prog Sj:=okA (hcA 1 all_nil) func191
def Ys:Go.Shelf.Ren:=⟨fun|22=>203|29=>246|30=>247|n=>n,fun|24=>63|9=>78|n=>n,fun|n=>n⟩
theorem Al8:InsL prog Ys true 2 where
 mixed:=by kernel_rfl
 f22:=⟨ "slices.Insert[[]loop.example/g01924/impl.Write,loop.example/g01924/impl.Write]",by decide,func203.trans (congrArg some (by kernel_rfl))⟩
 f29:=⟨_,func246,by kernel_rfl,by kernel_rfl,by kernel_rfl,by kernel_rfl⟩
 a9:=isAgg78
 z9:=sizeOf78
 t0:=underlying0
 a0:=isAgg0
 z0:=sizeOf0
 v0:=zeroValue0
 t3:=underlying3
 a3:=isAgg3
 z3:=sizeOf3
 v3:=zeroValue3
 t4:=underlying4
 a4:=isAgg4
 z4:=sizeOf4
 v4:=zeroValue4
 t24:=underlying63
 a24:=isAgg63
 z24:=sizeOf63
 v24:=zeroValue63
def FP (x:Int×List (Int×Int×Unit)×List (Int×Int×Unit)×Unit):Option (List (Int×Int×Unit)×Unit):=R1 (α:=Int×Int×Unit) 2199023255552 x
def Anw:Cfg:={ti:=Az,ents:=[],ann:=[],lent:=2}
def Yt:Ent:=⟨203,⟨(.own 0 (.slot Ty.i (.own 1 .nil))),(.lst false A0 (.lst false A0 .nil))⟩,⟨(.own 2 .nil),(.gone (.gone (.lst false A0 .nil)))⟩,FP⟩
theorem Ade:Aj prog Yt:=RR (ρ:=Ys) (t:=A0) A7w Al8 rfl (by decide) rfl
def Al7:Cfg:={ti:=Az,ents:=[Sj,Yt,Yv,Yu],ann:=[],lent:=2,hid:=[((6,0),[1]),((6,1),[1]),((6,2),[1]),((6,3),[1]),((6,4),[1])],tak:=[203]}
def C1 (x:Nat×Int×Int×List A3×List (List A2)×Unit):Option (List A3×List (List A2)×Unit):=x.2.2.2.1[x.1]?.bind fun v=>x.2.2.2.1[x.1]?.bind fun v=>(AY (v.2.2.2.2.2.2.2.2.1,x.2.1,(),())).bind fun v=>x.2.2.2.1[x.1]?.bind fun a=>x.2.2.2.1[x.1]?.bind fun b=>(D7 (b.2.2.2.2.2.2.2.2.1,())).bind fun c=>x.2.2.2.1[x.1]?.bind fun d=>bif v.2.1 then(x.2.2.2.1.set x.1 (d.1,d.2.1,d.2.2.1,d.2.2.2.1,d.2.2.2.2.1,d.2.2.2.2.2.1,d.2.2.2.2.2.2.1,d.2.2.2.2.2.2.2.1,c.1,()))[x.1]?.bind fun e=>(x.2.2.2.1.set x.1 (d.1,d.2.1,d.2.2.1,d.2.2.2.1,d.2.2.2.2.1,d.2.2.2.2.2.1,d.2.2.2.2.2.2.1,d.2.2.2.2.2.2.2.1,c.1,()))[x.1]?.bind fun f=>if 0<=v.1/\v.1<(f.2.2.2.2.2.2.2.2.1.length:Int)then(x.2.2.2.1.set x.1 (d.1,d.2.1,d.2.2.1,d.2.2.2.1,d.2.2.2.2.1,d.2.2.2.2.2.1,d.2.2.2.2.2.2.1,d.2.2.2.2.2.2.2.1,c.1,()))[x.1]?.bind fun g=>g.2.2.2.2.2.2.2.2.1[0+v.1.toNat]?.bind fun h=>((x.2.2.2.1.set x.1 (d.1,d.2.1,d.2.2.1,d.2.2.2.1,d.2.2.2.2.1,d.2.2.2.2.2.1,d.2.2.2.2.2.2.1,d.2.2.2.2.2.2.2.1,c.1,())).set x.1 (g.1,g.2.1,g.2.2.1,g.2.2.2.1,g.2.2.2.2.1,g.2.2.2.2.2.1,g.2.2.2.2.2.2.1,g.2.2.2.2.2.2.2.1,g.2.2.2.2.2.2.2.2.1.set (0+v.1.toNat) (h.1,x.2.2.1,()),()))[x.1]?.bind fun j=>(C8 (x.2.1,x.2.2.2.2.1,())).bind fun k=>k.1.bind fun l=>k.2.1[l.1]?.bind fun m=>m[l.2]?.bind fun n=>((x.2.2.2.1.set x.1 (d.1,d.2.1,d.2.2.1,d.2.2.2.1,d.2.2.2.2.1,d.2.2.2.2.2.1,d.2.2.2.2.2.2.1,d.2.2.2.2.2.2.2.1,c.1,())).set x.1 (g.1,g.2.1,g.2.2.1,g.2.2.2.1,g.2.2.2.2.1,g.2.2.2.2.2.1,g.2.2.2.2.2.2.1,g.2.2.2.2.2.2.2.1,g.2.2.2.2.2.2.2.2.1.set (0+v.1.toNat) (h.1,x.2.2.1,()),()))[x.1]?.bind fun o=>some (((x.2.2.2.1.set x.1 (d.1,d.2.1,d.2.2.1,d.2.2.2.1,d.2.2.2.2.1,d.2.2.2.2.2.1,d.2.2.2.2.2.2.1,d.2.2.2.2.2.2.2.1,c.1,())).set x.1 (g.1,g.2.1,g.2.2.1,g.2.2.2.1,g.2.2.2.2.1,g.2.2.2.2.2.1,g.2.2.2.2.2.2.1,g.2.2.2.2.2.2.2.1,g.2.2.2.2.2.2.2.2.1.set (0+v.1.toNat) (h.1,x.2.2.1,()),())).set x.1 (o.1,o.2.1,o.2.2.1,o.2.2.2.1,mx j.2.2.2.2.1 n.2.2.2.1,o.2.2.2.2.2.1,o.2.2.2.2.2.2.1,o.2.2.2.2.2.2.2.1,o.2.2.2.2.2.2.2.2.1,()),k.2.1,())else none else(x.2.2.2.1.set x.1 (d.1,d.2.1,d.2.2.1,d.2.2.2.1,d.2.2.2.2.1,d.2.2.2.2.2.1,d.2.2.2.2.2.2.1,d.2.2.2.2.2.2.2.1,c.1,()))[x.1]?.bind fun e=>(x.2.2.2.1.set x.1 (d.1,d.2.1,d.2.2.1,d.2.2.2.1,d.2.2.2.2.1,d.2.2.2.2.2.1,d.2.2.2.2.2.2.1,d.2.2.2.2.2.2.2.1,c.1,()))[x.1]?.bind fun f=>(FP (v.1,f.2.2.2.2.2.2.2.2.1,[(x.2.1,x.2.2.1,())],())).bind fun v=>(x.2.2.2.1.set x.1 (d.1,d.2.1,d.2.2.1,d.2.2.2.1,d.2.2.2.2.1,d.2.2.2.2.2.1,d.2.2.2.2.2.2.1,d.2.2.2.2.2.2.2.1,c.1,()))[x.1]?.bind fun g=>if 9<=9/\true=true/\x.1=x.1/\8<=8/\8<9 then((x.2.2.2.1.set x.1 (d.1,d.2.1,d.2.2.1,d.2.2.2.1,d.2.2.2.2.1,d.2.2.2.2.2.1,d.2.2.2.2.2.2.1,d.2.2.2.2.2.2.2.1,c.1,())).set x.1 (g.1,g.2.1,g.2.2.1,g.2.2.2.1,g.2.2.2.2.1,g.2.2.2.2.2.1,g.2.2.2.2.2.2.1,g.2.2.2.2.2.2.2.1,v.1,()))[x.1]?.bind fun h=>(C8 (x.2.1,x.2.2.2.2.1,())).bind fun j=>j.1.bind fun k=>j.2.1[k.1]?.bind fun l=>l[k.2]?.bind fun m=>((x.2.2.2.1.set x.1 (d.1,d.2.1,d.2.2.1,d.2.2.2.1,d.2.2.2.2.1,d.2.2.2.2.2.1,d.2.2.2.2.2.2.1,d.2.2.2.2.2.2.2.1,c.1,())).set x.1 (g.1,g.2.1,g.2.2.1,g.2.2.2.1,g.2.2.2.2.1,g.2.2.2.2.2.1,g.2.2.2.2.2.2.1,g.2.2.2.2.2.2.2.1,v.1,()))[x.1]?.bind fun n=>some (((x.2.2.2.1.set x.1 (d.1,d.2.1,d.2.2.1,d.2.2.2.1,d.2.2.2.2.1,d.2.2.2.2.2.1,d.2.2.2.2.2.2.1,d.2.2.2.2.2.2.2.1,c.1,())).set x.1 (g.1,g.2.1,g.2.2.1,g.2.2.2.1,g.2.2.2.2.1,g.2.2.2.2.2.1,g.2.2.2.2.2.2.1,g.2.2.2.2.2.2.2.1,v.1,())).set x.1 (n.1,n.2.1,n.2.2.1,n.2.2.2.1,mx h.2.2.2.2.1 m.2.2.2.1,n.2.2.2.2.2.1,n.2.2.2.2.2.2.1,n.2.2.2.2.2.2.2.1,n.2.2.2.2.2.2.2.2.1,()),j.2.1,())else none
def Yr:Ent:=⟨149,⟨(.ptrI 0 0 (.agg (.own 1 .nil) (si 2 .nil))),(.tree false 0 Ae (.tree false 0 (.slice Af) .nil))⟩,⟨.nil,(.tree false 1 Ae (.tree false 0 (.slice Af) .nil))⟩,C1⟩
theorem Add:Aj prog Yr:=okA (C:=Al7) (hcB (all_cons nf (all_cons Ade (all_cons Adf (all_cons ng all_nil))))) func149
def Al6:Cfg:={ti:=Az,ents:=[Oi,Yr,YI,YK,YB,YE,YA,Yx],ann:=[],lent:=5,hid:=[((5,13),[0]),((10,13),[0])],pre:=[(some (0,3)),(some (0,4))]}
def G4 (x:Nat×Int×Int×Bool×Int×A7):Option (Int×Bool×Int×A7):=x.2.2.2.2.2.2.1[x.1]?.bind fun v=>x.2.2.2.2.2.2.1[x.1]?.bind fun a=>x.2.2.2.2.2.2.1[x.1]?.bind fun b=>(Fo ((x.2.2.2.2.2.1,()),x.2.2.2.2.2.2.2.1,(v.1,v.2.1,v.2.2.1,v.2.2.2.1,v.2.2.2.2.1,v.2.2.2.2.2.1,v.2.2.2.2.2.2.1,a.2.2.2.2.2.2.2.1,b.2.2.2.2.2.2.2.2.1,()),x.2.1,())).bind fun v=>(Hz (x.2.2.2.2.2.2.2.1,x.2.1,())).bind fun c=>bif v.1==1 then x.2.2.2.2.2.2.1[x.1]?.bind fun d=>(GA (x.2.2.2.2.2.2.2.2.1,d.1,c.1,())).bind fun e=>bif e.1 then(Bi (x.1,4,x.2.2.2.1,x.2.2.2.2.1,x.2.2.2.2.2.1,x.2.2.2.2.2.2.1,x.2.2.2.2.2.2.2.1,x.2.2.2.2.2.2.2.2.1,())).bind fun v=>some (v.1,v.2.1,v.2.2.1,v.2.2.2.1,v.2.2.2.2.1,v.2.2.2.2.2.2.2.1,v.2.2.2.2.2.2.2.2.1,())else bif v.1==1 then x.2.2.2.2.2.2.1[x.1]?.bind fun f=>(Hw (x.2.2.2.2.2.2.2.2.1,f.1,c.1,())).bind fun g=>some (v.1,x.2.2.2.1,x.2.2.2.2.1,x.2.2.2.2.2.1,x.2.2.2.2.2.2.1,x.2.2.2.2.2.2.2.1,g.2.1,())else bif v.1 != 0 then(Bi (x.1,v.1,x.2.2.2.1,x.2.2.2.2.1,x.2.2.2.2.2.1,x.2.2.2.2.2.2.1,x.2.2.2.2.2.2.2.1,x.2.2.2.2.2.2.2.2.1,())).bind fun v=>some (v.1,v.2.1,v.2.2.1,v.2.2.2.1,v.2.2.2.2.1,v.2.2.2.2.2.2.2.1,v.2.2.2.2.2.2.2.2.1,())else x.2.2.2.2.2.2.1[x.1]?.bind fun v=>(GB (v.2.1,())).bind fun v=>bif v.1 then x.2.2.2.2.2.2.1[x.1]?.bind fun v=>(FW (x.2.2.2.2.2.2.2.1,x.2.1,v.1,())).bind fun v=>(C1 (x.1,x.2.1,x.2.2.1,x.2.2.2.2.2.2.1,x.2.2.2.2.2.1,())).bind fun f=>some (0,x.2.2.2.1,x.2.2.2.2.1,f.2.1,f.1,v.2.1,x.2.2.2.2.2.2.2.2.1,())else(C1 (x.1,x.2.1,x.2.2.1,x.2.2.2.2.2.2.1,x.2.2.2.2.2.1,())).bind fun v=>some (0,x.2.2.2.1,x.2.2.2.2.1,v.2.1,v.1,x.2.2.2.2.2.2.2.1,x.2.2.2.2.2.2.2.2.1,())else bif v.1==1 then x.2.2.2.2.2.2.1[x.1]?.bind fun d=>(Hw (x.2.2.2.2.2.2.2.2.1,d.1,c.1,())).bind fun e=>some (v.1,x.2.2.2.1,x.2.2.2.2.1,x.2.2.2.2.2.1,x.2.2.2.2.2.2.1,x.2.2.2.2.2.2.2.1,e.2.1,())else bif v.1 != 0 then(Bi (x.1,v.1,x.2.2.2.1,x.2.2.2.2.1,x.2.2.2.2.2.1,x.2.2.2.2.2.2.1,x.2.2.2.2.2.2.2.1,x.2.2.2.2.2.2.2.2.1,())).bind fun v=>some (v.1,v.2.1,v.2.2.1,v.2.2.2.1,v.2.2.2.2.1,v.2.2.2.2.2.2.2.1,v.2.2.2.2.2.2.2.2.1,())else x.2.2.2.2.2.2.1[x.1]?.bind fun v=>(GB (v.2.1,())).bind fun v=>bif v.1 then x.2.2.2.2.2.2.1[x.1]?.bind fun v=>(FW (x.2.2.2.2.2.2.2.1,x.2.1,v.1,())).bind fun v=>(C1 (x.1,x.2.1,x.2.2.1,x.2.2.2.2.2.2.1,x.2.2.2.2.2.1,())).bind fun d=>some (0,x.2.2.2.1,x.2.2.2.2.1,d.2.1,d.1,v.2.1,x.2.2.2.2.2.2.2.2.1,())else(C1 (x.1,x.2.1,x.2.2.1,x.2.2.2.2.2.2.1,x.2.2.2.2.2.1,())).bind fun v=>some (0,x.2.2.2.1,x.2.2.2.2.1,v.2.1,v.1,x.2.2.2.2.2.2.2.1,x.2.2.2.2.2.2.2.2.1,())
def Yq:Ent:=⟨85,⟨(.ptr 0 0 0 (.ptrI 2 0 (si 2 .nil))),(.cells 6 (.slot .bool (.own 1 (.own 2 (.own 3 (.own 4 (.slot .i .nil)))))) (.tree false 0 (.slice Af) (.tree false 0 Ae (.lst false A0 (.lst false A0 .nil)))))⟩,⟨(.agg (.slot .i (.const (AV.nils) .nil)) .nil),(.cells 6 (.slot .bool (.own 1 (.own 2 (.own 5 (.own 6 (.slot .i .nil)))))) (.tree false 0 (.slice Af) (.tree false 1 Ae (.gone (.gone (.lst false A0 (.lst false A0 .nil)))))))⟩,G4⟩
theorem Adc:Aj prog Yq:=okA (C:=Al6) (hcB (all_cons RP (all_cons Add (all_cons Adv (all_cons oo (all_cons Adn (all_cons nY (all_cons Adm (all_cons Adi all_nil))))))))) func85
def Cn (x:A1×Option A4×Option A3×Unit):Option (Bool×Unit):=x.2.1.bind fun v=>(Ea ((v.1,()),x.1.1,())).bind fun v=>v.1.bind fun v=>x.2.2.1.bind fun a=>some (decide (v.2.2.1>a.2.2.2.1),())
def Yp:Ent:=⟨205,⟨(.slot A0 (.slot (.iref BW) (.slot (.iref Ae) .nil))),.nil⟩,⟨(.slot .bool .nil),.nil⟩,Cn⟩
theorem Adb:Aj prog Yp:=okA (hcA 0 (all_cons VL all_nil)) func205
abbrev nc:=List A1×(Option A4×Option A3×Unit)×Int×Unit
abbrev mY:=Int×Unit
abbrev mZ:=Int×Unit ⊕ Unit
def AX (i:nc)(v:mY)(R:Type)(K:mY ⊕ mZ->Option R):Option R:=bif decide (v.1<i.2.2.1)then(lAt i.1 v.1).bind fun a=>(Cn ((a.1,a.2.1,()),i.2.1.1,i.2.1.2.1,())).bind fun b=>bif b.1 then K (.inr (.inl (v.1,())))else K (.inl (zXq.wrap (v.1+1),()))else K (.inr (.inr ()))
theorem Gb:AW AX:=fun i v R K=>Ad (Ac fun _=>Ac fun _=>Ad (Aa) (Aa)) (Aa)
def Vz:Tmpl:=⟨(.slot (.slice A0) (.slot (.fn 205 (.prod (.iref BW) (.prod (.iref Ae) .unit))) (jk 5 (si 2 (jk 10 .nil))))),.nil⟩
def mX:Exs nc mZ:=xs .ret (fun i p=>⟨jn 4 (.n (p.1)::jn 14 ([])),[]⟩)<|x1 (.exit 0) fun i p=>⟨jn 19 ([]),[]⟩
def na:=((.i (.i (.i (.v .n)))):Pk Vz.ty _ _)
def A3g:Cfg:={ti:=Az,ents:=[Yp],ann:=[(2,Ao Vz 0 (spP na) AX mX.E)],lent:=0}
def BC (x:List A1×(Option A4×Option A3×Unit)×Unit):Option (Int×Unit):=(Au (fun v=>AX (x.1,x.2.1,(x.1.length:Int),()) v _ some) (0,())).bind fun p=>Ap p (fun p=>some (p.1,())) fun p=>some (-1,())
def A3f:Ent:=⟨236,⟨(.slot (.slice A0) (.slot (.fn 205 (.prod (.iref BW) (.prod (.iref Ae) .unit))) .nil)),.nil⟩,⟨(.slot .i .nil),.nil⟩,BC⟩
theorem ne:CfgOK prog A3g:=hcB (all_cons Adb all_nil)
theorem A3e:AN prog A3g (lpc f236 0):=lkA ne Vz na AX mX [4] Gb
theorem Ada:Aj prog A3f:=okB ne func236 A3e
def Bz (x:List A1×(Option A4×Option A3×Unit)×Unit):Option (Bool×Unit):=(BC (x.1,x.2.1,())).bind fun v=>some (decide (v.1>=0),())
def A3d:Ent:=⟨204,⟨(.slot (.slice A0) (.slot (.fn 205 (.prod (.iref BW) (.prod (.iref Ae) .unit))) .nil)),.nil⟩,⟨(.slot .bool .nil),.nil⟩,Bz⟩
theorem Ad9:Aj prog A3d:=okA (hcA 0 (all_cons Ada all_nil)) func204
def F0 (x:A4×A3×Unit):Option (Int×Unit):=(Bz (x.2.1.2.2.2.2.2.2.2.2.1,(some (x.1.1,()),some (x.2.1.1,x.2.1.2.1,x.2.1.2.2.1,x.2.1.2.2.2.1,x.2.1.2.2.2.2.1,x.2.1.2.2.2.2.2.1,x.2.1.2.2.2.2.2.2.1,x.2.1.2.2.2.2.2.2.2.1,x.2.1.2.2.2.2.2.2.2.2.1,()),()),())).bind fun v=>bif !v.1 then some (0,())else bif x.2.1.2.1==2 then some (2,())else bif x.2.1.2.1==4 then some (3,())else some (0,())
def Yo:Ent:=⟨150,⟨(.slot BW (.slot Ae .nil)),.nil⟩,⟨(.slot .i .nil),.nil⟩,F0⟩
theorem Ad7:Aj prog Yo:=okA (hcA 0 (all_cons Ad9 all_nil)) func150
abbrev mV:=List A1×Int×List (List A2)×A3
abbrev mP:=Int×Int×Unit
abbrev mR:=Int×Unit
def CF (i:mV)(v:mP)(R:Type)(K:mP ⊕ mR->Option R):Option R:=bif decide (v.2.1<i.2.1)then(lAt i.1 v.2.1).bind fun a=>K (.inl (mx v.1 a.2.1,zXq.wrap (v.2.1+1),()))else K (.inr (v.1,()))
theorem L9:AW CF:=fun i v R K=>Ad (Ac fun _=>Aa) (Aa)
def Vx:Tmpl:=⟨(jk 2 (.ptr 0 0 0 (.ptr 1 0 0 (.junk (.slot .i (jk 5 (.slot (.slice A0) (si 2 (jk 26 .nil))))))))),(.cells 1 (.slot (.slice (.slice Af)) .nil) (.cells 9 (si 7 (.slot (.slice A0) (.slot (.slice A0) .nil))) .nil))⟩
def mN:Exs mV mR:=x1 (.exit 0) fun i p=>⟨jn 2 (AV.ptr 0 none 0 0::AV.ptr 1 none 0 0::jn 1 (.n (p.1)::jn 34 ([]))),[some (Cont.cells 1 [[AV.pv (.slice (.slice Af)) i.2.2.1]]),some (Cont.cells 9 [[AV.pv .i i.2.2.2.1,AV.pv .i i.2.2.2.2.1,AV.pv .i i.2.2.2.2.2.1,AV.pv .i i.2.2.2.2.2.2.1,AV.pv .i i.2.2.2.2.2.2.2.1,AV.pv .i i.2.2.2.2.2.2.2.2.1,AV.pv .i i.2.2.2.2.2.2.2.2.2.1,AV.pv (.slice A0) i.2.2.2.2.2.2.2.2.2.2.1,AV.pv (.slice A0) i.2.2.2.2.2.2.2.2.2.2.2.1]])]⟩
def mT:=((.v (.i (.i (.v (.i (.i (.i (.i (.i (.i (.i (.i (.i (.i .n)))))))))))))):Pk Vx.ty _ _)
abbrev mU:=List A1×Int×List (List A2)×Unit
abbrev mO:=Int×Int×Unit
abbrev mQ:=Int×Unit
def C2 (i:mU)(v:mO)(R:Type)(K:mO ⊕ mQ->Option R):Option R:=bif decide (v.2.1<i.2.1)then(lAt i.1 v.2.1).bind fun a=>(Ea ((i.2.2.1,()),a.1,())).bind fun b=>b.1.bind fun c=>K (.inl (mx v.1 c.2.2.2.1,zXq.wrap (v.2.1+1),()))else K (.inr (v.1,()))
theorem L8:AW C2:=fun i v R K=>Ad (Ac fun _=>Ac fun _=>Ac fun _=>Aa) (Aa)
def Vw:Tmpl:=⟨(jk 2 (.ptr 0 0 0 (jk 2 (.slot .i (jk 17 (.slot (.slice A0) (si 2 (jk 14 .nil)))))))),(.cells 1 (.slot (.slice (.slice Af)) .nil) .nil)⟩
def mM:Exs mU mQ:=x1 (.exit 2) fun i p=>⟨jn 5 (.n (p.1)::jn 34 ([])),[some (Cont.cells 1 [[AV.pv (.slice (.slice Af)) i.2.2.1]])]⟩
def mS:=((.v (.i (.i (.v (.i .n))))):Pk Vw.ty _ _)
def cP:Cfg:={ti:=Az,ents:=[YJ],ann:=[(3,Ao Vx 0 (spP mT) CF mN.E),(8,Ao Vw 0 (spP mS) C2 mM.E)],lent:=0}
def EZ (x:A4×A3×Unit):Option (Int×Unit):=(Au (fun v=>CF (x.2.1.2.2.2.2.2.2.2.1,(x.2.1.2.2.2.2.2.2.2.1.length:Int),x.1.1,x.2.1.1,x.2.1.2.1,x.2.1.2.2.1,x.2.1.2.2.2.1,x.2.1.2.2.2.2.1,x.2.1.2.2.2.2.2.1,x.2.1.2.2.2.2.2.2.1,x.2.1.2.2.2.2.2.2.2.1,x.2.1.2.2.2.2.2.2.2.2.1,()) v _ some) (0,0,())).bind fun p=>(Au (fun v=>C2 (x.2.1.2.2.2.2.2.2.2.2.1,(x.2.1.2.2.2.2.2.2.2.2.1.length:Int),x.1.1,()) v _ some) (p.1,0,())).bind fun p=>some (p.1,())
def A35:Ent:=⟨206,⟨(.slot BW (.slot Ae .nil)),.nil⟩,⟨(.slot .i .nil),.nil⟩,EZ⟩
theorem Vy:CfgOK prog cP:=hcB (all_cons VL all_nil)
theorem A33:AN prog cP (lpc f206 1):=lkA Vy Vw mS C2 mM [5] L8
theorem A34:AN prog cP (lpc f206 0):=lkA Vy Vx mT CF mN [2,3,5] L9
theorem Ad6:Aj prog A35:=okC Vy func206 A34 A33
def J3 (x:A2×Option Int×Unit):Option (Bool×Unit):=x.2.1.bind fun v=>some (x.1.2.2.1==v,())
def Yn:Ent:=⟨266,⟨(.slot Af (.slot (.iref .i) .nil)),.nil⟩,⟨(.slot .bool .nil),.nil⟩,J3⟩
theorem Ad5:Aj prog Yn:=okA (hcA 0 all_nil) func266
abbrev mK:=List A2×(Option Int×Unit)×Int×Unit
abbrev mH:=Int×Unit
abbrev mI:=Int×Unit ⊕ Unit
def AU (i:mK)(v:mH)(R:Type)(K:mH ⊕ mI->Option R):Option R:=bif decide (v.1<i.2.2.1)then(lAt i.1 v.1).bind fun a=>(J3 ((a.1,a.2.1,a.2.2.1,a.2.2.2.1,a.2.2.2.2.1,()),i.2.1.1,())).bind fun b=>bif b.1 then K (.inr (.inl (v.1,())))else K (.inl (zXq.wrap (v.1+1),()))else K (.inr (.inr ()))
theorem HD:AW AU:=fun i v R K=>Ad (Ac fun _=>Ac fun _=>Ad (Aa) (Aa)) (Aa)
def Vv:Tmpl:=⟨(.slot (.slice Af) (.slot (.fn 266 (.prod (.iref .i) .unit)) (jk 5 (si 2 (jk 10 .nil))))),.nil⟩
def mG:Exs mK mI:=xs .ret (fun i p=>⟨jn 4 (.n (p.1)::jn 14 ([])),[]⟩)<|x1 (.exit 0) fun i p=>⟨jn 19 ([]),[]⟩
def mJ:=((.i (.i (.i (.v .n)))):Pk Vv.ty _ _)
def A32:Cfg:={ti:=Az,ents:=[Yn],ann:=[(2,Ao Vv 0 (spP mJ) AU mG.E)],lent:=0}
def CX (x:List A2×(Option Int×Unit)×Unit):Option (Int×Unit):=(Au (fun v=>AU (x.1,x.2.1,(x.1.length:Int),()) v _ some) (0,())).bind fun p=>Ap p (fun p=>some (p.1,())) fun p=>some (-1,())
def A31:Ent:=⟨265,⟨(.slot (.slice Af) (.slot (.fn 266 (.prod (.iref .i) .unit)) .nil)),.nil⟩,⟨(.slot .i .nil),.nil⟩,CX⟩
theorem mL:CfgOK prog A32:=hcB (all_cons Ad5 all_nil)
theorem A30:AN prog A32 (lpc f265 0):=lkA mL Vv mJ AU mG [4] HD
theorem Ad4:Aj prog A31:=okB mL func265 A30
def FV (x:List A2×Int×Unit):Option (Int×Unit):=(CX (x.1,(some x.2.1,()),())).bind fun v=>some (v.1,())
def A2z:Ent:=⟨248,⟨(.slot (.slice Af) (.slot .i .nil)),.nil⟩,⟨(.slot .i .nil),.nil⟩,FV⟩
theorem mF:Aj prog A2z:=okA (hcA 0 (all_cons Ad4 all_nil)) func248
def E3 (x:A4×A1×Unit):Option (Option A2×Unit):=(lAt x.1.1 x.2.1.1).bind fun v=>(FV (v,x.2.1.2.1,())).bind fun a=>bif decide (a.1<0)then some (none,())else(lAt v a.1).bind fun v=>some (some v,())
def Ym:Ent:=⟨209,⟨(.slot BW (.slot A0 .nil)),.nil⟩,⟨(.slot (.iref Af) .nil),.nil⟩,E3⟩
theorem mE:Aj prog Ym:=okA (hcA 0 (all_cons mF all_nil)) func209
abbrev mB:=List A1×Int×List (List A2)×Unit
abbrev my:=Int×Int×Unit
abbrev mz:=Int×Unit
def Cm (i:mB)(v:my)(R:Type)(K:my ⊕ mz->Option R):Option R:=bif decide (v.2.1<i.2.1)then(lAt i.1 v.2.1).bind fun a=>(E3 ((i.2.2.1,()),(a.1,a.2.1,()),())).bind fun b=>b.1.bind fun c=>K (.inl (mn v.1 c.2.2.2.2.1,zXq.wrap (v.2.1+1),()))else K (.inr (v.1,()))
theorem KS:AW Cm:=fun i v R K=>Ad (Ac fun _=>Ac fun _=>Ac fun _=>Aa) (Aa)
def Vu:Tmpl:=⟨(jk 2 (.ptr 0 0 0 (jk 2 (.slot .i (jk 3 (.slot (.slice A0) (si 2 (jk 13 .nil)))))))),(.cells 1 (.slot (.slice (.slice Af)) .nil) .nil)⟩
def mw:Exs mB mz:=x1 (.exit 0) fun i p=>⟨jn 5 (.n (p.1)::jn 19 ([])),[some (Cont.cells 1 [[AV.pv (.slice (.slice Af)) i.2.2.1]])]⟩
def mA:=((.v (.i (.i (.v (.i .n))))):Pk Vu.ty _ _)
def A2y:Cfg:={ti:=Az,ents:=[Ym],ann:=[(3,Ao Vu 0 (spP mA) Cm mw.E)],lent:=0}
def EB (x:A4×A3×Unit):Option (Int×Unit):=(Au (fun v=>Cm (x.2.1.2.2.2.2.2.2.2.1,(x.2.1.2.2.2.2.2.2.2.1.length:Int),x.1.1,()) v _ some) (1000,0,())).bind fun p=>some (p.1,())
def A2x:Ent:=⟨207,⟨(.slot BW (.slot Ae .nil)),.nil⟩,⟨(.slot .i .nil),.nil⟩,EB⟩
theorem mD:CfgOK prog A2y:=hcB (all_cons mE all_nil)
theorem A2w:AN prog A2y (lpc f207 0):=lkA mD Vu mA Cm mw [5] KS
theorem Ad3:Aj prog A2x:=okB mD func207 A2w
def Fg (x:A4×A3×Int×Unit):Option A1:=(EZ ((x.1.1,()),(x.2.1.1,x.2.1.2.1,x.2.1.2.2.1,x.2.1.2.2.2.1,x.2.1.2.2.2.2.1,x.2.1.2.2.2.2.2.1,x.2.1.2.2.2.2.2.2.1,x.2.1.2.2.2.2.2.2.2.1,x.2.1.2.2.2.2.2.2.2.2.1,()),())).bind fun v=>(EB ((x.1.1,()),(x.2.1.1,x.2.1.2.1,x.2.1.2.2.1,x.2.1.2.2.2.1,x.2.1.2.2.2.2.1,x.2.1.2.2.2.2.2.1,x.2.1.2.2.2.2.2.2.1,x.2.1.2.2.2.2.2.2.2.1,x.2.1.2.2.2.2.2.2.2.2.1,()),())).bind fun a=>some (mx x.2.1.2.2.2.2.1 v.1,mn (mn x.2.1.2.2.2.2.2.1 a.1) x.2.2.1,())
def Si:Ent:=⟨151,⟨(.slot BW (.slot Ae (.slot .i .nil))),.nil⟩,⟨(si 2 .nil),.nil⟩,Fg⟩
theorem mv:Aj prog Si:=okA (hcA 0 (all_cons Ad6 (all_cons Ad3 all_nil))) func151
def Di (x:A1×Option A4×Unit):Option (Bool×Unit):=x.2.1.bind fun v=>(lAt v.1 x.1.1).bind fun v=>some ((v.length:Int)==50,())
def Yl:Ent:=⟨208,⟨(.slot A0 (.slot (.iref BW) .nil)),.nil⟩,⟨(.slot .bool .nil),.nil⟩,Di⟩
theorem Ad2:Aj prog Yl:=okA (hcA 0 all_nil) func208
abbrev mt:=List A1×(Option A4×Unit)×Int×Unit
abbrev mp:=Int×Unit
abbrev mq:=Int×Unit ⊕ Unit
def B6 (i:mt)(v:mp)(R:Type)(K:mp ⊕ mq->Option R):Option R:=bif decide (v.1<i.2.2.1)then(lAt i.1 v.1).bind fun a=>(Di ((a.1,a.2.1,()),i.2.1.1,())).bind fun b=>bif b.1 then K (.inr (.inl (v.1,())))else K (.inl (zXq.wrap (v.1+1),()))else K (.inr (.inr ()))
theorem Hm:AW B6:=fun i v R K=>Ad (Ac fun _=>Ac fun _=>Ad (Aa) (Aa)) (Aa)
def Vt:Tmpl:=⟨(.slot (.slice A0) (.slot (.fn 208 (.prod (.iref BW) .unit)) (jk 5 (si 2 (jk 10 .nil))))),.nil⟩
def mo:Exs mt mq:=xs .ret (fun i p=>⟨jn 4 (.n (p.1)::jn 14 ([])),[]⟩)<|x1 (.exit 0) fun i p=>⟨jn 19 ([]),[]⟩
def mr:=((.i (.i (.i (.v .n)))):Pk Vt.ty _ _)
def A2v:Cfg:={ti:=Az,ents:=[Yl],ann:=[(2,Ao Vt 0 (spP mr) B6 mo.E)],lent:=0}
def BO (x:List A1×(Option A4×Unit)×Unit):Option (Int×Unit):=(Au (fun v=>B6 (x.1,x.2.1,(x.1.length:Int),()) v _ some) (0,())).bind fun p=>Ap p (fun p=>some (p.1,())) fun p=>some (-1,())
def A2u:Ent:=⟨236,⟨(.slot (.slice A0) (.slot (.fn 208 (.prod (.iref BW) .unit)) .nil)),.nil⟩,⟨(.slot .i .nil),.nil⟩,BO⟩
theorem mu:CfgOK prog A2v:=hcB (all_cons Ad2 all_nil)
theorem A2t:AN prog A2v (lpc f236 0):=lkA mu Vt mr B6 mo [4] Hm
theorem Ad1:Aj prog A2u:=okB mu func236 A2t
def BH (x:List A1×(Option A4×Unit)×Unit):Option (Bool×Unit):=(BO (x.1,x.2.1,())).bind fun v=>some (decide (v.1>=0),())
def A2r:Ent:=⟨204,⟨(.slot (.slice A0) (.slot (.fn 208 (.prod (.iref BW) .unit)) .nil)),.nil⟩,⟨(.slot .bool .nil),.nil⟩,BH⟩
theorem Ad0:Aj prog A2r:=okA (hcA 0 (all_cons Ad1 all_nil)) func204
def Fh (x:A4×A3×Unit):Option (Bool×Unit):=(BH (x.2.1.2.2.2.2.2.2.2.2.1,(some (x.1.1,()),()),())).bind fun v=>some (v.1,())
def Yk:Ent:=⟨152,⟨(.slot BW (.slot Ae .nil)),.nil⟩,⟨(.slot .bool .nil),.nil⟩,Fh⟩
theorem Acz:Aj prog Yk:=okA (hcA 0 (all_cons Ad0 all_nil)) func152
def GW (x:Int×Int×List (List A2)×Unit):Option (Option (Nat×Nat)×List (List A2)×Unit):=if 0<=x.1/\x.1<(x.2.2.1.length:Int)then x.2.2.1[0+x.1.toNat]?.bind fun v=>x.2.2.1[0+x.1.toNat]?.bind fun v=>(FV (v,x.2.1,())).bind fun v=>bif decide (v.1<0)then some (none,x.2.2.1,())else x.2.2.1[0+x.1.toNat]?.bind fun a=>if 0<=v.1/\v.1<(a.length:Int)then some (some (0+x.1.toNat,0+v.1.toNat),x.2.2.1,())else none else none
def Yj:Ent:=⟨209,⟨(.agg (.own 0 .nil) (.agg (si 2 .nil) .nil)),(.tree false 0 (.slice Af) .nil)⟩,⟨(.mptr 0 0 0 .nil),(.tree false 0 (.slice Af) .nil)⟩,GW⟩
theorem Acy:Aj prog Yj:=okA (hcA 1 (all_cons mF all_nil)) func209
abbrev ml:=Nat×Int×Nat×Int×Bool×Int×A8
abbrev me:=Int×List (List A2)×Unit
abbrev mg:=List (List A2)×Unit
def Cw (i:ml)(v:me)(R:Type)(K:me ⊕ mg->Option R):Option R:=bif decide (v.1<i.2.2.2.1)then i.2.2.2.2.2.2.1[i.2.2.1]?.bind fun a=>if 0<=v.1/\v.1<(a.2.2.2.2.2.2.2.1.length:Int)then i.2.2.2.2.2.2.1[i.2.2.1]?.bind fun b=>b.2.2.2.2.2.2.2.1[0+v.1.toNat]?.bind fun c=>(GW (c.1,c.2.1,v.2.1,())).bind fun d=>d.1.bind fun e=>d.2.1[e.1]?.bind fun f=>f[e.2]?.bind fun g=>d.1.bind fun h=>d.2.1[h.1]?.bind fun j=>j[h.2]?.bind fun k=>K (.inl (zXq.wrap (v.1+1),d.2.1.set h.1 (j.set h.2 (k.1,k.2.1,k.2.2.1,mx g.2.2.2.1 i.2.1,k.2.2.2.2.1,())),()))else none else K (.inr (v.2.1,()))
theorem LI:AW Cw:=fun i v R K=>Ad (Ac fun _=>Ar (Ac fun _=>Ac fun _=>Ac fun _=>Ac fun _=>Ac fun _=>Ac fun _=>Ac fun _=>Ac fun _=>Ac fun _=>Aa)) (Aa)
def Vr:Tmpl:=⟨(.ptr 0 0 1 (.ptrI 2 0 (.slot .i (jk 35 (.nown 2 7 (si 2 (jk 66 .nil))))))),(.cells 6 (.slot .bool (.own 1 (.own 2 (.own 3 (.own 4 (.slot .i .nil)))))) (.tree false 0 (.slice Af) (.tree false 1 Ae (.lst false A0 (.lst false A0 .nil)))))⟩
def mc:Exs ml mg:=x1 (.exit 0) fun i p=>⟨AV.ptr 0 none 0 1::AV.ptr 2 none i.1 0::.n (i.2.1)::jn 104 ([]),[some (Cont.cells 6 [[AV.pv .bool i.2.2.2.2.1,AV.own 1 none none,AV.own 2 none none,AV.own 3 none none,AV.own 4 none none,AV.pv .i i.2.2.2.2.2.1]]),some (Cont.tree false 0 (.slice Af) p.1 none),some (Cont.tree false 1 Ae i.2.2.2.2.2.2.1 none),some (Cont.lst false A0 i.2.2.2.2.2.2.2.1),some (Cont.lst false A0 i.2.2.2.2.2.2.2.2.1)]⟩
def mi:=((.i (.i (.i (.i (.v (.i (.i (.v (.i (.i (.i .n))))))))))):Pk Vr.ty _ _)
abbrev mj:=Nat×Int×Nat×Int×Bool×Int×A8
abbrev md:=Int×List (List A2)×Unit
abbrev mf:=List (List A2)×Unit
def Cv (i:mj)(v:md)(R:Type)(K:md ⊕ mf->Option R):Option R:=bif decide (v.1<i.2.2.2.1)then i.2.2.2.2.2.2.1[i.2.2.1]?.bind fun a=>if 0<=v.1/\v.1<(a.2.2.2.2.2.2.2.2.1.length:Int)then i.2.2.2.2.2.2.1[i.2.2.1]?.bind fun b=>b.2.2.2.2.2.2.2.2.1[0+v.1.toNat]?.bind fun c=>(C8 (c.1,v.2.1,())).bind fun d=>i.2.2.2.2.2.2.1[i.1]?.bind fun e=>d.1.bind fun f=>d.2.1[f.1]?.bind fun g=>g[f.2]?.bind fun h=>if 0<=c.1/\c.1<(↑((d.2.1.set f.1 (g.set f.2 (h.1,h.2.1,h.2.2.1,h.2.2.2.1,e.2.2.2.2.2.1,()))).length):Int)then(d.2.1.set f.1 (g.set f.2 (h.1,h.2.1,h.2.2.1,h.2.2.2.1,e.2.2.2.2.2.1,())))[0+c.1.toNat]?.bind fun j=>i.2.2.2.2.2.2.1[i.1]?.bind fun k=>(d.2.1.set f.1 (g.set f.2 (h.1,h.2.1,h.2.2.1,h.2.2.2.1,e.2.2.2.2.2.1,())))[0+c.1.toNat]?.bind fun l=>if(l++[(k.1,c.2.1,i.2.1,i.2.1,1000,())]).length<=879609302220 then if 0<=c.1/\c.1<(↑((d.2.1.set f.1 (g.set f.2 (h.1,h.2.1,h.2.2.1,h.2.2.2.1,e.2.2.2.2.2.1,()))).length):Int)then(d.2.1.set f.1 (g.set f.2 (h.1,h.2.1,h.2.2.1,h.2.2.2.1,e.2.2.2.2.2.1,())))[0+c.1.toNat]?.bind fun m=>if 1<=1/\true=true/\0+c.1.toNat=0+c.1.toNat/\0<=0/\0<1 then K (.inl (zXq.wrap (v.1+1),(d.2.1.set f.1 (g.set f.2 (h.1,h.2.1,h.2.2.1,h.2.2.2.1,e.2.2.2.2.2.1,()))).set (0+c.1.toNat) (l++[(k.1,c.2.1,i.2.1,i.2.1,1000,())]),()))else none else none else none else none else none else K (.inr (v.2.1,()))
theorem LH:AW Cv:=fun i v R K=>Ad (Ac fun _=>Ar (Ac fun _=>Ac fun _=>Ac fun _=>Ac fun _=>Ac fun _=>Ac fun _=>Ac fun _=>Ar (Ac fun _=>Ac fun _=>Ac fun _=>Ar (Ar (Ac fun _=>Ar (Aa)))))) (Aa)
def Vq:Tmpl:=⟨(.ptr 0 0 1 (.ptrI 2 0 (.slot .i (jk 59 (.nown 2 8 (si 2 (jk 42 .nil))))))),(.cells 6 (.slot .bool (.own 1 (.own 2 (.own 3 (.own 4 (.slot .i .nil)))))) (.tree false 1 (.slice Af) (.tree false 1 Ae (.lst false A0 (.lst false A0 .nil)))))⟩
def mb:Exs mj mf:=x1 (.exit 2) fun i p=>⟨jn 107 ([]),[some (Cont.cells 6 [[AV.pv .bool i.2.2.2.2.1,AV.own 1 none none,AV.own 2 none none,AV.own 3 none none,AV.own 4 none none,AV.pv .i i.2.2.2.2.2.1]]),some (Cont.tree false 1 (.slice Af) p.1 none),some (Cont.tree false 1 Ae i.2.2.2.2.2.2.1 none),some (Cont.lst false A0 i.2.2.2.2.2.2.2.1),some (Cont.lst false A0 i.2.2.2.2.2.2.2.2.1)]⟩
def mh:=((.i (.i (.i (.i (.v (.i (.i (.v (.i (.i (.i .n))))))))))):Pk Vq.ty _ _)
def cO:Cfg:={ti:=Az,ents:=[Yj,Sj,Si],ann:=[(3,Ao Vr 5 (spP mi) Cw mc.E),(9,Ao Vq 5 (spP mh) Cv mb.E)],lent:=5,hid:=[((0,1),[2]),((0,12),[2]),((12,0),[1]),((12,1),[1]),((12,2),[1]),((12,3),[1]),((12,4),[1]),((12,5),[1])]}
def Ek (x:Nat×Int×Bool×Int×A7):Option (Bool×Int×A7):=x.2.2.2.2.2.1[x.1]?.bind fun v=>x.2.2.2.2.2.1[x.1]?.bind fun a=>x.2.2.2.2.2.1[x.1]?.bind fun b=>(Fg ((x.2.2.2.2.1,()),(v.1,v.2.1,v.2.2.1,v.2.2.2.1,v.2.2.2.2.1,v.2.2.2.2.2.1,v.2.2.2.2.2.2.1,a.2.2.2.2.2.2.2.1,b.2.2.2.2.2.2.2.2.1,()),x.2.1,())).bind fun v=>x.2.2.2.2.2.1[x.1]?.bind fun c=>(x.2.2.2.2.2.1.set x.1 (c.1,c.2.1,c.2.2.1,c.2.2.2.1,v.1,c.2.2.2.2.2.1,c.2.2.2.2.2.2.1,c.2.2.2.2.2.2.2.1,c.2.2.2.2.2.2.2.2.1,()))[x.1]?.bind fun d=>((x.2.2.2.2.2.1.set x.1 (c.1,c.2.1,c.2.2.1,c.2.2.2.1,v.1,c.2.2.2.2.2.1,c.2.2.2.2.2.2.1,c.2.2.2.2.2.2.2.1,c.2.2.2.2.2.2.2.2.1,())).set x.1 (d.1,d.2.1,d.2.2.1,d.2.2.2.1,d.2.2.2.2.1,v.2.1,d.2.2.2.2.2.2.1,d.2.2.2.2.2.2.2.1,d.2.2.2.2.2.2.2.2.1,()))[x.1]?.bind fun e=>(((x.2.2.2.2.2.1.set x.1 (c.1,c.2.1,c.2.2.1,c.2.2.2.1,v.1,c.2.2.2.2.2.1,c.2.2.2.2.2.2.1,c.2.2.2.2.2.2.2.1,c.2.2.2.2.2.2.2.2.1,())).set x.1 (d.1,d.2.1,d.2.2.1,d.2.2.2.1,d.2.2.2.2.1,v.2.1,d.2.2.2.2.2.2.1,d.2.2.2.2.2.2.2.1,d.2.2.2.2.2.2.2.2.1,())).set x.1 (e.1,e.2.1,2,e.2.2.2.1,e.2.2.2.2.1,e.2.2.2.2.2.1,e.2.2.2.2.2.2.1,e.2.2.2.2.2.2.2.1,e.2.2.2.2.2.2.2.2.1,()))[x.1]?.bind fun f=>((((x.2.2.2.2.2.1.set x.1 (c.1,c.2.1,c.2.2.1,c.2.2.2.1,v.1,c.2.2.2.2.2.1,c.2.2.2.2.2.2.1,c.2.2.2.2.2.2.2.1,c.2.2.2.2.2.2.2.2.1,())).set x.1 (d.1,d.2.1,d.2.2.1,d.2.2.2.1,d.2.2.2.2.1,v.2.1,d.2.2.2.2.2.2.1,d.2.2.2.2.2.2.2.1,d.2.2.2.2.2.2.2.2.1,())).set x.1 (e.1,e.2.1,2,e.2.2.2.1,e.2.2.2.2.1,e.2.2.2.2.2.1,e.2.2.2.2.2.2.1,e.2.2.2.2.2.2.2.1,e.2.2.2.2.2.2.2.2.1,())).set x.1 (f.1,f.2.1,f.2.2.1,f.2.2.2.1,f.2.2.2.2.1,f.2.2.2.2.2.1,x.2.1,f.2.2.2.2.2.2.2.1,f.2.2.2.2.2.2.2.2.1,()))[x.1]?.bind fun g=>((((x.2.2.2.2.2.1.set x.1 (c.1,c.2.1,c.2.2.1,c.2.2.2.1,v.1,c.2.2.2.2.2.1,c.2.2.2.2.2.2.1,c.2.2.2.2.2.2.2.1,c.2.2.2.2.2.2.2.2.1,())).set x.1 (d.1,d.2.1,d.2.2.1,d.2.2.2.1,d.2.2.2.2.1,v.2.1,d.2.2.2.2.2.2.1,d.2.2.2.2.2.2.2.1,d.2.2.2.2.2.2.2.2.1,())).set x.1 (e.1,e.2.1,2,e.2.2.2.1,e.2.2.2.2.1,e.2.2.2.2.2.1,e.2.2.2.2.2.2.1,e.2.2.2.2.2.2.2.1,e.2.2.2.2.2.2.2.2.1,())).set x.1 (f.1,f.2.1,f.2.2.1,f.2.2.2.1,f.2.2.2.2.1,f.2.2.2.2.2.1,x.2.1,f.2.2.2.2.2.2.2.1,f.2.2.2.2.2.2.2.2.1,()))[x.1]?.bind fun h=>(Au (fun j=>Cw (x.1,x.2.1,x.1,(h.2.2.2.2.2.2.2.1.length:Int),x.2.2.1,x.2.2.2.1,(((x.2.2.2.2.2.1.set x.1 (c.1,c.2.1,c.2.2.1,c.2.2.2.1,v.1,c.2.2.2.2.2.1,c.2.2.2.2.2.2.1,c.2.2.2.2.2.2.2.1,c.2.2.2.2.2.2.2.2.1,())).set x.1 (d.1,d.2.1,d.2.2.1,d.2.2.2.1,d.2.2.2.2.1,v.2.1,d.2.2.2.2.2.2.1,d.2.2.2.2.2.2.2.1,d.2.2.2.2.2.2.2.2.1,())).set x.1 (e.1,e.2.1,2,e.2.2.2.1,e.2.2.2.2.1,e.2.2.2.2.2.1,e.2.2.2.2.2.2.1,e.2.2.2.2.2.2.2.1,e.2.2.2.2.2.2.2.2.1,())).set x.1 (f.1,f.2.1,f.2.2.1,f.2.2.2.1,f.2.2.2.2.1,f.2.2.2.2.2.1,x.2.1,f.2.2.2.2.2.2.2.1,f.2.2.2.2.2.2.2.2.1,()),x.2.2.2.2.2.2.1,x.2.2.2.2.2.2.2.1,()) j _ some) (0,x.2.2.2.2.1,())).bind fun p=>((((x.2.2.2.2.2.1.set x.1 (c.1,c.2.1,c.2.2.1,c.2.2.2.1,v.1,c.2.2.2.2.2.1,c.2.2.2.2.2.2.1,c.2.2.2.2.2.2.2.1,c.2.2.2.2.2.2.2.2.1,())).set x.1 (d.1,d.2.1,d.2.2.1,d.2.2.2.1,d.2.2.2.2.1,v.2.1,d.2.2.2.2.2.2.1,d.2.2.2.2.2.2.2.1,d.2.2.2.2.2.2.2.2.1,())).set x.1 (e.1,e.2.1,2,e.2.2.2.1,e.2.2.2.2.1,e.2.2.2.2.2.1,e.2.2.2.2.2.2.1,e.2.2.2.2.2.2.2.1,e.2.2.2.2.2.2.2.2.1,())).set x.1 (f.1,f.2.1,f.2.2.1,f.2.2.2.1,f.2.2.2.2.1,f.2.2.2.2.2.1,x.2.1,f.2.2.2.2.2.2.2.1,f.2.2.2.2.2.2.2.2.1,()))[x.1]?.bind fun j=>((((x.2.2.2.2.2.1.set x.1 (c.1,c.2.1,c.2.2.1,c.2.2.2.1,v.1,c.2.2.2.2.2.1,c.2.2.2.2.2.2.1,c.2.2.2.2.2.2.2.1,c.2.2.2.2.2.2.2.2.1,())).set x.1 (d.1,d.2.1,d.2.2.1,d.2.2.2.1,d.2.2.2.2.1,v.2.1,d.2.2.2.2.2.2.1,d.2.2.2.2.2.2.2.1,d.2.2.2.2.2.2.2.2.1,())).set x.1 (e.1,e.2.1,2,e.2.2.2.1,e.2.2.2.2.1,e.2.2.2.2.2.1,e.2.2.2.2.2.2.1,e.2.2.2.2.2.2.2.1,e.2.2.2.2.2.2.2.2.1,())).set x.1 (f.1,f.2.1,f.2.2.1,f.2.2.2.1,f.2.2.2.2.1,f.2.2.2.2.2.1,x.2.1,f.2.2.2.2.2.2.2.1,f.2.2.2.2.2.2.2.2.1,()))[x.1]?.bind fun k=>(Au (fun l=>Cv (x.1,x.2.1,x.1,(k.2.2.2.2.2.2.2.2.1.length:Int),x.2.2.1,x.2.2.2.1,(((x.2.2.2.2.2.1.set x.1 (c.1,c.2.1,c.2.2.1,c.2.2.2.1,v.1,c.2.2.2.2.2.1,c.2.2.2.2.2.2.1,c.2.2.2.2.2.2.2.1,c.2.2.2.2.2.2.2.2.1,())).set x.1 (d.1,d.2.1,d.2.2.1,d.2.2.2.1,d.2.2.2.2.1,v.2.1,d.2.2.2.2.2.2.1,d.2.2.2.2.2.2.2.1,d.2.2.2.2.2.2.2.2.1,())).set x.1 (e.1,e.2.1,2,e.2.2.2.1,e.2.2.2.2.1,e.2.2.2.2.2.1,e.2.2.2.2.2.2.1,e.2.2.2.2.2.2.2.1,e.2.2.2.2.2.2.2.2.1,())).set x.1 (f.1,f.2.1,f.2.2.1,f.2.2.2.1,f.2.2.2.2.1,f.2.2.2.2.2.1,x.2.1,f.2.2.2.2.2.2.2.1,f.2.2.2.2.2.2.2.2.1,()),x.2.2.2.2.2.2.1,x.2.2.2.2.2.2.2.1,()) l _ some) (0,p.1,())).bind fun p=>some (x.2.2.1,x.2.2.2.1,p.1,(((x.2.2.2.2.2.1.set x.1 (c.1,c.2.1,c.2.2.1,c.2.2.2.1,v.1,c.2.2.2.2.2.1,c.2.2.2.2.2.2.1,c.2.2.2.2.2.2.2.1,c.2.2.2.2.2.2.2.2.1,())).set x.1 (d.1,d.2.1,d.2.2.1,d.2.2.2.1,d.2.2.2.2.1,v.2.1,d.2.2.2.2.2.2.1,d.2.2.2.2.2.2.2.1,d.2.2.2.2.2.2.2.2.1,())).set x.1 (e.1,e.2.1,2,e.2.2.2.1,e.2.2.2.2.1,e.2.2.2.2.2.1,e.2.2.2.2.2.2.1,e.2.2.2.2.2.2.2.1,e.2.2.2.2.2.2.2.2.1,())).set x.1 (f.1,f.2.1,f.2.2.1,f.2.2.2.1,f.2.2.2.2.1,f.2.2.2.2.2.1,x.2.1,f.2.2.2.2.2.2.2.1,f.2.2.2.2.2.2.2.2.1,()),x.2.2.2.2.2.2.1,x.2.2.2.2.2.2.2.1,())
def Yi:Ent:=⟨153,⟨(.ptr 0 0 1 (.ptrI 2 0 (.slot .i .nil))),(.cells 6 (.slot .bool (.own 1 (.own 2 (.own 3 (.own 4 (.slot .i .nil)))))) (.tree false 0 (.slice Af) (.tree false 0 Ae (.lst false A0 (.lst false A0 .nil)))))⟩,⟨.nil,(.cells 6 (.slot .bool (.own 1 (.own 2 (.own 3 (.own 4 (.slot .i .nil)))))) (.tree false 1 (.slice Af) (.tree false 1 Ae (.lst false A0 (.lst false A0 .nil)))))⟩,Ek⟩
theorem Vs:CfgOK prog cO:=hcB (all_cons Acy (all_cons nf (all_cons mv all_nil)))
theorem A2p:AN prog cO (lpc f153 1):=lkA Vs Vq mh Cv mb [] LH
theorem A2q:AN prog cO (lpc f153 0):=lkA Vs Vr mi Cw mc [0,1,2] LI
theorem Acx:Aj prog Yi:=okC Vs func153 A2q A2p
def Al5:Cfg:={ti:=Az,ents:=[Oi,Yi,YT,Yo,Si,Yk],ann:=[],lent:=5,pre:=[(some (0,3)),(some (0,4))]}
def Fq (x:Nat×Bool×Int×A7):Option (Int×Bool×Int×A7):=x.2.2.2.2.1[x.1]?.bind fun v=>x.2.2.2.2.1[x.1]?.bind fun a=>x.2.2.2.2.1[x.1]?.bind fun b=>(F0 ((x.2.2.2.1,()),(v.1,v.2.1,v.2.2.1,v.2.2.2.1,v.2.2.2.2.1,v.2.2.2.2.2.1,v.2.2.2.2.2.2.1,a.2.2.2.2.2.2.2.1,b.2.2.2.2.2.2.2.2.1,()),())).bind fun v=>bif v.1 != 0 then(Bi (x.1,v.1,x.2.1,x.2.2.1,x.2.2.2.1,x.2.2.2.2.1,x.2.2.2.2.2.1,x.2.2.2.2.2.2.1,())).bind fun v=>some (v.1,v.2.1,v.2.2.1,v.2.2.2.1,v.2.2.2.2.1,v.2.2.2.2.2.2.2.1,v.2.2.2.2.2.2.2.2.1,())else bif x.2.2.1==999 then some (6,x.2.1,x.2.2.1,x.2.2.2.1,x.2.2.2.2.1,x.2.2.2.2.2.1,x.2.2.2.2.2.2.1,())else x.2.2.2.2.1[x.1]?.bind fun v=>x.2.2.2.2.1[x.1]?.bind fun c=>x.2.2.2.2.1[x.1]?.bind fun d=>(Fg ((x.2.2.2.1,()),(v.1,v.2.1,v.2.2.1,v.2.2.2.1,v.2.2.2.2.1,v.2.2.2.2.2.1,v.2.2.2.2.2.2.1,c.2.2.2.2.2.2.2.1,d.2.2.2.2.2.2.2.2.1,()),zXq.wrap (x.2.2.1+1),())).bind fun v=>bif x.2.1 then bif decide (v.1>=v.2.1)then(Bi (x.1,5,x.2.1,x.2.2.1,x.2.2.2.1,x.2.2.2.2.1,x.2.2.2.2.2.1,x.2.2.2.2.2.2.1,())).bind fun v=>some (v.1,v.2.1,v.2.2.1,v.2.2.2.1,v.2.2.2.2.1,v.2.2.2.2.2.2.2.1,v.2.2.2.2.2.2.2.2.1,())else x.2.2.2.2.1[x.1]?.bind fun v=>x.2.2.2.2.1[x.1]?.bind fun e=>x.2.2.2.2.1[x.1]?.bind fun f=>(Fh ((x.2.2.2.1,()),(v.1,v.2.1,v.2.2.1,v.2.2.2.1,v.2.2.2.2.1,v.2.2.2.2.2.1,v.2.2.2.2.2.2.1,e.2.2.2.2.2.2.2.1,f.2.2.2.2.2.2.2.2.1,()),())).bind fun v=>bif v.1 then(Bi (x.1,5,x.2.1,x.2.2.1,x.2.2.2.1,x.2.2.2.2.1,x.2.2.2.2.2.1,x.2.2.2.2.2.2.1,())).bind fun v=>some (v.1,v.2.1,v.2.2.1,v.2.2.2.1,v.2.2.2.2.1,v.2.2.2.2.2.2.2.1,v.2.2.2.2.2.2.2.2.1,())else(Ek (x.1,zXq.wrap (x.2.2.1+1),x.2.1,zXq.wrap (x.2.2.1+1),x.2.2.2.1,x.2.2.2.2.1,x.2.2.2.2.2.1,x.2.2.2.2.2.2.1,())).bind fun v=>(Eb (x.1,v.1,v.2.1,v.2.2.1,v.2.2.2.1,v.2.2.2.2.1,v.2.2.2.2.2.1,())).bind fun v=>some (0,v.1,v.2.1,v.2.2.1,v.2.2.2.1,v.2.2.2.2.2.2.1,v.2.2.2.2.2.2.2.1,())else x.2.2.2.2.1[x.1]?.bind fun v=>x.2.2.2.2.1[x.1]?.bind fun e=>x.2.2.2.2.1[x.1]?.bind fun f=>(Fh ((x.2.2.2.1,()),(v.1,v.2.1,v.2.2.1,v.2.2.2.1,v.2.2.2.2.1,v.2.2.2.2.2.1,v.2.2.2.2.2.2.1,e.2.2.2.2.2.2.2.1,f.2.2.2.2.2.2.2.2.1,()),())).bind fun v=>bif v.1 then(Bi (x.1,5,x.2.1,x.2.2.1,x.2.2.2.1,x.2.2.2.2.1,x.2.2.2.2.2.1,x.2.2.2.2.2.2.1,())).bind fun v=>some (v.1,v.2.1,v.2.2.1,v.2.2.2.1,v.2.2.2.2.1,v.2.2.2.2.2.2.2.1,v.2.2.2.2.2.2.2.2.1,())else(Ek (x.1,zXq.wrap (x.2.2.1+1),x.2.1,zXq.wrap (x.2.2.1+1),x.2.2.2.1,x.2.2.2.2.1,x.2.2.2.2.2.1,x.2.2.2.2.2.2.1,())).bind fun v=>(Eb (x.1,v.1,v.2.1,v.2.2.1,v.2.2.2.1,v.2.2.2.2.1,v.2.2.2.2.2.1,())).bind fun v=>some (0,v.1,v.2.1,v.2.2.1,v.2.2.2.1,v.2.2.2.2.2.2.1,v.2.2.2.2.2.2.2.1,())
def Yh:Ent:=⟨86,⟨(.ptr 0 0 0 (.ptrI 2 0 .nil)),(.cells 6 (.slot .bool (.own 1 (.own 2 (.own 3 (.own 4 (.slot .i .nil)))))) (.tree false 0 (.slice Af) (.tree false 0 Ae (.lst false A0 (.lst false A0 .nil)))))⟩,⟨(.agg (.slot .i (.const (AV.nils) .nil)) .nil),(.cells 6 (.slot .bool (.own 1 (.own 2 (.own 5 (.own 6 (.slot .i .nil)))))) (.tree false 1 (.slice Af) (.tree false 1 Ae (.gone (.gone (.lst false A0 (.lst false A0 .nil)))))))⟩,Fq⟩
theorem Acw:Aj prog Yh:=okA (C:=Al5) (hcB (all_cons RP (all_cons Acx (all_cons oL (all_cons Ad7 (all_cons mv (all_cons Acz all_nil))))))) func86
def Al4:Cfg:={ti:=Az,ents:=[Z7,Z1,YM,Yq,Yh,Oi,Z4,Z5,Z3],ann:=[],lent:=5,pre:=[(some (0,2)),(some (0,3)),(some (0,4))]}
def GF (x:Int×Int×Int×Int×Int×Int×Bool×Int×A7):Option (Int×Bool×Int×List (List A2)×List A3×List A1×List A1×List Int×Unit):=bif x.1==1 then(G5 (x.1,x.2.1,x.2.2.1,x.2.2.2.1,x.2.2.2.2.1,x.2.2.2.2.2.1,x.2.2.2.2.2.2.1,x.2.2.2.2.2.2.2.1,x.2.2.2.2.2.2.2.2.1,x.2.2.2.2.2.2.2.2.2.1,x.2.2.2.2.2.2.2.2.2.2.1,x.2.2.2.2.2.2.2.2.2.2.2.1,())).bind fun v=>some (v.1,v.2.1,v.2.2.1,v.2.2.2.1,v.2.2.2.2.2.2.1,v.2.2.2.2.1,v.2.2.2.2.2.1,[],())else(Cy ((x.2.2.2.2.2.2.1,(x.2.2.2.2.2.2.2.2.1,()),x.2.2.2.2.2.2.2.2.2.1,x.2.2.2.2.2.2.2.2.2.2.1,x.2.2.2.2.2.2.2.2.2.2.2.1,x.2.2.2.2.2.2.2.1,()),x.2.1,())).bind fun v=>bif !v.1 then some (6,x.2.2.2.2.2.2.1,x.2.2.2.2.2.2.2.1,x.2.2.2.2.2.2.2.2.1,x.2.2.2.2.2.2.2.2.2.1,x.2.2.2.2.2.2.2.2.2.2.1,x.2.2.2.2.2.2.2.2.2.2.2.1,[],())else(E5 ((x.2.2.2.2.2.2.1,(x.2.2.2.2.2.2.2.2.1,()),x.2.2.2.2.2.2.2.2.2.1,x.2.2.2.2.2.2.2.2.2.2.1,x.2.2.2.2.2.2.2.2.2.2.2.1,x.2.2.2.2.2.2.2.1,()),x.2.1,())).bind fun v=>if 0<=v.1/\v.1<(x.2.2.2.2.2.2.2.2.2.1.length:Int)then(CE (x.2.2.2.2.2.2.2.2.2.2.2.1,())).bind fun a=>(C5 (a.1,x.1,x.2.1,x.2.2.1,x.2.2.2.1,x.2.2.2.2.1,x.2.2.2.2.2.1,())).bind fun b=>bif b.1==2 then(GG (0+v.1.toNat,b.2.2.2.1,b.2.2.2.1,x.2.2.2.2.2.2.1,x.2.2.2.2.2.2.2.1,x.2.2.2.2.2.2.2.2.1,x.2.2.2.2.2.2.2.2.2.1,x.2.2.2.2.2.2.2.2.2.2.1,b.2.2.2.2.2.2.1,())).bind fun v=>some (v.1,v.2.1,v.2.2.1,v.2.2.2.1,v.2.2.2.2.1,v.2.2.2.2.2.1,v.2.2.2.2.2.2.1,v.2.2.2.2.2.2.2.1,())else bif b.1==4 then(GG (0+v.1.toNat,b.2.2.2.1,b.2.2.2.2.1,x.2.2.2.2.2.2.1,x.2.2.2.2.2.2.2.1,x.2.2.2.2.2.2.2.2.1,x.2.2.2.2.2.2.2.2.2.1,x.2.2.2.2.2.2.2.2.2.2.1,b.2.2.2.2.2.2.1,())).bind fun v=>some (v.1,v.2.1,v.2.2.1,v.2.2.2.1,v.2.2.2.2.1,v.2.2.2.2.2.1,v.2.2.2.2.2.2.1,v.2.2.2.2.2.2.2.1,())else bif b.1==3 then(G4 (0+v.1.toNat,b.2.2.2.1,b.2.2.2.2.2.1,x.2.2.2.2.2.2.1,x.2.2.2.2.2.2.2.1,x.2.2.2.2.2.2.2.2.1,x.2.2.2.2.2.2.2.2.2.1,x.2.2.2.2.2.2.2.2.2.2.1,b.2.2.2.2.2.2.1,())).bind fun v=>some (v.1,v.2.1,v.2.2.1,v.2.2.2.1,v.2.2.2.2.1,v.2.2.2.2.2.1,v.2.2.2.2.2.2.1,[],())else bif b.1==5 then(Fq (0+v.1.toNat,x.2.2.2.2.2.2.1,x.2.2.2.2.2.2.2.1,x.2.2.2.2.2.2.2.2.1,x.2.2.2.2.2.2.2.2.2.1,x.2.2.2.2.2.2.2.2.2.2.1,b.2.2.2.2.2.2.1,())).bind fun v=>some (v.1,v.2.1,v.2.2.1,v.2.2.2.1,v.2.2.2.2.1,v.2.2.2.2.2.1,v.2.2.2.2.2.2.1,[],())else(Bi (0+v.1.toNat,0,x.2.2.2.2.2.2.1,x.2.2.2.2.2.2.2.1,x.2.2.2.2.2.2.2.2.1,x.2.2.2.2.2.2.2.2.2.1,x.2.2.2.2.2.2.2.2.2.2.1,b.2.2.2.2.2.2.1,())).bind fun v=>some (v.1,v.2.1,v.2.2.1,v.2.2.2.1,v.2.2.2.2.1,v.2.2.2.2.2.2.2.1,v.2.2.2.2.2.2.2.2.1,[],())else none
def Yg:Ent:=⟨39,⟨(.ptr 0 0 0 (.agg (si 6 .nil) .nil)),(.cells 6 (.slot .bool (.own 1 (.own 2 (.own 3 (.own 4 (.slot .i .nil)))))) (.tree false 0 (.slice Af) (.tree false 0 Ae (.lst false A0 (.lst false A0 .nil)))))⟩,⟨(.agg (.slot .i (.own 8 .nil)) .nil),(.cells 6 (.slot .bool (.own 1 (.own 5 (.own 6 (.own 7 (.slot .i .nil)))))) (.tree false 1 (.slice Af) (.gone (.gone (.gone (.tree false 1 Ae (.lst false A0 (.lst false A0 (.lst false .i .nil)))))))))⟩,GF⟩
theorem Acv:Aj prog Yg:=okA (C:=Al4) (hcB (all_cons Aej (all_cons Aef (all_cons Ady (all_cons Adc (all_cons Acw (all_cons RP (all_cons W3 (all_cons pR (all_cons W2 all_nil)))))))))) func39
abbrev lZ:=List (List A6)×Int×List (List A6)×Int×Bool×Int×Unit
abbrev lT:=Int×Bool×Int×List (List A2)×List A6×List Int×A8
abbrev lV:=Bool×Int×List (List A2)×List A6×List Int×A8
def Gk (i:lZ)(v:lT)(R:Type)(K:lT ⊕ lV->Option R):Option R:=bif decide (v.1<i.2.2.2.1)then(lAt i.2.2.1 v.1).bind fun a=>if 0<=v.1/\v.1<(v.2.2.2.2.2.1.length:Int)then v.2.2.2.2.2.1[0+v.1.toNat]?.bind fun b=>bif b==(a.length:Int)then K (.inl (zXq.wrap (v.1+1),v.2.1,v.2.2.1,v.2.2.2.1,v.2.2.2.2.1,v.2.2.2.2.2.1,v.2.2.2.2.2.2.1,v.2.2.2.2.2.2.2.1,v.2.2.2.2.2.2.2.2.1,()))else if 0<=v.1/\v.1<(v.2.2.2.2.2.1.length:Int)then v.2.2.2.2.2.1[0+v.1.toNat]?.bind fun c=>(lAt a c).bind fun d=>if(v.2.2.2.2.1++[(d.1,d.2.1,d.2.2.1,d.2.2.2.1,d.2.2.2.2.1,d.2.2.2.2.2.1,())]).length<=733007751850 then(GF (d.1,d.2.1,d.2.2.1,d.2.2.2.1,d.2.2.2.2.1,d.2.2.2.2.2.1,v.2.1,v.2.2.1,v.2.2.2.1,v.2.2.2.2.2.2.1,v.2.2.2.2.2.2.2.1,v.2.2.2.2.2.2.2.2.1,())).bind fun e=>bif e.1==0 then if 0<=v.1/\v.1<(v.2.2.2.2.2.1.length:Int)then v.2.2.2.2.2.1[0+v.1.toNat]?.bind fun f=>if 0<=v.1/\v.1<(v.2.2.2.2.2.1.length:Int)then v.2.2.2.2.2.1[0+v.1.toNat]?.bind fun g=>K (.inl (zXq.wrap (v.1+1),e.2.1,e.2.2.1,e.2.2.2.1,v.2.2.2.2.1++[(d.1,d.2.1,d.2.2.1,d.2.2.2.1,d.2.2.2.2.1,d.2.2.2.2.2.1,())],v.2.2.2.2.2.1.set (0+v.1.toNat) (zXq.wrap (f+1)),e.2.2.2.2.1,e.2.2.2.2.2.1,e.2.2.2.2.2.2.1,()))else none else none else bif e.1==1 then K (.inl (zXq.wrap (v.1+1),e.2.1,e.2.2.1,e.2.2.2.1,v.2.2.2.2.1++[(d.1,d.2.1,d.2.2.1,d.2.2.2.1,d.2.2.2.2.1,d.2.2.2.2.2.1,())],v.2.2.2.2.2.1,e.2.2.2.2.1,e.2.2.2.2.2.1,e.2.2.2.2.2.2.1,()))else if 0<=v.1/\v.1<(v.2.2.2.2.2.1.length:Int)then v.2.2.2.2.2.1[0+v.1.toNat]?.bind fun f=>K (.inl (zXq.wrap (v.1+1),e.2.1,e.2.2.1,e.2.2.2.1,v.2.2.2.2.1++[(d.1,d.2.1,d.2.2.1,d.2.2.2.1,d.2.2.2.2.1,d.2.2.2.2.2.1,())],v.2.2.2.2.2.1.set (0+v.1.toNat) (a.length:Int),e.2.2.2.2.1,e.2.2.2.2.2.1,e.2.2.2.2.2.2.1,()))else none else none else none else none else K (.inr (v.2.1,v.2.2.1,v.2.2.2.1,v.2.2.2.2.1,v.2.2.2.2.2.1,v.2.2.2.2.2.2.1,v.2.2.2.2.2.2.2.1,v.2.2.2.2.2.2.2.2.1,()))
theorem Pq:AW Gk:=fun i v R K=>Ad (Ac fun _=>Ar (Ac fun _=>Ad (Aa) (Ar (Ac fun _=>Ac fun _=>Ar (Ac fun _=>Ad (Ar (Ac fun _=>Ar (Ac fun _=>Aa))) (Ad (Aa) (Ar (Ac fun _=>Aa)))))))) (Aa)
def Vn:Tmpl:=⟨(.junk (.slot (.slice (.slice YOp)) (jk 2 (.ptr 0 0 0 (.junk (.ptr 1 0 0 (.own 3 (.own 4 (jk 13 (.slot .i (.junk (.slot (.slice (.slice YOp)) (si 2 (jk 44 .nil)))))))))))))),(.cells 6 (.slot .bool (.const (AV.nils) (.const (AV.nils) (.const (AV.nils) (.const (AV.nils) (.slot .i .nil)))))) (.cells 6 (.slot .bool (.own 2 (.own 5 (.own 6 (.own 7 (.slot .i .nil)))))) (.tree false 1 (.slice Af) (.lst false YOp (.lst false .i (.tree false 1 Ae (.lst false A0 (.lst false A0 .nil))))))))⟩
def lR:Exs lZ lV:=x1 (.exit 2) fun i p=>⟨jn 1 (AV.pv (.slice (.slice YOp)) i.1::jn 2 (AV.ptr 0 none 0 0::jn 1 (AV.ptr 1 none 0 0::AV.own 3 none none::AV.own 4 none none::jn 13 (.n (i.2.1)::jn 48 ([]))))),[some (Cont.cells 6 [[AV.pv .bool i.2.2.2.2.1,AV.nils,AV.nils,AV.nils,AV.nils,AV.pv .i i.2.2.2.2.2.1]]),some (Cont.cells 6 [[AV.pv .bool p.1,AV.own 2 none none,AV.own 5 none none,AV.own 6 none none,AV.own 7 none none,AV.pv .i p.2.1]]),some (Cont.tree false 1 (.slice Af) p.2.2.1 none),some (Cont.lst false YOp p.2.2.2.1),some (Cont.lst false .i p.2.2.2.2.1),some (Cont.tree false 1 Ae p.2.2.2.2.2.1 none),some (Cont.lst false A0 p.2.2.2.2.2.2.1),some (Cont.lst false A0 p.2.2.2.2.2.2.2.1)]⟩
def lX:=((.i (.i (.i (.i (.v (.i (.i (.v (.v (.v (.v (.v (.v (.v (.v .n))))))))))))))):Pk Vn.ty _ _)
abbrev ma:=List (List A6)×Bool×Int×Unit
abbrev lU:=Int×Bool×Int×List (List A2)×List A6×List Int×A8
abbrev lW:=Bool×Int×List (List A2)×List A6×List Int×A8
def Gl (i:ma)(v:lU)(R:Type)(K:lU ⊕ lW->Option R):Option R:=bif decide (v.1<200)then(Au (fun a=>Gk (i.1,v.1,i.1,(i.1.length:Int),i.2.1,i.2.2.1,()) a _ some) (0,v.2.1,v.2.2.1,v.2.2.2.1,v.2.2.2.2.1,v.2.2.2.2.2.1,v.2.2.2.2.2.2.1,v.2.2.2.2.2.2.2.1,v.2.2.2.2.2.2.2.2.1,())).bind fun p=>K (.inl (zXq.wrap (v.1+1),p.1,p.2.1,p.2.2.1,p.2.2.2.1,p.2.2.2.2.1,p.2.2.2.2.2.1,p.2.2.2.2.2.2.1,p.2.2.2.2.2.2.2.1,()))else K (.inr (v.2.1,v.2.2.1,v.2.2.2.1,v.2.2.2.2.1,v.2.2.2.2.2.1,v.2.2.2.2.2.2.1,v.2.2.2.2.2.2.2.1,v.2.2.2.2.2.2.2.2.1,()))
theorem Pr:AW Gl:=fun i v R K=>Ad (Ac fun _=>Aa) (Aa)
def Vo:Tmpl:=⟨(.junk (.slot (.slice (.slice YOp)) (jk 2 (.ptr 0 0 0 (.junk (.ptr 1 0 0 (.own 3 (.own 4 (jk 13 (.slot .i (jk 48 .nil))))))))))),(.cells 6 (.slot .bool (.const (AV.nils) (.const (AV.nils) (.const (AV.nils) (.const (AV.nils) (.slot .i .nil)))))) (.cells 6 (.slot .bool (.own 2 (.own 5 (.own 6 (.own 7 (.slot .i .nil)))))) (.tree false 1 (.slice Af) (.lst false YOp (.lst false .i (.tree false 1 Ae (.lst false A0 (.lst false A0 .nil))))))))⟩
def lS:Exs ma lW:=x1 (.exit 0) fun i p=>⟨jn 4 (AV.ptr 0 none 0 0::jn 1 (AV.ptr 1 none 0 0::AV.own 3 none none::jn 63 ([]))),[some (Cont.cells 6 [[AV.pv .bool i.2.1,AV.nils,AV.nils,AV.nils,AV.nils,AV.pv .i i.2.2.1]]),some (Cont.cells 6 [[AV.pv .bool p.1,AV.own 2 none none,AV.own 5 none none,AV.own 6 none none,AV.own 7 none none,AV.pv .i p.2.1]]),some (Cont.tree false 1 (.slice Af) p.2.2.1 none),some (Cont.lst false YOp p.2.2.2.1),some (Cont.lst false .i p.2.2.2.2.1),some (Cont.tree false 1 Ae p.2.2.2.2.2.1 none),some (Cont.lst false A0 p.2.2.2.2.2.2.1),some (Cont.lst false A0 p.2.2.2.2.2.2.2.1)]⟩
def lY:=((.i (.v (.i (.i (.v (.v (.v (.v (.v (.v (.v (.v .n)))))))))))):Pk Vo.ty _ _)
def cN:Cfg:={ti:=Az,ents:=[Yg,eF,eG],ann:=[(8,Ao Vn 0 (spP lX) Gk lR.E),(6,Ao Vo 0 (spP lY) Gl lS.E)],lent:=0}
def J1 (x:Bool×List (List A6)×Unit):Option (Bool×Int×List (List A2)×List A3×List A1×List A1×List A6×Unit):=(Jl (x.1,())).bind fun v=>(FU (x.2.1,())).bind fun a=>bif !a.1 then some (v.1,v.2.1,v.2.2.1,[],[],[],[],())else if 0<=(x.2.1.length:Int)/\(x.2.1.length:Int)<=(x.2.1.length:Int)/\(x.2.1.length:Int)<=(↑4398046511104:Int)then(Au (fun v=>Gl (x.2.1,false,0,()) v _ some) (0,v.1,v.2.1,v.2.2.1,[],zKq ((x.2.1.length:Int).toNat) 0,[],[],[],())).bind fun p=>some (p.1,p.2.1,p.2.2.1,p.2.2.2.2.2.1,p.2.2.2.2.2.2.1,p.2.2.2.2.2.2.2.1,p.2.2.2.1,())else none
def A2o:Ent:=⟨18,⟨(.slot .bool (.slot (.slice (.slice YOp)) .nil)),.nil⟩,⟨(.agg (.slot .bool (.own 0 (.own 1 (.own 2 (.own 3 (.slot .i .nil)))))) (.own 4 .nil)),(.tree false 1 (.slice Af) (.tree false 1 Ae (.lst false A0 (.lst false A0 (.lst false YOp .nil)))))⟩,J1⟩
theorem Vp:CfgOK prog cN:=hcB (all_cons Acv (all_cons Ajj (all_cons tJ all_nil)))
theorem Yf:AN prog cN (lpc f18 1):=lkA Vp Vn lX Gk lR [1,4,6,7,8,22] Pq
theorem A2n:AN prog cN (lpc f18 0):=lkB Vp Vo lY Gl lS [4,6,7] Pr Yf
theorem Acu:Aj prog A2o:=okC Vp func18 A2n Yf
abbrev lP:=Int×List A3×Int×Unit
abbrev lM:=Int×List Int×Unit
abbrev lN:=List Int×Unit
def D4 (i:lP)(v:lM)(R:Type)(K:lM ⊕ lN->Option R):Option R:=bif decide (v.1<i.2.2.1)then(lAt i.2.1 v.1).bind fun a=>bif a.2.2.1==i.1 then if(v.2.1++[a.1]).length<=4398046511104 then K (.inl (zXq.wrap (v.1+1),v.2.1++[a.1],()))else none else K (.inl (zXq.wrap (v.1+1),v.2.1,()))else K (.inr (v.2.1,()))
theorem LG:AW D4:=fun i v R K=>Ad (Ac fun _=>Ad (Ar (Aa)) (Aa)) (Aa)
def Vm:Tmpl:=⟨(.junk (.slot .i (jk 3 (.own 0 (jk 4 (.slot (.slice Ae) (si 2 (jk 14 .nil)))))))),(.lst false .i .nil)⟩
def lL:Exs lP lN:=x1 (.exit 0) fun i p=>⟨jn 5 (AV.own 0 none none::jn 21 ([])),[some (Cont.lst false .i p.1)]⟩
def lO:=((.i (.i (.i (.v (.v .n))))):Pk Vm.ty _ _)
def A2m:Cfg:={ti:=Az,ents:=[],ann:=[(3,Ao Vm 0 (spP lO) D4 lL.E)],lent:=0}
def FZ (x:A5×Int×Unit):Option (List Int×Unit):=(Au (fun v=>D4 (x.2.1,x.1.2.2.1,(x.1.2.2.1.length:Int),()) v _ some) (0,[],())).bind fun p=>some (p.1,())
def A2l:Ent:=⟨20,⟨(.slot Dh (.slot .i .nil)),.nil⟩,⟨(.own 0 .nil),(.lst false .i .nil)⟩,FZ⟩
theorem lQ:CfgOK prog A2m:=hcB all_nil
theorem A2k:AN prog A2m (lpc f20 0):=lkA lQ Vm lO D4 lL [5] LG
theorem Acs:Aj prog A2l:=okB lQ func20 A2k
def Eh (x:A5×Unit):Option (Int×Unit):=(FZ ((x.1.1,(x.1.2.1.1,()),x.1.2.2.1,x.1.2.2.2.1,x.1.2.2.2.2.1,x.1.2.2.2.2.2.1,()),2,())).bind fun v=>some ((v.1.length:Int),())
def A2j:Ent:=⟨19,⟨(.slot Dh .nil),.nil⟩,⟨(.slot .i .nil),.nil⟩,Eh⟩
theorem Acr:Aj prog A2j:=okA (hcA 0 (all_cons Acs all_nil)) func19
def G1 (x:A2×Unit):Option (Bool×Unit):=(Hu (x.1.2.1,())).bind fun v=>bif !v.1 then some (false,())else(BJ (x.1.2.2.1,0,999,())).bind fun v=>bif !v.1 then some (false,())else(BJ (x.1.2.2.2.1,x.1.2.2.1,999,())).bind fun v=>bif !v.1 then some (false,())else(BJ (x.1.2.2.2.2.1,1,1000,())).bind fun v=>bif !v.1 then some (false,())else bif x.1.2.2.1==0 then bif x.1.1==0 then some (x.1.2.1==-1,())else some (false,())else(BB (x.1.1,())).bind fun v=>some (v.1,())
def Ye:Ent:=⟨227,⟨(.slot Af .nil),.nil⟩,⟨(.slot .bool .nil),.nil⟩,G1⟩
theorem Acq:Aj prog Ye:=okA (hcA 0 (all_cons bh (all_cons L3 (all_cons M5 all_nil)))) func227
abbrev lJ:=List A2×List A2×Int×Unit
abbrev lG:=Int×Unit
abbrev lH:=A2 ⊕ A2 ⊕ A2 ⊕ Unit
def DI (i:lJ)(v:lG)(R:Type)(K:lG ⊕ lH->Option R):Option R:=bif decide (v.1<i.2.2.1)then(lAt i.2.1 v.1).bind fun a=>(G1 ((a.1,a.2.1,a.2.2.1,a.2.2.2.1,a.2.2.2.2.1,()),())).bind fun b=>bif !b.1 then K (.inr (.inl (a.1,a.2.1,a.2.2.1,a.2.2.2.1,a.2.2.2.2.1,())))else bif decide (v.1>0)then(lAt i.1 (zXq.wrap (v.1-1))).bind fun c=>bif decide (c.2.2.1>=a.2.2.1)then K (.inr (.inr (.inl (a.1,a.2.1,a.2.2.1,a.2.2.2.1,a.2.2.2.2.1,()))))else(lAt i.1 (zXq.wrap (v.1-1))).bind fun d=>bif decide (d.2.2.2.2.1>a.2.2.1)then K (.inr (.inr (.inr (.inl (a.1,a.2.1,a.2.2.1,a.2.2.2.1,a.2.2.2.2.1,())))))else K (.inl (zXq.wrap (v.1+1),()))else K (.inl (zXq.wrap (v.1+1),()))else K (.inr (.inr (.inr (.inr ()))))
theorem Mg:AW DI:=fun i v R K=>Ad (Ac fun _=>Ac fun _=>Ad (Aa) (Ad (Ac fun _=>Ad (Aa) (Ac fun _=>Ad (Aa) (Aa))) (Aa))) (Aa)
def Vk:Tmpl:=⟨(.slot (.slice Af) (jk 4 (.slot (.slice Af) (si 2 (jk 47 .nil))))),.nil⟩
def lF:Exs lJ lH:=xs .ret (fun i p=>⟨AV.pv (.slice Af) i.1::jn 1 (.b (false)::jn 52 ([])),[some (Cont.cells 5 [[AV.pv .i p.1,AV.pv .i p.2.1,AV.pv .i p.2.2.1,AV.pv .i p.2.2.2.1,AV.pv .i p.2.2.2.2.1]])]⟩)<|xs .ret (fun i p=>⟨AV.pv (.slice Af) i.1::jn 1 (.b (false)::jn 52 ([])),[some (Cont.cells 5 [[AV.pv .i p.1,AV.pv .i p.2.1,AV.pv .i p.2.2.1,AV.pv .i p.2.2.2.1,AV.pv .i p.2.2.2.2.1]])]⟩)<|xs .ret (fun i p=>⟨AV.pv (.slice Af) i.1::jn 1 (.b (false)::jn 52 ([])),[some (Cont.cells 5 [[AV.pv .i p.1,AV.pv .i p.2.1,AV.pv .i p.2.2.1,AV.pv .i p.2.2.2.1,AV.pv .i p.2.2.2.2.1]])]⟩)<|x1 (.exit 0) fun i p=>⟨AV.pv (.slice Af) i.1::jn 54 ([]),[]⟩
def lI:=((.i (.i (.i (.v .n)))):Pk Vk.ty _ _)
def A2c:Cfg:={ti:=Az,ents:=[Ye],ann:=[(2,Ao Vk 0 (spP lI) DI lF.E)],lent:=0}
def Fi (x:List A2×Unit):Option (Bool×Unit):=(Au (fun v=>DI (x.1,x.1,(x.1.length:Int),()) v _ some) (0,())).bind fun p=>Ap p (fun p=>some (false,())) fun p=>Ap p (fun p=>some (false,())) fun p=>Ap p (fun p=>some (false,())) fun p=>bif decide ((x.1.length:Int)>0)then(lAt x.1 (zXq.wrap ((x.1.length:Int)-1))).bind fun v=>some (v.2.2.2.2.1==1000,())else some (false,())
def A2b:Ent:=⟨169,⟨(.slot (.slice Af) .nil),.nil⟩,⟨(.slot .bool .nil),.nil⟩,Fi⟩
theorem lK:CfgOK prog A2c:=hcB (all_cons Acq all_nil)
theorem A2a:AN prog A2c (lpc f169 0):=lkA lK Vk lI DI lF [0,2] Mg
theorem Aco:Aj prog A2b:=okB lK func169 A2a
def G2 (x:List A2×Unit):Option (Bool×Unit):=(Fi (x.1,())).bind fun v=>bif !v.1 then some (true,())else some (decide ((x.1.length:Int)>50),())
def Yd:Ent:=⟨168,⟨(.slot (.slice Af) .nil),.nil⟩,⟨(.slot .bool .nil),.nil⟩,G2⟩
theorem Acn:Aj prog Yd:=okA (hcA 0 (all_cons Aco all_nil)) func168
abbrev lD:=List (List A2)×Unit×Int×Unit
abbrev lA:=Int×Unit
abbrev lB:=Int×Unit ⊕ Unit
def AQ (i:lD)(v:lA)(R:Type)(K:lA ⊕ lB->Option R):Option R:=bif decide (v.1<i.2.2.1)then(lAt i.1 v.1).bind fun a=>(G2 (a,())).bind fun b=>bif b.1 then K (.inr (.inl (v.1,())))else K (.inl (zXq.wrap (v.1+1),()))else K (.inr (.inr ()))
theorem Ho:AW AQ:=fun i v R K=>Ad (Ac fun _=>Ac fun _=>Ad (Aa) (Aa)) (Aa)
def Vj:Tmpl:=⟨(.slot (.slice (.slice Af)) (.slot (.fn 168 .unit) (jk 5 (si 2 (jk 10 .nil))))),.nil⟩
def lz:Exs lD lB:=xs .ret (fun i p=>⟨jn 4 (.n (p.1)::jn 14 ([])),[]⟩)<|x1 (.exit 0) fun i p=>⟨jn 19 ([]),[]⟩
def lC:=((.i (.i (.i (.v .n)))):Pk Vj.ty _ _)
def A29:Cfg:={ti:=Az,ents:=[Yd],ann:=[(2,Ao Vj 0 (spP lC) AQ lz.E)],lent:=0}
def CQ (x:List (List A2)×Unit×Unit):Option (Int×Unit):=(Au (fun v=>AQ (x.1,x.2.1,(x.1.length:Int),()) v _ some) (0,())).bind fun p=>Ap p (fun p=>some (p.1,())) fun p=>some (-1,())
def A28:Ent:=⟨226,⟨(.slot (.slice (.slice Af)) (.slot (.fn 168 .unit) .nil)),.nil⟩,⟨(.slot .i .nil),.nil⟩,CQ⟩
theorem lE:CfgOK prog A29:=hcB (all_cons Acn all_nil)
theorem A27:AN prog A29 (lpc f226 0):=lkA lE Vj lC AQ lz [4] Ho
theorem Acm:Aj prog A28:=okB lE func226 A27
def Ct (x:List (List A2)×Unit×Unit):Option (Bool×Unit):=(CQ (x.1,x.2.1,())).bind fun v=>some (decide (v.1>=0),())
def A26:Ent:=⟨167,⟨(.slot (.slice (.slice Af)) (.slot (.fn 168 .unit) .nil)),.nil⟩,⟨(.slot .bool .nil),.nil⟩,Ct⟩
theorem Acl:Aj prog A26:=okA (hcA 0 (all_cons Acm all_nil)) func167
def GZ (x:A4×Unit):Option (Bool×Unit):=bif (x.1.1.length:Int)==6 then(Ct (x.1.1,(),())).bind fun v=>some (!v.1,())else some (false,())
def A25:Ent:=⟨100,⟨(.slot BW .nil),.nil⟩,⟨(.slot .bool .nil),.nil⟩,GZ⟩
theorem Ack:Aj prog A25:=okA (hcA 0 (all_cons Acl all_nil)) func100
abbrev lx:=List (List A2)×Int×Int×List A2×Int×Unit
abbrev lp:=Int×Int×Unit
abbrev lr:=Int×Unit
def CS (i:lx)(v:lp)(R:Type)(K:lp ⊕ lr->Option R):Option R:=bif decide (v.2.1<i.2.2.2.2.1)then(lAt i.2.2.2.1 v.2.1).bind fun a=>K (.inl (mx v.1 a.2.2.2.1,zXq.wrap (v.2.1+1),()))else K (.inr (v.1,()))
theorem Ln:AW CS:=fun i v R K=>Ad (Ac fun _=>Aa) (Aa)
def Vg:Tmpl:=⟨(jk 3 (.slot .i (jk 5 (.slot (.slice (.slice Af)) (si 2 (jk 3 (.slot (.slice Af) (si 2 (jk 10 .nil))))))))),.nil⟩
def lm:Exs lx lr:=x1 (.exit 2) fun i p=>⟨jn 3 (.n (p.1)::jn 5 (AV.pv (.slice (.slice Af)) i.1::.n (i.2.1)::.n (i.2.2.1)::jn 16 ([]))),[]⟩
def lv:=((.v (.i (.i (.i (.i (.i (.v .n))))))):Pk Vg.ty _ _)
abbrev ly:=List (List A2)×Int×Unit
abbrev lq:=Int×Int×Unit
abbrev lu:=Int×Unit
def CT (i:ly)(v:lq)(R:Type)(K:lq ⊕ lu->Option R):Option R:=bif decide (v.2.1<i.2.1)then(lAt i.1 v.2.1).bind fun a=>(Au (fun b=>CS (i.1,i.2.1,v.2.1,a,(a.length:Int),()) b _ some) (v.1,0,())).bind fun p=>K (.inl (p.1,zXq.wrap (v.2.1+1),()))else K (.inr (v.1,()))
theorem Lo:AW CT:=fun i v R K=>Ad (Ac fun _=>Ac fun _=>Aa) (Aa)
def Vh:Tmpl:=⟨(jk 3 (.slot .i (jk 5 (.slot (.slice (.slice Af)) (si 2 (jk 16 .nil)))))),.nil⟩
def ln:Exs ly lu:=x1 (.exit 0) fun i p=>⟨jn 3 (.n (p.1)::jn 24 ([])),[]⟩
def lw:=((.v (.i (.i (.v .n)))):Pk Vh.ty _ _)
def cK:Cfg:={ti:=Az,ents:=[],ann:=[(6,Ao Vg 0 (spP lv) CS lm.E),(3,Ao Vh 0 (spP lw) CT ln.E)],lent:=0}
def Fp (x:A4×Unit):Option (Int×Unit):=(Au (fun v=>CT (x.1.1,(x.1.1.length:Int),()) v _ some) (0,0,())).bind fun p=>some (p.1,())
def A24:Ent:=⟨103,⟨(.slot BW .nil),.nil⟩,⟨(.slot .i .nil),.nil⟩,Fp⟩
theorem Vi:CfgOK prog cK:=hcB all_nil
theorem Yc:AN prog cK (lpc f103 1):=lkA Vi Vg lv CS lm [3,9,10,11] Ln
theorem A23:AN prog cK (lpc f103 0):=lkB Vi Vh lw CT ln [3] Lo Yc
theorem Acj:Aj prog A24:=okC Vi func103 A23 Yc
def Gc (x:A1×Option A4×Unit):Option (Bool×Unit):=x.2.1.bind fun v=>(E3 ((v.1,()),(x.1.1,x.1.2.1,()),())).bind fun v=>some (Option.isNone v.1,())
def Yb:Ent:=⟨229,⟨(.slot A0 (.slot (.iref BW) .nil)),.nil⟩,⟨(.slot .bool .nil),.nil⟩,Gc⟩
theorem Aci:Aj prog Yb:=okA (hcA 0 (all_cons mE all_nil)) func229
abbrev lj:=List A1×(Option A4×Unit)×Int×Unit
abbrev lg:=Int×Unit
abbrev lh:=Int×Unit ⊕ Unit
def AJ (i:lj)(v:lg)(R:Type)(K:lg ⊕ lh->Option R):Option R:=bif decide (v.1<i.2.2.1)then(lAt i.1 v.1).bind fun a=>(Gc ((a.1,a.2.1,()),i.2.1.1,())).bind fun b=>bif b.1 then K (.inr (.inl (v.1,())))else K (.inl (zXq.wrap (v.1+1),()))else K (.inr (.inr ()))
theorem Ga:AW AJ:=fun i v R K=>Ad (Ac fun _=>Ac fun _=>Ad (Aa) (Aa)) (Aa)
def Vf:Tmpl:=⟨(.slot (.slice A0) (.slot (.fn 229 (.prod (.iref BW) .unit)) (jk 5 (si 2 (jk 10 .nil))))),.nil⟩
def lf:Exs lj lh:=xs .ret (fun i p=>⟨jn 4 (.n (p.1)::jn 14 ([])),[]⟩)<|x1 (.exit 0) fun i p=>⟨jn 19 ([]),[]⟩
def li:=((.i (.i (.i (.v .n)))):Pk Vf.ty _ _)
def A22:Cfg:={ti:=Az,ents:=[Yb],ann:=[(2,Ao Vf 0 (spP li) AJ lf.E)],lent:=0}
def Ck (x:List A1×(Option A4×Unit)×Unit):Option (Int×Unit):=(Au (fun v=>AJ (x.1,x.2.1,(x.1.length:Int),()) v _ some) (0,())).bind fun p=>Ap p (fun p=>some (p.1,())) fun p=>some (-1,())
def A21:Ent:=⟨257,⟨(.slot (.slice A0) (.slot (.fn 229 (.prod (.iref BW) .unit)) .nil)),.nil⟩,⟨(.slot .i .nil),.nil⟩,Ck⟩
theorem ll:CfgOK prog A22:=hcB (all_cons Aci all_nil)
theorem A20:AN prog A22 (lpc f257 0):=lkA ll Vf li AJ lf [4] Ga
theorem Ach:Aj prog A21:=okB ll func257 A20
def BZ (x:List A1×(Option A4×Unit)×Unit):Option (Bool×Unit):=(Ck (x.1,x.2.1,())).bind fun v=>some (decide (v.1>=0),())
def A1z:Ent:=⟨228,⟨(.slot (.slice A0) (.slot (.fn 229 (.prod (.iref BW) .unit)) .nil)),.nil⟩,⟨(.slot .bool .nil),.nil⟩,BZ⟩
theorem Acg:Aj prog A1z:=okA (hcA 0 (all_cons Ach all_nil)) func228
def DH (x:A4×List A1×Unit):Option (Bool×Unit):=(BZ (x.2.1,(some (x.1.1,()),()),())).bind fun v=>some (!v.1,())
def Ya:Ent:=⟨171,⟨(.slot BW (.slot (.slice A0) .nil)),.nil⟩,⟨(.slot .bool .nil),.nil⟩,DH⟩
theorem Acf:Aj prog Ya:=okA (hcA 0 (all_cons Acg all_nil)) func171
abbrev la:=List A3×Int×Bool×List (List A2)×List A3×List A1×List A1×Int×Unit
abbrev kX:=Int×Unit
abbrev kY:=A3 ⊕ A3 ⊕ A3 ⊕ A3 ⊕ A3 ⊕ A3 ⊕ A3 ⊕ A3 ⊕ Unit
def BK (i:la)(v:kX)(R:Type)(K:kX ⊕ kY->Option R):Option R:=bif decide (v.1<i.2.1)then(lAt i.1 v.1).bind fun a=>(D8 ((a.1,a.2.1,a.2.2.1,a.2.2.2.1,a.2.2.2.2.1,a.2.2.2.2.2.1,a.2.2.2.2.2.2.1,a.2.2.2.2.2.2.2.1,a.2.2.2.2.2.2.2.2.1,()),())).bind fun b=>bif !b.1 then K (.inr (.inl (a.1,a.2.1,a.2.2.1,a.2.2.2.1,a.2.2.2.2.1,a.2.2.2.2.2.1,a.2.2.2.2.2.2.1,a.2.2.2.2.2.2.2.1,a.2.2.2.2.2.2.2.2.1,())))else bif decide (v.1>0)then(lAt i.2.2.2.2.1 (zXq.wrap (v.1-1))).bind fun c=>bif decide (c.1>=a.1)then K (.inr (.inr (.inl (a.1,a.2.1,a.2.2.1,a.2.2.2.1,a.2.2.2.2.1,a.2.2.2.2.2.1,a.2.2.2.2.2.2.1,a.2.2.2.2.2.2.2.1,a.2.2.2.2.2.2.2.2.1,()))))else bif decide (a.2.2.2.1>i.2.2.2.2.2.2.2.1)then K (.inr (.inr (.inr (.inl (a.1,a.2.1,a.2.2.1,a.2.2.2.1,a.2.2.2.2.1,a.2.2.2.2.2.1,a.2.2.2.2.2.2.1,a.2.2.2.2.2.2.2.1,a.2.2.2.2.2.2.2.2.1,())))))else bif decide (a.2.2.2.2.2.2.1>i.2.2.2.2.2.2.2.1)then K (.inr (.inr (.inr (.inr (.inl (a.1,a.2.1,a.2.2.1,a.2.2.2.1,a.2.2.2.2.1,a.2.2.2.2.2.1,a.2.2.2.2.2.2.1,a.2.2.2.2.2.2.2.1,a.2.2.2.2.2.2.2.2.1,()))))))else bif a.2.2.1==1 then(DH ((i.2.2.2.1,()),a.2.2.2.2.2.2.2.1,())).bind fun d=>bif !d.1 then K (.inr (.inr (.inr (.inr (.inr (.inl (a.1,a.2.1,a.2.2.1,a.2.2.2.1,a.2.2.2.2.1,a.2.2.2.2.2.1,a.2.2.2.2.2.2.1,a.2.2.2.2.2.2.2.1,a.2.2.2.2.2.2.2.2.1,())))))))else K (.inl (zXq.wrap (v.1+1),()))else K (.inl (zXq.wrap (v.1+1),()))else bif decide (a.2.2.2.1>i.2.2.2.2.2.2.2.1)then K (.inr (.inr (.inr (.inr (.inr (.inr (.inl (a.1,a.2.1,a.2.2.1,a.2.2.2.1,a.2.2.2.2.1,a.2.2.2.2.2.1,a.2.2.2.2.2.2.1,a.2.2.2.2.2.2.2.1,a.2.2.2.2.2.2.2.2.1,()))))))))else bif decide (a.2.2.2.2.2.2.1>i.2.2.2.2.2.2.2.1)then K (.inr (.inr (.inr (.inr (.inr (.inr (.inr (.inl (a.1,a.2.1,a.2.2.1,a.2.2.2.1,a.2.2.2.2.1,a.2.2.2.2.2.1,a.2.2.2.2.2.2.1,a.2.2.2.2.2.2.2.1,a.2.2.2.2.2.2.2.2.1,())))))))))else bif a.2.2.1==1 then(DH ((i.2.2.2.1,()),a.2.2.2.2.2.2.2.1,())).bind fun c=>bif !c.1 then K (.inr (.inr (.inr (.inr (.inr (.inr (.inr (.inr (.inl (a.1,a.2.1,a.2.2.1,a.2.2.2.1,a.2.2.2.2.1,a.2.2.2.2.2.1,a.2.2.2.2.2.2.1,a.2.2.2.2.2.2.2.1,a.2.2.2.2.2.2.2.2.1,()))))))))))else K (.inl (zXq.wrap (v.1+1),()))else K (.inl (zXq.wrap (v.1+1),()))else K (.inr (.inr (.inr (.inr (.inr (.inr (.inr (.inr (.inr ())))))))))
theorem JQ:AW BK:=fun i v R K=>Ad (Ac fun _=>Ac fun _=>Ad (Aa) (Ad (Ac fun _=>Ad (Aa) (Ad (Aa) (Ad (Aa) (Ad (Ac fun _=>Ad (Aa) (Aa)) (Aa))))) (Ad (Aa) (Ad (Aa) (Ad (Ac fun _=>Ad (Aa) (Aa)) (Aa)))))) (Aa)
def Ve:Tmpl:=⟨(.junk (.ptr 0 0 0 (jk 4 (.slot (.slice Ae) (si 2 (jk 53 .nil)))))),(.cells 6 (.slot .bool (.slot (.slice (.slice Af)) (.slot (.slice Ae) (.slot (.slice A0) (.slot (.slice A0) (.slot .i .nil)))))) .nil)⟩
def kV:Exs la kY:=xs .ret (fun i p=>⟨jn 1 (AV.ptr 0 none 0 0::.b (false)::jn 59 ([])),[some (Cont.cells 6 [[AV.pv .bool i.2.2.1,AV.pv (.slice (.slice Af)) i.2.2.2.1,AV.pv (.slice Ae) i.2.2.2.2.1,AV.pv (.slice A0) i.2.2.2.2.2.1,AV.pv (.slice A0) i.2.2.2.2.2.2.1,AV.pv .i i.2.2.2.2.2.2.2.1]]),some (Cont.cells 9 [[AV.pv .i p.1,AV.pv .i p.2.1,AV.pv .i p.2.2.1,AV.pv .i p.2.2.2.1,AV.pv .i p.2.2.2.2.1,AV.pv .i p.2.2.2.2.2.1,AV.pv .i p.2.2.2.2.2.2.1,AV.pv (.slice A0) p.2.2.2.2.2.2.2.1,AV.pv (.slice A0) p.2.2.2.2.2.2.2.2.1]])]⟩)<|xs .ret (fun i p=>⟨jn 1 (AV.ptr 0 none 0 0::.b (false)::jn 59 ([])),[some (Cont.cells 6 [[AV.pv .bool i.2.2.1,AV.pv (.slice (.slice Af)) i.2.2.2.1,AV.pv (.slice Ae) i.2.2.2.2.1,AV.pv (.slice A0) i.2.2.2.2.2.1,AV.pv (.slice A0) i.2.2.2.2.2.2.1,AV.pv .i i.2.2.2.2.2.2.2.1]]),some (Cont.cells 9 [[AV.pv .i p.1,AV.pv .i p.2.1,AV.pv .i p.2.2.1,AV.pv .i p.2.2.2.1,AV.pv .i p.2.2.2.2.1,AV.pv .i p.2.2.2.2.2.1,AV.pv .i p.2.2.2.2.2.2.1,AV.pv (.slice A0) p.2.2.2.2.2.2.2.1,AV.pv (.slice A0) p.2.2.2.2.2.2.2.2.1]])]⟩)<|xs .ret (fun i p=>⟨jn 1 (AV.ptr 0 none 0 0::.b (false)::jn 59 ([])),[some (Cont.cells 6 [[AV.pv .bool i.2.2.1,AV.pv (.slice (.slice Af)) i.2.2.2.1,AV.pv (.slice Ae) i.2.2.2.2.1,AV.pv (.slice A0) i.2.2.2.2.2.1,AV.pv (.slice A0) i.2.2.2.2.2.2.1,AV.pv .i i.2.2.2.2.2.2.2.1]]),some (Cont.cells 9 [[AV.pv .i p.1,AV.pv .i p.2.1,AV.pv .i p.2.2.1,AV.pv .i p.2.2.2.1,AV.pv .i p.2.2.2.2.1,AV.pv .i p.2.2.2.2.2.1,AV.pv .i p.2.2.2.2.2.2.1,AV.pv (.slice A0) p.2.2.2.2.2.2.2.1,AV.pv (.slice A0) p.2.2.2.2.2.2.2.2.1]])]⟩)<|xs .ret (fun i p=>⟨jn 1 (AV.ptr 0 none 0 0::.b (false)::jn 59 ([])),[some (Cont.cells 6 [[AV.pv .bool i.2.2.1,AV.pv (.slice (.slice Af)) i.2.2.2.1,AV.pv (.slice Ae) i.2.2.2.2.1,AV.pv (.slice A0) i.2.2.2.2.2.1,AV.pv (.slice A0) i.2.2.2.2.2.2.1,AV.pv .i i.2.2.2.2.2.2.2.1]]),some (Cont.cells 9 [[AV.pv .i p.1,AV.pv .i p.2.1,AV.pv .i p.2.2.1,AV.pv .i p.2.2.2.1,AV.pv .i p.2.2.2.2.1,AV.pv .i p.2.2.2.2.2.1,AV.pv .i p.2.2.2.2.2.2.1,AV.pv (.slice A0) p.2.2.2.2.2.2.2.1,AV.pv (.slice A0) p.2.2.2.2.2.2.2.2.1]])]⟩)<|xs .ret (fun i p=>⟨jn 1 (AV.ptr 0 none 0 0::.b (false)::jn 59 ([])),[some (Cont.cells 6 [[AV.pv .bool i.2.2.1,AV.pv (.slice (.slice Af)) i.2.2.2.1,AV.pv (.slice Ae) i.2.2.2.2.1,AV.pv (.slice A0) i.2.2.2.2.2.1,AV.pv (.slice A0) i.2.2.2.2.2.2.1,AV.pv .i i.2.2.2.2.2.2.2.1]]),some (Cont.cells 9 [[AV.pv .i p.1,AV.pv .i p.2.1,AV.pv .i p.2.2.1,AV.pv .i p.2.2.2.1,AV.pv .i p.2.2.2.2.1,AV.pv .i p.2.2.2.2.2.1,AV.pv .i p.2.2.2.2.2.2.1,AV.pv (.slice A0) p.2.2.2.2.2.2.2.1,AV.pv (.slice A0) p.2.2.2.2.2.2.2.2.1]])]⟩)<|xs .ret (fun i p=>⟨jn 1 (AV.ptr 0 none 0 0::.b (false)::jn 59 ([])),[some (Cont.cells 6 [[AV.pv .bool i.2.2.1,AV.pv (.slice (.slice Af)) i.2.2.2.1,AV.pv (.slice Ae) i.2.2.2.2.1,AV.pv (.slice A0) i.2.2.2.2.2.1,AV.pv (.slice A0) i.2.2.2.2.2.2.1,AV.pv .i i.2.2.2.2.2.2.2.1]]),some (Cont.cells 9 [[AV.pv .i p.1,AV.pv .i p.2.1,AV.pv .i p.2.2.1,AV.pv .i p.2.2.2.1,AV.pv .i p.2.2.2.2.1,AV.pv .i p.2.2.2.2.2.1,AV.pv .i p.2.2.2.2.2.2.1,AV.pv (.slice A0) p.2.2.2.2.2.2.2.1,AV.pv (.slice A0) p.2.2.2.2.2.2.2.2.1]])]⟩)<|xs .ret (fun i p=>⟨jn 1 (AV.ptr 0 none 0 0::.b (false)::jn 59 ([])),[some (Cont.cells 6 [[AV.pv .bool i.2.2.1,AV.pv (.slice (.slice Af)) i.2.2.2.1,AV.pv (.slice Ae) i.2.2.2.2.1,AV.pv (.slice A0) i.2.2.2.2.2.1,AV.pv (.slice A0) i.2.2.2.2.2.2.1,AV.pv .i i.2.2.2.2.2.2.2.1]]),some (Cont.cells 9 [[AV.pv .i p.1,AV.pv .i p.2.1,AV.pv .i p.2.2.1,AV.pv .i p.2.2.2.1,AV.pv .i p.2.2.2.2.1,AV.pv .i p.2.2.2.2.2.1,AV.pv .i p.2.2.2.2.2.2.1,AV.pv (.slice A0) p.2.2.2.2.2.2.2.1,AV.pv (.slice A0) p.2.2.2.2.2.2.2.2.1]])]⟩)<|xs .ret (fun i p=>⟨jn 1 (AV.ptr 0 none 0 0::.b (false)::jn 59 ([])),[some (Cont.cells 6 [[AV.pv .bool i.2.2.1,AV.pv (.slice (.slice Af)) i.2.2.2.1,AV.pv (.slice Ae) i.2.2.2.2.1,AV.pv (.slice A0) i.2.2.2.2.2.1,AV.pv (.slice A0) i.2.2.2.2.2.2.1,AV.pv .i i.2.2.2.2.2.2.2.1]]),some (Cont.cells 9 [[AV.pv .i p.1,AV.pv .i p.2.1,AV.pv .i p.2.2.1,AV.pv .i p.2.2.2.1,AV.pv .i p.2.2.2.2.1,AV.pv .i p.2.2.2.2.2.1,AV.pv .i p.2.2.2.2.2.2.1,AV.pv (.slice A0) p.2.2.2.2.2.2.2.1,AV.pv (.slice A0) p.2.2.2.2.2.2.2.2.1]])]⟩)<|x1 (.exit 0) fun i p=>⟨jn 1 (AV.ptr 0 none 0 0::jn 60 ([])),[some (Cont.cells 6 [[AV.pv .bool i.2.2.1,AV.pv (.slice (.slice Af)) i.2.2.2.1,AV.pv (.slice Ae) i.2.2.2.2.1,AV.pv (.slice A0) i.2.2.2.2.2.1,AV.pv (.slice A0) i.2.2.2.2.2.2.1,AV.pv (Ty.int zXq) i.2.2.2.2.2.2.2.1]])]⟩
def kZ:=((.i (.i (.v (.i (.i (.i (.i (.i (.i .n))))))))):Pk Ve.ty _ _)
def A1r:Cfg:={ti:=Az,ents:=[Zb,Ya],ann:=[(2,Ao Ve 0 (spP kZ) BK kV.E)],lent:=0}
def Cl (x:A5×Unit):Option (Bool×Unit):=(Au (fun v=>BK (x.1.2.2.1,(x.1.2.2.1.length:Int),x.1.1,x.1.2.1.1,x.1.2.2.1,x.1.2.2.2.1,x.1.2.2.2.2.1,x.1.2.2.2.2.2.1,()) v _ some) (0,())).bind fun p=>Ap p (fun p=>some (false,())) fun p=>Ap p (fun p=>some (false,())) fun p=>Ap p (fun p=>some (false,())) fun p=>Ap p (fun p=>some (false,())) fun p=>Ap p (fun p=>some (false,())) fun p=>Ap p (fun p=>some (false,())) fun p=>Ap p (fun p=>some (false,())) fun p=>Ap p (fun p=>some (false,())) fun p=>some (decide ((x.1.2.2.1.length:Int)<=6),())
def A1q:Ent:=⟨104,⟨(.slot Dh .nil),.nil⟩,⟨(.slot .bool .nil),.nil⟩,Cl⟩
theorem lc:CfgOK prog A1r:=hcB (all_cons pZ (all_cons Acf all_nil))
theorem A1p:AN prog A1r (lpc f104 0):=lkA lc Ve kZ BK kV [1,2] JQ
theorem Acd:Aj prog A1q:=okB lc func104 A1p
def I3 (x:A1×Option A5×Unit):Option (Bool×Unit):=x.2.1.bind fun v=>(Cy ((v.1,(v.2.1.1,()),v.2.2.1,v.2.2.2.1,v.2.2.2.2.1,v.2.2.2.2.2.1,()),x.1.2.1,())).bind fun v=>some (!v.1,())
def Y9:Ent:=⟨106,⟨(.slot A0 (.slot (.iref Dh) .nil)),.nil⟩,⟨(.slot .bool .nil),.nil⟩,I3⟩
theorem Acc:Aj prog Y9:=okA (hcA 0 (all_cons W3 all_nil)) func106
abbrev kT:=List A1×(Option A5×Unit)×Int×Unit
abbrev kO:=Int×Unit
abbrev kP:=Int×Unit ⊕ Unit
def AP (i:kT)(v:kO)(R:Type)(K:kO ⊕ kP->Option R):Option R:=bif decide (v.1<i.2.2.1)then(lAt i.1 v.1).bind fun a=>(I3 ((a.1,a.2.1,()),i.2.1.1,())).bind fun b=>bif b.1 then K (.inr (.inl (v.1,())))else K (.inl (zXq.wrap (v.1+1),()))else K (.inr (.inr ()))
theorem GT:AW AP:=fun i v R K=>Ad (Ac fun _=>Ac fun _=>Ad (Aa) (Aa)) (Aa)
def Vd:Tmpl:=⟨(.slot (.slice A0) (.slot (.fn 106 (.prod (.iref Dh) .unit)) (jk 5 (si 2 (jk 10 .nil))))),.nil⟩
def kN:Exs kT kP:=xs .ret (fun i p=>⟨jn 4 (.n (p.1)::jn 14 ([])),[]⟩)<|x1 (.exit 0) fun i p=>⟨jn 19 ([]),[]⟩
def kQ:=((.i (.i (.i (.v .n)))):Pk Vd.ty _ _)
def A1o:Cfg:={ti:=Az,ents:=[Y9],ann:=[(2,Ao Vd 0 (spP kQ) AP kN.E)],lent:=0}
def CL (x:List A1×(Option A5×Unit)×Unit):Option (Int×Unit):=(Au (fun v=>AP (x.1,x.2.1,(x.1.length:Int),()) v _ some) (0,())).bind fun p=>Ap p (fun p=>some (p.1,())) fun p=>some (-1,())
def A1n:Ent:=⟨172,⟨(.slot (.slice A0) (.slot (.fn 106 (.prod (.iref Dh) .unit)) .nil)),.nil⟩,⟨(.slot .i .nil),.nil⟩,CL⟩
theorem kU:CfgOK prog A1o:=hcB (all_cons Acc all_nil)
theorem A1m:AN prog A1o (lpc f172 0):=lkA kU Vd kQ AP kN [4] GT
theorem Acb:Aj prog A1n:=okB kU func172 A1m
def BE (x:List A1×(Option A5×Unit)×Unit):Option (Bool×Unit):=(CL (x.1,x.2.1,())).bind fun v=>some (decide (v.1>=0),())
def A1l:Ent:=⟨105,⟨(.slot (.slice A0) (.slot (.fn 106 (.prod (.iref Dh) .unit)) .nil)),.nil⟩,⟨(.slot .bool .nil),.nil⟩,BE⟩
theorem Aca:Aj prog A1l:=okA (hcA 0 (all_cons Acb all_nil)) func105
end
end Go.Ab
