import Derived.Test.YtchkllapojehpaaGreatSp2
set_option linter.all false
set_option maxRecDepth 100000
namespace Go.Ab
noncomputable section
abbrev AEk:=Int×Bool×Int×List A6×Unit
abbrev AEh:=Int×Bool×Int×A7
abbrev AEi:=Bool×Int×A7
def TB (i:AEk)(v:AEh)(R:Type)(K:AEh ⊕ AEi->Option R):Option R:=bif decide (v.1<i.1)then if 0<=v.1/\v.1<(i.2.2.2.1.length:Int)then i.2.2.2.1[0+v.1.toNat]?.bind fun a=>(F8 (a.1,a.2.1,a.2.2.1,a.2.2.2.1,a.2.2.2.2.1,a.2.2.2.2.2.1,v.2.1,v.2.2.1,v.2.2.2.1,v.2.2.2.2.1,v.2.2.2.2.2.1,v.2.2.2.2.2.2.1,())).bind fun b=>K (.inl (IntKind.i64.wrap (v.1+1),b.2.1,b.2.2.1,b.2.2.2.1,b.2.2.2.2.1,b.2.2.2.2.2.1,b.2.2.2.2.2.2.1,()))else none else K (.inr (v.2.1,v.2.2.1,v.2.2.2.1,v.2.2.2.2.1,v.2.2.2.2.2.1,v.2.2.2.2.2.2.1,()))
theorem A3j:Bg TB:=fun i v R K=>Ae (Aq (Ac fun _=>Ac fun _=>Aa)) (Aa)
def Azk:Tmpl:=⟨(jk 2 (.ptr 0 0 0 (.ptr 1 0 0 (jk 8 (.own 3 (si 2 (jk 7 .nil))))))),(.cells 6 (.slot .bool (.const (AV.nils) (.const (AV.nils) (.const (AV.nils) (.const (AV.nils) (.slot .i .nil)))))) (.cells 6 (.slot .bool (.own 2 (.own 4 (.own 5 (.own 6 (.slot .i .nil)))))) (.tree false 1 (.slice Af) (.lst false YOp (.tree false 1 Ad (.lst false A0 (.lst false A0 .nil)))))))⟩
def AEg:Exs AEk AEi:=x1 (.exit 0) fun i p=>⟨jn 2 (AV.ptr 0 none 0 0::AV.ptr 1 none 0 0::jn 18 ([])),[some (Cont.cells 6 [[AV.pv .bool i.2.1,AV.nils,AV.nils,AV.nils,AV.nils,AV.pv .i i.2.2.1]]),some (Cont.cells 6 [[AV.pv .bool p.1,AV.own 2 none none,AV.own 4 none none,AV.own 5 none none,AV.own 6 none none,AV.pv .i p.2.1]]),some (Cont.tree false 1 (.slice Af) p.2.2.1 none),some (Cont.lst false YOp i.2.2.2.1),some (Cont.tree false 1 Ad p.2.2.2.1 none),some (Cont.lst false A0 p.2.2.2.2.1),some (Cont.lst false A0 p.2.2.2.2.2.1)]⟩
def AEj:=((.i (.v (.i (.i (.v (.v (.v (.i (.v (.v (.v .n))))))))))):Pk Azk.ty _ _)
def AI6:Cfg:={ti:=Aw,ents:=[Uf,Y1,cd,A38],ann:=[(5,Ao Azk 0 (spP AEj) TB AEg.E)],lent:=0}
def Xp (x:List (List A6)×Unit):Option (Bool×Int×A7):=(K4 (true,())).bind fun v=>(Lu (x.1,())).bind fun a=>bif !a.1 then some (v.1,v.2.1,v.2.2.1,[],[],[],())else(Vz (x.1,())).bind fun b=>(AC (fun v=>TB ((b.1.length:Int),false,0,b.1,()) v _ some) (0,v.1,v.2.1,v.2.2.1,[],[],[],())).bind fun p=>some (p.1,p.2.1,p.2.2.1,p.2.2.2.1,p.2.2.2.2.1,p.2.2.2.2.2.1,())
def A8h:Ent:=⟨42,⟨(.slot (.slice (.slice YOp)) .nil),.nil⟩,⟨(.agg (.slot .bool (.own 0 (.own 1 (.own 2 (.own 3 (.slot .i .nil)))))) .nil),(.tree false 1 (.slice Af) (.tree false 1 Ad (.lst false A0 (.lst false A0 .nil))))⟩,Xp⟩
theorem AEl:CfgOK Go.Proofs.Tryz.prog AI6:=hcB (all_cons ml (all_cons ug (all_cons rR (all_cons Afe all_nil))))
theorem AI5:B9 Go.Proofs.Tryz.prog AI6 (lpc Go.Proofs.Tryz.f42 0):=lkA AEl Azk AEj TB AEg [2,3] A3j
theorem Af9:Ai Go.Proofs.Tryz.prog A8h:=okB AEl Go.Proofs.Tryz.func42 AI5
def XF (x:List (List A6)×Unit):Option (Bool×Unit):=(Rs (x.1,1048576,())).bind fun v=>bif decide (v.1<0)then some (true,())else(Kt (x.1,())).bind fun v=>(az (v.1,())).bind fun v=>(Kt (x.1,())).bind fun a=>(Xp (a.1,())).bind fun b=>(FM ((b.1,(b.2.2.1,()),b.2.2.2.1,b.2.2.2.2.1,b.2.2.2.2.2.1,b.2.1,()),(v.1,(v.2.2.1,()),v.2.2.2.1,v.2.2.2.2.1,v.2.2.2.2.2.1,v.2.1,()),())).bind fun c=>bif !c.1 then some (false,())else(Kt (x.1,())).bind fun d=>(Pp (a.1,d.1,())).bind fun e=>bif !e.1 then some (false,())else(M6 (1,a.1,())).bind fun f=>bif decide (f.1<0)then some (false,())else(FM ((b.1,(b.2.2.1,()),b.2.2.2.1,b.2.2.2.2.1,b.2.2.2.2.2.1,b.2.1,()),(v.1,(v.2.2.1,()),v.2.2.2.1,v.2.2.2.2.1,v.2.2.2.2.2.1,v.2.1,()),())).bind fun g=>bif !g.1 then some (false,())else(Gb (b.1,b.2.1,1,b.2.2.1,b.2.2.2.1,b.2.2.2.2.1,b.2.2.2.2.2.1,())).bind fun h=>(Gp ((b.1,(h.2.1,()),h.2.2.1,h.2.2.2.1,h.2.2.2.2.1,b.2.1,()),1,())).bind fun j=>bif decide (j.1<0)then some (false,())else bif j.1 != h.1 then some (false,())else(Kt (x.1,())).bind fun k=>(Xp (k.1,())).bind fun l=>(FM ((l.1,(l.2.2.1,()),l.2.2.2.1,l.2.2.2.2.1,l.2.2.2.2.2.1,l.2.1,()),(v.1,(v.2.2.1,()),v.2.2.2.1,v.2.2.2.2.1,v.2.2.2.2.2.1,v.2.1,()),())).bind fun v=>bif !v.1 then some (false,())else(Gp ((b.1,(h.2.1,()),h.2.2.1,h.2.2.2.1,h.2.2.2.2.1,b.2.1,()),1,())).bind fun v=>bif decide (v.1<0)then some (false,())else bif v.1 != h.1 then some (false,())else some (true,())
def Af8:Ent:=⟨7,⟨(.slot (.slice (.slice YOp)) .nil),.nil⟩,⟨(.slot .bool .nil),.nil⟩,XF⟩
theorem Azj:Ai Go.Proofs.Tryz.prog Af8:=okA (hcA 0 (all_cons rO (all_cons s8 (all_cons rV (all_cons rU (all_cons Afr (all_cons Af9 (all_cons sm (all_cons rQ (all_cons A5e all_nil)))))))))) Go.Proofs.Tryz.func7
theorem laws_FnExactRunSerially_OK:Ai Go.Proofs.Tryz.prog Af8:=Azj
end
end Go.Ab
